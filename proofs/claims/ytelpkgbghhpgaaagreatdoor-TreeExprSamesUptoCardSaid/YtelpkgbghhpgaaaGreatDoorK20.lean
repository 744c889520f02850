/- TreeExprSames returns true for all expressions whose data are not larger than a bound. The program's reader of expressions: lists, calls, macros, what has no operators outside. strconv.Atoi at digits. Days of dates: val.isLeap, monthDays, yearsDays, Days. -/
import Derived.Test.YtelpkgbghhpgaaaGreatDoorK19
set_option linter.all false
section
/- The program's reader of expressions: lists, calls, macros, what has no operators outside. -/
set_option maxRecDepth 100000
namespace Go.Proofs.YtelpkgbghhpgaaaGreatDoor.Sx
section
variable {st : St} {id a : Nat} {l : List Tok} {Q : Res → St → Prop} {o : HObj} {e : Nat → PR Xp}

theorem list_ok (hid : id < st.size) (hl : l.length < 65536) (n : Nat) (hn : n ≤ 65536) (he : ReadsAt eX st id l 56 [.ptr id 0] e) : ReadsAt eXs st id l 180 [.ptr id 0] (spList l e n) := by
  intro a Q ha hQ
  refine callA_body (by rfl) (by rfl) rfl ?_
  simp only [b180, go_sem, ↓reduceIte, reduceCtorEq, Nat.reduceLT, Nat.reduceLeDiff, Nat.reduceAdd, Nat.reduceMul, Nat.reduceSub, Nat.reduceEqDiff, Nat.reduceBEq, Int.reduceToNat, Int.reduceLE, Int.reduceLT]
  refine he a _ ha (RK_step hQ (fun s a ha hQ => ?_) (fun a hQ => (by simp only [go_sem, ↓reduceIte, reduceCtorEq, Nat.reduceLT, Nat.reduceLeDiff, Nat.reduceAdd, Nat.reduceMul, Nat.reduceSub, Nat.reduceEqDiff, Nat.reduceBEq, Int.reduceToNat, Int.reduceLE, Int.reduceLT, V_size, V_trunc]; exact hQ)))
  simp only [go_sem, ↓reduceIte, reduceCtorEq, Nat.reduceLT, Nat.reduceLeDiff, Nat.reduceAdd, Nat.reduceMul, Nat.reduceSub, Nat.reduceEqDiff, Nat.reduceBEq, Int.reduceToNat, Int.reduceLE, Int.reduceLT]
  refine wp_loop (fun m fr st' => ∃ acc a own ft ser, RK eXs st id l Q (spListL l e m acc a) ∧ a ≤ l.length ∧ acc.length + m = n + 1 ∧ acc ≠ [] ∧ st' = V st id l a ∧ ((own = .tight ∧ ft = []) ∨ (own = .ftok 0 ∧ ft = [acc.length])) ∧
    fr = ⟨[(0, .ptr id 0), (3, .slice 7 (encXs acc) own)], [], ft, ser⟩) n ⟨[s], a, _, _, _, hQ, ha, by simp; omega, by simp, rfl, .inl ⟨rfl, rfl⟩, rfl⟩ ?_
  rintro m fr st' ⟨acc, a, own, ft, ser, hQ, ha, hm, hne, rfl, hown, rfl⟩
  cases m with
  | zero => exact hQ.elim
  | succ m =>
    simp only [spListL] at hQ
    cases hs : isS (tokAt l a) [44] with
    | false =>
      simp only [hs, Bool.false_eq_true, if_false] at hQ
      simp only [b180l0, go_sem, ↓reduceIte, reduceCtorEq, Nat.reduceLT, Nat.reduceLeDiff, Nat.reduceAdd, Nat.reduceMul, Nat.reduceSub, Nat.reduceEqDiff, Nat.reduceBEq, Int.reduceToNat, Int.reduceLE, Int.reduceLT, sign_no hid hl ha hs, V_size, V_trunc]
      have := RK_ok hQ ha
      rwa [show eXs acc = .slice 7 (encXs acc) .no by cases acc with | nil => exact absurd rfl hne | cons => rfl] at this
    | true =>
      simp only [hs, if_true] at hQ
      have hlt := isS_lt hs
      simp only [b180l0, go_sem, ↓reduceIte, reduceCtorEq, Nat.reduceLT, Nat.reduceLeDiff, Nat.reduceAdd, Nat.reduceMul, Nat.reduceSub, Nat.reduceEqDiff, Nat.reduceBEq, Int.reduceToNat, Int.reduceLE, Int.reduceLT, sign_yes hid hl ha hs]
      refine he (a + 1) _ (by omega) (RK_step hQ (fun s a' ha' hQ => ?_) (fun a hQ => (by simp only [go_sem, ↓reduceIte, reduceCtorEq, Nat.reduceLT, Nat.reduceLeDiff, Nat.reduceAdd, Nat.reduceMul, Nat.reduceSub, Nat.reduceEqDiff, Nat.reduceBEq, Int.reduceToNat, Int.reduceLE, Int.reduceLT, V_size, V_trunc]; exact hQ)))
      have hne2 : ¬ encXs acc = [] := by cases acc with | nil => exact absurd rfl hne | cons => simp [encXs]
      have hb : (acc.length + 1) * 168 ≤ 1099511627776 := by omega
      rcases hown with ⟨rfl, rfl⟩ | ⟨rfl, rfl⟩
      · simp only [go_sem, ↓reduceIte, reduceCtorEq, Nat.reduceLT, Nat.reduceLeDiff, Nat.reduceAdd, Nat.reduceMul, Nat.reduceSub, Nat.reduceEqDiff, Nat.reduceBEq, Int.reduceToNat, Int.reduceLE, Int.reduceLT, aappend, grow, elsOf, encXs_length, hb, List.isEmpty_cons]
        exact ⟨m, Nat.lt_succ_self m, acc ++ [s], a', .ftok 0, [acc.length + 1], _, hQ, ha', by simp; omega, by simp, rfl, .inr ⟨rfl, by simp⟩, by rw [encXs_snoc]⟩
      · simp only [go_sem, ↓reduceIte, reduceCtorEq, Nat.reduceLT, Nat.reduceLeDiff, Nat.reduceAdd, Nat.reduceMul, Nat.reduceSub, Nat.reduceEqDiff, Nat.reduceBEq, Int.reduceToNat, Int.reduceLE, Int.reduceLT, aappend, grow, elsOf, encXs_length, hb, hne2, List.isEmpty_cons, ne_eq, not_false_eq_true, and_self]
        exact ⟨m, Nat.lt_succ_self m, acc ++ [s], a', .ftok 0, [acc.length + 1], _, hQ, ha', by simp; omega, by simp, rfl, .inr ⟨rfl, by simp⟩, by rw [encXs_snoc]⟩

theorem macro_ok (hid : id < st.size) (hl : l.length < 65536) (hT : ∀ t ∈ l, TokOk t) (he : ReadsAt eX st id l 56 [.ptr id 0] e) : ReadsAt eX st id l 223 [.ptr id 0] (spMacro l e) := by
  intro a Q ha hQ
  refine callA_body (by rfl) (by rfl) rfl ?_
  unfold spMacro at hQ
  simp only [b223, go_sem, ↓reduceIte, reduceCtorEq, Nat.reduceLT, Nat.reduceLeDiff, Nat.reduceAdd, Nat.reduceMul, Nat.reduceSub, Nat.reduceEqDiff, Nat.reduceBEq, Int.reduceToNat, Int.reduceLE, Int.reduceLT]
  refine want_ok hid hl _ a _ ha (RK_step hQ (fun x a ha hQ => ?_) (fun a hQ => (by simp only [go_sem, ↓reduceIte, reduceCtorEq, Nat.reduceLT, Nat.reduceLeDiff, Nat.reduceAdd, Nat.reduceMul, Nat.reduceSub, Nat.reduceEqDiff, Nat.reduceBEq, Int.reduceToNat, Int.reduceLE, Int.reduceLT, V_size, V_trunc]; exact hQ)))
  cases h : isS (tokAt l a) [40] with
  | true =>
    simp only [h, if_true] at hQ
    have hlt := isS_lt h
    simp only [go_sem, ↓reduceIte, reduceCtorEq, Nat.reduceLT, Nat.reduceLeDiff, Nat.reduceAdd, Nat.reduceMul, Nat.reduceSub, Nat.reduceEqDiff, Nat.reduceBEq, Int.reduceToNat, Int.reduceLE, Int.reduceLT, sign_yes hid hl ha h]
    refine he (a + 1) _ (by omega) (RK_step hQ (fun x a ha hQ => ?_) (fun a hQ => (by simp only [go_sem, ↓reduceIte, reduceCtorEq, Nat.reduceLT, Nat.reduceLeDiff, Nat.reduceAdd, Nat.reduceMul, Nat.reduceSub, Nat.reduceEqDiff, Nat.reduceBEq, Int.reduceToNat, Int.reduceLE, Int.reduceLT, V_size, V_trunc]; exact hQ)))
    simp only [go_sem, ↓reduceIte, reduceCtorEq, Nat.reduceLT, Nat.reduceLeDiff, Nat.reduceAdd, Nat.reduceMul, Nat.reduceSub, Nat.reduceEqDiff, Nat.reduceBEq, Int.reduceToNat, Int.reduceLE, Int.reduceLT]
    refine want_ok hid hl _ a _ ha (RK_step hQ (fun u a ha hQ => ?_) (fun a hQ => (by simp only [go_sem, ↓reduceIte, reduceCtorEq, Nat.reduceLT, Nat.reduceLeDiff, Nat.reduceAdd, Nat.reduceMul, Nat.reduceSub, Nat.reduceEqDiff, Nat.reduceBEq, Int.reduceToNat, Int.reduceLE, Int.reduceLT, V_size, V_trunc]; exact hQ)))
    simp only [go_sem, ↓reduceIte, reduceCtorEq, Nat.reduceLT, Nat.reduceLeDiff, Nat.reduceAdd, Nat.reduceMul, Nat.reduceSub, Nat.reduceEqDiff, Nat.reduceBEq, Int.reduceToNat, Int.reduceLE, Int.reduceLT, V_size, V_trunc]
    exact RK_ok hQ ha
  | false =>
    simp only [h, Bool.false_eq_true, if_false] at hQ
    simp only [go_sem, ↓reduceIte, reduceCtorEq, Nat.reduceLT, Nat.reduceLeDiff, Nat.reduceAdd, Nat.reduceMul, Nat.reduceSub, Nat.reduceEqDiff, Nat.reduceBEq, Int.reduceToNat, Int.reduceLE, Int.reduceLT, sign_no hid hl ha h]
    refine name_ok hid hl hT a _ ha (RK_step hQ (fun s a ha hQ => ?_) (fun a hQ => (by simp only [go_sem, ↓reduceIte, reduceCtorEq, Nat.reduceLT, Nat.reduceLeDiff, Nat.reduceAdd, Nat.reduceMul, Nat.reduceSub, Nat.reduceEqDiff, Nat.reduceBEq, Int.reduceToNat, Int.reduceLE, Int.reduceLT, V_size, V_trunc]; exact hQ)))
    cases h2 : isS (tokAt l a) [46] with
    | true =>
      have hlt := isS_lt h2
      simp only [h2, if_true] at hQ
      simp only [go_sem, ↓reduceIte, reduceCtorEq, Nat.reduceLT, Nat.reduceLeDiff, Nat.reduceAdd, Nat.reduceMul, Nat.reduceSub, Nat.reduceEqDiff, Nat.reduceBEq, Int.reduceToNat, Int.reduceLE, Int.reduceLT, sign_yes hid hl ha h2, V_size, V_trunc]
      exact RK_ok hQ (by omega)
    | false =>
      simp only [h2, Bool.false_eq_true, if_false] at hQ
      simp only [go_sem, ↓reduceIte, reduceCtorEq, Nat.reduceLT, Nat.reduceLeDiff, Nat.reduceAdd, Nat.reduceMul, Nat.reduceSub, Nat.reduceEqDiff, Nat.reduceBEq, Int.reduceToNat, Int.reduceLE, Int.reduceLT, sign_no hid hl ha h2, V_size, V_trunc]
      exact RK_ok hQ ha

theorem call_ok' (hid : id < st.size) (hl : l.length < 65536) (hT : ∀ t ∈ l, TokOk t) (n : Nat) (hn : n ≤ 65536) (he : ReadsAt eX st id l 56 [.ptr id 0] e) : ReadsAt eX st id l 181 [.ptr id 0] (spCall l e n) := by
  intro a Q ha hQ
  refine callA_body (by rfl) (by rfl) rfl ?_
  unfold spCall at hQ
  simp only [b181, go_sem, ↓reduceIte, reduceCtorEq, Nat.reduceLT, Nat.reduceLeDiff, Nat.reduceAdd, Nat.reduceMul, Nat.reduceSub, Nat.reduceEqDiff, Nat.reduceBEq, Int.reduceToNat, Int.reduceLE, Int.reduceLT]
  refine name_ok hid hl hT a _ ha (RK_step hQ (fun s a ha hQ => ?_) (fun a hQ => (by simp only [go_sem, ↓reduceIte, reduceCtorEq, Nat.reduceLT, Nat.reduceLeDiff, Nat.reduceAdd, Nat.reduceMul, Nat.reduceSub, Nat.reduceEqDiff, Nat.reduceBEq, Int.reduceToNat, Int.reduceLE, Int.reduceLT, V_size, V_trunc]; exact hQ)))
  simp only [go_sem, ↓reduceIte, reduceCtorEq, Nat.reduceLT, Nat.reduceLeDiff, Nat.reduceAdd, Nat.reduceMul, Nat.reduceSub, Nat.reduceEqDiff, Nat.reduceBEq, Int.reduceToNat, Int.reduceLE, Int.reduceLT]
  refine want_ok hid hl _ a _ ha (RK_step hQ (fun u a ha hQ => ?_) (fun a hQ => (by simp only [go_sem, ↓reduceIte, reduceCtorEq, Nat.reduceLT, Nat.reduceLeDiff, Nat.reduceAdd, Nat.reduceMul, Nat.reduceSub, Nat.reduceEqDiff, Nat.reduceBEq, Int.reduceToNat, Int.reduceLE, Int.reduceLT, V_size, V_trunc]; exact hQ)))
  cases h : isS (tokAt l a) [41] with
  | true =>
    simp only [h, if_true] at hQ
    have hlt := isS_lt h
    simp only [go_sem, ↓reduceIte, reduceCtorEq, Nat.reduceLT, Nat.reduceLeDiff, Nat.reduceAdd, Nat.reduceMul, Nat.reduceSub, Nat.reduceEqDiff, Nat.reduceBEq, Int.reduceToNat, Int.reduceLE, Int.reduceLT, sign_yes hid hl ha h, V_size, V_trunc]
    exact RK_ok hQ (by omega)
  | false =>
    simp only [h, Bool.false_eq_true, if_false] at hQ
    simp only [go_sem, ↓reduceIte, reduceCtorEq, Nat.reduceLT, Nat.reduceLeDiff, Nat.reduceAdd, Nat.reduceMul, Nat.reduceSub, Nat.reduceEqDiff, Nat.reduceBEq, Int.reduceToNat, Int.reduceLE, Int.reduceLT, sign_no hid hl ha h]
    refine list_ok hid hl n hn he a _ ha (RK_step hQ (fun x a ha hQ => ?_) (fun a hQ => (by simp only [go_sem, ↓reduceIte, reduceCtorEq, Nat.reduceLT, Nat.reduceLeDiff, Nat.reduceAdd, Nat.reduceMul, Nat.reduceSub, Nat.reduceEqDiff, Nat.reduceBEq, Int.reduceToNat, Int.reduceLE, Int.reduceLT, V_size, V_trunc]; exact hQ)))
    simp only [go_sem, ↓reduceIte, reduceCtorEq, Nat.reduceLT, Nat.reduceLeDiff, Nat.reduceAdd, Nat.reduceMul, Nat.reduceSub, Nat.reduceEqDiff, Nat.reduceBEq, Int.reduceToNat, Int.reduceLE, Int.reduceLT]
    refine want_ok hid hl _ a _ ha (RK_step hQ (fun u a ha hQ => ?_) (fun a hQ => (by simp only [go_sem, ↓reduceIte, reduceCtorEq, Nat.reduceLT, Nat.reduceLeDiff, Nat.reduceAdd, Nat.reduceMul, Nat.reduceSub, Nat.reduceEqDiff, Nat.reduceBEq, Int.reduceToNat, Int.reduceLE, Int.reduceLT, V_size, V_trunc]; exact hQ)))
    simp only [go_sem, ↓reduceIte, reduceCtorEq, Nat.reduceLT, Nat.reduceLeDiff, Nat.reduceAdd, Nat.reduceMul, Nat.reduceSub, Nat.reduceEqDiff, Nat.reduceBEq, Int.reduceToNat, Int.reduceLE, Int.reduceLT, V_size, V_trunc]
    exact RK_ok hQ ha

theorem named_ok (hid : id < st.size) (hl : l.length < 65536) (hT : ∀ t ∈ l, TokOk t) (n : Nat) (hn : n ≤ 65536) (he : ReadsAt eX st id l 56 [.ptr id 0] e) : ReadsAt eX st id l 274 [.ptr id 0] (spNamed l e n) := by
  intro a Q ha hQ
  refine callA_body (by rfl) (by rfl) rfl ?_
  unfold spNamed at hQ
  cases h : isS (tokAt l (a + 1)) [40] with
  | true =>
    simp only [h, if_true] at hQ
    simp only [b274, go_sem, ↓reduceIte, reduceCtorEq, Nat.reduceLT, Nat.reduceLeDiff, Nat.reduceAdd, Nat.reduceMul, Nat.reduceSub, Nat.reduceEqDiff, Nat.reduceBEq, Int.reduceToNat, Int.reduceLE, Int.reduceLT, ahead1 hid hl ha, isSign_eq, h]
    refine call_ok' hid hl hT n hn he a _ ha (PR.on_mono hQ (fun x a _ hQ ha => ?_) (fun a _ hQ => (by simp only [go_sem, ↓reduceIte, reduceCtorEq, Nat.reduceLT, Nat.reduceLeDiff, Nat.reduceAdd, Nat.reduceMul, Nat.reduceSub, Nat.reduceEqDiff, Nat.reduceBEq, Int.reduceToNat, Int.reduceLE, Int.reduceLT, V_size, V_trunc]; exact hQ)))
    simp only [go_sem, ↓reduceIte, reduceCtorEq, Nat.reduceLT, Nat.reduceLeDiff, Nat.reduceAdd, Nat.reduceMul, Nat.reduceSub, Nat.reduceEqDiff, Nat.reduceBEq, Int.reduceToNat, Int.reduceLE, Int.reduceLT, V_size, V_trunc]
    exact hQ ha
  | false =>
    simp only [h, Bool.false_eq_true, if_false] at hQ
    simp only [b274, go_sem, ↓reduceIte, reduceCtorEq, Nat.reduceLT, Nat.reduceLeDiff, Nat.reduceAdd, Nat.reduceMul, Nat.reduceSub, Nat.reduceEqDiff, Nat.reduceBEq, Int.reduceToNat, Int.reduceLE, Int.reduceLT, ahead1 hid hl ha, isSign_eq, h]
    refine variable_ok hid hl hT a _ ha (RK_step hQ (fun s a ha hQ => ?_) (fun a hQ => (by simp only [go_sem, ↓reduceIte, reduceCtorEq, Nat.reduceLT, Nat.reduceLeDiff, Nat.reduceAdd, Nat.reduceMul, Nat.reduceSub, Nat.reduceEqDiff, Nat.reduceBEq, Int.reduceToNat, Int.reduceLE, Int.reduceLT, V_size, V_trunc]; exact hQ)))
    cases h2 : isS (tokAt l a) [45, 62] with
    | true =>
      have hlt := isS_lt h2
      simp only [h2, if_true] at hQ
      cases h3 : isS (tokAt l (a + 1)) [40] with
      | true =>
        have hlt := isS_lt h3
        simp only [h3, if_true] at hQ
        simp only [go_sem, ↓reduceIte, reduceCtorEq, Nat.reduceLT, Nat.reduceLeDiff, Nat.reduceAdd, Nat.reduceMul, Nat.reduceSub, Nat.reduceEqDiff, Nat.reduceBEq, Int.reduceToNat, Int.reduceLE, Int.reduceLT, sign_yes hid hl ha h2, sign_yes hid hl (show a + 1 ≤ l.length by omega) h3]
        refine he (a + 2) _ (by omega) (RK_step hQ (fun x a ha hQ => ?_) (fun a hQ => (by simp only [go_sem, ↓reduceIte, reduceCtorEq, Nat.reduceLT, Nat.reduceLeDiff, Nat.reduceAdd, Nat.reduceMul, Nat.reduceSub, Nat.reduceEqDiff, Nat.reduceBEq, Int.reduceToNat, Int.reduceLE, Int.reduceLT, V_size, V_trunc]; exact hQ)))
        simp only [go_sem, ↓reduceIte, reduceCtorEq, Nat.reduceLT, Nat.reduceLeDiff, Nat.reduceAdd, Nat.reduceMul, Nat.reduceSub, Nat.reduceEqDiff, Nat.reduceBEq, Int.reduceToNat, Int.reduceLE, Int.reduceLT]
        refine want_ok hid hl _ a _ ha (RK_step hQ (fun u a ha hQ => ?_) (fun a hQ => (by simp only [go_sem, ↓reduceIte, reduceCtorEq, Nat.reduceLT, Nat.reduceLeDiff, Nat.reduceAdd, Nat.reduceMul, Nat.reduceSub, Nat.reduceEqDiff, Nat.reduceBEq, Int.reduceToNat, Int.reduceLE, Int.reduceLT, V_size, V_trunc]; exact hQ)))
        simp only [go_sem, ↓reduceIte, reduceCtorEq, Nat.reduceLT, Nat.reduceLeDiff, Nat.reduceAdd, Nat.reduceMul, Nat.reduceSub, Nat.reduceEqDiff, Nat.reduceBEq, Int.reduceToNat, Int.reduceLE, Int.reduceLT, V_size, V_trunc]
        exact RK_ok hQ ha
      | false =>
        simp only [h3, Bool.false_eq_true, if_false] at hQ
        simp only [go_sem, ↓reduceIte, reduceCtorEq, Nat.reduceLT, Nat.reduceLeDiff, Nat.reduceAdd, Nat.reduceMul, Nat.reduceSub, Nat.reduceEqDiff, Nat.reduceBEq, Int.reduceToNat, Int.reduceLE, Int.reduceLT, sign_yes hid hl ha h2, sign_no hid hl (show a + 1 ≤ l.length by omega) h3]
        refine variable_ok hid hl hT (a + 1) _ (by omega) (RK_step hQ (fun f a ha hQ => ?_) (fun a hQ => (by simp only [go_sem, ↓reduceIte, reduceCtorEq, Nat.reduceLT, Nat.reduceLeDiff, Nat.reduceAdd, Nat.reduceMul, Nat.reduceSub, Nat.reduceEqDiff, Nat.reduceBEq, Int.reduceToNat, Int.reduceLE, Int.reduceLT, V_size, V_trunc]; exact hQ)))
        simp only [go_sem, ↓reduceIte, reduceCtorEq, Nat.reduceLT, Nat.reduceLeDiff, Nat.reduceAdd, Nat.reduceMul, Nat.reduceSub, Nat.reduceEqDiff, Nat.reduceBEq, Int.reduceToNat, Int.reduceLE, Int.reduceLT, V_size, V_trunc]
        exact RK_ok hQ ha
    | false =>
      simp only [h2, Bool.false_eq_true, if_false] at hQ
      simp only [go_sem, ↓reduceIte, reduceCtorEq, Nat.reduceLT, Nat.reduceLeDiff, Nat.reduceAdd, Nat.reduceMul, Nat.reduceSub, Nat.reduceEqDiff, Nat.reduceBEq, Int.reduceToNat, Int.reduceLE, Int.reduceLT, sign_no hid hl ha h2, V_size, V_trunc]
      exact RK_ok hQ ha

theorem braced_ok (hid : id < st.size) (hl : l.length < 65536) (hT : ∀ t ∈ l, TokOk t) (n : Nat) (hn : n ≤ 65536) (he : ReadsAt eX st id l 56 [.ptr id 0] e) : ReadsAt eX st id l 289 [.ptr id 0] (spBraced l e n) := by
  intro a Q ha hQ
  refine callA_body (by rfl) (by rfl) rfl ?_
  unfold spBraced at hQ
  cases h : isS (tokAt l a) [124] with
  | true =>
    have hlt := isS_lt h
    simp only [h, if_true] at hQ
    cases h2 : isS (tokAt l (a + 1)) [124] with
    | true =>
      have hlt := isS_lt h2
      simp only [h2, if_true] at hQ
      simp only [b289, go_sem, ↓reduceIte, reduceCtorEq, Nat.reduceLT, Nat.reduceLeDiff, Nat.reduceAdd, Nat.reduceMul, Nat.reduceSub, Nat.reduceEqDiff, Nat.reduceBEq, Int.reduceToNat, Int.reduceLE, Int.reduceLT, sign_yes hid hl ha h, sign_yes hid hl (show a + 1 ≤ l.length by omega) h2]
      refine he (a + 2) _ (by omega) (RK_step hQ (fun x a ha hQ => ?_) (fun a hQ => (by simp only [go_sem, ↓reduceIte, reduceCtorEq, Nat.reduceLT, Nat.reduceLeDiff, Nat.reduceAdd, Nat.reduceMul, Nat.reduceSub, Nat.reduceEqDiff, Nat.reduceBEq, Int.reduceToNat, Int.reduceLE, Int.reduceLT, V_size, V_trunc]; exact hQ)))
      simp only [go_sem, ↓reduceIte, reduceCtorEq, Nat.reduceLT, Nat.reduceLeDiff, Nat.reduceAdd, Nat.reduceMul, Nat.reduceSub, Nat.reduceEqDiff, Nat.reduceBEq, Int.reduceToNat, Int.reduceLE, Int.reduceLT]
      refine want_ok hid hl _ a _ ha (RK_step hQ (fun u a ha hQ => ?_) (fun a hQ => (by simp only [go_sem, ↓reduceIte, reduceCtorEq, Nat.reduceLT, Nat.reduceLeDiff, Nat.reduceAdd, Nat.reduceMul, Nat.reduceSub, Nat.reduceEqDiff, Nat.reduceBEq, Int.reduceToNat, Int.reduceLE, Int.reduceLT, V_size, V_trunc]; exact hQ)))
      simp only [go_sem, ↓reduceIte, reduceCtorEq, Nat.reduceLT, Nat.reduceLeDiff, Nat.reduceAdd, Nat.reduceMul, Nat.reduceSub, Nat.reduceEqDiff, Nat.reduceBEq, Int.reduceToNat, Int.reduceLE, Int.reduceLT, V_size, V_trunc]
      exact RK_ok hQ ha
    | false =>
      simp only [h2, Bool.false_eq_true, if_false] at hQ
      simp only [b289, go_sem, ↓reduceIte, reduceCtorEq, Nat.reduceLT, Nat.reduceLeDiff, Nat.reduceAdd, Nat.reduceMul, Nat.reduceSub, Nat.reduceEqDiff, Nat.reduceBEq, Int.reduceToNat, Int.reduceLE, Int.reduceLT, sign_yes hid hl ha h, sign_no hid hl (show a + 1 ≤ l.length by omega) h2]
      refine names_ok hid hl hT n hn (a + 1) _ (by omega) (RK_step hQ (fun p a ha hQ => ?_) (fun a hQ => (by simp only [go_sem, ↓reduceIte, reduceCtorEq, Nat.reduceLT, Nat.reduceLeDiff, Nat.reduceAdd, Nat.reduceMul, Nat.reduceSub, Nat.reduceEqDiff, Nat.reduceBEq, Int.reduceToNat, Int.reduceLE, Int.reduceLT, V_size, V_trunc]; exact hQ)))
      simp only [go_sem, ↓reduceIte, reduceCtorEq, Nat.reduceLT, Nat.reduceLeDiff, Nat.reduceAdd, Nat.reduceMul, Nat.reduceSub, Nat.reduceEqDiff, Nat.reduceBEq, Int.reduceToNat, Int.reduceLE, Int.reduceLT]
      refine want_ok hid hl _ a _ ha (RK_step hQ (fun u a ha hQ => ?_) (fun a hQ => (by simp only [go_sem, ↓reduceIte, reduceCtorEq, Nat.reduceLT, Nat.reduceLeDiff, Nat.reduceAdd, Nat.reduceMul, Nat.reduceSub, Nat.reduceEqDiff, Nat.reduceBEq, Int.reduceToNat, Int.reduceLE, Int.reduceLT, V_size, V_trunc]; exact hQ)))
      simp only [go_sem, ↓reduceIte, reduceCtorEq, Nat.reduceLT, Nat.reduceLeDiff, Nat.reduceAdd, Nat.reduceMul, Nat.reduceSub, Nat.reduceEqDiff, Nat.reduceBEq, Int.reduceToNat, Int.reduceLE, Int.reduceLT]
      refine he a _ ha (RK_step hQ (fun x a ha hQ => ?_) (fun a hQ => (by simp only [go_sem, ↓reduceIte, reduceCtorEq, Nat.reduceLT, Nat.reduceLeDiff, Nat.reduceAdd, Nat.reduceMul, Nat.reduceSub, Nat.reduceEqDiff, Nat.reduceBEq, Int.reduceToNat, Int.reduceLE, Int.reduceLT, V_size, V_trunc]; exact hQ)))
      simp only [go_sem, ↓reduceIte, reduceCtorEq, Nat.reduceLT, Nat.reduceLeDiff, Nat.reduceAdd, Nat.reduceMul, Nat.reduceSub, Nat.reduceEqDiff, Nat.reduceBEq, Int.reduceToNat, Int.reduceLE, Int.reduceLT]
      refine want_ok hid hl _ a _ ha (RK_step hQ (fun u a ha hQ => ?_) (fun a hQ => (by simp only [go_sem, ↓reduceIte, reduceCtorEq, Nat.reduceLT, Nat.reduceLeDiff, Nat.reduceAdd, Nat.reduceMul, Nat.reduceSub, Nat.reduceEqDiff, Nat.reduceBEq, Int.reduceToNat, Int.reduceLE, Int.reduceLT, V_size, V_trunc]; exact hQ)))
      simp only [go_sem, ↓reduceIte, reduceCtorEq, Nat.reduceLT, Nat.reduceLeDiff, Nat.reduceAdd, Nat.reduceMul, Nat.reduceSub, Nat.reduceEqDiff, Nat.reduceBEq, Int.reduceToNat, Int.reduceLE, Int.reduceLT, V_size, V_trunc]
      exact RK_ok hQ ha
  | false =>
    simp only [h, Bool.false_eq_true, if_false] at hQ
    simp only [b289, go_sem, ↓reduceIte, reduceCtorEq, Nat.reduceLT, Nat.reduceLeDiff, Nat.reduceAdd, Nat.reduceMul, Nat.reduceSub, Nat.reduceEqDiff, Nat.reduceBEq, Int.reduceToNat, Int.reduceLE, Int.reduceLT, sign_no hid hl ha h]
    refine list_ok hid hl n hn he a _ ha (RK_step hQ (fun x a ha hQ => ?_) (fun a hQ => (by simp only [go_sem, ↓reduceIte, reduceCtorEq, Nat.reduceLT, Nat.reduceLeDiff, Nat.reduceAdd, Nat.reduceMul, Nat.reduceSub, Nat.reduceEqDiff, Nat.reduceBEq, Int.reduceToNat, Int.reduceLE, Int.reduceLT, V_size, V_trunc]; exact hQ)))
    simp only [go_sem, ↓reduceIte, reduceCtorEq, Nat.reduceLT, Nat.reduceLeDiff, Nat.reduceAdd, Nat.reduceMul, Nat.reduceSub, Nat.reduceEqDiff, Nat.reduceBEq, Int.reduceToNat, Int.reduceLE, Int.reduceLT]
    refine want_ok hid hl _ a _ ha (RK_step hQ (fun u a ha hQ => ?_) (fun a hQ => (by simp only [go_sem, ↓reduceIte, reduceCtorEq, Nat.reduceLT, Nat.reduceLeDiff, Nat.reduceAdd, Nat.reduceMul, Nat.reduceSub, Nat.reduceEqDiff, Nat.reduceBEq, Int.reduceToNat, Int.reduceLE, Int.reduceLT, V_size, V_trunc]; exact hQ)))
    simp only [go_sem, ↓reduceIte, reduceCtorEq, Nat.reduceLT, Nat.reduceLeDiff, Nat.reduceAdd, Nat.reduceMul, Nat.reduceSub, Nat.reduceEqDiff, Nat.reduceBEq, Int.reduceToNat, Int.reduceLE, Int.reduceLT, V_size, V_trunc]
    exact RK_ok hQ ha
end
end Go.Proofs.YtelpkgbghhpgaaaGreatDoor.Sx
end
section
/- strconv.Atoi at digits. -/
set_option maxRecDepth 100000
namespace Go.Proofs.YtelpkgbghhpgaaaGreatDoor.Sx

theorem wrap_u8 (n : Int) (h : 0 ≤ n) (h2 : n < 256) : IntKind.u8.wrap n = n := by
  simp only [IntKind.wrap, IntKind.signed, IntKind.bits, Bool.false_and, Bool.false_eq_true, if_false]
  have e1 : (2 : Int) ^ 8 = 256 := by decide
  rw [e1]
  exact Int.emod_eq_of_lt h h2

theorem isDig_iff {b : UInt8} : isDig b = true ↔ 48 ≤ b.toNat ∧ b.toNat ≤ 57 := by
  unfold isDig
  simp only [Bool.and_eq_true, decide_eq_true_eq, UInt8.le_iff_toNat_le]
  exact Iff.rfl

theorem numOf_snoc (l : List UInt8) (b : UInt8) : numOf (l ++ [b]) = numOf l * 10 + ((b.toNat : Int) - 48) := by
  simp only [numOf, List.foldl_append, List.foldl_cons, List.foldl_nil]
theorem numOf_take {s : List UInt8} {i : Nat} (h : i < s.length) : numOf (s.take (i + 1)) = numOf (s.take i) * 10 + ((s[i].toNat : Int) - 48) := by
  rw [List.take_add_one, List.getElem?_eq_getElem h]
  exact numOf_snoc _ _
theorem numOf_bound {s : List UInt8} (hd : ∀ c ∈ s, isDig c = true) : ∀ i, i ≤ s.length → 0 ≤ numOf (s.take i) ∧ numOf (s.take i) < 10 ^ i
  | 0, _ => by rw [List.take_zero]; exact ⟨by decide, by decide⟩
  | i + 1, hi => by
    obtain ⟨h1, h2⟩ := numOf_bound hd i (by omega)
    have hb := isDig_iff.1 (hd _ (List.getElem_mem (show i < s.length by omega)))
    rw [numOf_take (by omega)]
    have e : (10 : Int) ^ (i + 1) = 10 ^ i * 10 := Int.pow_succ 10 i
    rw [e]
    omega
theorem pow_le15 {i : Nat} (h : i ≤ 15) : (10 : Int) ^ i ≤ 1000000000000000 := by
  have : (10 : Int) ^ i ≤ 10 ^ 15 := by exact_mod_cast Nat.pow_le_pow_right (by omega) h
  exact this

section
variable {st : St} {Q : Res → St → Prop}
theorem atoiI_eq (s : List UInt8) (h1 : s ≠ []) (h2 : s.length ≤ 15) (h3 : ∀ c ∈ s, isDig c = true) : CallA S 285 [.str s] st Q = Q (.ret (.tuple [.int .i64 (numOf s), .nilIface])) st := by
  refine callA_eq (fun Q hQ => ?_) Q
  refine callA_body (by rfl) (by rfl) rfl ?_
  obtain ⟨b, h0⟩ : ∃ b, s[0]? = some b := by cases s with | nil => exact absurd rfl h1 | cons b t => exact ⟨b, rfl⟩
  have hb := isDig_iff.1 (h3 b (List.mem_of_getElem? h0))
  have hpos : 0 < s.length := (List.getElem?_eq_some_iff.1 h0).1
  have g1 : (0 : Int) < (s.length : Int) := by omega
  have g2 : (s.length : Int) < 19 := by omega
  have g3 : ¬ (s.length : Int) < 1 := by omega
  have g4 : ((b.toNat : Int) == 45) = false := by simp; omega
  have g5 : ((b.toNat : Int) == 43) = false := by simp; omega
  have g6 : s.length ≤ 1099511627776 := by omega
  simp only [b285, go_sem, ↓reduceIte, reduceCtorEq, Nat.reduceLT, Nat.reduceLeDiff, Nat.reduceAdd, Nat.reduceMul, Nat.reduceSub, Nat.reduceEqDiff, Nat.reduceBEq, Int.reduceToNat, Int.reduceLE, Int.reduceLT, h0, g1, g2, g3, g4, g5, g6]
  refine wp_loop (fun n fr st' => st' = st ∧ ∃ (i ser : Nat), n + i = s.length ∧
    fr = ⟨[(5, .str s), (6, .int .i64 (numOf (s.take i))), (47, .slice 1 (s.map fun b => [.int .u8 (b.toNat : Int)]) .no), (48, .int .i64 (s.length : Int)), (49, .int .i64 (i : Int))], [], [], ser⟩) s.length ⟨rfl, 0, _, rfl, by rw [List.take_zero, List.length_map]; rfl⟩ ?_
  rintro n fr st' ⟨rfl, i, ser, hn, rfl⟩
  by_cases h : (i : Int) < (s.length : Int)
  · have hi : i < s.length := by omega
    have hd := isDig_iff.1 (h3 _ (List.getElem_mem hi))
    have hel : elA 1 (i : Int) (.slice 1 (s.map fun b => [.int .u8 (b.toNat : Int)]) .no) = some [.int .u8 (s[i].toNat : Int)] := by
      have := elA_sl (nil := false) (sz := 1) (els := s.map fun b => [AV.int .u8 (b.toNat : Int)]) (i := i) (by simpa using hi)
      simpa [encSl] using this
    obtain ⟨n1, n2⟩ := numOf_bound h3 i (by omega)
    have hp := pow_le15 (show i ≤ 15 by omega)
    have e1 : IntKind.u8.wrap ((s[i].toNat : Int) - 48) = (s[i].toNat : Int) - 48 := wrap_u8 _ (by omega) (by omega)
    have e2 : ¬ ((s[i].toNat : Int) - 48 > 9) := by omega
    have e3 : IntKind.i64.wrap (numOf (s.take i) * 10) = numOf (s.take i) * 10 := wrap_int _ (by omega) (by omega)
    have e4 : IntKind.i64.wrap ((s[i].toNat : Int) - 48) = (s[i].toNat : Int) - 48 := wrap_int _ (by omega) (by omega)
    have e5 : IntKind.i64.wrap (numOf (s.take i) * 10 + ((s[i].toNat : Int) - 48)) = numOf (s.take (i + 1)) := by
      rw [numOf_take hi]; exact wrap_int _ (by omega) (by omega)
    simp only [b285l0, go_sem, ↓reduceIte, reduceCtorEq, Nat.reduceLT, Nat.reduceLeDiff, Nat.reduceAdd, Nat.reduceMul, Nat.reduceSub, Nat.reduceEqDiff, Nat.reduceBEq, Int.reduceToNat, Int.reduceLE, Int.reduceLT, h, hel, e1, e2, e3, e4, e5, wrap_one i (by omega)]
    exact ⟨n - 1, by omega, i + 1, _, by omega, rfl⟩
  · have e : s.take i = s := List.take_of_length_le (by omega)
    rw [← e] at hQ
    simp only [b285l0, go_sem, ↓reduceIte, reduceCtorEq, Nat.reduceLT, Nat.reduceLeDiff, Nat.reduceAdd, Nat.reduceMul, Nat.reduceSub, Nat.reduceEqDiff, Nat.reduceBEq, Int.reduceToNat, Int.reduceLE, Int.reduceLT, h, h0, g4, trunc_self]
    exact hQ

theorem atoi_eq (s : List UInt8) (h1 : s ≠ []) (h2 : s.length ≤ 15) (h3 : ∀ c ∈ s, isDig c = true) : CallA S 272 [.str s] st Q = Q (.ret (.tuple [.int .i64 (numOf s), .nilIface])) st := by
  refine callA_eq (fun Q hQ => ?_) Q
  refine callA_body (by rfl) (by rfl) rfl ?_
  simp only [b272, go_sem, ↓reduceIte, reduceCtorEq, Nat.reduceLT, Nat.reduceLeDiff, Nat.reduceAdd, Nat.reduceMul, Nat.reduceSub, Nat.reduceEqDiff, Nat.reduceBEq, Int.reduceToNat, Int.reduceLE, Int.reduceLT, atoiI_eq s h1 h2 h3, trunc_self]
  exact hQ
end
end Go.Proofs.YtelpkgbghhpgaaaGreatDoor.Sx
end
section
/- Days of dates: val.isLeap, monthDays, yearsDays, Days. -/
set_option maxRecDepth 100000
namespace Go.Proofs.YtelpkgbghhpgaaaGreatDoor.Sx
section
variable {st : St} {Q : Res → St → Prop}

theorem isLeap_eq (y : Int) (h1 : 0 ≤ y) (h2 : y < 100000) : CallA S 284 [.int .i64 y] st Q = Q (.ret (.bool (leapY y))) st := by
  refine callA_eq (fun Q hQ => ?_) Q
  refine callA_body (by rfl) (by rfl) rfl ?_
  unfold leapY at hQ
  cases c1 : (y.tmod 4 == 0) <;> cases c2 : (y.tmod 100 != 0) <;> cases c3 : (y.tmod 400 == 0)
  all_goals
    simp only [c1, c2, c3, Bool.true_and, Bool.false_and, Bool.or_true, Bool.or_false, Bool.true_or, Bool.false_or] at hQ
    simp only [b284, go_sem, ↓reduceIte, reduceCtorEq, Nat.reduceLT, Nat.reduceLeDiff, Nat.reduceAdd, Nat.reduceMul, Nat.reduceSub, Nat.reduceEqDiff, Nat.reduceBEq, Int.reduceToNat, Int.reduceLE, Int.reduceLT, Int.reduceEq, c1, c2, c3, trunc_self]
    exact hQ

theorem yearsDays_eq (y : Int) (h1 : 1 ≤ y) (h2 : y < 100000) : CallA S 270 [.int .i64 y] st Q = Q (.ret (.int .i64 (365 * (y - 1) + (y - 1).tdiv 4 - (y - 1).tdiv 100 + (y - 1).tdiv 400))) st := by
  refine callA_eq (fun Q hQ => ?_) Q
  refine callA_body (by rfl) (by rfl) rfl ?_
  have w0 : IntKind.i64.wrap (y - 1) = y - 1 := wrap_int _ (by omega) (by omega)
  have t4 : (y - 1).tdiv 4 = (y - 1) / 4 := Int.tdiv_eq_ediv_of_nonneg (by omega)
  have t100 : (y - 1).tdiv 100 = (y - 1) / 100 := Int.tdiv_eq_ediv_of_nonneg (by omega)
  have t400 : (y - 1).tdiv 400 = (y - 1) / 400 := Int.tdiv_eq_ediv_of_nonneg (by omega)
  have w1 : IntKind.i64.wrap (365 * (y - 1)) = 365 * (y - 1) := wrap_int _ (by omega) (by omega)
  have w2 : IntKind.i64.wrap ((y - 1).tdiv 4) = (y - 1).tdiv 4 := wrap_int _ (by omega) (by omega)
  have w3 : IntKind.i64.wrap ((y - 1).tdiv 100) = (y - 1).tdiv 100 := wrap_int _ (by omega) (by omega)
  have w4 : IntKind.i64.wrap ((y - 1).tdiv 400) = (y - 1).tdiv 400 := wrap_int _ (by omega) (by omega)
  have w5 : IntKind.i64.wrap (365 * (y - 1) + (y - 1).tdiv 4) = 365 * (y - 1) + (y - 1).tdiv 4 := wrap_int _ (by omega) (by omega)
  have w6 : IntKind.i64.wrap (365 * (y - 1) + (y - 1).tdiv 4 - (y - 1).tdiv 100) = 365 * (y - 1) + (y - 1).tdiv 4 - (y - 1).tdiv 100 := wrap_int _ (by omega) (by omega)
  have w7 : IntKind.i64.wrap (365 * (y - 1) + (y - 1).tdiv 4 - (y - 1).tdiv 100 + (y - 1).tdiv 400) = 365 * (y - 1) + (y - 1).tdiv 4 - (y - 1).tdiv 100 + (y - 1).tdiv 400 := wrap_int _ (by omega) (by omega)
  simp only [b270, go_sem, ↓reduceIte, reduceCtorEq, Nat.reduceLT, Nat.reduceLeDiff, Nat.reduceAdd, Nat.reduceMul, Nat.reduceSub, Nat.reduceEqDiff, Nat.reduceBEq, Int.reduceToNat, Int.reduceLE, Int.reduceLT, w0, Int.reduceEq, w1, w2, w3, w4, w5, w6, w7, trunc_self]
  exact hQ

theorem monthDays_eq (y : Int) (h1 : 0 ≤ y) (h2 : y < 100000) (m : Int) (h3 : 1 ≤ m) (h4 : m ≤ 12) : CallA S 269 [.int .i64 y, .int .i64 m] st Q = Q (.ret (.int .i64 (monthLen y m))) st := by
  refine callA_eq (fun Q hQ => ?_) Q
  refine callA_body (by rfl) (by rfl) rfl ?_
  have w0 : IntKind.i64.wrap 0 = 0 := by decide
  have w1 : IntKind.i64.wrap 1 = 1 := by decide
  have w2 : IntKind.i64.wrap 2 = 2 := by decide
  have w3 : IntKind.i64.wrap 3 = 3 := by decide
  have w4 : IntKind.i64.wrap 4 = 4 := by decide
  have w5 : IntKind.i64.wrap 5 = 5 := by decide
  have w6 : IntKind.i64.wrap 6 = 6 := by decide
  have w7 : IntKind.i64.wrap 7 = 7 := by decide
  have w8 : IntKind.i64.wrap 8 = 8 := by decide
  have w9 : IntKind.i64.wrap 9 = 9 := by decide
  have w10 : IntKind.i64.wrap 10 = 10 := by decide
  have w11 : IntKind.i64.wrap 11 = 11 := by decide
  have hk : m = 1 ∨ m = 2 ∨ m = 3 ∨ m = 4 ∨ m = 5 ∨ m = 6 ∨ m = 7 ∨ m = 8 ∨ m = 9 ∨ m = 10 ∨ m = 11 ∨ m = 12 := by omega
  rcases hk with rfl | rfl | rfl | rfl | rfl | rfl | rfl | rfl | rfl | rfl | rfl | rfl
  all_goals
    cases hl : leapY y
    all_goals
      simp [monthLen, hl] at hQ
      simp only [b269, go_sem, ↓reduceIte, reduceCtorEq, Nat.reduceLT, Nat.reduceLeDiff, Nat.reduceAdd, Nat.reduceMul, Nat.reduceSub, Nat.reduceEqDiff, Nat.reduceBEq, Int.reduceToNat, Int.reduceLE, Int.reduceLT, isLeap_eq y h1 h2, hl, Int.reduceBEq, Int.reduceSub, w0, w1, w2, w3, w4, w5, w6, w7, w8, w9, w10, w11, (show ((12 : Nat) : Int) = 12 from rfl), trunc_self]
      exact hQ

theorem monthLen_bound (y m : Int) : 28 ≤ monthLen y m ∧ monthLen y m ≤ 31 := by
  unfold monthLen
  split
  · split <;> omega
  · split <;> omega
theorem monthsLen_bound (y : Int) : ∀ k : Nat, 0 ≤ monthsLen y k ∧ monthsLen y k ≤ 31 * k
  | 0 => by rw [monthsLen]; omega
  | k + 1 => by
    obtain ⟨a, b⟩ := monthsLen_bound y k
    obtain ⟨c, d⟩ := monthLen_bound y ((k : Int) + 1)
    rw [monthsLen]
    push_cast
    omega

def badDay (y m d : Int) : Prop := y < 1 ∨ y > 9999 ∨ m < 1 ∨ m > 12 ∨ d < 1 ∨ d > monthLen y m
instance (y m d : Int) : Decidable (badDay y m d) := by unfold badDay; infer_instance

theorem days_eq (y m d : Int) (hy : 0 ≤ y ∧ y < 100000) (hm : 0 ≤ m ∧ m < 100000) (hd : 0 ≤ d ∧ d < 100000) :
    CallA S 242 [.int .i64 y, .int .i64 m, .int .i64 d] st Q = Q (.ret (.tuple [.int .i64 (daysOf y m d), .int .i64 (if badDay y m d then 1 else 0)])) st := by
  refine callA_eq (fun Q hQ => ?_) Q
  refine callA_body (by rfl) (by rfl) rfl ?_
  unfold daysOf at hQ
  have hbad : badDay y m d → Q (.ret (.tuple [.int .i64 0, .int .i64 1])) st := fun h => by
    rw [if_pos h] at hQ
    rw [if_pos (show y < 1 ∨ y > 9999 ∨ m < 1 ∨ m > 12 ∨ d < 1 ∨ d > monthLen y m from h)] at hQ
    exact hQ
  by_cases c1 : y < 1
  · simp only [b242, go_sem, ↓reduceIte, reduceCtorEq, Nat.reduceLT, Nat.reduceLeDiff, Nat.reduceAdd, Nat.reduceMul, Nat.reduceSub, Nat.reduceEqDiff, Nat.reduceBEq, Int.reduceToNat, Int.reduceLE, Int.reduceLT, c1, trunc_self]
    exact hbad (.inl c1)
  by_cases c2 : y > 9999
  · simp only [b242, go_sem, ↓reduceIte, reduceCtorEq, Nat.reduceLT, Nat.reduceLeDiff, Nat.reduceAdd, Nat.reduceMul, Nat.reduceSub, Nat.reduceEqDiff, Nat.reduceBEq, Int.reduceToNat, Int.reduceLE, Int.reduceLT, c1, c2, trunc_self]
    exact hbad (.inr (.inl c2))
  by_cases c3 : m < 1
  · simp only [b242, go_sem, ↓reduceIte, reduceCtorEq, Nat.reduceLT, Nat.reduceLeDiff, Nat.reduceAdd, Nat.reduceMul, Nat.reduceSub, Nat.reduceEqDiff, Nat.reduceBEq, Int.reduceToNat, Int.reduceLE, Int.reduceLT, c1, c2, c3, trunc_self]
    exact hbad (.inr (.inr (.inl c3)))
  by_cases c4 : m > 12
  · simp only [b242, go_sem, ↓reduceIte, reduceCtorEq, Nat.reduceLT, Nat.reduceLeDiff, Nat.reduceAdd, Nat.reduceMul, Nat.reduceSub, Nat.reduceEqDiff, Nat.reduceBEq, Int.reduceToNat, Int.reduceLE, Int.reduceLT, c1, c2, c3, c4, trunc_self]
    exact hbad (.inr (.inr (.inr (.inl c4))))
  by_cases c5 : d < 1
  · simp only [b242, go_sem, ↓reduceIte, reduceCtorEq, Nat.reduceLT, Nat.reduceLeDiff, Nat.reduceAdd, Nat.reduceMul, Nat.reduceSub, Nat.reduceEqDiff, Nat.reduceBEq, Int.reduceToNat, Int.reduceLE, Int.reduceLT, c1, c2, c3, c4, c5, trunc_self]
    exact hbad (.inr (.inr (.inr (.inr (.inl c5)))))
  by_cases c6 : d > monthLen y m
  · simp only [b242, go_sem, ↓reduceIte, reduceCtorEq, Nat.reduceLT, Nat.reduceLeDiff, Nat.reduceAdd, Nat.reduceMul, Nat.reduceSub, Nat.reduceEqDiff, Nat.reduceBEq, Int.reduceToNat, Int.reduceLE, Int.reduceLT, c1, c2, c3, c4, c5, monthDays_eq y hy.1 hy.2 m (by omega) (by omega), c6, trunc_self]
    exact hbad (.inr (.inr (.inr (.inr (.inr c6)))))
  have hb : ¬ badDay y m d := by
    unfold badDay
    omega
  have hb2 : ¬ (y < 1 ∨ y > 9999 ∨ m < 1 ∨ m > 12 ∨ d < 1 ∨ d > monthLen y m) := hb
  rw [if_neg hb, if_neg hb2] at hQ
  have hdl := (monthLen_bound y m).2
  have w0 : IntKind.i64.wrap (m - 1) = m - 1 := wrap_int _ (by omega) (by omega)
  have t4 : (y - 1).tdiv 4 = (y - 1) / 4 := Int.tdiv_eq_ediv_of_nonneg (by omega)
  have t100 : (y - 1).tdiv 100 = (y - 1) / 100 := Int.tdiv_eq_ediv_of_nonneg (by omega)
  have t400 : (y - 1).tdiv 400 = (y - 1) / 400 := Int.tdiv_eq_ediv_of_nonneg (by omega)
  generalize hY : 365 * (y - 1) + (y - 1).tdiv 4 - (y - 1).tdiv 100 + (y - 1).tdiv 400 = Y at *
  have hYb : 0 ≤ Y ∧ Y < 10000000 := by omega
  have w1 : IntKind.i64.wrap (Y + d) = Y + d := wrap_int _ (by omega) (by omega)
  have hyd : ∀ (st : St) (Q : Res → St → Prop), CallA S 270 [.int .i64 y] st Q = Q (.ret (.int .i64 Y)) st := fun st Q => by rw [yearsDays_eq y (by omega) (by omega), hY]
  simp only [b242, go_sem, ↓reduceIte, reduceCtorEq, Nat.reduceLT, Nat.reduceLeDiff, Nat.reduceAdd, Nat.reduceMul, Nat.reduceSub, Nat.reduceEqDiff, Nat.reduceBEq, Int.reduceToNat, Int.reduceLE, Int.reduceLT, c1, c2, c3, c4, c5, monthDays_eq y hy.1 hy.2 m (by omega) (by omega), c6, hyd, w1, w0]
  refine wp_loop (fun n fr st' => st' = st ∧ ∃ (k ser : Nat), (n : Int) + k = m - 1 ∧
    fr = ⟨[(0, .int .i64 y), (8, .int .i64 (Y + d + monthsLen y k)), (40, .int .i64 (m - 1)), (41, .int .i64 (k : Int))], [], [], ser⟩) (m - 1).toNat ⟨rfl, 0, 4, by omega, by rw [monthsLen, Int.add_zero]; rfl⟩ ?_
  rintro n fr st' ⟨rfl, k, ser, hn, rfl⟩
  obtain ⟨k1, k2⟩ := monthsLen_bound y k
  by_cases h : (k : Int) < m - 1
  · have e1 : IntKind.i64.wrap ((k : Int) + 1) = (k : Int) + 1 := wrap_int _ (by omega) (by omega)
    obtain ⟨l1, l2⟩ := monthLen_bound y ((k : Int) + 1)
    have e2 : IntKind.i64.wrap (Y + d + monthsLen y k + monthLen y ((k : Int) + 1)) = Y + d + monthsLen y (k + 1) := by
      rw [wrap_int _ (by omega) (by omega), monthsLen]; omega
    simp only [b242l0, go_sem, ↓reduceIte, reduceCtorEq, Nat.reduceLT, Nat.reduceLeDiff, Nat.reduceAdd, Nat.reduceMul, Nat.reduceSub, Nat.reduceEqDiff, Nat.reduceBEq, Int.reduceToNat, Int.reduceLE, Int.reduceLT, h, e1, monthDays_eq y hy.1 hy.2 ((k : Int) + 1) (by omega) (by omega), e2]
    exact ⟨n - 1, by omega, k + 1, _, by omega, rfl⟩
  · have e : k = (m - 1).toNat := by omega
    rw [← e] at hQ
    simp only [b242l0, go_sem, ↓reduceIte, reduceCtorEq, Nat.reduceLT, Nat.reduceLeDiff, Nat.reduceAdd, Nat.reduceMul, Nat.reduceSub, Nat.reduceEqDiff, Nat.reduceBEq, Int.reduceToNat, Int.reduceLE, Int.reduceLT, h, trunc_self]
    exact hQ
end
end Go.Proofs.YtelpkgbghhpgaaaGreatDoor.Sx
end
