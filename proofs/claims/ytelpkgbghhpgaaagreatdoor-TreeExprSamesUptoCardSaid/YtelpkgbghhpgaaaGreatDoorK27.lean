/- TreeExprSames returns true for all expressions whose data are not larger than a bound. The program's reader of statements: what ends a block, what is set, blocks, assignments. The program's reader of procedures. -/
import Derived.Test.YtelpkgbghhpgaaaGreatDoorK26
set_option linter.all false
section
/- The program's reader of statements: what ends a block, what is set, blocks, assignments. -/
set_option maxRecDepth 100000
namespace Go.Proofs.YtelpkgbghhpgaaaGreatDoor.Sx

/-- The words that end a block. -/
def endWords : List (List UInt8) := [[69, 76, 83, 69, 73, 70], [69, 76, 83, 69], [69, 78, 68, 73, 70], [67, 65, 83, 69], [79, 84, 72, 69, 82, 87, 73, 83, 69], [69, 78, 68, 67, 65, 83, 69], [69, 78, 68, 68, 79], [78, 69, 88, 84], [82, 69, 67, 79, 86, 69, 82], [69, 78, 68], [80, 82, 79, 67, 69, 68, 85, 82, 69], [70, 85, 78, 67, 84, 73, 79, 78]]
def isEnding (s : List UInt8) : Bool := decide (idxP (s == ·) endWords 0 ≥ 0)
def endText : List UInt8 := [69, 76, 83, 69, 73, 70, 32, 69, 76, 83, 69, 32, 69, 78, 68, 73, 70, 32, 67, 65, 83, 69, 32, 79, 84, 72, 69, 82, 87, 73, 83, 69, 32, 69, 78, 68, 67, 65, 83, 69, 32, 69, 78, 68, 68, 79, 32, 78, 69, 88, 84, 32, 82, 69, 67, 79, 86, 69, 82, 32, 69, 78, 68, 32, 80, 82, 79, 67, 69, 68, 85, 82, 69, 32, 70, 85, 78, 67, 84, 73, 79, 78]
theorem endFields : Lib.fields endText = endWords := by rfl

section
variable (l : List Tok)
/-- What is set. -/
def spTarget (e : Nat → PR Xp) (a : Nat) : PR Xp :=
  if isS (tokAt l a) [38] = true then spMacro l e a
  else (nameP l a).bind fun s a =>
    if isS (tokAt l a) [91] = true then (e (a + 1)).bind fun i a => (wantP l [93] a).bind fun _ a => .ok (mkIndex (mkName s) i) a
    else if isS (tokAt l a) [45, 62] = true then (nameP l (a + 1)).bind fun f a => .ok (mkAlias s (mkName f)) a
    else .ok (mkName s) a
def endP (a : Nat) : PR Unit := if (tokAt l a).kind = 5 then .ok () (a + 1) else .fail a
def mkSet (x y : Xp) : Sm := .mk 0 [] [] true [] false [x, y] true [] 0 true [] true [] true []
/-- An assignment. -/
def spSet (e : Nat → PR Xp) (a : Nat) : PR Sm :=
  (spTarget l e a).bind fun x a => (if isS (tokAt l a) [61] = true then PR.ok () (a + 1) else wantP l [58, 61] a).bind fun _ a =>
    (e a).bind fun y a => (endP l a).bind fun _ a => .ok (mkSet x y) a
def spBlockL (stm : Nat → PR Sm) : Nat → List Sm → Nat → PR (List Sm)
  | 0, _, _ => .out
  | n + 1, acc, a => if a < l.length ∧ isEnding (kwAt l a) = false then (stm a).bind fun x a => spBlockL stm n (acc ++ [x]) a else .ok acc a
end

section
variable {st : St} {id a : Nat} {l : List Tok} {Q : Res → St → Prop} {o : HObj} {e : Nat → PR Xp}

theorem fields_end : CallA S 80 [.str endText] st Q = Q (.ret (.slice 1 (encStr endWords) .no)) st := by
  refine callA_intr (n := 0) (by rfl) ?_ Q
  simp only [iFields, endFields]
  rfl

theorem isEnding_eq (s : List UInt8) : CallA S 128 [.str s] st Q = Q (.ret (.bool (isEnding s))) st := by
  refine callA_eq (fun Q hQ => ?_) Q
  refine callA_body (by rfl) (by rfl) rfl ?_
  have h1 := fun (st : St) (Q : Res → St → Prop) => fields_end (st := st) (Q := Q)
  have h2 : ∀ (st : St) (Q : Res → St → Prop), CallA S 178 [.slice 1 (encStr endWords) .no, .str s] st Q = Q (.ret (.bool (decide (idxP (s == ·) endWords 0 ≥ 0)))) st := fun st Q => contains_eq (st := st) (Q := Q) false endWords s (by decide)
  unfold endText at h1
  unfold isEnding at hQ
  simp only [b128, go_sem, ↓reduceIte, reduceCtorEq, Nat.reduceLT, Nat.reduceLeDiff, Nat.reduceAdd, Nat.reduceMul, Nat.reduceSub, Nat.reduceEqDiff, Nat.reduceBEq, Int.reduceToNat, Int.reduceLE, Int.reduceLT, h1, h2, trunc_self]
  exact hQ

theorem end_ok (hid : id < st.size) (hl : l.length < 65536) : ReadsAt eU st id l 57 [.ptr id 0] (endP l) := by
  intro a Q ha hQ
  unfold endP at hQ
  by_cases h : (tokAt l a).kind = 5
  · rw [if_pos h] at hQ
    have hlt := tokAt_lt (l := l) (i := a) (by omega)
    rw [end_yes hid hl ha h]
    exact RK_ok hQ (by omega)
  · rw [if_neg h] at hQ
    rw [end_no hid hl ha h]
    exact RK_fail hQ

theorem target_ok (hid : id < st.size) (hl : l.length < 65536) (hT : ∀ t ∈ l, TokOk t) (he : ReadsAt eX st id l 56 [.ptr id 0] e) : ReadsAt eX st id l 182 [.ptr id 0] (spTarget l e) := by
  intro a Q ha hQ
  refine callA_body (by rfl) (by rfl) rfl ?_
  unfold spTarget at hQ
  cases h : isS (tokAt l a) [38] with
  | true =>
    simp only [h, if_true] at hQ
    simp only [b182, go_sem, ↓reduceIte, reduceCtorEq, Nat.reduceLT, Nat.reduceLeDiff, Nat.reduceAdd, Nat.reduceMul, Nat.reduceSub, Nat.reduceEqDiff, Nat.reduceBEq, Int.reduceToNat, Int.reduceLE, Int.reduceLT, ahead0 hid hl ha, isSign_eq, h]
    refine macro_ok hid hl hT he a _ ha (PR.on_mono hQ (fun x a _ hQ ha => ?_) (fun a _ hQ => (by simp only [go_sem, ↓reduceIte, reduceCtorEq, Nat.reduceLT, Nat.reduceLeDiff, Nat.reduceAdd, Nat.reduceMul, Nat.reduceSub, Nat.reduceEqDiff, Nat.reduceBEq, Int.reduceToNat, Int.reduceLE, Int.reduceLT, V_size, V_trunc]; exact hQ)))
    simp only [go_sem, ↓reduceIte, reduceCtorEq, Nat.reduceLT, Nat.reduceLeDiff, Nat.reduceAdd, Nat.reduceMul, Nat.reduceSub, Nat.reduceEqDiff, Nat.reduceBEq, Int.reduceToNat, Int.reduceLE, Int.reduceLT, V_size, V_trunc]
    exact hQ ha
  | false =>
    simp only [h, Bool.false_eq_true, if_false] at hQ
    simp only [b182, go_sem, ↓reduceIte, reduceCtorEq, Nat.reduceLT, Nat.reduceLeDiff, Nat.reduceAdd, Nat.reduceMul, Nat.reduceSub, Nat.reduceEqDiff, Nat.reduceBEq, Int.reduceToNat, Int.reduceLE, Int.reduceLT, ahead0 hid hl ha, isSign_eq, h]
    refine name_ok hid hl hT a _ ha (RK_step hQ (fun s a ha hQ => ?_) (fun a hQ => (by simp only [go_sem, ↓reduceIte, reduceCtorEq, Nat.reduceLT, Nat.reduceLeDiff, Nat.reduceAdd, Nat.reduceMul, Nat.reduceSub, Nat.reduceEqDiff, Nat.reduceBEq, Int.reduceToNat, Int.reduceLE, Int.reduceLT, V_size, V_trunc]; exact hQ)))
    cases h2 : isS (tokAt l a) [91] with
    | true =>
      have hlt := isS_lt h2
      simp only [h2, if_true] at hQ
      simp only [go_sem, ↓reduceIte, reduceCtorEq, Nat.reduceLT, Nat.reduceLeDiff, Nat.reduceAdd, Nat.reduceMul, Nat.reduceSub, Nat.reduceEqDiff, Nat.reduceBEq, Int.reduceToNat, Int.reduceLE, Int.reduceLT, sign_yes hid hl ha h2]
      refine he (a + 1) _ (by omega) (RK_step hQ (fun i a ha hQ => ?_) (fun a hQ => (by simp only [go_sem, ↓reduceIte, reduceCtorEq, Nat.reduceLT, Nat.reduceLeDiff, Nat.reduceAdd, Nat.reduceMul, Nat.reduceSub, Nat.reduceEqDiff, Nat.reduceBEq, Int.reduceToNat, Int.reduceLE, Int.reduceLT, V_size, V_trunc]; exact hQ)))
      simp only [go_sem, ↓reduceIte, reduceCtorEq, Nat.reduceLT, Nat.reduceLeDiff, Nat.reduceAdd, Nat.reduceMul, Nat.reduceSub, Nat.reduceEqDiff, Nat.reduceBEq, Int.reduceToNat, Int.reduceLE, Int.reduceLT]
      refine want_ok hid hl _ a _ ha (RK_step hQ (fun u a ha hQ => ?_) (fun a hQ => (by simp only [go_sem, ↓reduceIte, reduceCtorEq, Nat.reduceLT, Nat.reduceLeDiff, Nat.reduceAdd, Nat.reduceMul, Nat.reduceSub, Nat.reduceEqDiff, Nat.reduceBEq, Int.reduceToNat, Int.reduceLE, Int.reduceLT, V_size, V_trunc]; exact hQ)))
      simp only [go_sem, ↓reduceIte, reduceCtorEq, Nat.reduceLT, Nat.reduceLeDiff, Nat.reduceAdd, Nat.reduceMul, Nat.reduceSub, Nat.reduceEqDiff, Nat.reduceBEq, Int.reduceToNat, Int.reduceLE, Int.reduceLT, V_size, V_trunc]
      exact RK_ok hQ ha
    | false =>
      simp only [h2, Bool.false_eq_true, if_false] at hQ
      cases h3 : isS (tokAt l a) [45, 62] with
      | true =>
        have hlt := isS_lt h3
        simp only [h3, if_true] at hQ
        simp only [go_sem, ↓reduceIte, reduceCtorEq, Nat.reduceLT, Nat.reduceLeDiff, Nat.reduceAdd, Nat.reduceMul, Nat.reduceSub, Nat.reduceEqDiff, Nat.reduceBEq, Int.reduceToNat, Int.reduceLE, Int.reduceLT, sign_no hid hl ha h2, sign_yes hid hl ha h3]
        refine name_ok hid hl hT (a + 1) _ (by omega) (RK_step hQ (fun f a ha hQ => ?_) (fun a hQ => (by simp only [go_sem, ↓reduceIte, reduceCtorEq, Nat.reduceLT, Nat.reduceLeDiff, Nat.reduceAdd, Nat.reduceMul, Nat.reduceSub, Nat.reduceEqDiff, Nat.reduceBEq, Int.reduceToNat, Int.reduceLE, Int.reduceLT, V_size, V_trunc]; exact hQ)))
        simp only [go_sem, ↓reduceIte, reduceCtorEq, Nat.reduceLT, Nat.reduceLeDiff, Nat.reduceAdd, Nat.reduceMul, Nat.reduceSub, Nat.reduceEqDiff, Nat.reduceBEq, Int.reduceToNat, Int.reduceLE, Int.reduceLT, V_size, V_trunc]
        exact RK_ok hQ ha
      | false =>
        simp only [h3, Bool.false_eq_true, if_false] at hQ
        simp only [go_sem, ↓reduceIte, reduceCtorEq, Nat.reduceLT, Nat.reduceLeDiff, Nat.reduceAdd, Nat.reduceMul, Nat.reduceSub, Nat.reduceEqDiff, Nat.reduceBEq, Int.reduceToNat, Int.reduceLE, Int.reduceLT, sign_no hid hl ha h2, sign_no hid hl ha h3, V_size, V_trunc]
        exact RK_ok hQ ha

theorem set_ok (hid : id < st.size) (hl : l.length < 65536) (hT : ∀ t ∈ l, TokOk t) (he : ReadsAt eX st id l 56 [.ptr id 0] e) (ha : a ≤ l.length)
    (h1 : kwAt l a = []) (h2 : isS (tokAt l a) [63] = false) (h3 : isS (tokAt l (a + 1)) [40] = false) (hQ : RK eSm st id l Q (spSet l e a)) : CallA S 130 [.ptr id 0] (V st id l a) Q := by
  refine callA_body (by rfl) (by rfl) rfl ?_
  unfold spSet at hQ
  have hb := h1
  cases hk : ((tokAt l a).kind == 0)
  all_goals
    simp only [b130, go_sem, ↓reduceIte, reduceCtorEq, Nat.reduceLT, Nat.reduceLeDiff, Nat.reduceAdd, Nat.reduceMul, Nat.reduceSub, Nat.reduceEqDiff, Nat.reduceBEq, Int.reduceToNat, Int.reduceLE, Int.reduceLT, ahead0 hid hl ha, ahead1 hid hl ha, isSign_eq, keyword_eq hid hl ha hT, hb, beqL_nn, sign_no hid hl ha h2, hk, h3]
    refine target_ok hid hl hT he a _ ha (RK_step hQ (fun x a ha hQ => ?_) (fun a hQ => (by simp only [go_sem, ↓reduceIte, reduceCtorEq, Nat.reduceLT, Nat.reduceLeDiff, Nat.reduceAdd, Nat.reduceMul, Nat.reduceSub, Nat.reduceEqDiff, Nat.reduceBEq, Int.reduceToNat, Int.reduceLE, Int.reduceLT, V_size, V_trunc]; exact hQ)))
    cases h4 : isS (tokAt l a) [61] with
    | true =>
      have hlt := isS_lt h4
      simp only [h4, if_true] at hQ
      simp only [go_sem, ↓reduceIte, reduceCtorEq, Nat.reduceLT, Nat.reduceLeDiff, Nat.reduceAdd, Nat.reduceMul, Nat.reduceSub, Nat.reduceEqDiff, Nat.reduceBEq, Int.reduceToNat, Int.reduceLE, Int.reduceLT, sign_yes hid hl ha h4]
      refine he (a + 1) _ (by omega) (RK_step hQ (fun y a ha hQ => ?_) (fun a hQ => (by simp only [go_sem, ↓reduceIte, reduceCtorEq, Nat.reduceLT, Nat.reduceLeDiff, Nat.reduceAdd, Nat.reduceMul, Nat.reduceSub, Nat.reduceEqDiff, Nat.reduceBEq, Int.reduceToNat, Int.reduceLE, Int.reduceLT, V_size, V_trunc]; exact hQ)))
      simp only [go_sem, ↓reduceIte, reduceCtorEq, Nat.reduceLT, Nat.reduceLeDiff, Nat.reduceAdd, Nat.reduceMul, Nat.reduceSub, Nat.reduceEqDiff, Nat.reduceBEq, Int.reduceToNat, Int.reduceLE, Int.reduceLT]
      refine end_ok hid hl a _ ha (RK_step hQ (fun u a ha hQ => ?_) (fun a hQ => (by simp only [go_sem, ↓reduceIte, reduceCtorEq, Nat.reduceLT, Nat.reduceLeDiff, Nat.reduceAdd, Nat.reduceMul, Nat.reduceSub, Nat.reduceEqDiff, Nat.reduceBEq, Int.reduceToNat, Int.reduceLE, Int.reduceLT, V_size, V_trunc]; exact hQ)))
      simp only [go_sem, ↓reduceIte, reduceCtorEq, Nat.reduceLT, Nat.reduceLeDiff, Nat.reduceAdd, Nat.reduceMul, Nat.reduceSub, Nat.reduceEqDiff, Nat.reduceBEq, Int.reduceToNat, Int.reduceLE, Int.reduceLT, V_size, V_trunc]
      exact RK_ok hQ ha
    | false =>
      simp only [h4, Bool.false_eq_true, if_false] at hQ
      simp only [go_sem, ↓reduceIte, reduceCtorEq, Nat.reduceLT, Nat.reduceLeDiff, Nat.reduceAdd, Nat.reduceMul, Nat.reduceSub, Nat.reduceEqDiff, Nat.reduceBEq, Int.reduceToNat, Int.reduceLE, Int.reduceLT, sign_no hid hl ha h4]
      refine want_ok hid hl _ a _ ha (RK_step hQ (fun u a ha hQ => ?_) (fun a hQ => (by simp only [go_sem, ↓reduceIte, reduceCtorEq, Nat.reduceLT, Nat.reduceLeDiff, Nat.reduceAdd, Nat.reduceMul, Nat.reduceSub, Nat.reduceEqDiff, Nat.reduceBEq, Int.reduceToNat, Int.reduceLE, Int.reduceLT, V_size, V_trunc]; exact hQ)))
      simp only [go_sem, ↓reduceIte, reduceCtorEq, Nat.reduceLT, Nat.reduceLeDiff, Nat.reduceAdd, Nat.reduceMul, Nat.reduceSub, Nat.reduceEqDiff, Nat.reduceBEq, Int.reduceToNat, Int.reduceLE, Int.reduceLT]
      refine he a _ ha (RK_step hQ (fun y a ha hQ => ?_) (fun a hQ => (by simp only [go_sem, ↓reduceIte, reduceCtorEq, Nat.reduceLT, Nat.reduceLeDiff, Nat.reduceAdd, Nat.reduceMul, Nat.reduceSub, Nat.reduceEqDiff, Nat.reduceBEq, Int.reduceToNat, Int.reduceLE, Int.reduceLT, V_size, V_trunc]; exact hQ)))
      simp only [go_sem, ↓reduceIte, reduceCtorEq, Nat.reduceLT, Nat.reduceLeDiff, Nat.reduceAdd, Nat.reduceMul, Nat.reduceSub, Nat.reduceEqDiff, Nat.reduceBEq, Int.reduceToNat, Int.reduceLE, Int.reduceLT]
      refine end_ok hid hl a _ ha (RK_step hQ (fun u a ha hQ => ?_) (fun a hQ => (by simp only [go_sem, ↓reduceIte, reduceCtorEq, Nat.reduceLT, Nat.reduceLeDiff, Nat.reduceAdd, Nat.reduceMul, Nat.reduceSub, Nat.reduceEqDiff, Nat.reduceBEq, Int.reduceToNat, Int.reduceLE, Int.reduceLT, V_size, V_trunc]; exact hQ)))
      simp only [go_sem, ↓reduceIte, reduceCtorEq, Nat.reduceLT, Nat.reduceLeDiff, Nat.reduceAdd, Nat.reduceMul, Nat.reduceSub, Nat.reduceEqDiff, Nat.reduceBEq, Int.reduceToNat, Int.reduceLE, Int.reduceLT, V_size, V_trunc]
      exact RK_ok hQ ha

/-- A block, whose statements are read as `stm` says. -/
theorem block_ok (hid : id < st.size) (hl : l.length < 65536) (hT : ∀ t ∈ l, TokOk t) (n : Nat) (hn : n ≤ 65536) (stm : Nat → PR Sm) (hs : ∀ a Q, a < l.length → isEnding (kwAt l a) = false → RK eSm st id l Q (stm a) → CallA S 130 [.ptr id 0] (V st id l a) Q) :
    ReadsAt eSms st id l 95 [.ptr id 0] (spBlockL l stm n []) := by
  intro a Q ha hQ
  refine callA_body (by rfl) (by rfl) rfl ?_
  simp only [b95, go_sem, ↓reduceIte, reduceCtorEq, Nat.reduceLT, Nat.reduceLeDiff, Nat.reduceAdd, Nat.reduceMul, Nat.reduceSub, Nat.reduceEqDiff, Nat.reduceBEq, Int.reduceToNat, Int.reduceLE, Int.reduceLT]
  refine wp_loop (fun m fr st' => ∃ acc a own ft ser, RK eSms st id l Q (spBlockL l stm m acc a) ∧ a ≤ l.length ∧ acc.length + m = n ∧ st' = V st id l a ∧ ((acc = [] ∧ own = .nilslice ∧ ft = []) ∨ (acc ≠ [] ∧ own = .slice 10 (encSms acc) (.ftok 0) ∧ ft = [acc.length])) ∧
    fr = ⟨[(0, .ptr id 0), (3, own)], [], ft, ser⟩) n ⟨[], a, _, _, _, hQ, ha, by simp, rfl, .inl ⟨rfl, rfl, rfl⟩, rfl⟩ ?_
  rintro m fr st' ⟨acc, a, own, ft, ser, hQ, ha, hm, rfl, hown, rfl⟩
  cases m with
  | zero => exact hQ.elim
  | succ m =>
    have hend : own.strip2 = encSl true 10 (encSms acc) := by
      rcases hown with ⟨rfl, rfl, rfl⟩ | ⟨h1, rfl, rfl⟩
      · rw [encSms]; rfl
      · cases acc with
        | nil => exact absurd rfl h1
        | cons x acc => rw [encSms]; rfl
    simp only [spBlockL] at hQ
    by_cases h1 : (a : Int) < (l.length : Int)
    · cases h2 : isEnding (kwAt l a) with
      | true =>
        rw [if_neg (by simp [h2])] at hQ
        simp only [b95l0, go_sem, ↓reduceIte, reduceCtorEq, Nat.reduceLT, Nat.reduceLeDiff, Nat.reduceAdd, Nat.reduceMul, Nat.reduceSub, Nat.reduceEqDiff, Nat.reduceBEq, Int.reduceToNat, Int.reduceLE, Int.reduceLT, V_cells hid, List.length_map, h1, keyword_eq hid hl ha hT, isEnding_eq, h2, hend, V_size, V_trunc]
        exact RK_ok hQ ha
      | false =>
        have hlt : a < l.length := by omega
        rw [if_pos ⟨hlt, h2⟩] at hQ
        simp only [b95l0, go_sem, ↓reduceIte, reduceCtorEq, Nat.reduceLT, Nat.reduceLeDiff, Nat.reduceAdd, Nat.reduceMul, Nat.reduceSub, Nat.reduceEqDiff, Nat.reduceBEq, Int.reduceToNat, Int.reduceLE, Int.reduceLT, V_cells hid, List.length_map, h1, keyword_eq hid hl ha hT, isEnding_eq, h2]
        refine hs a _ hlt h2 (RK_step hQ (fun x a' ha' hQ => ?_) (fun a hQ => (by simp only [go_sem, ↓reduceIte, reduceCtorEq, Nat.reduceLT, Nat.reduceLeDiff, Nat.reduceAdd, Nat.reduceMul, Nat.reduceSub, Nat.reduceEqDiff, Nat.reduceBEq, Int.reduceToNat, Int.reduceLE, Int.reduceLT, V_size, V_trunc]; exact hQ)))
        have hb : (acc.length + 1) * 240 ≤ 1099511627776 := by omega
        rcases hown with ⟨rfl, rfl, rfl⟩ | ⟨h1, rfl, rfl⟩
        · simp only [go_sem, ↓reduceIte, reduceCtorEq, Nat.reduceLT, Nat.reduceLeDiff, Nat.reduceAdd, Nat.reduceMul, Nat.reduceSub, Nat.reduceEqDiff, Nat.reduceBEq, Int.reduceToNat, Int.reduceLE, Int.reduceLT, aappend, grow, elsOf, encSms_length, hb, List.isEmpty_cons]
          exact ⟨m, Nat.lt_succ_self m, [x], a', .slice 10 (encSms [x]) (.ftok 0), [1], _, hQ, ha', by simp at hm ⊢; omega, rfl, .inr ⟨by simp, rfl, rfl⟩, by simp only [encSms]; rfl⟩
        · have hne2 : ¬ encSms acc = [] := by cases acc with | nil => exact absurd rfl h1 | cons => simp [encSms]
          simp only [go_sem, ↓reduceIte, reduceCtorEq, Nat.reduceLT, Nat.reduceLeDiff, Nat.reduceAdd, Nat.reduceMul, Nat.reduceSub, Nat.reduceEqDiff, Nat.reduceBEq, Int.reduceToNat, Int.reduceLE, Int.reduceLT, aappend, grow, elsOf, encSms_length, hb, hne2, List.isEmpty_cons, ne_eq, not_false_eq_true, and_self]
          exact ⟨m, Nat.lt_succ_self m, acc ++ [x], a', .slice 10 (encSms (acc ++ [x])) (.ftok 0), [acc.length + 1], _, hQ, ha', by simp; omega, rfl, .inr ⟨by simp, rfl, by simp⟩, by rw [encSms_snoc]⟩
    · rw [if_neg (by omega)] at hQ
      simp only [b95l0, go_sem, ↓reduceIte, reduceCtorEq, Nat.reduceLT, Nat.reduceLeDiff, Nat.reduceAdd, Nat.reduceMul, Nat.reduceSub, Nat.reduceEqDiff, Nat.reduceBEq, Int.reduceToNat, Int.reduceLE, Int.reduceLT, V_cells hid, List.length_map, h1, hend, V_size, V_trunc]
      exact RK_ok hQ ha
end
end Go.Proofs.YtelpkgbghhpgaaaGreatDoor.Sx
end
section
/- The program's reader of procedures. -/
set_option maxRecDepth 100000
namespace Go.Proofs.YtelpkgbghhpgaaaGreatDoor.Sx

section
variable (l : List Tok)
def spParams (n a : Nat) : PR (List (List UInt8)) :=
  if isS (tokAt l a) [40] = true then
    if isS (tokAt l (a + 1)) [41] = true then .ok [] (a + 2)
    else (spNames l n (a + 1)).bind fun p a => (wantP l [41] a).bind fun _ a => .ok p a
  else .ok [] a
def wFunction : List UInt8 := [70, 85, 78, 67, 84, 73, 79, 78]
def wProcedure : List UInt8 := [80, 82, 79, 67, 69, 68, 85, 82, 69]
def spProcs (bl : Nat → PR (List Sm)) (k : Nat) : Nat → List Pd → Nat → PR (List Pd)
  | 0, _, _ => .out
  | n + 1, acc, a =>
    if a < l.length then
      (if (wordOf (tokAt l a) == wFunction || wordOf (tokAt l a) == wProcedure) = true then PR.ok (wordOf (tokAt l a) == wFunction) (a + 1) else .fail a).bind fun fn a =>
        (nameP l a).bind fun s a => (spParams l k a).bind fun p a => (endP l a).bind fun _ a => (bl a).bind fun b a => spProcs bl k n (acc ++ [⟨s, fn, true, p, true, b⟩]) a
    else .ok acc a
def spProgram (bl : Nat → PR (List Sm)) (n a : Nat) : PR (List Pd) := (bl a).bind fun b a => spProcs l bl n n [⟨[77, 65, 73, 78], false, true, [], true, b⟩] a
end

section
variable {st : St} {id a : Nat} {l : List Tok} {Q : Res → St → Prop} {o : HObj} {e : Nat → PR Xp}

theorem params_ok (hid : id < st.size) (hl : l.length < 65536) (hT : ∀ t ∈ l, TokOk t) (n : Nat) (hn : n ≤ 65536) : ReadsAt eNs st id l 99 [.ptr id 0] (spParams l n) := by
  intro a Q ha hQ
  refine callA_body (by rfl) (by rfl) rfl ?_
  unfold spParams at hQ
  cases h : isS (tokAt l a) [40] with
  | true =>
    have hlt := isS_lt h
    simp only [h, if_true] at hQ
    cases h2 : isS (tokAt l (a + 1)) [41] with
    | true =>
      have hlt := isS_lt h2
      simp only [h2, if_true] at hQ
      simp only [b99, go_sem, ↓reduceIte, reduceCtorEq, Nat.reduceLT, Nat.reduceLeDiff, Nat.reduceAdd, Nat.reduceMul, Nat.reduceSub, Nat.reduceEqDiff, Nat.reduceBEq, Int.reduceToNat, Int.reduceLE, Int.reduceLT, sign_yes hid hl ha h, sign_yes hid hl (show a + 1 ≤ l.length by omega) h2, V_size, V_trunc]
      exact RK_ok hQ (by omega)
    | false =>
      simp only [h2, Bool.false_eq_true, if_false] at hQ
      simp only [b99, go_sem, ↓reduceIte, reduceCtorEq, Nat.reduceLT, Nat.reduceLeDiff, Nat.reduceAdd, Nat.reduceMul, Nat.reduceSub, Nat.reduceEqDiff, Nat.reduceBEq, Int.reduceToNat, Int.reduceLE, Int.reduceLT, sign_yes hid hl ha h, sign_no hid hl (show a + 1 ≤ l.length by omega) h2]
      refine names_ok hid hl hT n hn (a + 1) _ (by omega) (RK_step hQ (fun p a ha hQ => ?_) (fun a hQ => (by simp only [go_sem, ↓reduceIte, reduceCtorEq, Nat.reduceLT, Nat.reduceLeDiff, Nat.reduceAdd, Nat.reduceMul, Nat.reduceSub, Nat.reduceEqDiff, Nat.reduceBEq, Int.reduceToNat, Int.reduceLE, Int.reduceLT, V_size, V_trunc]; exact hQ)))
      simp only [go_sem, ↓reduceIte, reduceCtorEq, Nat.reduceLT, Nat.reduceLeDiff, Nat.reduceAdd, Nat.reduceMul, Nat.reduceSub, Nat.reduceEqDiff, Nat.reduceBEq, Int.reduceToNat, Int.reduceLE, Int.reduceLT]
      refine want_ok hid hl _ a _ ha (RK_step hQ (fun u a ha hQ => ?_) (fun a hQ => (by simp only [go_sem, ↓reduceIte, reduceCtorEq, Nat.reduceLT, Nat.reduceLeDiff, Nat.reduceAdd, Nat.reduceMul, Nat.reduceSub, Nat.reduceEqDiff, Nat.reduceBEq, Int.reduceToNat, Int.reduceLE, Int.reduceLT, V_size, V_trunc]; exact hQ)))
      simp only [go_sem, ↓reduceIte, reduceCtorEq, Nat.reduceLT, Nat.reduceLeDiff, Nat.reduceAdd, Nat.reduceMul, Nat.reduceSub, Nat.reduceEqDiff, Nat.reduceBEq, Int.reduceToNat, Int.reduceLE, Int.reduceLT, V_size, V_trunc]
      exact RK_ok hQ ha
  | false =>
    simp only [h, Bool.false_eq_true, if_false] at hQ
    simp only [b99, go_sem, ↓reduceIte, reduceCtorEq, Nat.reduceLT, Nat.reduceLeDiff, Nat.reduceAdd, Nat.reduceMul, Nat.reduceSub, Nat.reduceEqDiff, Nat.reduceBEq, Int.reduceToNat, Int.reduceLE, Int.reduceLT, sign_no hid hl ha h, V_size, V_trunc]
    exact RK_ok hQ ha

theorem program_ok (hid : id < st.size) (hl : l.length < 65536) (hT : ∀ t ∈ l, TokOk t) (n : Nat) (hn : n ≤ 65536) (bl : Nat → PR (List Sm)) (hb : ReadsAt eSms st id l 95 [.ptr id 0] bl) :
    ReadsAt ePds st id l 67 [.ptr id 0] (spProgram l bl n) := by
  intro a Q ha hQ
  refine callA_body (by rfl) (by rfl) rfl ?_
  unfold spProgram at hQ
  simp only [b67, go_sem, ↓reduceIte, reduceCtorEq, Nat.reduceLT, Nat.reduceLeDiff, Nat.reduceAdd, Nat.reduceMul, Nat.reduceSub, Nat.reduceEqDiff, Nat.reduceBEq, Int.reduceToNat, Int.reduceLE, Int.reduceLT]
  refine hb a _ ha (RK_step hQ (fun b a ha hQ => ?_) (fun a hQ => (by simp only [go_sem, ↓reduceIte, reduceCtorEq, Nat.reduceLT, Nat.reduceLeDiff, Nat.reduceAdd, Nat.reduceMul, Nat.reduceSub, Nat.reduceEqDiff, Nat.reduceBEq, Int.reduceToNat, Int.reduceLE, Int.reduceLT, V_size, V_trunc]; exact hQ)))
  simp only [go_sem, ↓reduceIte, reduceCtorEq, Nat.reduceLT, Nat.reduceLeDiff, Nat.reduceAdd, Nat.reduceMul, Nat.reduceSub, Nat.reduceEqDiff, Nat.reduceBEq, Int.reduceToNat, Int.reduceLE, Int.reduceLT]
  refine wp_loop (fun m fr st' => ∃ acc a own ft lx ser ex, RK ePds st id l Q (spProcs l bl n m acc a) ∧ a ≤ l.length ∧ acc.length + m = n + 1 ∧ acc ≠ [] ∧ st' = V st id l a ∧ ((own = .tight ∧ ft = []) ∨ (own = .ftok 0 ∧ ft = [acc.length])) ∧
    fr = ⟨[(0, .ptr id 0), (3, .slice 4 (encPds acc) own)] ++ ex, [lx], ft, ser⟩) n ⟨[⟨[77, 65, 73, 78], false, true, [], true, b⟩], a, _, _, (0, []), _, [], hQ, ha, by simp; omega, by simp, rfl, .inl ⟨rfl, rfl⟩, rfl⟩ ?_
  rintro m fr st' ⟨acc, a, own, ft, lx, ser, ex, hQ, ha, hm, hne, rfl, hown, rfl⟩
  cases m with
  | zero => exact hQ.elim
  | succ m =>
    have hend : (AV.slice 4 (encPds acc) own).strip2 = encSl true 4 (encPds acc) := by
      cases acc with
      | nil => exact absurd rfl hne
      | cons x acc => rfl
    simp only [spProcs] at hQ
    by_cases h1 : (a : Int) < (l.length : Int)
    · rw [if_pos (by omega)] at hQ
      cases h2 : (wordOf (tokAt l a) == wFunction) with
      | true =>
        simp only [h2, Bool.true_or, if_true] at hQ
        unfold wFunction at h2
        simp only [b67l0, go_sem, ↓reduceIte, reduceCtorEq, Nat.reduceLT, Nat.reduceLeDiff, Nat.reduceAdd, Nat.reduceMul, Nat.reduceSub, Nat.reduceEqDiff, Nat.reduceBEq, Int.reduceToNat, Int.reduceLE, Int.reduceLT, V_cells hid, List.length_map, h1, word_yes hid hl ha hT h2 (by decide)]
        refine name_ok hid hl hT (a + 1) _ (by omega) (RK_step hQ (fun s a ha hQ => ?_) (fun a hQ => (by simp only [go_sem, ↓reduceIte, reduceCtorEq, Nat.reduceLT, Nat.reduceLeDiff, Nat.reduceAdd, Nat.reduceMul, Nat.reduceSub, Nat.reduceEqDiff, Nat.reduceBEq, Int.reduceToNat, Int.reduceLE, Int.reduceLT, V_size, V_trunc]; exact hQ)))
        simp only [go_sem, ↓reduceIte, reduceCtorEq, Nat.reduceLT, Nat.reduceLeDiff, Nat.reduceAdd, Nat.reduceMul, Nat.reduceSub, Nat.reduceEqDiff, Nat.reduceBEq, Int.reduceToNat, Int.reduceLE, Int.reduceLT]
        refine params_ok hid hl hT n hn a _ ha (RK_step hQ (fun p a ha hQ => ?_) (fun a hQ => (by simp only [go_sem, ↓reduceIte, reduceCtorEq, Nat.reduceLT, Nat.reduceLeDiff, Nat.reduceAdd, Nat.reduceMul, Nat.reduceSub, Nat.reduceEqDiff, Nat.reduceBEq, Int.reduceToNat, Int.reduceLE, Int.reduceLT, V_size, V_trunc]; exact hQ)))
        simp only [go_sem, ↓reduceIte, reduceCtorEq, Nat.reduceLT, Nat.reduceLeDiff, Nat.reduceAdd, Nat.reduceMul, Nat.reduceSub, Nat.reduceEqDiff, Nat.reduceBEq, Int.reduceToNat, Int.reduceLE, Int.reduceLT]
        refine end_ok hid hl a _ ha (RK_step hQ (fun u a ha hQ => ?_) (fun a hQ => (by simp only [go_sem, ↓reduceIte, reduceCtorEq, Nat.reduceLT, Nat.reduceLeDiff, Nat.reduceAdd, Nat.reduceMul, Nat.reduceSub, Nat.reduceEqDiff, Nat.reduceBEq, Int.reduceToNat, Int.reduceLE, Int.reduceLT, V_size, V_trunc]; exact hQ)))
        simp only [go_sem, ↓reduceIte, reduceCtorEq, Nat.reduceLT, Nat.reduceLeDiff, Nat.reduceAdd, Nat.reduceMul, Nat.reduceSub, Nat.reduceEqDiff, Nat.reduceBEq, Int.reduceToNat, Int.reduceLE, Int.reduceLT]
        refine hb a _ ha (RK_step hQ (fun b a' ha' hQ => ?_) (fun a hQ => (by simp only [go_sem, ↓reduceIte, reduceCtorEq, Nat.reduceLT, Nat.reduceLeDiff, Nat.reduceAdd, Nat.reduceMul, Nat.reduceSub, Nat.reduceEqDiff, Nat.reduceBEq, Int.reduceToNat, Int.reduceLE, Int.reduceLT, V_size, V_trunc]; exact hQ)))
        have hb : (acc.length + 1) * 96 ≤ 1099511627776 := by omega
        have hne2 : ¬ encPds acc = [] := by cases acc with | nil => exact absurd rfl hne | cons => simp [encPds]
        rcases hown with ⟨rfl, rfl⟩ | ⟨rfl, rfl⟩
        · simp only [go_sem, ↓reduceIte, reduceCtorEq, Nat.reduceLT, Nat.reduceLeDiff, Nat.reduceAdd, Nat.reduceMul, Nat.reduceSub, Nat.reduceEqDiff, Nat.reduceBEq, Int.reduceToNat, Int.reduceLE, Int.reduceLT, aappend, grow, elsOf, encPds_length, hb, List.isEmpty_cons]
          exact ⟨m, Nat.lt_succ_self m, acc ++ [⟨s, true, true, p, true, b⟩], a', .ftok 0, [acc.length + 1], _, _, [], hQ, ha', by simp; omega, by simp, rfl, .inr ⟨rfl, by simp⟩, by rw [← encPds_snoc]; rfl⟩
        · simp only [go_sem, ↓reduceIte, reduceCtorEq, Nat.reduceLT, Nat.reduceLeDiff, Nat.reduceAdd, Nat.reduceMul, Nat.reduceSub, Nat.reduceEqDiff, Nat.reduceBEq, Int.reduceToNat, Int.reduceLE, Int.reduceLT, aappend, grow, elsOf, encPds_length, hb, hne2, List.isEmpty_cons, ne_eq, not_false_eq_true, and_self]
          exact ⟨m, Nat.lt_succ_self m, acc ++ [⟨s, true, true, p, true, b⟩], a', .ftok 0, [acc.length + 1], _, _, [], hQ, ha', by simp; omega, by simp, rfl, .inr ⟨rfl, by simp⟩, by rw [← encPds_snoc]; rfl⟩
      | false =>
        simp only [h2, Bool.false_or] at hQ
        unfold wFunction at h2
        cases h3 : (wordOf (tokAt l a) == wProcedure) with
        | true =>
          simp only [h3, if_true] at hQ
          unfold wProcedure at h3
          simp only [b67l0, go_sem, ↓reduceIte, reduceCtorEq, Nat.reduceLT, Nat.reduceLeDiff, Nat.reduceAdd, Nat.reduceMul, Nat.reduceSub, Nat.reduceEqDiff, Nat.reduceBEq, Int.reduceToNat, Int.reduceLE, Int.reduceLT, V_cells hid, List.length_map, h1, word_no hid hl ha hT h2, wantWord_yes hid hl ha hT h3 (by decide)]
          refine name_ok hid hl hT (a + 1) _ (by omega) (RK_step hQ (fun s a ha hQ => ?_) (fun a hQ => (by simp only [go_sem, ↓reduceIte, reduceCtorEq, Nat.reduceLT, Nat.reduceLeDiff, Nat.reduceAdd, Nat.reduceMul, Nat.reduceSub, Nat.reduceEqDiff, Nat.reduceBEq, Int.reduceToNat, Int.reduceLE, Int.reduceLT, V_size, V_trunc]; exact hQ)))
          simp only [go_sem, ↓reduceIte, reduceCtorEq, Nat.reduceLT, Nat.reduceLeDiff, Nat.reduceAdd, Nat.reduceMul, Nat.reduceSub, Nat.reduceEqDiff, Nat.reduceBEq, Int.reduceToNat, Int.reduceLE, Int.reduceLT]
          refine params_ok hid hl hT n hn a _ ha (RK_step hQ (fun p a ha hQ => ?_) (fun a hQ => (by simp only [go_sem, ↓reduceIte, reduceCtorEq, Nat.reduceLT, Nat.reduceLeDiff, Nat.reduceAdd, Nat.reduceMul, Nat.reduceSub, Nat.reduceEqDiff, Nat.reduceBEq, Int.reduceToNat, Int.reduceLE, Int.reduceLT, V_size, V_trunc]; exact hQ)))
          simp only [go_sem, ↓reduceIte, reduceCtorEq, Nat.reduceLT, Nat.reduceLeDiff, Nat.reduceAdd, Nat.reduceMul, Nat.reduceSub, Nat.reduceEqDiff, Nat.reduceBEq, Int.reduceToNat, Int.reduceLE, Int.reduceLT]
          refine end_ok hid hl a _ ha (RK_step hQ (fun u a ha hQ => ?_) (fun a hQ => (by simp only [go_sem, ↓reduceIte, reduceCtorEq, Nat.reduceLT, Nat.reduceLeDiff, Nat.reduceAdd, Nat.reduceMul, Nat.reduceSub, Nat.reduceEqDiff, Nat.reduceBEq, Int.reduceToNat, Int.reduceLE, Int.reduceLT, V_size, V_trunc]; exact hQ)))
          simp only [go_sem, ↓reduceIte, reduceCtorEq, Nat.reduceLT, Nat.reduceLeDiff, Nat.reduceAdd, Nat.reduceMul, Nat.reduceSub, Nat.reduceEqDiff, Nat.reduceBEq, Int.reduceToNat, Int.reduceLE, Int.reduceLT]
          refine hb a _ ha (RK_step hQ (fun b a' ha' hQ => ?_) (fun a hQ => (by simp only [go_sem, ↓reduceIte, reduceCtorEq, Nat.reduceLT, Nat.reduceLeDiff, Nat.reduceAdd, Nat.reduceMul, Nat.reduceSub, Nat.reduceEqDiff, Nat.reduceBEq, Int.reduceToNat, Int.reduceLE, Int.reduceLT, V_size, V_trunc]; exact hQ)))
          have hb : (acc.length + 1) * 96 ≤ 1099511627776 := by omega
          have hne2 : ¬ encPds acc = [] := by cases acc with | nil => exact absurd rfl hne | cons => simp [encPds]
          rcases hown with ⟨rfl, rfl⟩ | ⟨rfl, rfl⟩
          · simp only [go_sem, ↓reduceIte, reduceCtorEq, Nat.reduceLT, Nat.reduceLeDiff, Nat.reduceAdd, Nat.reduceMul, Nat.reduceSub, Nat.reduceEqDiff, Nat.reduceBEq, Int.reduceToNat, Int.reduceLE, Int.reduceLT, aappend, grow, elsOf, encPds_length, hb, List.isEmpty_cons]
            exact ⟨m, Nat.lt_succ_self m, acc ++ [⟨s, false, true, p, true, b⟩], a', .ftok 0, [acc.length + 1], _, _, [], hQ, ha', by simp; omega, by simp, rfl, .inr ⟨rfl, by simp⟩, by rw [← encPds_snoc]; rfl⟩
          · simp only [go_sem, ↓reduceIte, reduceCtorEq, Nat.reduceLT, Nat.reduceLeDiff, Nat.reduceAdd, Nat.reduceMul, Nat.reduceSub, Nat.reduceEqDiff, Nat.reduceBEq, Int.reduceToNat, Int.reduceLE, Int.reduceLT, aappend, grow, elsOf, encPds_length, hb, hne2, List.isEmpty_cons, ne_eq, not_false_eq_true, and_self]
            exact ⟨m, Nat.lt_succ_self m, acc ++ [⟨s, false, true, p, true, b⟩], a', .ftok 0, [acc.length + 1], _, _, [], hQ, ha', by simp; omega, by simp, rfl, .inr ⟨rfl, by simp⟩, by rw [← encPds_snoc]; rfl⟩
        | false =>
          simp only [h3, Bool.false_eq_true, if_false] at hQ
          unfold wProcedure at h3
          simp only [b67l0, go_sem, ↓reduceIte, reduceCtorEq, Nat.reduceLT, Nat.reduceLeDiff, Nat.reduceAdd, Nat.reduceMul, Nat.reduceSub, Nat.reduceEqDiff, Nat.reduceBEq, Int.reduceToNat, Int.reduceLE, Int.reduceLT, V_cells hid, List.length_map, h1, word_no hid hl ha hT h2, wantWord_no hid hl ha hT h3, V_size, V_trunc]
          exact hQ
    · rw [if_neg (by omega)] at hQ
      simp only [b67l0, go_sem, ↓reduceIte, reduceCtorEq, Nat.reduceLT, Nat.reduceLeDiff, Nat.reduceAdd, Nat.reduceMul, Nat.reduceSub, Nat.reduceEqDiff, Nat.reduceBEq, Int.reduceToNat, Int.reduceLE, Int.reduceLT, V_cells hid, List.length_map, h1, V_size, V_trunc, hend]
      exact RK_ok hQ ha
end
end Go.Proofs.YtelpkgbghhpgaaaGreatDoor.Sx
end
