/- TreeExprSames returns true for all expressions whose data are not larger than a bound. val.Val at digits. Dates of tokens: val.Unstamp. The program's reader of expressions: the whole. -/
import Derived.Test.YtelpkgbghhpgaaaGreatDoorK20
set_option linter.all false
section
/- val.Val at digits. -/
set_option maxRecDepth 100000
namespace Go.Proofs.YtelpkgbghhpgaaaGreatDoor.Sx
section
variable {st : St} {Q : Res → St → Prop}

theorem trimLeftByte_eq (s : List UInt8) (b : UInt8) (h0 : s[0]? = some b) (hb : 48 ≤ b.toNat) : CallA S 256 [.str s, .int .u8 32] st Q = Q (.ret (.str s)) st := by
  refine callA_eq (fun Q hQ => ?_) Q
  refine callA_body (by rfl) (by rfl) rfl ?_
  have g1 : (s.length : Int) > 0 := by
    have := (List.getElem?_eq_some_iff.1 h0).1
    omega
  have g2 : ((b.toNat : Int) == 32) = false := by simp; omega
  simp only [b256, go_sem, ↓reduceIte, reduceCtorEq, Nat.reduceLT, Nat.reduceLeDiff, Nat.reduceAdd, Nat.reduceMul, Nat.reduceSub, Nat.reduceEqDiff, Nat.reduceBEq, Int.reduceToNat, Int.reduceLE, Int.reduceLT]
  refine wp_unroll 1 ?_
  rw [WpL_succ]
  simp only [b256l0, go_sem, ↓reduceIte, reduceCtorEq, Nat.reduceLT, Nat.reduceLeDiff, Nat.reduceAdd, Nat.reduceMul, Nat.reduceSub, Nat.reduceEqDiff, Nat.reduceBEq, Int.reduceToNat, Int.reduceLE, Int.reduceLT, h0, g1, g2, loopN_exit, trunc_self]
  exact hQ

theorem trimLeft_eq (s : List UInt8) (b : UInt8) (h0 : s[0]? = some b) (hb : 48 ≤ b.toNat) : CallA S 271 [.str s, .str [32]] st Q = Q (.ret (.str s)) st := by
  refine callA_eq (fun Q hQ => ?_) Q
  refine callA_body (by rfl) (by rfl) rfl ?_
  have g1 : (s == []) = false := by cases s with | nil => simp at h0 | cons => rfl
  have g2 : ((([32] : List UInt8).length : Int) == 1) = true := by decide
  have g3 : ([32] : List UInt8)[0]? = some 32 := rfl
  have g4 : (((32 : UInt8).toNat : Int)) = 32 := by decide
  have g5 : (([32] : List UInt8) == []) = false := rfl
  have g6 : ((32 : Int) < 128) := by decide
  simp only [b271, go_sem, ↓reduceIte, reduceCtorEq, Nat.reduceLT, Nat.reduceLeDiff, Nat.reduceAdd, Nat.reduceMul, Nat.reduceSub, Nat.reduceEqDiff, Nat.reduceBEq, Int.reduceToNat, Int.reduceLE, Int.reduceLT, g1, g2, g3, g4, g5, g6, trimLeftByte_eq s b h0 hb, trunc_self]
  rw [if_pos (by rfl)]
  exact hQ

theorem val_eq (s : List UInt8) (h1 : s ≠ []) (h2 : s.length ≤ 8) (h3 : ∀ c ∈ s, isDig c = true) : CallA S 243 [.str s] st Q = Q (.ret (.int .i64 (numOf s))) st := by
  refine callA_eq (fun Q hQ => ?_) Q
  refine callA_body (by rfl) (by rfl) rfl ?_
  obtain ⟨b, h0⟩ : ∃ b, s[0]? = some b := by cases s with | nil => exact absurd rfl h1 | cons b t => exact ⟨b, rfl⟩
  have hb := isDig_iff.1 (h3 b (List.mem_of_getElem? h0))
  have g1 : (s == []) = false := by cases s with | nil => simp at h0 | cons => rfl
  have g4 : ((b.toNat : Int) == 45) = false := by simp; omega
  have g5 : ((b.toNat : Int) == 43) = false := by simp; omega
  simp only [b243, go_sem, ↓reduceIte, reduceCtorEq, Nat.reduceLT, Nat.reduceLeDiff, Nat.reduceAdd, Nat.reduceMul, Nat.reduceSub, Nat.reduceEqDiff, Nat.reduceBEq, Int.reduceToNat, Int.reduceLE, Int.reduceLT, h0, g1, g4, g5, trimLeft_eq s b h0 hb.1]
  refine wp_loop (fun n fr st' => st' = st ∧ ∃ (i ser : Nat), n + i = s.length ∧
    fr = ⟨[(0, .str s), (3, .int .i64 1), (4, .int .i64 (numOf (s.take i))), (26, .int .i64 (s.length : Int)), (27, .int .i64 (i : Int))], [], [], ser⟩) s.length ⟨rfl, 0, _, rfl, by rw [List.take_zero]; rfl⟩ ?_
  rintro n fr st' ⟨rfl, i, ser, hn, rfl⟩
  by_cases h : (i : Int) < (s.length : Int)
  · have hi : i < s.length := by omega
    have hd := isDig_iff.1 (h3 _ (List.getElem_mem hi))
    have hg : s[i]? = some s[i] := List.getElem?_eq_getElem hi
    obtain ⟨n1, n2⟩ := numOf_bound h3 i (by omega)
    have hp : (10 : Int) ^ i ≤ 10000000 := by
      have : (10 : Int) ^ i ≤ 10 ^ 7 := by exact_mod_cast Nat.pow_le_pow_right (by omega) (show i ≤ 7 by omega)
      exact this
    have e1 : IntKind.u8.wrap ((s[i].toNat : Int) - 48) = (s[i].toNat : Int) - 48 := wrap_u8 _ (by omega) (by omega)
    have e2 : ¬ ((s[i].toNat : Int) < 48) := by omega
    have e2' : ¬ ((s[i].toNat : Int) > 57) := by omega
    have e3 : IntKind.i64.wrap (numOf (s.take i) * 10) = numOf (s.take i) * 10 := wrap_int _ (by omega) (by omega)
    have e4 : IntKind.i64.wrap ((s[i].toNat : Int) - 48) = (s[i].toNat : Int) - 48 := wrap_int _ (by omega) (by omega)
    have e5 : IntKind.i64.wrap (numOf (s.take i) * 10 + ((s[i].toNat : Int) - 48)) = numOf (s.take (i + 1)) := by
      rw [numOf_take hi]; exact wrap_int _ (by omega) (by omega)
    have e6 : ¬ (1000000000000000 < numOf (s.take (i + 1))) := by rw [numOf_take hi]; omega
    simp only [b243l0, go_sem, ↓reduceIte, reduceCtorEq, Nat.reduceLT, Nat.reduceLeDiff, Nat.reduceAdd, Nat.reduceMul, Nat.reduceSub, Nat.reduceEqDiff, Nat.reduceBEq, Int.reduceToNat, Int.reduceLE, Int.reduceLT, h, hg, e1, e2, e2', e3, e4, e5, e6, wrap_one i (by omega)]
    exact ⟨n - 1, by omega, i + 1, _, by omega, rfl⟩
  · have e : s.take i = s := List.take_of_length_le (by omega)
    obtain ⟨n1, n2⟩ := numOf_bound h3 s.length (Nat.le_refl _)
    rw [List.take_length] at n1 n2
    have hp : (10 : Int) ^ s.length ≤ 100000000 := by
      have : (10 : Int) ^ s.length ≤ 10 ^ 8 := by exact_mod_cast Nat.pow_le_pow_right (by omega) h2
      exact this
    have e1 : IntKind.i64.wrap (1 * numOf s) = numOf s := by rw [Int.one_mul]; exact wrap_int _ (by omega) (by omega)
    simp only [b243l0, go_sem, ↓reduceIte, reduceCtorEq, Nat.reduceLT, Nat.reduceLeDiff, Nat.reduceAdd, Nat.reduceMul, Nat.reduceSub, Nat.reduceEqDiff, Nat.reduceBEq, Int.reduceToNat, Int.reduceLE, Int.reduceLT, h, e, e1, trunc_self]
    exact hQ
end
end Go.Proofs.YtelpkgbghhpgaaaGreatDoor.Sx
end
section
/- Dates of tokens: val.Unstamp. -/
set_option maxRecDepth 100000
namespace Go.Proofs.YtelpkgbghhpgaaaGreatDoor.Sx
def digitSet : List UInt8 := [48, 49, 50, 51, 52, 53, 54, 55, 56, 57]
theorem digitSet_contains (b : UInt8) : digitSet.contains b = isDig b := by
  have := byte_all (p := fun b => digitSet.contains b == isDig b) (by decide +kernel) b
  exact eq_of_beq this
theorem trim_digits (s : List UInt8) : (trimA s digitSet == []) = s.all isDig := by
  have h := trimA_nil s digitSet
  simp only [digitSet_contains] at h
  cases ha : s.all isDig with
  | true =>
    rw [h.2 (List.all_eq_true.1 ha)]; rfl
  | false =>
    simp only [beq_eq_false_iff_ne, ne_eq]
    intro e
    have := List.all_eq_true.2 (h.1 e)
    rw [ha] at this; cases this

section
variable {st : St} {Q : Res → St → Prop}
theorem unstamp_eq (s : List UInt8) (h : s.length < 65536) : CallA S 209 [.str s] st Q = Q (.ret (.tuple [.int .i64 (dayOf s), .bool (s == blanks8 || dayOk s)])) st := by
  refine callA_eq (fun Q hQ => ?_) Q
  refine callA_body (by rfl) (by rfl) rfl ?_
  cases c1 : (s == [32, 32, 32, 32, 32, 32, 32, 32]) with
  | true =>
    have e := eq_of_beq c1
    subst e
    have e1 : dayOf [32, 32, 32, 32, 32, 32, 32, 32] = 0 := by rfl
    have e2 : (([32, 32, 32, 32, 32, 32, 32, 32] : List UInt8) == blanks8) = true := by rfl
    rw [e1, e2, Bool.true_or] at hQ
    simp only [b209, go_sem, ↓reduceIte, reduceCtorEq, Nat.reduceLT, Nat.reduceLeDiff, Nat.reduceAdd, Nat.reduceMul, Nat.reduceSub, Nat.reduceEqDiff, Nat.reduceBEq, Int.reduceToNat, Int.reduceLE, Int.reduceLT, c1, trunc_self]
    exact hQ
  | false =>
    rw [show (s == blanks8) = false from c1, Bool.false_or] at hQ
    by_cases c2 : s.length = 8
    · have c2' : ((s.length : Int) != 8) = false := by simp [c2]
      have ht : ∀ (st : St) (Q : Res → St → Prop), CallA S 227 [.str s, .str [48, 49, 50, 51, 52, 53, 54, 55, 56, 57]] st Q = Q (.ret (.str (trimA s digitSet))) st :=
        fun st Q => trim_eq s digitSet (by omega) (by decide) (by decide)
      cases c3 : s.all isDig with
      | false =>
        have c3' : (trimA s digitSet == []) = false := by rw [trim_digits, c3]
        have e1 : dayOf s = 0 := by simp [dayOf, c3]
        have e2 : dayOk s = false := by simp [dayOk, c3]
        rw [e1, e2] at hQ
        simp only [b209, go_sem, ↓reduceIte, reduceCtorEq, Nat.reduceLT, Nat.reduceLeDiff, Nat.reduceAdd, Nat.reduceMul, Nat.reduceSub, Nat.reduceEqDiff, Nat.reduceBEq, Int.reduceToNat, Int.reduceLE, Int.reduceLT, c1, c2', ht, c3', trunc_self]
        exact hQ
      | true =>
        have c3' : (trimA s digitSet == []) = true := by rw [trim_digits, c3]
        have hd : ∀ c ∈ s, isDig c = true := List.all_eq_true.1 c3
        have f4 : (4 : Int) ≤ (s.length : Int) := by omega
        have f6 : (6 : Int) ≤ (s.length : Int) := by omega
        have hs2 : (s.take 6).drop 4 = (s.drop 4).take 2 := by rw [List.drop_take]
        have key : ∀ t : List UInt8, t ≠ [] → t.length ≤ 4 → (∀ c ∈ t, c ∈ s) → (∀ (st : St) (Q : Res → St → Prop), CallA S 243 [.str t] st Q = Q (.ret (.int .i64 (numOf t))) st) ∧ 0 ≤ numOf t ∧ numOf t < 100000 := by
          intro t h1 h2 h3
          have hdt : ∀ c ∈ t, isDig c = true := fun c hc => hd c (h3 c hc)
          refine ⟨fun st Q => val_eq t h1 (by omega) hdt, ?_⟩
          obtain ⟨n1, n2⟩ := numOf_bound hdt t.length (Nat.le_refl _)
          rw [List.take_length] at n1 n2
          have hp : (10 : Int) ^ t.length ≤ 10000 := by
            have : (10 : Int) ^ t.length ≤ 10 ^ 4 := by exact_mod_cast Nat.pow_le_pow_right (by omega) h2
            exact this
          omega
        have l1 : (s.take 4).length = 4 := by rw [List.length_take]; omega
        have l2 : ((s.drop 4).take 2).length = 2 := by rw [List.length_take, List.length_drop]; omega
        have l3 : (s.drop 6).length = 2 := by rw [List.length_drop]; omega
        obtain ⟨v1, y1, y2⟩ := key (s.take 4) (by intro e; rw [e] at l1; cases l1) (by omega) (fun c hc => List.mem_of_mem_take hc)
        obtain ⟨v2, m1, m2⟩ := key ((s.drop 4).take 2) (by intro e; rw [e] at l2; cases l2) (by omega) (fun c hc => List.mem_of_mem_drop (List.mem_of_mem_take hc))
        obtain ⟨v3, d1, d2⟩ := key (s.drop 6) (by intro e; rw [e] at l3; cases l3) (by omega) (fun c hc => List.mem_of_mem_drop hc)
        have hday : dayOf s = daysOf (numOf (s.take 4)) (numOf ((s.drop 4).take 2)) (numOf (s.drop 6)) := by unfold dayOf; rw [if_pos ⟨c2, c3⟩]
        have hok : dayOk s = !decide (badDay (numOf (s.take 4)) (numOf ((s.drop 4).take 2)) (numOf (s.drop 6))) := by
          unfold dayOk badDay
          rw [c3, decide_eq_true c2]; rfl
        rw [hday, hok] at hQ
        have hdays := fun (st : St) (Q : Res → St → Prop) => days_eq (st := st) (Q := Q) _ _ _ ⟨y1, y2⟩ ⟨m1, m2⟩ ⟨d1, d2⟩
        by_cases hb : badDay (numOf (s.take 4)) (numOf ((s.drop 4).take 2)) (numOf (s.drop 6))
        · simp only [hb, if_true] at hdays
          have e10 : ((1 : Int) == 0) = false := by decide
          rw [decide_eq_true hb] at hQ
          simp only [b209, go_sem, ↓reduceIte, reduceCtorEq, Nat.reduceLT, Nat.reduceLeDiff, Nat.reduceAdd, Nat.reduceMul, Nat.reduceSub, Nat.reduceEqDiff, Nat.reduceBEq, Int.reduceToNat, Int.reduceLE, Int.reduceLT, c1, c2', ht, c3', f4, f6, Int.le_refl, List.take_length, hs2, v1, v2, v3, hdays, e10, trunc_self]
          exact hQ
        · simp only [hb, if_false] at hdays
          have e10 : ((0 : Int) == 0) = true := by decide
          rw [decide_eq_false hb] at hQ
          simp only [b209, go_sem, ↓reduceIte, reduceCtorEq, Nat.reduceLT, Nat.reduceLeDiff, Nat.reduceAdd, Nat.reduceMul, Nat.reduceSub, Nat.reduceEqDiff, Nat.reduceBEq, Int.reduceToNat, Int.reduceLE, Int.reduceLT, c1, c2', ht, c3', f4, f6, Int.le_refl, List.take_length, hs2, v1, v2, v3, hdays, e10, trunc_self]
          exact hQ
    · have c2' : ((s.length : Int) != 8) = true := by simp; omega
      have e1 : dayOf s = 0 := by simp [dayOf, c2]
      have e2 : dayOk s = false := by simp [dayOk, c2]
      rw [e1, e2] at hQ
      simp only [b209, go_sem, ↓reduceIte, reduceCtorEq, Nat.reduceLT, Nat.reduceLeDiff, Nat.reduceAdd, Nat.reduceMul, Nat.reduceSub, Nat.reduceEqDiff, Nat.reduceBEq, Int.reduceToNat, Int.reduceLE, Int.reduceLT, c1, c2', trunc_self]
      exact hQ
end
end Go.Proofs.YtelpkgbghhpgaaaGreatDoor.Sx
end
section
/- The program's reader of expressions: the whole. -/
set_option maxRecDepth 100000
namespace Go.Proofs.YtelpkgbghhpgaaaGreatDoor.Sx
section
variable {st : St} {id a : Nat} {l : List Tok} {Q : Res → St → Prop} {o : HObj} {e : Nat → PR Xp}

theorem number_eq (n : Int) : CallA S 273 [.int .i64 n] st Q = Q (.ret (.agg (encX (mkC 2 n [])))) st := by
  refine callA_eq (fun Q hQ => ?_) Q
  refine callA_body (by rfl) (by rfl) rfl ?_
  simp only [b273, go_sem, ↓reduceIte, reduceCtorEq, Nat.reduceLT, Nat.reduceLeDiff, Nat.reduceAdd, Nat.reduceMul, Nat.reduceSub, Nat.reduceEqDiff, Nat.reduceBEq, Int.reduceToNat, Int.reduceLE, Int.reduceLT, trunc_self]
  exact hQ
theorem truth_eq (n : Int) : CallA S 288 [.int .i64 n] st Q = Q (.ret (.agg (encX (mkC 1 n [])))) st := by
  refine callA_eq (fun Q hQ => ?_) Q
  refine callA_body (by rfl) (by rfl) rfl ?_
  simp only [b288, go_sem, ↓reduceIte, reduceCtorEq, Nat.reduceLT, Nat.reduceLeDiff, Nat.reduceAdd, Nat.reduceMul, Nat.reduceSub, Nat.reduceEqDiff, Nat.reduceBEq, Int.reduceToNat, Int.reduceLE, Int.reduceLT, trunc_self]
  exact hQ

theorem signed_ok (hid : id < st.size) (hl : l.length < 65536) (hT : ∀ t ∈ l, TokOk t) (n : Nat) (hn : n ≤ 65536) (he : ReadsAt eX st id l 56 [.ptr id 0] e) : ReadsAt eX st id l 275 [.ptr id 0] (spSigned l e n) := by
  intro a Q ha hQ
  refine callA_body (by rfl) (by rfl) rfl ?_
  unfold spSigned at hQ
  have no := fun {s : List UInt8} (h : isS (tokAt l a) s = false) (Q : Res → St → Prop) => sign_no (Q := Q) hid hl ha h
  cases h1 : isS (tokAt l a) [38] with
  | true =>
    simp only [h1, if_true] at hQ
    simp only [b275, go_sem, ↓reduceIte, reduceCtorEq, Nat.reduceLT, Nat.reduceLeDiff, Nat.reduceAdd, Nat.reduceMul, Nat.reduceSub, Nat.reduceEqDiff, Nat.reduceBEq, Int.reduceToNat, Int.reduceLE, Int.reduceLT, ahead0 hid hl ha, isSign_eq, h1]
    refine macro_ok hid hl hT he a _ ha (PR.on_mono hQ (fun x a _ hQ ha => ?_) (fun a _ hQ => (by simp only [go_sem, ↓reduceIte, reduceCtorEq, Nat.reduceLT, Nat.reduceLeDiff, Nat.reduceAdd, Nat.reduceMul, Nat.reduceSub, Nat.reduceEqDiff, Nat.reduceBEq, Int.reduceToNat, Int.reduceLE, Int.reduceLT, V_size, V_trunc]; exact hQ)))
    simp only [go_sem, ↓reduceIte, reduceCtorEq, Nat.reduceLT, Nat.reduceLeDiff, Nat.reduceAdd, Nat.reduceMul, Nat.reduceSub, Nat.reduceEqDiff, Nat.reduceBEq, Int.reduceToNat, Int.reduceLE, Int.reduceLT, V_size, V_trunc]
    exact hQ ha
  | false =>
    simp only [h1, Bool.false_eq_true, if_false] at hQ
    cases h2 : isS (tokAt l a) [46, 84, 46] with
    | true =>
      have hlt := isS_lt h2
      simp only [h2, if_true] at hQ
      simp only [b275, go_sem, ↓reduceIte, reduceCtorEq, Nat.reduceLT, Nat.reduceLeDiff, Nat.reduceAdd, Nat.reduceMul, Nat.reduceSub, Nat.reduceEqDiff, Nat.reduceBEq, Int.reduceToNat, Int.reduceLE, Int.reduceLT, ahead0 hid hl ha, isSign_eq, h1, sign_yes hid hl ha h2, truth_eq, V_size, V_trunc]
      exact RK_ok hQ (by omega)
    | false =>
      simp only [h2, Bool.false_eq_true, if_false] at hQ
      cases h3 : isS (tokAt l a) [46, 70, 46] with
      | true =>
        have hlt := isS_lt h3
        simp only [h3, if_true] at hQ
        simp only [b275, go_sem, ↓reduceIte, reduceCtorEq, Nat.reduceLT, Nat.reduceLeDiff, Nat.reduceAdd, Nat.reduceMul, Nat.reduceSub, Nat.reduceEqDiff, Nat.reduceBEq, Int.reduceToNat, Int.reduceLE, Int.reduceLT, ahead0 hid hl ha, isSign_eq, h1, no h2, sign_yes hid hl ha h3, truth_eq, V_size, V_trunc]
        exact RK_ok hQ (by omega)
      | false =>
        simp only [h3, Bool.false_eq_true, if_false] at hQ
        cases h4 : isS (tokAt l a) [46, 78, 85, 76, 76, 46] with
        | true =>
          have hlt := isS_lt h4
          simp only [h4, if_true] at hQ
          simp only [b275, go_sem, ↓reduceIte, reduceCtorEq, Nat.reduceLT, Nat.reduceLeDiff, Nat.reduceAdd, Nat.reduceMul, Nat.reduceSub, Nat.reduceEqDiff, Nat.reduceBEq, Int.reduceToNat, Int.reduceLE, Int.reduceLT, ahead0 hid hl ha, isSign_eq, h1, no h2, no h3, sign_yes hid hl ha h4, V_size, V_trunc]
          exact RK_ok hQ (by omega)
        | false =>
          simp only [h4, Bool.false_eq_true, if_false] at hQ
          cases h5 : isS (tokAt l a) [40] with
          | true =>
            have hlt := isS_lt h5
            simp only [h5, if_true] at hQ
            simp only [b275, go_sem, ↓reduceIte, reduceCtorEq, Nat.reduceLT, Nat.reduceLeDiff, Nat.reduceAdd, Nat.reduceMul, Nat.reduceSub, Nat.reduceEqDiff, Nat.reduceBEq, Int.reduceToNat, Int.reduceLE, Int.reduceLT, ahead0 hid hl ha, isSign_eq, h1, no h2, no h3, no h4, sign_yes hid hl ha h5]
            refine he (a + 1) _ (by omega) (RK_step hQ (fun x a ha hQ => ?_) (fun a hQ => (by simp only [go_sem, ↓reduceIte, reduceCtorEq, Nat.reduceLT, Nat.reduceLeDiff, Nat.reduceAdd, Nat.reduceMul, Nat.reduceSub, Nat.reduceEqDiff, Nat.reduceBEq, Int.reduceToNat, Int.reduceLE, Int.reduceLT, V_size, V_trunc]; exact hQ)))
            simp only [go_sem, ↓reduceIte, reduceCtorEq, Nat.reduceLT, Nat.reduceLeDiff, Nat.reduceAdd, Nat.reduceMul, Nat.reduceSub, Nat.reduceEqDiff, Nat.reduceBEq, Int.reduceToNat, Int.reduceLE, Int.reduceLT]
            refine want_ok hid hl _ a _ ha (RK_step hQ (fun u a ha hQ => ?_) (fun a hQ => (by simp only [go_sem, ↓reduceIte, reduceCtorEq, Nat.reduceLT, Nat.reduceLeDiff, Nat.reduceAdd, Nat.reduceMul, Nat.reduceSub, Nat.reduceEqDiff, Nat.reduceBEq, Int.reduceToNat, Int.reduceLE, Int.reduceLT, V_size, V_trunc]; exact hQ)))
            simp only [go_sem, ↓reduceIte, reduceCtorEq, Nat.reduceLT, Nat.reduceLeDiff, Nat.reduceAdd, Nat.reduceMul, Nat.reduceSub, Nat.reduceEqDiff, Nat.reduceBEq, Int.reduceToNat, Int.reduceLE, Int.reduceLT, V_size, V_trunc]
            exact RK_ok hQ ha
          | false =>
            simp only [h5, Bool.false_eq_true, if_false] at hQ
            cases h6 : isS (tokAt l a) [64] with
            | true =>
              have hlt := isS_lt h6
              simp only [h6, if_true] at hQ
              simp only [b275, go_sem, ↓reduceIte, reduceCtorEq, Nat.reduceLT, Nat.reduceLeDiff, Nat.reduceAdd, Nat.reduceMul, Nat.reduceSub, Nat.reduceEqDiff, Nat.reduceBEq, Int.reduceToNat, Int.reduceLE, Int.reduceLT, ahead0 hid hl ha, isSign_eq, h1, no h2, no h3, no h4, no h5, sign_yes hid hl ha h6]
              refine name_ok hid hl hT (a + 1) _ (by omega) (RK_step hQ (fun s a ha hQ => ?_) (fun a hQ => (by simp only [go_sem, ↓reduceIte, reduceCtorEq, Nat.reduceLT, Nat.reduceLeDiff, Nat.reduceAdd, Nat.reduceMul, Nat.reduceSub, Nat.reduceEqDiff, Nat.reduceBEq, Int.reduceToNat, Int.reduceLE, Int.reduceLT, V_size, V_trunc]; exact hQ)))
              simp only [go_sem, ↓reduceIte, reduceCtorEq, Nat.reduceLT, Nat.reduceLeDiff, Nat.reduceAdd, Nat.reduceMul, Nat.reduceSub, Nat.reduceEqDiff, Nat.reduceBEq, Int.reduceToNat, Int.reduceLE, Int.reduceLT, V_size, V_trunc]
              exact RK_ok hQ ha
            | false =>
              simp only [h6, Bool.false_eq_true, if_false] at hQ
              cases h7 : isS (tokAt l a) [123] with
              | true =>
                have hlt := isS_lt h7
                simp only [h7, if_true] at hQ
                simp only [b275, go_sem, ↓reduceIte, reduceCtorEq, Nat.reduceLT, Nat.reduceLeDiff, Nat.reduceAdd, Nat.reduceMul, Nat.reduceSub, Nat.reduceEqDiff, Nat.reduceBEq, Int.reduceToNat, Int.reduceLE, Int.reduceLT, ahead0 hid hl ha, isSign_eq, h1, no h2, no h3, no h4, no h5, no h6, sign_yes hid hl ha h7]
                refine braced_ok hid hl hT n hn he (a + 1) _ (by omega) (PR.on_mono hQ (fun x a _ hQ ha => ?_) (fun a _ hQ => (by simp only [go_sem, ↓reduceIte, reduceCtorEq, Nat.reduceLT, Nat.reduceLeDiff, Nat.reduceAdd, Nat.reduceMul, Nat.reduceSub, Nat.reduceEqDiff, Nat.reduceBEq, Int.reduceToNat, Int.reduceLE, Int.reduceLT, V_size, V_trunc]; exact hQ)))
                simp only [go_sem, ↓reduceIte, reduceCtorEq, Nat.reduceLT, Nat.reduceLeDiff, Nat.reduceAdd, Nat.reduceMul, Nat.reduceSub, Nat.reduceEqDiff, Nat.reduceBEq, Int.reduceToNat, Int.reduceLE, Int.reduceLT, V_size, V_trunc]
                exact hQ ha
              | false =>
                simp only [h7, Bool.false_eq_true, if_false] at hQ
                simp only [b275, go_sem, ↓reduceIte, reduceCtorEq, Nat.reduceLT, Nat.reduceLeDiff, Nat.reduceAdd, Nat.reduceMul, Nat.reduceSub, Nat.reduceEqDiff, Nat.reduceBEq, Int.reduceToNat, Int.reduceLE, Int.reduceLT, ahead0 hid hl ha, isSign_eq, h1, no h2, no h3, no h4, no h5, no h6, no h7, fail_eq hid, V_size, V_trunc]
                exact RK_fail hQ

theorem prim_ok (hid : id < st.size) (hl : l.length < 65536) (hT : ∀ t ∈ l, TokOk t) (n : Nat) (hn : n ≤ 65536) (he : ReadsAt eX st id l 56 [.ptr id 0] e) : ReadsAt eX st id l 244 [.ptr id 0] (spPrim l e n) := by
  intro a Q ha hQ
  refine callA_body (by rfl) (by rfl) rfl ?_
  unfold spPrim at hQ
  have kk : ∀ m k : Int, ((m : Int) == k) = decide (m = k) := fun _ _ => rfl
  by_cases h1 : (tokAt l a).kind = 1
  · have hlt := tokAt_lt (l := l) (i := a) (by omega)
    rw [if_pos h1] at hQ
    obtain ⟨n1, n2, n3⟩ := (tokOk_at hT a).num h1
    simp only [b244, go_sem, ↓reduceIte, reduceCtorEq, Nat.reduceLT, Nat.reduceLeDiff, Nat.reduceAdd, Nat.reduceMul, Nat.reduceSub, Nat.reduceEqDiff, Nat.reduceBEq, Int.reduceToNat, Int.reduceLE, Int.reduceLT, V_cells hid, ahead0 hid hl ha, h1, wrap_one a (by omega), V_set, atoi_eq _ n1 n2 n3, number_eq, V_size, V_trunc]
    exact RK_ok hQ (by omega)
  · rw [if_neg h1] at hQ
    by_cases h2 : (tokAt l a).kind = 2
    · have hlt := tokAt_lt (l := l) (i := a) (by omega)
      rw [if_pos h2] at hQ
      have e1 : ((2 : Int) == 1) = false := rfl
      by_cases hlen : ((tokAt l a).text.length : Int) > 2048
      · rw [if_pos hlen] at hQ
        simp only [b244, go_sem, ↓reduceIte, reduceCtorEq, Nat.reduceLT, Nat.reduceLeDiff, Nat.reduceAdd, Nat.reduceMul, Nat.reduceSub, Nat.reduceEqDiff, Nat.reduceBEq, Int.reduceToNat, Int.reduceLE, Int.reduceLT, V_cells hid, ahead0 hid hl ha, h2, e1, hlen, fail_eq hid, V_size, V_trunc]
        exact RK_fail hQ
      · rw [if_neg hlen] at hQ
        simp only [b244, go_sem, ↓reduceIte, reduceCtorEq, Nat.reduceLT, Nat.reduceLeDiff, Nat.reduceAdd, Nat.reduceMul, Nat.reduceSub, Nat.reduceEqDiff, Nat.reduceBEq, Int.reduceToNat, Int.reduceLE, Int.reduceLT, V_cells hid, ahead0 hid hl ha, h2, e1, hlen, wrap_one a (by omega), V_set, V_size, V_trunc]
        exact RK_ok hQ (by omega)
    · rw [if_neg h2] at hQ
      by_cases h3 : (tokAt l a).kind = 3
      · have hlt := tokAt_lt (l := l) (i := a) (by omega)
        rw [if_pos h3] at hQ
        have e1 : ((3 : Int) == 1) = false := rfl
        have e2 : ((3 : Int) == 2) = false := rfl
        simp only [b244, go_sem, ↓reduceIte, reduceCtorEq, Nat.reduceLT, Nat.reduceLeDiff, Nat.reduceAdd, Nat.reduceMul, Nat.reduceSub, Nat.reduceEqDiff, Nat.reduceBEq, Int.reduceToNat, Int.reduceLE, Int.reduceLT, V_cells hid, ahead0 hid hl ha, h3, e1, e2, wrap_one a (by omega), V_set]
        rw [unstamp_eq _ (tokOk_at hT a).len]
        simp only [go_sem, ↓reduceIte, reduceCtorEq, Nat.reduceLT, Nat.reduceLeDiff, Nat.reduceAdd, Nat.reduceMul, Nat.reduceSub, Nat.reduceEqDiff, Nat.reduceBEq, Int.reduceToNat, Int.reduceLE, Int.reduceLT, V_size, V_trunc]
        exact RK_ok hQ (by omega)
      · rw [if_neg h3] at hQ
        by_cases h4 : (tokAt l a).kind = 0
        · rw [if_pos h4] at hQ
          have e1 : ((0 : Int) == 1) = false := rfl
          have e2 : ((0 : Int) == 2) = false := rfl
          have e3 : ((0 : Int) == 3) = false := rfl
          simp only [b244, go_sem, ↓reduceIte, reduceCtorEq, Nat.reduceLT, Nat.reduceLeDiff, Nat.reduceAdd, Nat.reduceMul, Nat.reduceSub, Nat.reduceEqDiff, Nat.reduceBEq, Int.reduceToNat, Int.reduceLE, Int.reduceLT, V_cells hid, ahead0 hid hl ha, h4, e1, e2, e3]
          refine named_ok hid hl hT n hn he a _ ha (PR.on_mono hQ (fun x a _ hQ ha => ?_) (fun a _ hQ => (by simp only [go_sem, ↓reduceIte, reduceCtorEq, Nat.reduceLT, Nat.reduceLeDiff, Nat.reduceAdd, Nat.reduceMul, Nat.reduceSub, Nat.reduceEqDiff, Nat.reduceBEq, Int.reduceToNat, Int.reduceLE, Int.reduceLT, V_size, V_trunc]; exact hQ)))
          simp only [go_sem, ↓reduceIte, reduceCtorEq, Nat.reduceLT, Nat.reduceLeDiff, Nat.reduceAdd, Nat.reduceMul, Nat.reduceSub, Nat.reduceEqDiff, Nat.reduceBEq, Int.reduceToNat, Int.reduceLE, Int.reduceLT, V_size, V_trunc]
          exact hQ ha
        · rw [if_neg h4] at hQ
          have e1 : ((tokAt l a).kind == 1) = false := by simp [h1]
          have e2 : ((tokAt l a).kind == 2) = false := by simp [h2]
          have e3 : ((tokAt l a).kind == 3) = false := by simp [h3]
          have e4 : ((tokAt l a).kind == 0) = false := by simp [h4]
          simp only [b244, go_sem, ↓reduceIte, reduceCtorEq, Nat.reduceLT, Nat.reduceLeDiff, Nat.reduceAdd, Nat.reduceMul, Nat.reduceSub, Nat.reduceEqDiff, Nat.reduceBEq, Int.reduceToNat, Int.reduceLE, Int.reduceLT, V_cells hid, ahead0 hid hl ha, e1, e2, e3, e4]
          refine signed_ok hid hl hT n hn he a _ ha (PR.on_mono hQ (fun x a _ hQ ha => ?_) (fun a _ hQ => (by simp only [go_sem, ↓reduceIte, reduceCtorEq, Nat.reduceLT, Nat.reduceLeDiff, Nat.reduceAdd, Nat.reduceMul, Nat.reduceSub, Nat.reduceEqDiff, Nat.reduceBEq, Int.reduceToNat, Int.reduceLE, Int.reduceLT, V_size, V_trunc]; exact hQ)))
          simp only [go_sem, ↓reduceIte, reduceCtorEq, Nat.reduceLT, Nat.reduceLeDiff, Nat.reduceAdd, Nat.reduceMul, Nat.reduceSub, Nat.reduceEqDiff, Nat.reduceBEq, Int.reduceToNat, Int.reduceLE, Int.reduceLT, V_size, V_trunc]
          exact hQ ha
end
end Go.Proofs.YtelpkgbghhpgaaaGreatDoor.Sx
end
