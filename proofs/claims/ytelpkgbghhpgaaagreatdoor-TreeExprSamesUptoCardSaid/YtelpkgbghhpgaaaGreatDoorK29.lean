/- TreeExprSames returns true for all expressions whose data are not larger than a bound. When expressions are equal: the program's and the document's functions. known(): what the two readings come to. known() is true. TreeExprSames: the law's run. TreeExprSames: the row's contract, but for the soundness of the functions that are no plain code. -/
import Derived.Test.YtelpkgbghhpgaaaGreatDoorK11
import Derived.Test.YtelpkgbghhpgaaaGreatDoorK17
import Derived.Test.YtelpkgbghhpgaaaGreatDoorK26
import Derived.Test.YtelpkgbghhpgaaaGreatDoorK28
import Derived.KernelRfl
import Derived.OpenShut
import Derived.Test.YtelpkgbghhpgaaaGreatDoorProg
import Derived.Test.YtelpkgbghhpgaaaGreatDoorRows
set_option linter.all false
section
/- When expressions are equal: the program's and the document's functions. -/
set_option maxRecDepth 100000
namespace Go.Proofs.YtelpkgbghhpgaaaGreatDoor.Sx
section
variable {st : St} {Q : Res → St → Prop}

theorem eqFuncX_of (n1 n2 : Bool) (l m : List Xp) (hl : l.length < most) (f : Nat) (hf : ∀ (i : Nat) (h : i < l.length) (y : Xp) (st : St) (Q : Res → St → Prop), CallA S f [.agg (encX l[i]), .agg (encX y)] st Q = Q (.ret (.bool (sameX l[i] y))) st) :
    CallA S 77 [encSl n1 7 (encXs l), encSl n2 7 (encXs m), .func (.func f) [] []] st Q = Q (.ret (.bool (sameXs l m))) st := by
  refine callA_eq (fun Q hQ => ?_) Q
  refine callA_body (by rfl) (by rfl) rfl ?_
  unfold most at hl
  by_cases h0 : (l.length : Int) = (m.length : Int)
  · have h0' : l.length = m.length := by omega
    have hb : ((l.length : Int) != (m.length : Int)) = false := by simp [h0']
    simp only [b77, go_sem, ↓reduceIte, reduceCtorEq, Nat.reduceLT, Nat.reduceLeDiff, Nat.reduceAdd, Nat.reduceMul, Nat.reduceSub, Nat.reduceEqDiff, Nat.reduceBEq, Int.reduceToNat, Int.reduceLE, Int.reduceLT, encXs_length, hb]
    refine wp_loop (fun n fr st' => st' = st ∧ ∃ (i : Nat) (ser : Nat) (lx : List (Nat × List AV)), n + i = l.length ∧ sameXs l m = sameXs (l.drop i) (m.drop i) ∧
      ((lx = [(0, []), (0, [])]) ∨ ∃ a b c d, lx = [(a, b), (c, d)]) ∧
      fr = ⟨[(1, encSl n2 7 (encXs m)), (2, .func (.func f) [] []), (15, encSl n1 7 (encXs l)), (16, .int .i64 (l.length : Int)), (17, .int .i64 (i : Int))], lx, [], ser⟩) l.length ⟨rfl, 0, _, _, rfl, rfl, .inl rfl, rfl⟩ ?_
    rintro n fr st' ⟨rfl, i, ser, lx, hn, hsz, hlx, rfl⟩
    have hlx : ∃ a b c d, lx = [(a, b), (c, d)] := by
      rcases hlx with rfl | h
      · exact ⟨_, _, _, _, rfl⟩
      · exact h
    obtain ⟨x1, x2, x3, x4, rfl⟩ := hlx
    by_cases h : (i : Int) < (l.length : Int)
    · have hi : i < l.length := by omega
      have hi2 : i < m.length := by omega
      rw [sameXs_drop hi hi2] at hsz
      cases hc : sameX l[i] m[i] with
      | true =>
        simp only [hc, Bool.true_and] at hsz
        simp only [b77l0, go_sem, ↓reduceIte, reduceCtorEq, Nat.reduceLT, Nat.reduceLeDiff, Nat.reduceAdd, Nat.reduceMul, Nat.reduceSub, Nat.reduceEqDiff, Nat.reduceBEq, Int.reduceToNat, Int.reduceLE, Int.reduceLT, h, el_X n1 l hi, el_X n2 m hi2, hf i hi, hc, wrap_one i (by omega)]
        exact ⟨n - 1, by omega, i + 1, _, _, by omega, hsz, .inr ⟨_, _, _, _, rfl⟩, rfl⟩
      | false =>
        simp only [hc, Bool.false_and] at hsz
        rw [hsz] at hQ
        simp only [b77l0, go_sem, ↓reduceIte, reduceCtorEq, Nat.reduceLT, Nat.reduceLeDiff, Nat.reduceAdd, Nat.reduceMul, Nat.reduceSub, Nat.reduceEqDiff, Nat.reduceBEq, Int.reduceToNat, Int.reduceLE, Int.reduceLT, h, el_X n1 l hi, el_X n2 m hi2, hf i hi, hc, trunc_self]
        exact hQ
    · rw [List.drop_of_length_le (by omega), List.drop_of_length_le (by omega)] at hsz
      rw [hsz] at hQ
      simp only [b77l0, go_sem, ↓reduceIte, reduceCtorEq, Nat.reduceLT, Nat.reduceLeDiff, Nat.reduceAdd, Nat.reduceMul, Nat.reduceSub, Nat.reduceEqDiff, Nat.reduceBEq, Int.reduceToNat, Int.reduceLE, Int.reduceLT, h, trunc_self]
      exact hQ
  · have hb := bne_iff_ne.2 h0
    have he : sameXs l m = false := by
      cases h : sameXs l m with
      | false => rfl
      | true => exact absurd (by rw [sameXs_len h]) h0
    rw [he] at hQ
    simp only [b77, go_sem, ↓reduceIte, reduceCtorEq, Nat.reduceLT, Nat.reduceLeDiff, Nat.reduceAdd, Nat.reduceMul, Nat.reduceSub, Nat.reduceEqDiff, Nat.reduceBEq, Int.reduceToNat, Int.reduceLE, Int.reduceLT, encXs_length, hb, trunc_self]
    exact hQ

theorem rSameExprs_of (n1 n2 : Bool) (l m : List Xp) (hl : l.length < most) (hf : ∀ (i : Nat) (h : i < l.length) (y : Xp) (st : St) (Q : Res → St → Prop), CallA S 11 [.agg (encX l[i]), .agg (encX y)] st Q = Q (.ret (.bool (sameX l[i] y))) st) :
    CallA S 33 [encSl n1 7 (encXs l), encSl n2 7 (encXs m)] st Q = Q (.ret (.bool (sameXs l m))) st := by
  refine callA_eq (fun Q hQ => ?_) Q
  refine callA_body (by rfl) (by rfl) rfl ?_
  unfold most at hl
  by_cases h0 : (l.length : Int) = (m.length : Int)
  · have h0' : l.length = m.length := by omega
    have hb : ((l.length : Int) != (m.length : Int)) = false := by simp [h0']
    simp only [b33, go_sem, ↓reduceIte, reduceCtorEq, Nat.reduceLT, Nat.reduceLeDiff, Nat.reduceAdd, Nat.reduceMul, Nat.reduceSub, Nat.reduceEqDiff, Nat.reduceBEq, Int.reduceToNat, Int.reduceLE, Int.reduceLT, encXs_length, hb]
    refine wp_loop (fun n fr st' => st' = st ∧ ∃ (i : Nat) (ser : Nat), n + i = l.length ∧ sameXs l m = sameXs (l.drop i) (m.drop i) ∧
      fr = ⟨[(0, encSl n1 7 (encXs l)), (1, encSl n2 7 (encXs m)), (5, .int .i64 (i : Int))], [], [], ser⟩) l.length ⟨rfl, 0, _, rfl, rfl, rfl⟩ ?_
    rintro n fr st' ⟨rfl, i, ser, hn, hsz, rfl⟩
    by_cases h : (i : Int) < (l.length : Int)
    · have hi : i < l.length := by omega
      have hi2 : i < m.length := by omega
      rw [sameXs_drop hi hi2] at hsz
      cases hc : sameX l[i] m[i] with
      | true =>
        simp only [hc, Bool.true_and] at hsz
        simp only [b33l0, go_sem, ↓reduceIte, reduceCtorEq, Nat.reduceLT, Nat.reduceLeDiff, Nat.reduceAdd, Nat.reduceMul, Nat.reduceSub, Nat.reduceEqDiff, Nat.reduceBEq, Int.reduceToNat, Int.reduceLE, Int.reduceLT, encXs_length, h, el_X n1 l hi, el_X n2 m hi2, hf i hi, hc, wrap_one i (by omega)]
        exact ⟨n - 1, by omega, i + 1, _, by omega, hsz, rfl⟩
      | false =>
        simp only [hc, Bool.false_and] at hsz
        rw [hsz] at hQ
        simp only [b33l0, go_sem, ↓reduceIte, reduceCtorEq, Nat.reduceLT, Nat.reduceLeDiff, Nat.reduceAdd, Nat.reduceMul, Nat.reduceSub, Nat.reduceEqDiff, Nat.reduceBEq, Int.reduceToNat, Int.reduceLE, Int.reduceLT, encXs_length, h, el_X n1 l hi, el_X n2 m hi2, hf i hi, hc, trunc_self]
        exact hQ
    · rw [List.drop_of_length_le (by omega), List.drop_of_length_le (by omega)] at hsz
      rw [hsz] at hQ
      simp only [b33l0, go_sem, ↓reduceIte, reduceCtorEq, Nat.reduceLT, Nat.reduceLeDiff, Nat.reduceAdd, Nat.reduceMul, Nat.reduceSub, Nat.reduceEqDiff, Nat.reduceBEq, Int.reduceToNat, Int.reduceLE, Int.reduceLT, encXs_length, h, trunc_self]
      exact hQ
  · have hb := bne_iff_ne.2 h0
    have he : sameXs l m = false := by
      cases h : sameXs l m with
      | false => rfl
      | true => exact absurd (by rw [sameXs_len h]) h0
    rw [he] at hQ
    simp only [b33, go_sem, ↓reduceIte, reduceCtorEq, Nat.reduceLT, Nat.reduceLeDiff, Nat.reduceAdd, Nat.reduceMul, Nat.reduceSub, Nat.reduceEqDiff, Nat.reduceBEq, Int.reduceToNat, Int.reduceLE, Int.reduceLT, encXs_length, hb, trunc_self]
    exact hQ

theorem tSameExpr_eq : ∀ (x : Xp), bdX x → ∀ (y : Xp) (st : St) (Q : Res → St → Prop), CallA S 16 [.agg (encX x), .agg (encX y)] st Q = Q (.ret (.bool (sameX x y))) st
  | .mk op s vk vn vs pn p ln l, hb, .mk op2 s2 vk2 vn2 vs2 pn2 p2 ln2 l2 => by
    simp only [bdX] at hb
    obtain ⟨hp, hl, hbl⟩ := hb
    have ih : ∀ (n1 n2 : Bool) (m : List Xp) (st : St) (Q : Res → St → Prop), CallA S 43 [encSl n1 7 (encXs l), encSl n2 7 (encXs m)] st Q = Q (.ret (.bool (sameXs l m))) st := by
      intro n1 n2 m st
      refine callA_eq (fun Q hQ => ?_)
      refine callA_body (by rfl) (by rfl) rfl ?_
      simp only [b43, go_sem, ↓reduceIte, reduceCtorEq, Nat.reduceLT, Nat.reduceLeDiff, Nat.reduceAdd, Nat.reduceMul, Nat.reduceSub, Nat.reduceEqDiff, Nat.reduceBEq, Int.reduceToNat, Int.reduceLE, Int.reduceLT, fun st Q => eqFuncX_of (st := st) (Q := Q) n1 n2 l m hl 16 (fun i h => tSameExpr_eq l[i] (bdXs_mem hbl _ (List.getElem_mem h))), trunc_self]
      exact hQ
    intro st
    refine callA_eq (fun Q hQ => ?_)
    refine callA_body (by rfl) (by rfl) rfl ?_
    simp only [sameX] at hQ
    have heq : ∀ (st : St) (Q : Res → St → Prop), CallA S 42 [encSl pn 1 (p.map fun x => [.str x]), encSl pn2 1 (p2.map fun x => [.str x])] st Q = Q (.ret (.bool (p == p2))) st := fun st Q => slEqual_eq pn pn2 p p2 hp
    cases c1 : (op == op2) with
    | false =>
      simp only [c1, Bool.true_and, Bool.false_and, Bool.and_false] at hQ
      simp only [b16, go_sem, ↓reduceIte, reduceCtorEq, Nat.reduceLT, Nat.reduceLeDiff, Nat.reduceAdd, Nat.reduceMul, Nat.reduceSub, Nat.reduceEqDiff, Nat.reduceBEq, Int.reduceToNat, Int.reduceLE, Int.reduceLT, encX_mk, heq, ih, c1, trunc_self]
      exact hQ
    | true =>
    cases c2 : (s == s2) with
    | false =>
      simp only [c1, c2, Bool.true_and, Bool.false_and, Bool.and_false] at hQ
      simp only [b16, go_sem, ↓reduceIte, reduceCtorEq, Nat.reduceLT, Nat.reduceLeDiff, Nat.reduceAdd, Nat.reduceMul, Nat.reduceSub, Nat.reduceEqDiff, Nat.reduceBEq, Int.reduceToNat, Int.reduceLE, Int.reduceLT, encX_mk, heq, ih, c1, c2, trunc_self]
      exact hQ
    | true =>
    cases c3 : (vk == vk2) with
    | false =>
      simp only [c1, c2, c3, Bool.true_and, Bool.false_and, Bool.and_false] at hQ
      simp only [b16, go_sem, ↓reduceIte, reduceCtorEq, Nat.reduceLT, Nat.reduceLeDiff, Nat.reduceAdd, Nat.reduceMul, Nat.reduceSub, Nat.reduceEqDiff, Nat.reduceBEq, Int.reduceToNat, Int.reduceLE, Int.reduceLT, encX_mk, heq, ih, c1, c2, c3, trunc_self]
      exact hQ
    | true =>
    cases c4 : (vn == vn2) with
    | false =>
      simp only [c1, c2, c3, c4, Bool.true_and, Bool.false_and, Bool.and_false] at hQ
      simp only [b16, go_sem, ↓reduceIte, reduceCtorEq, Nat.reduceLT, Nat.reduceLeDiff, Nat.reduceAdd, Nat.reduceMul, Nat.reduceSub, Nat.reduceEqDiff, Nat.reduceBEq, Int.reduceToNat, Int.reduceLE, Int.reduceLT, encX_mk, heq, ih, c1, c2, c3, c4, trunc_self]
      exact hQ
    | true =>
    cases c5 : (vs == vs2) with
    | false =>
      simp only [c1, c2, c3, c4, c5, Bool.true_and, Bool.false_and, Bool.and_false] at hQ
      simp only [b16, go_sem, ↓reduceIte, reduceCtorEq, Nat.reduceLT, Nat.reduceLeDiff, Nat.reduceAdd, Nat.reduceMul, Nat.reduceSub, Nat.reduceEqDiff, Nat.reduceBEq, Int.reduceToNat, Int.reduceLE, Int.reduceLT, encX_mk, heq, ih, c1, c2, c3, c4, c5, trunc_self]
      exact hQ
    | true =>
    cases c6 : (p == p2) with
    | false =>
      simp only [c1, c2, c3, c4, c5, c6, Bool.true_and, Bool.false_and, Bool.and_false] at hQ
      simp only [b16, go_sem, ↓reduceIte, reduceCtorEq, Nat.reduceLT, Nat.reduceLeDiff, Nat.reduceAdd, Nat.reduceMul, Nat.reduceSub, Nat.reduceEqDiff, Nat.reduceBEq, Int.reduceToNat, Int.reduceLE, Int.reduceLT, encX_mk, heq, ih, c1, c2, c3, c4, c5, c6, trunc_self]
      exact hQ
    | true =>
    cases c7 : (sameXs l l2) with
    | false =>
      simp only [c1, c2, c3, c4, c5, c6, c7, Bool.true_and, Bool.false_and, Bool.and_false] at hQ
      simp only [b16, go_sem, ↓reduceIte, reduceCtorEq, Nat.reduceLT, Nat.reduceLeDiff, Nat.reduceAdd, Nat.reduceMul, Nat.reduceSub, Nat.reduceEqDiff, Nat.reduceBEq, Int.reduceToNat, Int.reduceLE, Int.reduceLT, encX_mk, heq, ih, c1, c2, c3, c4, c5, c6, c7, trunc_self]
      exact hQ
    | true =>
    simp only [c1, c2, c3, c4, c5, c6, c7, Bool.and_self] at hQ
    simp only [b16, go_sem, ↓reduceIte, reduceCtorEq, Nat.reduceLT, Nat.reduceLeDiff, Nat.reduceAdd, Nat.reduceMul, Nat.reduceSub, Nat.reduceEqDiff, Nat.reduceBEq, Int.reduceToNat, Int.reduceLE, Int.reduceLT, encX_mk, heq, ih, c1, c2, c3, c4, c5, c6, c7, trunc_self]
    exact hQ
termination_by x => SizeOf.sizeOf x
decreasing_by
  have := List.sizeOf_lt_of_mem (List.getElem_mem h)
  simp only [Xp.mk.sizeOf_spec]
  omega

theorem rSameExpr_eq : ∀ (x : Xp), bdX x → ∀ (y : Xp) (st : St) (Q : Res → St → Prop), CallA S 11 [.agg (encX x), .agg (encX y)] st Q = Q (.ret (.bool (sameX x y))) st
  | .mk op s vk vn vs pn p ln l, hb, .mk op2 s2 vk2 vn2 vs2 pn2 p2 ln2 l2 => by
    simp only [bdX] at hb
    obtain ⟨hp, hl, hbl⟩ := hb
    have ih : ∀ (n1 n2 : Bool) (m : List Xp) (st : St) (Q : Res → St → Prop), CallA S 33 [encSl n1 7 (encXs l), encSl n2 7 (encXs m)] st Q = Q (.ret (.bool (sameXs l m))) st :=
      fun n1 n2 m st Q => rSameExprs_of n1 n2 l m hl (fun i h => rSameExpr_eq l[i] (bdXs_mem hbl _ (List.getElem_mem h)))
    intro st
    refine callA_eq (fun Q hQ => ?_)
    refine callA_body (by rfl) (by rfl) rfl ?_
    simp only [sameX] at hQ
    have heq : ∀ (st : St) (Q : Res → St → Prop), CallA S 32 [encSl pn 1 (p.map fun x => [.str x]), encSl pn2 1 (p2.map fun x => [.str x])] st Q = Q (.ret (.bool (p == p2))) st := fun st Q => sameTexts6_eq pn pn2 p p2 hp
    cases c1 : (op == op2) with
    | false =>
      simp only [c1, Bool.true_and, Bool.false_and, Bool.and_false] at hQ
      simp only [b11, go_sem, ↓reduceIte, reduceCtorEq, Nat.reduceLT, Nat.reduceLeDiff, Nat.reduceAdd, Nat.reduceMul, Nat.reduceSub, Nat.reduceEqDiff, Nat.reduceBEq, Int.reduceToNat, Int.reduceLE, Int.reduceLT, encX_mk, heq, ih, c1, trunc_self]
      exact hQ
    | true =>
    cases c2 : (s == s2) with
    | false =>
      simp only [c1, c2, Bool.true_and, Bool.false_and, Bool.and_false] at hQ
      simp only [b11, go_sem, ↓reduceIte, reduceCtorEq, Nat.reduceLT, Nat.reduceLeDiff, Nat.reduceAdd, Nat.reduceMul, Nat.reduceSub, Nat.reduceEqDiff, Nat.reduceBEq, Int.reduceToNat, Int.reduceLE, Int.reduceLT, encX_mk, heq, ih, c1, c2, trunc_self]
      exact hQ
    | true =>
    cases c3 : (vk == vk2) with
    | false =>
      simp only [c1, c2, c3, Bool.true_and, Bool.false_and, Bool.and_false] at hQ
      simp only [b11, go_sem, ↓reduceIte, reduceCtorEq, Nat.reduceLT, Nat.reduceLeDiff, Nat.reduceAdd, Nat.reduceMul, Nat.reduceSub, Nat.reduceEqDiff, Nat.reduceBEq, Int.reduceToNat, Int.reduceLE, Int.reduceLT, encX_mk, heq, ih, c1, c2, c3, trunc_self]
      exact hQ
    | true =>
    cases c4 : (vn == vn2) with
    | false =>
      simp only [c1, c2, c3, c4, Bool.true_and, Bool.false_and, Bool.and_false] at hQ
      simp only [b11, go_sem, ↓reduceIte, reduceCtorEq, Nat.reduceLT, Nat.reduceLeDiff, Nat.reduceAdd, Nat.reduceMul, Nat.reduceSub, Nat.reduceEqDiff, Nat.reduceBEq, Int.reduceToNat, Int.reduceLE, Int.reduceLT, encX_mk, heq, ih, c1, c2, c3, c4, trunc_self]
      exact hQ
    | true =>
    cases c5 : (vs == vs2) with
    | false =>
      simp only [c1, c2, c3, c4, c5, Bool.true_and, Bool.false_and, Bool.and_false] at hQ
      simp only [b11, go_sem, ↓reduceIte, reduceCtorEq, Nat.reduceLT, Nat.reduceLeDiff, Nat.reduceAdd, Nat.reduceMul, Nat.reduceSub, Nat.reduceEqDiff, Nat.reduceBEq, Int.reduceToNat, Int.reduceLE, Int.reduceLT, encX_mk, heq, ih, c1, c2, c3, c4, c5, trunc_self]
      exact hQ
    | true =>
    cases c6 : (p == p2) with
    | false =>
      simp only [c1, c2, c3, c4, c5, c6, Bool.true_and, Bool.false_and, Bool.and_false] at hQ
      simp only [b11, go_sem, ↓reduceIte, reduceCtorEq, Nat.reduceLT, Nat.reduceLeDiff, Nat.reduceAdd, Nat.reduceMul, Nat.reduceSub, Nat.reduceEqDiff, Nat.reduceBEq, Int.reduceToNat, Int.reduceLE, Int.reduceLT, encX_mk, heq, ih, c1, c2, c3, c4, c5, c6, trunc_self]
      exact hQ
    | true =>
    cases c7 : (sameXs l l2) with
    | false =>
      simp only [c1, c2, c3, c4, c5, c6, c7, Bool.true_and, Bool.false_and, Bool.and_false] at hQ
      simp only [b11, go_sem, ↓reduceIte, reduceCtorEq, Nat.reduceLT, Nat.reduceLeDiff, Nat.reduceAdd, Nat.reduceMul, Nat.reduceSub, Nat.reduceEqDiff, Nat.reduceBEq, Int.reduceToNat, Int.reduceLE, Int.reduceLT, encX_mk, heq, ih, c1, c2, c3, c4, c5, c6, c7, trunc_self]
      exact hQ
    | true =>
    simp only [c1, c2, c3, c4, c5, c6, c7, Bool.and_self] at hQ
    simp only [b11, go_sem, ↓reduceIte, reduceCtorEq, Nat.reduceLT, Nat.reduceLeDiff, Nat.reduceAdd, Nat.reduceMul, Nat.reduceSub, Nat.reduceEqDiff, Nat.reduceBEq, Int.reduceToNat, Int.reduceLE, Int.reduceLT, encX_mk, heq, ih, c1, c2, c3, c4, c5, c6, c7, trunc_self]
    exact hQ
termination_by x => SizeOf.sizeOf x
decreasing_by
  have := List.sizeOf_lt_of_mem (List.getElem_mem h)
  simp only [Xp.mk.sizeOf_spec]
  omega

theorem tSameExprs_eq (n1 n2 : Bool) (l m : List Xp) (hl : l.length < most) (hb : bdXs l) : CallA S 43 [encSl n1 7 (encXs l), encSl n2 7 (encXs m)] st Q = Q (.ret (.bool (sameXs l m))) st := by
  refine callA_eq (fun Q hQ => ?_) Q
  refine callA_body (by rfl) (by rfl) rfl ?_
  simp only [b43, go_sem, ↓reduceIte, reduceCtorEq, Nat.reduceLT, Nat.reduceLeDiff, Nat.reduceAdd, Nat.reduceMul, Nat.reduceSub, Nat.reduceEqDiff, Nat.reduceBEq, Int.reduceToNat, Int.reduceLE, Int.reduceLT, fun st Q => eqFuncX_of (st := st) (Q := Q) n1 n2 l m hl 16 (fun i h => tSameExpr_eq l[i] (bdXs_mem hb _ (List.getElem_mem h))), trunc_self]
  exact hQ
theorem rSameExprs_eq (n1 n2 : Bool) (l m : List Xp) (hl : l.length < most) (hb : bdXs l) : CallA S 33 [encSl n1 7 (encXs l), encSl n2 7 (encXs m)] st Q = Q (.ret (.bool (sameXs l m))) st :=
  rSameExprs_of n1 n2 l m hl (fun i h => rSameExpr_eq l[i] (bdXs_mem hb _ (List.getElem_mem h)))
end
end Go.Proofs.YtelpkgbghhpgaaaGreatDoor.Sx
end
section
/- known(): what the two readings come to. -/
set_option maxRecDepth 100000
namespace Go.Proofs.YtelpkgbghhpgaaaGreatDoor.Sx
def srcA : List UInt8 := [97, 45, 62, 98, 32, 43, 32, 49]
def srcB : List UInt8 := [105, 102, 32, 61, 32, 49]
def toksA : List Tok := [⟨0, 0, [65]⟩, ⟨4, 1, [45, 62]⟩, ⟨0, 3, [66]⟩, ⟨4, 5, [43]⟩, ⟨1, 7, [49]⟩, ⟨5, 8, []⟩]
def toksB : List Tok := [⟨0, 0, [73, 70]⟩, ⟨4, 3, [61]⟩, ⟨1, 5, [49]⟩, ⟨5, 6, []⟩]
theorem lexA : lexP srcA = (toksA, 6, 0) := by rfl
theorem lexB : lexP srcB = (toksB, 4, 0) := by rfl
def exprA : Xp := mkBin [43] (mkAlias [65] (mkName [66])) (mkC 2 1 [])
theorem spA : sp toksA 8 .expr 0 = .ok exprA 5 := by rfl
theorem kwB0 : kwAt toksB 0 = [] := by rfl
theorem kwB4 : toksB.length = 4 := rfl
theorem endB : isEnding [] = false := by rfl
theorem setB : spSet toksB (sp toksB 8 .expr) 0 = .ok (mkSet (mkName [73, 70]) (mkC 2 1 [])) 4 := by rfl
def bodyB : List Sm := [mkSet (mkName [73, 70]) (mkC 2 1 [])]
def progB : List Pd := [⟨[77, 65, 73, 78], false, true, [], true, bodyB⟩]
theorem sizeA : isLarge (szX exprA) = false := by rfl
theorem twiceB : hasTwice [] progB = false := by rfl
theorem sizeB : isLarge (szPds (0, 0) progB) = false := by rfl
theorem bdA : bdX exprA := by
  simp [exprA, mkBin, mkAlias, mkName, mkC, bdX, bdXs, most]
theorem bdB : bdPds progB := by
  refine ⟨by decide, fun x hx => ?_⟩
  simp only [progB, List.mem_cons, List.mem_nil_iff, or_false] at hx
  subst hx
  simp [bodyB, mkSet, mkName, mkC, bdSms, bdSm, bdXs, bdX, bdBls, most]
def blockB (a : Nat) : PR (List Sm) := spBlockL toksB (fun a => if a = 0 then spSet toksB (sp toksB 8 .expr) 0 else .out) 8 [] a
theorem programB : spProgram toksB blockB 8 0 = .ok progB 4 := by rfl
end Go.Proofs.YtelpkgbghhpgaaaGreatDoor.Sx
end
section
/- known() is true. -/
set_option maxRecDepth 100000
namespace Go.Proofs.YtelpkgbghhpgaaaGreatDoor.Sx
section
variable {st : St} {Q : Res → St → Prop}

theorem parseA_eq : CallA S 9 [.str srcA] st Q = Q (.ret (.tuple [.agg (encX exprA), .int .i64 6, .int .i64 0])) st := by
  refine callA_eq (fun Q hQ => ?_) Q
  refine parseExpr_ok srcA 8 (by omega) ?_
  unfold peQ
  rw [lexA, if_pos rfl, spA]
  refine ⟨exprA, rfl, ?_⟩
  rw [if_neg (by decide)]
  refine ⟨bdA, ?_⟩
  rw [sizeA]
  exact hQ

theorem tokB : ∀ t ∈ toksB, TokOk t := by
  have := (lexP_ok srcB).2
  rw [lexB] at this
  exact this

theorem parseB_eq : CallA S 12 [.str srcB] st Q = Q (.ret (.tuple [ePds progB, .int .i64 4, .int .i64 0])) st := by
  refine callA_eq (fun Q hQ => ?_) Q
  refine parse_ok srcB (fun _ => spProgram toksB blockB 8 0) (fun st id Q hid hQ => ?_) ?_
  · rw [lexB] at hQ ⊢
    have hl : toksB.length < 65536 := by decide
    refine program_ok hid hl tokB 8 (by omega) blockB (block_ok hid hl tokB 8 (by omega) _ (fun a Q ha h hQ => ?_)) 0 Q (Nat.zero_le _) hQ
    by_cases h0 : a = 0
    · subst h0
      rw [if_pos rfl] at hQ
      exact set_ok hid hl tokB (sp_ok hl tokB 8 (by omega) .expr st id hid) (Nat.zero_le _) kwB0 (by rfl) (by rfl) hQ
    · rw [if_neg h0] at hQ
      exact hQ.elim
  · unfold paQ
    rw [lexB, if_pos rfl, programB]
    unfold programQ
    rw [PR.on_ok, if_neg (by decide)]
    refine ⟨bdB, ?_⟩
    rw [twiceB, sizeB]
    exact hQ

theorem num_eq (n : Int) : CallA S 22 [.int .i64 n] st Q = Q (.ret (.agg [.int .i64 2, .int .i64 n, .str []])) st := by
  refine callA_eq (fun Q hQ => ?_) Q
  refine callA_body (by rfl) (by rfl) rfl ?_
  simp only [b22, go_sem, ↓reduceIte, reduceCtorEq, Nat.reduceLT, Nat.reduceLeDiff, Nat.reduceAdd, Nat.reduceMul, Nat.reduceSub, Nat.reduceEqDiff, Nat.reduceBEq, Int.reduceToNat, Int.reduceLE, Int.reduceLT, trunc_self]
  exact hQ

theorem known_eq : CallA S 8 [] st Q = Q (.ret (.bool true)) st := by
  refine callA_eq (fun Q hQ => ?_) Q
  refine callA_body (by rfl) (by rfl) rfl ?_
  have h1 := fun (st : St) (Q : Res → St → Prop) => parseA_eq (st := st) (Q := Q)
  have h2 := fun (st : St) (Q : Res → St → Prop) => parseB_eq (st := st) (Q := Q)
  unfold srcA at h1
  unfold srcB at h2
  have h3 : ∀ (st : St) (Q : Res → St → Prop), CallA S 11 [.agg (encX exprA), .agg (encX exprA)] st Q = Q (.ret (.bool true)) st := fun st Q => by
    rw [rSameExpr_eq exprA bdA, sameX_refl]
  have hx : encX exprA = [.int .i64 5, .str [43], .int .i64 0, .int .i64 0, .str [], .nilslice, .slice 7 [[.int .i64 2, .str [65], .int .i64 0, .int .i64 0, .str [], .nilslice, .slice 7 [[.int .i64 1, .str [66], .int .i64 0, .int .i64 0, .str [], .nilslice, .nilslice]] .no], [.int .i64 0, .str [], .int .i64 2, .int .i64 1, .str [], .nilslice, .nilslice]] .no] := by rfl
  rw [hx] at h1 h3
  have hp : ePds progB = .slice 4 [[.str [77, 65, 73, 78], .bool false, .nilslice, .slice 10 [encSm (mkSet (mkName [73, 70]) (mkC 2 1 []))] .no]] .no := by rfl
  have hs : encSm (mkSet (mkName [73, 70]) (mkC 2 1 [])) = [.int .i64 0, .str [], .str [], .nilslice, encSl false 7 (encXs [mkName [73, 70], mkC 2 1 []]), .nilslice, .int .i64 0, .nilslice, .nilslice, .nilslice] := by rfl
  rw [hp, hs] at h2
  simp only [b8, go_sem, ↓reduceIte, reduceCtorEq, Nat.reduceLT, Nat.reduceLeDiff, Nat.reduceAdd, Nat.reduceMul, Nat.reduceSub, Nat.reduceEqDiff, Nat.reduceBEq, Int.reduceToNat, Int.reduceLE, Int.reduceLT, h1, h2, num_eq, h3]
  rw [if_pos (by rfl), if_pos (by rfl), trunc_self]
  exact hQ
end
end Go.Proofs.YtelpkgbghhpgaaaGreatDoor.Sx
end
section
/- TreeExprSames: the law's run. -/
set_option maxRecDepth 100000
namespace Go.Proofs.YtelpkgbghhpgaaaGreatDoor.Sx
section
variable {st : St} {Q : Res → St → Prop}

theorem encX_cells (x : Xp) : ∃ (op : Int) (s : List UInt8) (vk vn : Int) (vs : List UInt8) (pn : Bool) (p : List (List UInt8)) (ln : Bool) (l : List Xp), x = .mk op s vk vn vs pn p ln l := by
  cases x; exact ⟨_, _, _, _, _, _, _, _, _, rfl⟩

/-- heavy comes to some number. -/
theorem heavy_of (nb : Bool) (l : List Xp) (hl : l.length < most) (hp : ∀ x ∈ l, bdX x)
    (ih : ∀ (i : Nat) (h : i < l.length) (op : Int) (s : List UInt8) (vk vn : Int) (vs : List UInt8) (pn : Bool) (p : List (List UInt8)) (ln : Bool) (m : List Xp), l[i] = .mk op s vk vn vs pn p ln m → ∀ (st : St) (Q : Res → St → Prop), (∀ n : Int, Q (.ret (.int .i64 n)) st) → CallA S 41 [encSl ln 7 (encXs m)] st Q)
    (hQ : ∀ n : Int, Q (.ret (.int .i64 n)) st) : CallA S 41 [encSl nb 7 (encXs l)] st Q := by
  refine callA_body (by rfl) (by rfl) rfl ?_
  unfold most at hl
  simp only [b41, go_sem, ↓reduceIte, reduceCtorEq, Nat.reduceLT, Nat.reduceLeDiff, Nat.reduceAdd, Nat.reduceMul, Nat.reduceSub, Nat.reduceEqDiff, Nat.reduceBEq, Int.reduceToNat, Int.reduceLE, Int.reduceLT, encXs_length]
  refine wp_loop (fun m fr st' => st' = st ∧ ∃ (i : Nat) (n : Int) (ser : Nat), m + i = l.length ∧
    fr = ⟨[(0, encSl nb 7 (encXs l)), (3, .int .i64 n), (4, .int .i64 (i : Int))], [], [], ser⟩) l.length ⟨rfl, 0, _, _, rfl, rfl⟩ ?_
  rintro m fr st' ⟨rfl, i, n, ser, hm, rfl⟩
  by_cases h : (i : Int) < (l.length : Int)
  · by_cases h2 : n < 65536
    · have hi : i < l.length := by omega
      obtain ⟨op, s, vk, vn, vs, pn, p, ln, ll, he⟩ := encX_cells l[i]
      have hel := el_X nb l hi
      rw [he, encX_mk] at hel
      have hb := hp _ (List.getElem_mem hi)
      rw [he] at hb
      simp only [bdX] at hb
      have hpl := hb.1
      unfold most at hpl
      simp only [b41l1, go_sem, ↓reduceIte, reduceCtorEq, Nat.reduceLT, Nat.reduceLeDiff, Nat.reduceAdd, Nat.reduceMul, Nat.reduceSub, Nat.reduceEqDiff, Nat.reduceBEq, Int.reduceToNat, Int.reduceLE, Int.reduceLT, encXs_length, h, h2, hel]
      refine ih i hi op s vk vn vs pn p ln ll he _ _ (fun n2 => ?_)
      simp only [go_sem, ↓reduceIte, reduceCtorEq, Nat.reduceLT, Nat.reduceLeDiff, Nat.reduceAdd, Nat.reduceMul, Nat.reduceSub, Nat.reduceEqDiff, Nat.reduceBEq, Int.reduceToNat, Int.reduceLE, Int.reduceLT]
      refine wp_loop (fun m2 fr st => st = st' ∧ ∃ (k : Nat) (n : Int) (ser : Nat), m2 + k = p.length ∧
        fr = ⟨[(0, encSl nb 7 (encXs l)), (3, .int .i64 n), (4, .int .i64 (i : Int)), (5, .int .i64 (k : Int))], [], [], ser⟩) p.length ⟨rfl, 0, _, _, rfl, rfl⟩ ?_
      rintro m2 fr st ⟨rfl, k, n, ser, hm2, rfl⟩
      by_cases h3 : (k : Int) < (p.length : Int)
      · have hk : k < p.length := by omega
        have hes : elA 1 (k : Int) (encSl pn 1 (p.map fun x => [.str x])) = some [.str p[k]] := el_str pn p hk
        simp only [b41l0, go_sem, ↓reduceIte, reduceCtorEq, Nat.reduceLT, Nat.reduceLeDiff, Nat.reduceAdd, Nat.reduceMul, Nat.reduceSub, Nat.reduceEqDiff, Nat.reduceBEq, Int.reduceToNat, Int.reduceLE, Int.reduceLT, hel, List.length_map, h3, hes, wrap_one k (by omega)]
        exact ⟨m2 - 1, by omega, k + 1, _, _, by omega, rfl⟩
      · simp only [b41l0, go_sem, ↓reduceIte, reduceCtorEq, Nat.reduceLT, Nat.reduceLeDiff, Nat.reduceAdd, Nat.reduceMul, Nat.reduceSub, Nat.reduceEqDiff, Nat.reduceBEq, Int.reduceToNat, Int.reduceLE, Int.reduceLT, hel, List.length_map, h3, wrap_one i (by omega)]
        exact ⟨m - 1, by omega, i + 1, _, _, by omega, rfl⟩
    · simp only [b41l1, go_sem, ↓reduceIte, reduceCtorEq, Nat.reduceLT, Nat.reduceLeDiff, Nat.reduceAdd, Nat.reduceMul, Nat.reduceSub, Nat.reduceEqDiff, Nat.reduceBEq, Int.reduceToNat, Int.reduceLE, Int.reduceLT, encXs_length, h, h2, trunc_self]
      exact hQ _
  · simp only [b41l1, go_sem, ↓reduceIte, reduceCtorEq, Nat.reduceLT, Nat.reduceLeDiff, Nat.reduceAdd, Nat.reduceMul, Nat.reduceSub, Nat.reduceEqDiff, Nat.reduceBEq, Int.reduceToNat, Int.reduceLE, Int.reduceLT, encXs_length, h, trunc_self]
    exact hQ _

theorem heavyX_ok : ∀ (x : Xp), bdX x → ∀ (op : Int) (s : List UInt8) (vk vn : Int) (vs : List UInt8) (pn : Bool) (p : List (List UInt8)) (ln : Bool) (m : List Xp), x = .mk op s vk vn vs pn p ln m → ∀ (st : St) (Q : Res → St → Prop), (∀ n : Int, Q (.ret (.int .i64 n)) st) → CallA S 41 [encSl ln 7 (encXs m)] st Q
  | .mk _ _ _ _ _ _ _ _ l, hb, op, s, vk, vn, vs, pn, p, ln, m, he, st, Q, hQ => by
    injection he with _ _ _ _ _ _ _ h1 h2
    subst h1 h2
    simp only [bdX] at hb
    exact heavy_of _ _ hb.2.1 (fun x hx => bdXs_mem hb.2.2 x hx) (fun i h => heavyX_ok l[i] (bdXs_mem hb.2.2 _ (List.getElem_mem h))) hQ
termination_by x => SizeOf.sizeOf x
decreasing_by
  have := List.sizeOf_lt_of_mem (List.getElem_mem h)
  simp only [Xp.mk.sizeOf_spec]
  omega

theorem heavy_ok (nb : Bool) (l : List Xp) (hl : l.length < most) (hp : bdXs l) (hQ : ∀ n : Int, Q (.ret (.int .i64 n)) st) : CallA S 41 [encSl nb 7 (encXs l)] st Q :=
  heavy_of nb l hl (bdXs_mem hp) (fun i h => heavyX_ok l[i] (bdXs_mem hp _ (List.getElem_mem h))) hQ

theorem overExpr_ok (x : Xp) (hb : bdX x) (hQ : ∀ b : Bool, Q (.ret (.bool b)) st) : CallA S 15 [.agg (encX x)] st Q := by
  refine callA_body (by rfl) (by rfl) rfl ?_
  simp only [b15, go_sem, ↓reduceIte, reduceCtorEq, Nat.reduceLT, Nat.reduceLeDiff, Nat.reduceAdd, Nat.reduceMul, Nat.reduceSub, Nat.reduceEqDiff, Nat.reduceBEq, Int.reduceToNat, Int.reduceLE, Int.reduceLT]
  refine heavy_ok false [x] (by simp [most]) ⟨hb, trivial⟩ (fun n => ?_)
  by_cases h : n ≥ 65536
  · simp only [go_sem, ↓reduceIte, reduceCtorEq, Nat.reduceLT, Nat.reduceLeDiff, Nat.reduceAdd, Nat.reduceMul, Nat.reduceSub, Nat.reduceEqDiff, Nat.reduceBEq, Int.reduceToNat, Int.reduceLE, Int.reduceLT, h, trunc_self]
    exact hQ _
  · simp only [go_sem, ↓reduceIte, reduceCtorEq, Nat.reduceLT, Nat.reduceLeDiff, Nat.reduceAdd, Nat.reduceMul, Nat.reduceSub, Nat.reduceEqDiff, Nat.reduceBEq, Int.reduceToNat, Int.reduceLE, Int.reduceLT, h, trunc_self]
    exact hQ _

theorem treeExprSames (x y : Xp) (hx : bdX x) (hy : bdX y) (hQ : Q (.ret (.bool true)) st) : CallA S 5 [.agg (encX x), .agg (encX y)] st Q := by
  refine callA_body (by rfl) (by rfl) rfl ?_
  simp only [b5, go_sem, ↓reduceIte, reduceCtorEq, Nat.reduceLT, Nat.reduceLeDiff, Nat.reduceAdd, Nat.reduceMul, Nat.reduceSub, Nat.reduceEqDiff, Nat.reduceBEq, Int.reduceToNat, Int.reduceLE, Int.reduceLT]
  refine overExpr_ok x hx (fun b => ?_)
  cases b with
  | true =>
    simp only [go_sem, ↓reduceIte, reduceCtorEq, Nat.reduceLT, Nat.reduceLeDiff, Nat.reduceAdd, Nat.reduceMul, Nat.reduceSub, Nat.reduceEqDiff, Nat.reduceBEq, Int.reduceToNat, Int.reduceLE, Int.reduceLT, known_eq, trunc_self]
    exact hQ
  | false =>
    simp only [go_sem, ↓reduceIte, reduceCtorEq, Nat.reduceLT, Nat.reduceLeDiff, Nat.reduceAdd, Nat.reduceMul, Nat.reduceSub, Nat.reduceEqDiff, Nat.reduceBEq, Int.reduceToNat, Int.reduceLE, Int.reduceLT]
    refine overExpr_ok y hy (fun b => ?_)
    cases b with
    | true =>
      simp only [go_sem, ↓reduceIte, reduceCtorEq, Nat.reduceLT, Nat.reduceLeDiff, Nat.reduceAdd, Nat.reduceMul, Nat.reduceSub, Nat.reduceEqDiff, Nat.reduceBEq, Int.reduceToNat, Int.reduceLE, Int.reduceLT, known_eq, trunc_self]
      exact hQ
    | false =>
      have hb : ∀ b : Bool, (b == b) = true := fun b => by cases b <;> rfl
      simp only [go_sem, ↓reduceIte, reduceCtorEq, Nat.reduceLT, Nat.reduceLeDiff, Nat.reduceAdd, Nat.reduceMul, Nat.reduceSub, Nat.reduceEqDiff, Nat.reduceBEq, Int.reduceToNat, Int.reduceLE, Int.reduceLT, tSameExpr_eq x hx, rSameExpr_eq x hx, sameX_refl, hb, known_eq, trunc_self]
      exact hQ
end
end Go.Proofs.YtelpkgbghhpgaaaGreatDoor.Sx
end
section
/- TreeExprSames: the row's contract, but for the soundness of the functions that are no plain code. -/
set_option maxRecDepth 100000
namespace Go.Proofs.YtelpkgbghhpgaaaGreatDoor.Sx
open AV Go.Proofs.YtelpkgbghhpgaaaGreatDoor Go.ChangeShapes Go.WideShapes Go.RowKit

theorem agg_of {v : Value} (h : v.cells.toList.length = 7) : v = .agg v.cells.toList.toArray := by
  cases v with
  | agg cs => simp [Value.cells]
  | _ => simp [Value.cells] at h

theorem laidOut : laidOutB Tryz.prog = true := by kernel_rfl

section
variable {H : Type} {enc : TypeId × Value → H}

theorem rowTES (W : World) (args : Array Value) (ds gs : List (DataW H)) (before : List MemPlace) (hS : SimOk Tryz.prog W S)
    (hW : DataW.Whole enc Tryz.prog Tryz.f5.params.toList Rows.treeExprSamesSpec.vars false W args.toList ds gs before) (hb : Rows.uptoBulkAll ds ≤ 1048576) :
    Calls Tryz.prog 5 args W fun e W' => ∃ v, e = .returned v ∧ Rows.treeExprSamesSpec.post enc Tryz.prog Tryz.f5 false true false false W args v W' := by
  have hW' := hW
  obtain ⟨p, q, hA0, hV, rfl, hfz, hnd⟩ := hW
  have hA : DataW.TrodAll enc Tryz.prog W 0 (fun _ => true) true Tryz.f5.params.toList args.toList ds p := hA0
  rw [Tryz.params5] at hA
  obtain ⟨v0, vs0, d0, ds0, p0, q0, hargs, rfl, rfl, h0, r0⟩ := trodAll_cons hA
  obtain ⟨v1, vs1, d1, ds1, p1, q1, rfl, rfl, rfl, h1, r1⟩ := trodAll_cons r0
  obtain ⟨rfl, rfl, rfl⟩ := trodAll_nil r1
  obtain rfl : args = #[v0, v1] := by cases args; simp_all
  obtain ⟨rfl, rfl⟩ := trodVars_none hV
  have hlt : ∀ x ∈ p0 ++ (p1 ++ []) ++ [], x.block < W.heap.size := fun x hx => by simpa using hW'.lt x hx
  have h0k := h0
  have h1k := h1
  obtain ⟨f0, h0⟩ := h0
  obtain ⟨f1, h1⟩ := h1
  obtain ⟨x, rx, bx⟩ := readX f0 _ _ _ h0
  obtain ⟨y, ry, by_⟩ := readX f1 _ _ _ h1
  simp only [Rows.uptoBulkAll] at hb
  have hbx := bx (by unfold most; omega)
  have hby := by_ (by unfold most; omega)
  have e0 := agg_of (v := v0) (by rw [← rx.len, encX_length])
  have e1 := agg_of (v := v1) (by rw [← ry.len, encX_length])
  have walk := run_true hS (f := 5) (vs := [.agg (encX x), .agg (encX y)]) (args := [v0, v1]) rfl (fun i h h' => by
    match i, h with
    | 0, _ => show Rep _ _ _ _ (.agg (encX x)) v0; rw [e0]; exact rep_agg rx
    | 1, _ => show Rep _ _ _ _ (.agg (encX y)) v1; rw [e1]; exact rep_agg ry) (treeExprSames x y hbx hby rfl)
  refine walk.mono fun e W' ⟨he, hk⟩ => ?_
  refine ⟨_, he, _, _, _, [], p0 ++ (p1 ++ []), [], hW', ?_, ?_, rfl, World.keptBut_mono (fun _ f => f.elim) hk.but, fun h => by cases h⟩
  · exact trodAll_mk1 (shut_bool Tryz.underlying4 _)
  · refine trodAll_cons_mk (Below.trod laidOut (by kernel_rfl) (of_decide_eq_true (by kernel_rfl)) h0k hk.below (fun x hx => hlt x (by simp [hx]))) ?_
    exact trodAll_cons_mk (Below.trod laidOut (by kernel_rfl) (of_decide_eq_true (by kernel_rfl)) h1k hk.below (fun x hx => hlt x (by simp [hx]))) trodAll_mk0
end
end Go.Proofs.YtelpkgbghhpgaaaGreatDoor.Sx
end
section
set_option maxRecDepth 100000
namespace Go.Proofs.YtelpkgbghhpgaaaGreatDoor.Sx
theorem chk5 : chkFunc Tryz.prog 5 a5 = true := by kernel_rfl
theorem chk8 : chkFunc Tryz.prog 8 a8 = true := by kernel_rfl
theorem chk9 : chkFunc Tryz.prog 9 a9 = true := by kernel_rfl
theorem chk11 : chkFunc Tryz.prog 11 a11 = true := by kernel_rfl
theorem chk12 : chkFunc Tryz.prog 12 a12 = true := by kernel_rfl
theorem chk15 : chkFunc Tryz.prog 15 a15 = true := by kernel_rfl
theorem chk16 : chkFunc Tryz.prog 16 a16 = true := by kernel_rfl
theorem chk22 : chkFunc Tryz.prog 22 a22 = true := by kernel_rfl
theorem chk23 : chkFunc Tryz.prog 23 a23 = true := by kernel_rfl
theorem chk24 : chkFunc Tryz.prog 24 a24 = true := by kernel_rfl
theorem chk25 : chkFunc Tryz.prog 25 a25 = true := by kernel_rfl
theorem chk26 : chkFunc Tryz.prog 26 a26 = true := by kernel_rfl
theorem chk32 : chkFunc Tryz.prog 32 a32 = true := by kernel_rfl
theorem chk33 : chkFunc Tryz.prog 33 a33 = true := by kernel_rfl
theorem chk34 : chkFunc Tryz.prog 34 a34 = true := by kernel_rfl
theorem chk35 : chkFunc Tryz.prog 35 a35 = true := by kernel_rfl
theorem chk36 : chkFunc Tryz.prog 36 a36 = true := by kernel_rfl
theorem chk41 : chkFunc Tryz.prog 41 a41 = true := by kernel_rfl
theorem chk42 : chkFunc Tryz.prog 42 a42 = true := by kernel_rfl
theorem chk43 : chkFunc Tryz.prog 43 a43 = true := by kernel_rfl
theorem chk51 : chkFunc Tryz.prog 51 a51 = true := by kernel_rfl
theorem chk52 : chkFunc Tryz.prog 52 a52 = true := by kernel_rfl
theorem chk53 : chkFunc Tryz.prog 53 a53 = true := by kernel_rfl
theorem chk55 : chkFunc Tryz.prog 55 a55 = true := by kernel_rfl
theorem chk56 : chkFunc Tryz.prog 56 a56 = true := by kernel_rfl
theorem chk57 : chkFunc Tryz.prog 57 a57 = true := by kernel_rfl
theorem chk58 : chkFunc Tryz.prog 58 a58 = true := by kernel_rfl
theorem chk66 : chkFunc Tryz.prog 66 a66 = true := by kernel_rfl
theorem chk67 : chkFunc Tryz.prog 67 a67 = true := by kernel_rfl
theorem chk68 : chkFunc Tryz.prog 68 a68 = true := by kernel_rfl
theorem chk69 : chkFunc Tryz.prog 69 a69 = true := by kernel_rfl
theorem chk77 : chkFunc Tryz.prog 77 a77 = true := by kernel_rfl
theorem chk83 : chkFunc Tryz.prog 83 a83 = true := by kernel_rfl
theorem chk84 : chkFunc Tryz.prog 84 a84 = true := by kernel_rfl
theorem chk86 : chkFunc Tryz.prog 86 a86 = true := by kernel_rfl
theorem chk87 : chkFunc Tryz.prog 87 a87 = true := by kernel_rfl
theorem chk88 : chkFunc Tryz.prog 88 a88 = true := by kernel_rfl
theorem chk89 : chkFunc Tryz.prog 89 a89 = true := by kernel_rfl
theorem chk90 : chkFunc Tryz.prog 90 a90 = true := by kernel_rfl
theorem chk95 : chkFunc Tryz.prog 95 a95 = true := by kernel_rfl
theorem chk96 : chkFunc Tryz.prog 96 a96 = true := by kernel_rfl
theorem chk97 : chkFunc Tryz.prog 97 a97 = true := by kernel_rfl
theorem chk98 : chkFunc Tryz.prog 98 a98 = true := by kernel_rfl
theorem chk99 : chkFunc Tryz.prog 99 a99 = true := by kernel_rfl
theorem chk100 : chkFunc Tryz.prog 100 a100 = true := by kernel_rfl
theorem chk109 : chkFunc Tryz.prog 109 a109 = true := by kernel_rfl
theorem chk110 : chkFunc Tryz.prog 110 a110 = true := by kernel_rfl
theorem chk111 : chkFunc Tryz.prog 111 a111 = true := by kernel_rfl
theorem chk112 : chkFunc Tryz.prog 112 a112 = true := by kernel_rfl
theorem chk113 : chkFunc Tryz.prog 113 a113 = true := by kernel_rfl
theorem chk114 : chkFunc Tryz.prog 114 a114 = true := by kernel_rfl
theorem chk115 : chkFunc Tryz.prog 115 a115 = true := by kernel_rfl
theorem chk116 : chkFunc Tryz.prog 116 a116 = true := by kernel_rfl
theorem chk117 : chkFunc Tryz.prog 117 a117 = true := by kernel_rfl
theorem chk118 : chkFunc Tryz.prog 118 a118 = true := by kernel_rfl
theorem chk128 : chkFunc Tryz.prog 128 a128 = true := by kernel_rfl
theorem chk129 : chkFunc Tryz.prog 129 a129 = true := by kernel_rfl
theorem chk130 : chkFunc Tryz.prog 130 a130 = true := by kernel_rfl
theorem chk131 : chkFunc Tryz.prog 131 a131 = true := by kernel_rfl
theorem chk132 : chkFunc Tryz.prog 132 a132 = true := by kernel_rfl
end Go.Proofs.YtelpkgbghhpgaaaGreatDoor.Sx
end
