/- TreeSames returns true for all programs whose data are not larger than a bound. When expressions are equal: the program's and the document's functions. When programs are equal, in plain Lean; the generic comparisons of the program's side. When programs are equal: the program's functions. -/
import Derived.Test.YtelpkgbghhpgaaaGreatDoorS29
set_option linter.all false
section
/- When expressions are equal: the program's and the document's functions. -/
set_option maxRecDepth 100000
namespace Go.Proofs.YtelpkgbghhpgaaaGreatDoor.Sx
section
variable {st : St} {Q : Res → St → Prop}

theorem eqFuncX_of (n1 n2 : Bool) (l m : List Xp) (hl : l.length < most) (f : Nat) (hf : ∀ (i : Nat) (h : i < l.length) (y : Xp) (st : St) (Q : Res → St → Prop), CallA S f [.agg (encX l[i]), .agg (encX y)] st Q = Q (.ret (.bool (sameX l[i] y))) st) :
    CallA S 77 [encSl n1 7 (encXs l), encSl n2 7 (encXs m), .func (.func f) [] []] st Q = Q (.ret (.bool (sameXs l m))) st := by
  refine callA_eq (fun Q hQ => ?_) Q
  refine callA_body (by rfl) (by rfl) rfl ?_
  unfold most at hl
  by_cases h0 : (l.length : Int) = (m.length : Int)
  · have h0' : l.length = m.length := by omega
    have hb : ((l.length : Int) != (m.length : Int)) = false := by simp [h0']
    simp only [b77, go_sem, encXs_length, hb]
    refine wp_loop (fun n fr st' => st' = st ∧ ∃ (i : Nat) (ser : Nat) (lx : List (Nat × List AV)), n + i = l.length ∧ sameXs l m = sameXs (l.drop i) (m.drop i) ∧
      ((lx = [(0, []), (0, [])]) ∨ ∃ a b c d, lx = [(a, b), (c, d)]) ∧
      fr = ⟨[(1, encSl n2 7 (encXs m)), (2, .func (.func f) [] []), (15, encSl n1 7 (encXs l)), (16, .int .i64 (l.length : Int)), (17, .int .i64 (i : Int))], lx, [], ser⟩) l.length ⟨rfl, 0, _, _, rfl, rfl, .inl rfl, rfl⟩ ?_
    rintro n fr st' ⟨rfl, i, ser, lx, hn, hsz, hlx, rfl⟩
    have hlx : ∃ a b c d, lx = [(a, b), (c, d)] := by
      rcases hlx with rfl | h
      · exact ⟨_, _, _, _, rfl⟩
      · exact h
    obtain ⟨x1, x2, x3, x4, rfl⟩ := hlx
    by_cases h : (i : Int) < (l.length : Int)
    · have hi : i < l.length := by omega
      have hi2 : i < m.length := by omega
      rw [sameXs_drop hi hi2] at hsz
      cases hc : sameX l[i] m[i] with
      | true =>
        simp only [hc, Bool.true_and] at hsz
        simp only [b77l0, go_sem, h, el_X n1 l hi, el_X n2 m hi2, hf i hi, hc, wrap_one i (by omega)]
        exact ⟨n - 1, by omega, i + 1, _, _, by omega, hsz, .inr ⟨_, _, _, _, rfl⟩, rfl⟩
      | false =>
        simp only [hc, Bool.false_and] at hsz
        rw [hsz] at hQ
        simp only [b77l0, go_sem, h, el_X n1 l hi, el_X n2 m hi2, hf i hi, hc, trunc_self]
        exact hQ
    · rw [List.drop_of_length_le (by omega), List.drop_of_length_le (by omega)] at hsz
      rw [hsz] at hQ
      simp only [b77l0, go_sem, h, trunc_self]
      exact hQ
  · have hb := bne_iff_ne.2 h0
    have he : sameXs l m = false := by
      cases h : sameXs l m with
      | false => rfl
      | true => exact absurd (by rw [sameXs_len h]) h0
    rw [he] at hQ
    simp only [b77, go_sem, encXs_length, hb, trunc_self]
    exact hQ

theorem rSameExprs_of (n1 n2 : Bool) (l m : List Xp) (hl : l.length < most) (hf : ∀ (i : Nat) (h : i < l.length) (y : Xp) (st : St) (Q : Res → St → Prop), CallA S 11 [.agg (encX l[i]), .agg (encX y)] st Q = Q (.ret (.bool (sameX l[i] y))) st) :
    CallA S 33 [encSl n1 7 (encXs l), encSl n2 7 (encXs m)] st Q = Q (.ret (.bool (sameXs l m))) st := by
  refine callA_eq (fun Q hQ => ?_) Q
  refine callA_body (by rfl) (by rfl) rfl ?_
  unfold most at hl
  by_cases h0 : (l.length : Int) = (m.length : Int)
  · have h0' : l.length = m.length := by omega
    have hb : ((l.length : Int) != (m.length : Int)) = false := by simp [h0']
    simp only [b33, go_sem, encXs_length, hb]
    refine wp_loop (fun n fr st' => st' = st ∧ ∃ (i : Nat) (ser : Nat), n + i = l.length ∧ sameXs l m = sameXs (l.drop i) (m.drop i) ∧
      fr = ⟨[(0, encSl n1 7 (encXs l)), (1, encSl n2 7 (encXs m)), (5, .int .i64 (i : Int))], [], [], ser⟩) l.length ⟨rfl, 0, _, rfl, rfl, rfl⟩ ?_
    rintro n fr st' ⟨rfl, i, ser, hn, hsz, rfl⟩
    by_cases h : (i : Int) < (l.length : Int)
    · have hi : i < l.length := by omega
      have hi2 : i < m.length := by omega
      rw [sameXs_drop hi hi2] at hsz
      cases hc : sameX l[i] m[i] with
      | true =>
        simp only [hc, Bool.true_and] at hsz
        simp only [b33l0, go_sem, encXs_length, h, el_X n1 l hi, el_X n2 m hi2, hf i hi, hc, wrap_one i (by omega)]
        exact ⟨n - 1, by omega, i + 1, _, by omega, hsz, rfl⟩
      | false =>
        simp only [hc, Bool.false_and] at hsz
        rw [hsz] at hQ
        simp only [b33l0, go_sem, encXs_length, h, el_X n1 l hi, el_X n2 m hi2, hf i hi, hc, trunc_self]
        exact hQ
    · rw [List.drop_of_length_le (by omega), List.drop_of_length_le (by omega)] at hsz
      rw [hsz] at hQ
      simp only [b33l0, go_sem, encXs_length, h, trunc_self]
      exact hQ
  · have hb := bne_iff_ne.2 h0
    have he : sameXs l m = false := by
      cases h : sameXs l m with
      | false => rfl
      | true => exact absurd (by rw [sameXs_len h]) h0
    rw [he] at hQ
    simp only [b33, go_sem, encXs_length, hb, trunc_self]
    exact hQ

theorem tSameExpr_eq : ∀ (x : Xp), bdX x → ∀ (y : Xp) (st : St) (Q : Res → St → Prop), CallA S 16 [.agg (encX x), .agg (encX y)] st Q = Q (.ret (.bool (sameX x y))) st
  | .mk op s vk vn vs pn p ln l, hb, .mk op2 s2 vk2 vn2 vs2 pn2 p2 ln2 l2 => by
    simp only [bdX] at hb
    obtain ⟨hp, hl, hbl⟩ := hb
    have ih : ∀ (n1 n2 : Bool) (m : List Xp) (st : St) (Q : Res → St → Prop), CallA S 43 [encSl n1 7 (encXs l), encSl n2 7 (encXs m)] st Q = Q (.ret (.bool (sameXs l m))) st := by
      intro n1 n2 m st
      refine callA_eq (fun Q hQ => ?_)
      refine callA_body (by rfl) (by rfl) rfl ?_
      simp only [b43, go_sem, fun st Q => eqFuncX_of (st := st) (Q := Q) n1 n2 l m hl 16 (fun i h => tSameExpr_eq l[i] (bdXs_mem hbl _ (List.getElem_mem h))), trunc_self]
      exact hQ
    intro st
    refine callA_eq (fun Q hQ => ?_)
    refine callA_body (by rfl) (by rfl) rfl ?_
    simp only [sameX] at hQ
    have heq : ∀ (st : St) (Q : Res → St → Prop), CallA S 42 [encSl pn 1 (p.map fun x => [.str x]), encSl pn2 1 (p2.map fun x => [.str x])] st Q = Q (.ret (.bool (p == p2))) st := fun st Q => slEqual_eq pn pn2 p p2 hp
    cases c1 : (op == op2) with
    | false =>
      simp only [c1, Bool.true_and, Bool.false_and, Bool.and_false] at hQ
      simp only [b16, go_sem, encX_mk, heq, ih, c1, trunc_self]
      exact hQ
    | true =>
    cases c2 : (s == s2) with
    | false =>
      simp only [c1, c2, Bool.true_and, Bool.false_and, Bool.and_false] at hQ
      simp only [b16, go_sem, encX_mk, heq, ih, c1, c2, trunc_self]
      exact hQ
    | true =>
    cases c3 : (vk == vk2) with
    | false =>
      simp only [c1, c2, c3, Bool.true_and, Bool.false_and, Bool.and_false] at hQ
      simp only [b16, go_sem, encX_mk, heq, ih, c1, c2, c3, trunc_self]
      exact hQ
    | true =>
    cases c4 : (vn == vn2) with
    | false =>
      simp only [c1, c2, c3, c4, Bool.true_and, Bool.false_and, Bool.and_false] at hQ
      simp only [b16, go_sem, encX_mk, heq, ih, c1, c2, c3, c4, trunc_self]
      exact hQ
    | true =>
    cases c5 : (vs == vs2) with
    | false =>
      simp only [c1, c2, c3, c4, c5, Bool.true_and, Bool.false_and, Bool.and_false] at hQ
      simp only [b16, go_sem, encX_mk, heq, ih, c1, c2, c3, c4, c5, trunc_self]
      exact hQ
    | true =>
    cases c6 : (p == p2) with
    | false =>
      simp only [c1, c2, c3, c4, c5, c6, Bool.true_and, Bool.false_and, Bool.and_false] at hQ
      simp only [b16, go_sem, encX_mk, heq, ih, c1, c2, c3, c4, c5, c6, trunc_self]
      exact hQ
    | true =>
    cases c7 : (sameXs l l2) with
    | false =>
      simp only [c1, c2, c3, c4, c5, c6, c7, Bool.true_and, Bool.false_and, Bool.and_false] at hQ
      simp only [b16, go_sem, encX_mk, heq, ih, c1, c2, c3, c4, c5, c6, c7, trunc_self]
      exact hQ
    | true =>
    simp only [c1, c2, c3, c4, c5, c6, c7, Bool.and_self] at hQ
    simp only [b16, go_sem, encX_mk, heq, ih, c1, c2, c3, c4, c5, c6, c7, trunc_self]
    exact hQ
termination_by x => SizeOf.sizeOf x
decreasing_by
  have := List.sizeOf_lt_of_mem (List.getElem_mem h)
  simp only [Xp.mk.sizeOf_spec]
  omega

theorem rSameExpr_eq : ∀ (x : Xp), bdX x → ∀ (y : Xp) (st : St) (Q : Res → St → Prop), CallA S 11 [.agg (encX x), .agg (encX y)] st Q = Q (.ret (.bool (sameX x y))) st
  | .mk op s vk vn vs pn p ln l, hb, .mk op2 s2 vk2 vn2 vs2 pn2 p2 ln2 l2 => by
    simp only [bdX] at hb
    obtain ⟨hp, hl, hbl⟩ := hb
    have ih : ∀ (n1 n2 : Bool) (m : List Xp) (st : St) (Q : Res → St → Prop), CallA S 33 [encSl n1 7 (encXs l), encSl n2 7 (encXs m)] st Q = Q (.ret (.bool (sameXs l m))) st :=
      fun n1 n2 m st Q => rSameExprs_of n1 n2 l m hl (fun i h => rSameExpr_eq l[i] (bdXs_mem hbl _ (List.getElem_mem h)))
    intro st
    refine callA_eq (fun Q hQ => ?_)
    refine callA_body (by rfl) (by rfl) rfl ?_
    simp only [sameX] at hQ
    have heq : ∀ (st : St) (Q : Res → St → Prop), CallA S 32 [encSl pn 1 (p.map fun x => [.str x]), encSl pn2 1 (p2.map fun x => [.str x])] st Q = Q (.ret (.bool (p == p2))) st := fun st Q => sameTexts6_eq pn pn2 p p2 hp
    cases c1 : (op == op2) with
    | false =>
      simp only [c1, Bool.true_and, Bool.false_and, Bool.and_false] at hQ
      simp only [b11, go_sem, encX_mk, heq, ih, c1, trunc_self]
      exact hQ
    | true =>
    cases c2 : (s == s2) with
    | false =>
      simp only [c1, c2, Bool.true_and, Bool.false_and, Bool.and_false] at hQ
      simp only [b11, go_sem, encX_mk, heq, ih, c1, c2, trunc_self]
      exact hQ
    | true =>
    cases c3 : (vk == vk2) with
    | false =>
      simp only [c1, c2, c3, Bool.true_and, Bool.false_and, Bool.and_false] at hQ
      simp only [b11, go_sem, encX_mk, heq, ih, c1, c2, c3, trunc_self]
      exact hQ
    | true =>
    cases c4 : (vn == vn2) with
    | false =>
      simp only [c1, c2, c3, c4, Bool.true_and, Bool.false_and, Bool.and_false] at hQ
      simp only [b11, go_sem, encX_mk, heq, ih, c1, c2, c3, c4, trunc_self]
      exact hQ
    | true =>
    cases c5 : (vs == vs2) with
    | false =>
      simp only [c1, c2, c3, c4, c5, Bool.true_and, Bool.false_and, Bool.and_false] at hQ
      simp only [b11, go_sem, encX_mk, heq, ih, c1, c2, c3, c4, c5, trunc_self]
      exact hQ
    | true =>
    cases c6 : (p == p2) with
    | false =>
      simp only [c1, c2, c3, c4, c5, c6, Bool.true_and, Bool.false_and, Bool.and_false] at hQ
      simp only [b11, go_sem, encX_mk, heq, ih, c1, c2, c3, c4, c5, c6, trunc_self]
      exact hQ
    | true =>
    cases c7 : (sameXs l l2) with
    | false =>
      simp only [c1, c2, c3, c4, c5, c6, c7, Bool.true_and, Bool.false_and, Bool.and_false] at hQ
      simp only [b11, go_sem, encX_mk, heq, ih, c1, c2, c3, c4, c5, c6, c7, trunc_self]
      exact hQ
    | true =>
    simp only [c1, c2, c3, c4, c5, c6, c7, Bool.and_self] at hQ
    simp only [b11, go_sem, encX_mk, heq, ih, c1, c2, c3, c4, c5, c6, c7, trunc_self]
    exact hQ
termination_by x => SizeOf.sizeOf x
decreasing_by
  have := List.sizeOf_lt_of_mem (List.getElem_mem h)
  simp only [Xp.mk.sizeOf_spec]
  omega

theorem tSameExprs_eq (n1 n2 : Bool) (l m : List Xp) (hl : l.length < most) (hb : bdXs l) : CallA S 43 [encSl n1 7 (encXs l), encSl n2 7 (encXs m)] st Q = Q (.ret (.bool (sameXs l m))) st := by
  refine callA_eq (fun Q hQ => ?_) Q
  refine callA_body (by rfl) (by rfl) rfl ?_
  simp only [b43, go_sem, fun st Q => eqFuncX_of (st := st) (Q := Q) n1 n2 l m hl 16 (fun i h => tSameExpr_eq l[i] (bdXs_mem hb _ (List.getElem_mem h))), trunc_self]
  exact hQ
theorem rSameExprs_eq (n1 n2 : Bool) (l m : List Xp) (hl : l.length < most) (hb : bdXs l) : CallA S 33 [encSl n1 7 (encXs l), encSl n2 7 (encXs m)] st Q = Q (.ret (.bool (sameXs l m))) st :=
  rSameExprs_of n1 n2 l m hl (fun i h => rSameExpr_eq l[i] (bdXs_mem hb _ (List.getElem_mem h)))
end
end Go.Proofs.YtelpkgbghhpgaaaGreatDoor.Sx
end
section
/- When programs are equal, in plain Lean; the generic comparisons of the program's side. -/
set_option maxRecDepth 100000
namespace Go.Proofs.YtelpkgbghhpgaaaGreatDoor.Sx

mutual
def sameSm : Sm → Sm → Bool
  | .mk op s t _ p _ x _ b ck _ n _ f _ w, y => match y with
    | .mk op2 s2 t2 _ p2 _ x2 _ b2 ck2 _ n2 _ f2 _ w2 =>
      (op == op2 && (s == s2 && (t == t2 && (p == p2 && sameXs x x2)))) && ((ck == ck2 && (sameXs n n2 && (sameXs f f2 && sameXs w w2))) && sameBls b b2)
def sameSms : List Sm → List Sm → Bool
  | [], l => l.isEmpty
  | x :: l, m => match m with
    | [] => false
    | y :: m => sameSm x y && sameSms l m
def sameBls : List (Bool × List Sm) → List (Bool × List Sm) → Bool
  | [], l => l.isEmpty
  | (_, x) :: l, m => match m with
    | [] => false
    | (_, y) :: m => sameSms x y && sameBls l m
end
def samePd (x y : Pd) : Bool := (x.name == y.name && (x.fn == y.fn && x.p == y.p)) && sameSms x.body y.body
def samePds : List Pd → List Pd → Bool
  | [], l => l.isEmpty
  | x :: l, m => match m with
    | [] => false
    | y :: m => samePd x y && samePds l m

mutual
theorem sameSm_refl : ∀ x : Sm, sameSm x x = true
  | .mk op s t pn p xn x bn b ck nn n fn f wn w => by
    simp only [sameSm, beq_self_eq_true, Bool.true_and, sameXs_refl, sameBls_refl b]
theorem sameSms_refl : ∀ l : List Sm, sameSms l l = true
  | [] => by rw [sameSms]; rfl
  | x :: l => by
    simp only [sameSms, sameSm_refl x, sameSms_refl l, Bool.and_self]
theorem sameBls_refl : ∀ l : List (Bool × List Sm), sameBls l l = true
  | [] => by rw [sameBls]; rfl
  | (n, x) :: l => by
    simp only [sameBls, sameSms_refl x, sameBls_refl l, Bool.and_self]
end
theorem samePds_refl : ∀ l : List Pd, samePds l l = true
  | [] => rfl
  | x :: l => by
    simp only [samePds, samePd, beq_self_eq_true, Bool.true_and, sameSms_refl, samePds_refl l]

theorem sameSms_len : ∀ {l m : List Sm}, sameSms l m = true → l.length = m.length
  | [], [], _ => rfl
  | [], _ :: _, h => by simp [sameSms] at h
  | _ :: _, [], h => by simp [sameSms] at h
  | x :: l, y :: m, h => by
    simp only [sameSms, Bool.and_eq_true] at h
    simp [sameSms_len h.2]
theorem sameBls_len : ∀ {l m : List (Bool × List Sm)}, sameBls l m = true → l.length = m.length
  | [], [], _ => rfl
  | [], _ :: _, h => by simp [sameBls] at h
  | _ :: _, [], h => by simp [sameBls] at h
  | (_, x) :: l, (_, y) :: m, h => by
    simp only [sameBls, Bool.and_eq_true] at h
    simp [sameBls_len h.2]
theorem samePds_len : ∀ {l m : List Pd}, samePds l m = true → l.length = m.length
  | [], [], _ => rfl
  | [], _ :: _, h => by simp [samePds] at h
  | _ :: _, [], h => by simp [samePds] at h
  | x :: l, y :: m, h => by
    simp only [samePds, Bool.and_eq_true] at h
    simp [samePds_len h.2]
theorem sameSms_drop {l m : List Sm} {i : Nat} (h1 : i < l.length) (h2 : i < m.length) : sameSms (l.drop i) (m.drop i) = (sameSm l[i] m[i] && sameSms (l.drop (i + 1)) (m.drop (i + 1))) := by
  rw [List.drop_eq_getElem_cons h1, List.drop_eq_getElem_cons h2, sameSms]
theorem sameBls_drop {l m : List (Bool × List Sm)} {i : Nat} (h1 : i < l.length) (h2 : i < m.length) : sameBls (l.drop i) (m.drop i) = (sameSms l[i].2 m[i].2 && sameBls (l.drop (i + 1)) (m.drop (i + 1))) := by
  rw [List.drop_eq_getElem_cons h1, List.drop_eq_getElem_cons h2, sameBls]
theorem samePds_drop {l m : List Pd} {i : Nat} (h1 : i < l.length) (h2 : i < m.length) : samePds (l.drop i) (m.drop i) = (samePd l[i] m[i] && samePds (l.drop (i + 1)) (m.drop (i + 1))) := by
  rw [List.drop_eq_getElem_cons h1, List.drop_eq_getElem_cons h2, samePds]

theorem encPd_take (x : Pd) : (encPd x).take 4 = encPd x := List.take_of_length_le (by rw [encPd_length]; exact Nat.le_refl _)
theorem encPd_drop (x : Pd) : (encPd x).drop 4 = [] := List.drop_of_length_le (by rw [encPd_length]; exact Nat.le_refl _)
attribute [go_sem] encPd_take encPd_drop

section
variable {st : St} {Q : Res → St → Prop}

theorem eqFuncSm_of (n1 n2 : Bool) (l m : List Sm) (hl : l.length < most) (f : Nat) (hf : ∀ (i : Nat) (h : i < l.length) (y : Sm) (st : St) (Q : Res → St → Prop), CallA S f [.agg (encSm l[i]), .agg (encSm y)] st Q = Q (.ret (.bool (sameSm l[i] y))) st) :
    CallA S 47 [encSl n1 10 (encSms l), encSl n2 10 (encSms m), .func (.func f) [] []] st Q = Q (.ret (.bool (sameSms l m))) st := by
  refine callA_eq (fun Q hQ => ?_) Q
  refine callA_body (by rfl) (by rfl) rfl ?_
  unfold most at hl
  by_cases h0 : (l.length : Int) = (m.length : Int)
  · have h0' : l.length = m.length := by omega
    have hb : ((l.length : Int) != (m.length : Int)) = false := by simp [h0']
    simp only [b47, go_sem, encSms_length, hb]
    refine wp_loop (fun n fr st' => st' = st ∧ ∃ (i : Nat) (ser : Nat) (lx : List (Nat × List AV)), n + i = l.length ∧ sameSms l m = sameSms (l.drop i) (m.drop i) ∧
      ((lx = [(0, []), (0, [])]) ∨ ∃ a b c d, lx = [(a, b), (c, d)]) ∧
      fr = ⟨[(1, encSl n2 10 (encSms m)), (2, .func (.func f) [] []), (15, encSl n1 10 (encSms l)), (16, .int .i64 (l.length : Int)), (17, .int .i64 (i : Int))], lx, [], ser⟩) l.length ⟨rfl, 0, _, _, rfl, rfl, .inl rfl, rfl⟩ ?_
    rintro n fr st' ⟨rfl, i, ser, lx, hn, hsz, hlx, rfl⟩
    have hlx : ∃ a b c d, lx = [(a, b), (c, d)] := by
      rcases hlx with rfl | h
      · exact ⟨_, _, _, _, rfl⟩
      · exact h
    obtain ⟨x1, x2, x3, x4, rfl⟩ := hlx
    by_cases h : (i : Int) < (l.length : Int)
    · have hi : i < l.length := by omega
      have hi2 : i < m.length := by omega
      rw [sameSms_drop hi hi2] at hsz
      cases hc : sameSm l[i] m[i] with
      | true =>
        simp only [hc, Bool.true_and] at hsz
        simp only [b47l0, go_sem, h, el_Sm n1 l hi, el_Sm n2 m hi2, hf i hi, hc, wrap_one i (by omega)]
        exact ⟨n - 1, by omega, i + 1, _, _, by omega, hsz, .inr ⟨_, _, _, _, rfl⟩, rfl⟩
      | false =>
        simp only [hc, Bool.false_and] at hsz
        rw [hsz] at hQ
        simp only [b47l0, go_sem, h, el_Sm n1 l hi, el_Sm n2 m hi2, hf i hi, hc, trunc_self]
        exact hQ
    · rw [List.drop_of_length_le (by omega), List.drop_of_length_le (by omega)] at hsz
      rw [sameSms] at hsz
      rw [hsz] at hQ
      simp only [b47l0, go_sem, h, trunc_self]
      exact hQ
  · have hb := bne_iff_ne.2 h0
    have he : sameSms l m = false := by
      cases h : sameSms l m with
      | false => rfl
      | true => exact absurd (by rw [sameSms_len h]) h0
    rw [he] at hQ
    simp only [b47, go_sem, encSms_length, hb, trunc_self]
    exact hQ

theorem eqFuncBl_of (n1 n2 : Bool) (l m : List (Bool × List Sm)) (hl : l.length < most) (f : Nat) (hf : ∀ (i : Nat) (h : i < l.length) (n : Bool) (y : List Sm) (st : St) (Q : Res → St → Prop), CallA S f [encSl l[i].1 10 (encSms l[i].2), encSl n 10 (encSms y)] st Q = Q (.ret (.bool (sameSms l[i].2 y))) st) :
    CallA S 78 [encSl n1 1 (encBls l), encSl n2 1 (encBls m), .func (.func f) [] []] st Q = Q (.ret (.bool (sameBls l m))) st := by
  refine callA_eq (fun Q hQ => ?_) Q
  refine callA_body (by rfl) (by rfl) rfl ?_
  unfold most at hl
  by_cases h0 : (l.length : Int) = (m.length : Int)
  · have h0' : l.length = m.length := by omega
    have hb : ((l.length : Int) != (m.length : Int)) = false := by simp [h0']
    simp only [b78, go_sem, encBls_length, hb]
    refine wp_loop (fun n fr st' => st' = st ∧ ∃ (i : Nat) (ser : Nat), n + i = l.length ∧ sameBls l m = sameBls (l.drop i) (m.drop i) ∧
      fr = ⟨[(1, encSl n2 1 (encBls m)), (2, .func (.func f) [] []), (15, encSl n1 1 (encBls l)), (16, .int .i64 (l.length : Int)), (17, .int .i64 (i : Int))], [], [], ser⟩) l.length ⟨rfl, 0, _, rfl, rfl, rfl⟩ ?_
    rintro n fr st' ⟨rfl, i, ser, hn, hsz, rfl⟩
    by_cases h : (i : Int) < (l.length : Int)
    · have hi : i < l.length := by omega
      have hi2 : i < m.length := by omega
      rw [sameBls_drop hi hi2] at hsz
      cases hc : sameSms l[i].2 m[i].2 with
      | true =>
        simp only [hc, Bool.true_and] at hsz
        simp only [b78l0, go_sem, h, el_Bl n1 l hi, el_Bl n2 m hi2, hf i hi, hc, wrap_one i (by omega)]
        exact ⟨n - 1, by omega, i + 1, _, by omega, hsz, rfl⟩
      | false =>
        simp only [hc, Bool.false_and] at hsz
        rw [hsz] at hQ
        simp only [b78l0, go_sem, h, el_Bl n1 l hi, el_Bl n2 m hi2, hf i hi, hc, trunc_self]
        exact hQ
    · rw [List.drop_of_length_le (by omega), List.drop_of_length_le (by omega)] at hsz
      rw [sameBls] at hsz
      rw [hsz] at hQ
      simp only [b78l0, go_sem, h, trunc_self]
      exact hQ
  · have hb := bne_iff_ne.2 h0
    have he : sameBls l m = false := by
      cases h : sameBls l m with
      | false => rfl
      | true => exact absurd (by rw [sameBls_len h]) h0
    rw [he] at hQ
    simp only [b78, go_sem, encBls_length, hb, trunc_self]
    exact hQ

theorem eqFuncPd_of (n1 n2 : Bool) (l m : List Pd) (hl : l.length < most) (f : Nat) (hf : ∀ (i : Nat) (h : i < l.length) (y : Pd) (st : St) (Q : Res → St → Prop), CallA S f [.agg (encPd l[i]), .agg (encPd y)] st Q = Q (.ret (.bool (samePd l[i] y))) st) :
    CallA S 45 [encSl n1 4 (encPds l), encSl n2 4 (encPds m), .func (.func f) [] []] st Q = Q (.ret (.bool (samePds l m))) st := by
  refine callA_eq (fun Q hQ => ?_) Q
  refine callA_body (by rfl) (by rfl) rfl ?_
  unfold most at hl
  by_cases h0 : (l.length : Int) = (m.length : Int)
  · have h0' : l.length = m.length := by omega
    have hb : ((l.length : Int) != (m.length : Int)) = false := by simp [h0']
    simp only [b45, go_sem, encPds_length, hb]
    refine wp_loop (fun n fr st' => st' = st ∧ ∃ (i : Nat) (ser : Nat) (lx : List (Nat × List AV)), n + i = l.length ∧ samePds l m = samePds (l.drop i) (m.drop i) ∧
      ((lx = [(0, []), (0, [])]) ∨ ∃ a b c d, lx = [(a, b), (c, d)]) ∧
      fr = ⟨[(1, encSl n2 4 (encPds m)), (2, .func (.func f) [] []), (15, encSl n1 4 (encPds l)), (16, .int .i64 (l.length : Int)), (17, .int .i64 (i : Int))], lx, [], ser⟩) l.length ⟨rfl, 0, _, _, rfl, rfl, .inl rfl, rfl⟩ ?_
    rintro n fr st' ⟨rfl, i, ser, lx, hn, hsz, hlx, rfl⟩
    have hlx : ∃ a b c d, lx = [(a, b), (c, d)] := by
      rcases hlx with rfl | h
      · exact ⟨_, _, _, _, rfl⟩
      · exact h
    obtain ⟨x1, x2, x3, x4, rfl⟩ := hlx
    by_cases h : (i : Int) < (l.length : Int)
    · have hi : i < l.length := by omega
      have hi2 : i < m.length := by omega
      rw [samePds_drop hi hi2] at hsz
      cases hc : samePd l[i] m[i] with
      | true =>
        simp only [hc, Bool.true_and] at hsz
        simp only [b45l0, go_sem, h, el_Pd n1 l hi, el_Pd n2 m hi2, hf i hi, hc, wrap_one i (by omega)]
        exact ⟨n - 1, by omega, i + 1, _, _, by omega, hsz, .inr ⟨_, _, _, _, rfl⟩, rfl⟩
      | false =>
        simp only [hc, Bool.false_and] at hsz
        rw [hsz] at hQ
        simp only [b45l0, go_sem, h, el_Pd n1 l hi, el_Pd n2 m hi2, hf i hi, hc, trunc_self]
        exact hQ
    · rw [List.drop_of_length_le (by omega), List.drop_of_length_le (by omega)] at hsz
      rw [hsz] at hQ
      simp only [b45l0, go_sem, h, trunc_self]
      exact hQ
  · have hb := bne_iff_ne.2 h0
    have he : samePds l m = false := by
      cases h : samePds l m with
      | false => rfl
      | true => exact absurd (by rw [samePds_len h]) h0
    rw [he] at hQ
    simp only [b45, go_sem, encPds_length, hb, trunc_self]
    exact hQ
end
end Go.Proofs.YtelpkgbghhpgaaaGreatDoor.Sx
end
section
/- When programs are equal: the program's functions. -/
set_option maxRecDepth 100000
namespace Go.Proofs.YtelpkgbghhpgaaaGreatDoor.Sx
theorem bne_of {α : Type} [BEq α] {a b : α} {c : Bool} (h : (a == b) = c) : (a != b) = !c := by rw [bne, h]
section
variable {st : St} {Q : Res → St → Prop}

theorem tSameStmt_eq : ∀ (x : Sm), bdSm x → ∀ (y : Sm) (st : St) (Q : Res → St → Prop), CallA S 48 [.agg (encSm x), .agg (encSm y)] st Q = Q (.ret (.bool (sameSm x y))) st
  | .mk op s t pn p xn x bn b ck nn n fn f wn w, hb, .mk op2 s2 t2 pn2 p2 xn2 x2 bn2 b2 ck2 nn2 n2 fn2 f2 wn2 w2 => by
    simp only [bdSm] at hb
    obtain ⟨hp, hbl, hxl, hx, hn, hf, hw, hbb⟩ := hb
    have ih : ∀ (m1 m2 : Bool) (m : List (Bool × List Sm)) (st : St) (Q : Res → St → Prop), CallA S 78 [encSl m1 1 (encBls b), encSl m2 1 (encBls m), .func (.func 79) [] []] st Q = Q (.ret (.bool (sameBls b m))) st := by
      intro m1 m2 m st Q
      refine eqFuncBl_of m1 m2 b m hbl _ (fun i h n y st Q => ?_)
      refine callA_eq (fun Q hQ => ?_) Q
      refine callA_body (by rfl) (by rfl) rfl ?_
      simp only [b79, go_sem, fun st Q => eqFuncSm_of (st := st) (Q := Q) b[i].1 n b[i].2 y (bdBls_mem hbb _ (List.getElem_mem h)).1 48 (fun j hj => tSameStmt_eq b[i].2[j] (bdSms_mem (bdBls_mem hbb _ (List.getElem_mem h)).2 _ (List.getElem_mem hj))), trunc_self]
      exact hQ
    intro st
    refine callA_eq (fun Q hQ => ?_)
    refine callA_body (by rfl) (by rfl) rfl ?_
    simp only [sameSm] at hQ
    have lx : x.length < most := by unfold most; omega
    have ln : n.length < most := by unfold most; omega
    have lf : f.length < most := by unfold most; omega
    have lw : w.length < most := by unfold most; omega
    have heq : ∀ (st : St) (Q : Res → St → Prop), CallA S 42 [encSl pn 1 (encStr p), encSl pn2 1 (encStr p2)] st Q = Q (.ret (.bool (p == p2))) st := fun st Q => slEqual_eq pn pn2 p p2 hp
    have ex := fun (st : St) (Q : Res → St → Prop) => tSameExprs_eq (st := st) (Q := Q) xn xn2 x x2 lx hx
    have en := fun (st : St) (Q : Res → St → Prop) => tSameExprs_eq (st := st) (Q := Q) nn nn2 n n2 ln hn
    have ef := fun (st : St) (Q : Res → St → Prop) => tSameExprs_eq (st := st) (Q := Q) fn fn2 f f2 lf hf
    have ew := fun (st : St) (Q : Res → St → Prop) => tSameExprs_eq (st := st) (Q := Q) wn wn2 w w2 lw hw
    cases c1 : (op == op2) with
    | false =>
      simp only [c1, Bool.true_and, Bool.false_and, Bool.and_false] at hQ
      have dc1 := bne_of c1
      simp only [b48, go_sem, encSm_mk, heq, ex, en, ef, ew, ih, c1, dc1, trunc_self]
      exact hQ
    | true =>
    cases c2 : (s == s2) with
    | false =>
      simp only [c1, c2, Bool.true_and, Bool.false_and, Bool.and_false] at hQ
      have dc1 := bne_of c1
      have dc2 := bne_of c2
      simp only [b48, go_sem, encSm_mk, heq, ex, en, ef, ew, ih, c1, c2, dc1, dc2, trunc_self]
      exact hQ
    | true =>
    cases c3 : (t == t2) with
    | false =>
      simp only [c1, c2, c3, Bool.true_and, Bool.false_and, Bool.and_false] at hQ
      have dc1 := bne_of c1
      have dc2 := bne_of c2
      have dc3 := bne_of c3
      simp only [b48, go_sem, encSm_mk, heq, ex, en, ef, ew, ih, c1, c2, c3, dc1, dc2, dc3, trunc_self]
      exact hQ
    | true =>
    cases c4 : (p == p2) with
    | false =>
      simp only [c1, c2, c3, c4, Bool.true_and, Bool.false_and, Bool.and_false] at hQ
      have dc1 := bne_of c1
      have dc2 := bne_of c2
      have dc3 := bne_of c3
      simp only [b48, go_sem, encSm_mk, heq, ex, en, ef, ew, ih, c1, c2, c3, c4, dc1, dc2, dc3, trunc_self]
      exact hQ
    | true =>
    cases c5 : sameXs x x2 with
    | false =>
      simp only [c1, c2, c3, c4, c5, Bool.true_and, Bool.false_and, Bool.and_false] at hQ
      have dc1 := bne_of c1
      have dc2 := bne_of c2
      have dc3 := bne_of c3
      simp only [b48, go_sem, encSm_mk, heq, ex, en, ef, ew, ih, c1, c2, c3, c4, c5, dc1, dc2, dc3, trunc_self]
      exact hQ
    | true =>
    cases c6 : (ck == ck2) with
    | false =>
      simp only [c1, c2, c3, c4, c5, c6, Bool.true_and, Bool.false_and, Bool.and_false] at hQ
      have dc1 := bne_of c1
      have dc2 := bne_of c2
      have dc3 := bne_of c3
      have dc6 := bne_of c6
      simp only [b48, go_sem, encSm_mk, heq, ex, en, ef, ew, ih, c1, c2, c3, c4, c5, c6, dc1, dc2, dc3, dc6, trunc_self]
      exact hQ
    | true =>
    cases c7 : sameXs n n2 with
    | false =>
      simp only [c1, c2, c3, c4, c5, c6, c7, Bool.true_and, Bool.false_and, Bool.and_false] at hQ
      have dc1 := bne_of c1
      have dc2 := bne_of c2
      have dc3 := bne_of c3
      have dc6 := bne_of c6
      simp only [b48, go_sem, encSm_mk, heq, ex, en, ef, ew, ih, c1, c2, c3, c4, c5, c6, c7, dc1, dc2, dc3, dc6, trunc_self]
      exact hQ
    | true =>
    cases c8 : sameXs f f2 with
    | false =>
      simp only [c1, c2, c3, c4, c5, c6, c7, c8, Bool.true_and, Bool.false_and, Bool.and_false] at hQ
      have dc1 := bne_of c1
      have dc2 := bne_of c2
      have dc3 := bne_of c3
      have dc6 := bne_of c6
      simp only [b48, go_sem, encSm_mk, heq, ex, en, ef, ew, ih, c1, c2, c3, c4, c5, c6, c7, c8, dc1, dc2, dc3, dc6, trunc_self]
      exact hQ
    | true =>
    cases c9 : sameXs w w2 with
    | false =>
      simp only [c1, c2, c3, c4, c5, c6, c7, c8, c9, Bool.true_and, Bool.false_and, Bool.and_false] at hQ
      have dc1 := bne_of c1
      have dc2 := bne_of c2
      have dc3 := bne_of c3
      have dc6 := bne_of c6
      simp only [b48, go_sem, encSm_mk, heq, ex, en, ef, ew, ih, c1, c2, c3, c4, c5, c6, c7, c8, c9, dc1, dc2, dc3, dc6, trunc_self]
      exact hQ
    | true =>
    cases c10 : sameBls b b2 with
    | false =>
      simp only [c1, c2, c3, c4, c5, c6, c7, c8, c9, c10, Bool.true_and, Bool.false_and, Bool.and_false] at hQ
      have dc1 := bne_of c1
      have dc2 := bne_of c2
      have dc3 := bne_of c3
      have dc6 := bne_of c6
      simp only [b48, go_sem, encSm_mk, heq, ex, en, ef, ew, ih, c1, c2, c3, c4, c5, c6, c7, c8, c9, c10, dc1, dc2, dc3, dc6, trunc_self]
      exact hQ
    | true =>
    have dc1 := bne_of c1
    have dc2 := bne_of c2
    have dc3 := bne_of c3
    have dc6 := bne_of c6
    simp only [c1, c2, c3, c4, c5, c6, c7, c8, c9, c10, Bool.and_self, Bool.true_and] at hQ
    simp only [b48, go_sem, encSm_mk, heq, ex, en, ef, ew, ih, c1, c2, c3, c4, c5, c6, c7, c8, c9, c10, dc1, dc2, dc3, dc6, trunc_self]
    exact hQ
termination_by x => SizeOf.sizeOf x
decreasing_by
  have h1 := List.sizeOf_lt_of_mem (List.getElem_mem h)
  have h2 := List.sizeOf_lt_of_mem (List.getElem_mem hj)
  have h3 : SizeOf.sizeOf b[i] = 1 + SizeOf.sizeOf b[i].1 + SizeOf.sizeOf b[i].2 := by rfl
  simp only [Sm.mk.sizeOf_spec]
  omega

theorem tSamePd_eq (x y : Pd) (hp : x.p.length < most) (hl : x.body.length < most) (hb : bdSms x.body) : CallA S 46 [.agg (encPd x), .agg (encPd y)] st Q = Q (.ret (.bool (samePd x y))) st := by
    refine callA_eq (fun Q hQ => ?_) Q
    refine callA_body (by rfl) (by rfl) rfl ?_
    obtain ⟨name, fn, pn, p, bn, b⟩ := x
    obtain ⟨name2, fn2, pn2, p2, bn2, b2⟩ := y
    simp only [samePd] at hQ hp hl hb
    have heq : ∀ (st : St) (Q : Res → St → Prop), CallA S 42 [encSl pn 1 (encStr p), encSl pn2 1 (encStr p2)] st Q = Q (.ret (.bool (p == p2))) st := fun st Q => slEqual_eq pn pn2 p p2 hp
    have eb := fun (st : St) (Q : Res → St → Prop) => eqFuncSm_of (st := st) (Q := Q) bn bn2 b b2 hl 48 (fun j hj => tSameStmt_eq b[j] (bdSms_mem hb _ (List.getElem_mem hj)))
    cases c1 : (name == name2) with
    | false =>
      simp only [c1, Bool.true_and, Bool.false_and, Bool.and_false] at hQ
      simp only [b46, go_sem, encPd, heq, eb, c1, trunc_self]
      exact hQ
    | true =>
    cases c2 : (fn == fn2) with
    | false =>
      simp only [c1, c2, Bool.true_and, Bool.false_and, Bool.and_false] at hQ
      simp only [b46, go_sem, encPd, heq, eb, c1, c2, trunc_self]
      exact hQ
    | true =>
    cases c3 : (p == p2) with
    | false =>
      simp only [c1, c2, c3, Bool.true_and, Bool.false_and, Bool.and_false] at hQ
      simp only [b46, go_sem, encPd, heq, eb, c1, c2, c3, trunc_self]
      exact hQ
    | true =>
    cases c4 : sameSms b b2 with
    | false =>
      simp only [c1, c2, c3, c4, Bool.true_and, Bool.false_and, Bool.and_false] at hQ
      simp only [b46, go_sem, encPd, heq, eb, c1, c2, c3, c4, trunc_self]
      exact hQ
    | true =>
    simp only [c1, c2, c3, c4, Bool.and_self, Bool.true_and] at hQ
    simp only [b46, go_sem, encPd, heq, eb, c1, c2, c3, c4, trunc_self]
    exact hQ

theorem tSame_eq (n1 n2 : Bool) (l m : List Pd) (hb : bdPds l) : CallA S 18 [encSl n1 4 (encPds l), encSl n2 4 (encPds m)] st Q = Q (.ret (.bool (samePds l m))) st := by
  refine callA_eq (fun Q hQ => ?_) Q
  refine callA_body (by rfl) (by rfl) rfl ?_
  simp only [b18, go_sem, fun st Q => eqFuncPd_of (st := st) (Q := Q) n1 n2 l m hb.1 46 (fun i h y st Q => tSamePd_eq l[i] y (hb.2 _ (List.getElem_mem h)).1 (hb.2 _ (List.getElem_mem h)).2.1 (hb.2 _ (List.getElem_mem h)).2.2), trunc_self]
  exact hQ
end
end Go.Proofs.YtelpkgbghhpgaaaGreatDoor.Sx
end
