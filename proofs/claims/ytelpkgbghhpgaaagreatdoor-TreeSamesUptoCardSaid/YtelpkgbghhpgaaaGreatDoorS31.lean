/- TreeSames returns true for all programs whose data are not larger than a bound. When programs are equal: the document's functions. known(): what the two readings come to. known() is true. How much is in expressions. -/
import Derived.Test.YtelpkgbghhpgaaaGreatDoorS30
set_option linter.all false
section
/- When programs are equal: the document's functions. -/
set_option maxRecDepth 100000
namespace Go.Proofs.YtelpkgbghhpgaaaGreatDoor.Sx
section
variable {st : St} {Q : Res → St → Prop}

theorem sm_cases (x : Sm) : ∃ (op : Int) (s t : List UInt8) (pn : Bool) (p : List (List UInt8)) (xn : Bool) (x' : List Xp) (bn : Bool) (b : List (Bool × List Sm)) (ck : Int) (nn : Bool) (n : List Xp) (fn : Bool) (f : List Xp) (wn : Bool) (w : List Xp), x = .mk op s t pn p xn x' bn b ck nn n fn f wn w := by
  cases x; exact ⟨_, _, _, _, _, _, _, _, _, _, _, _, _, _, _, _, rfl⟩

set_option maxHeartbeats 2000000 in
theorem rSameBlock_of (n1 n2 : Bool) (l m : List Sm) (hl : l.length < most) (hb : ∀ x ∈ l, bdSm x)
    (ih : ∀ (i : Nat) (h : i < l.length) (op : Int) (s t : List UInt8) (pn : Bool) (p : List (List UInt8)) (xn : Bool) (x : List Xp) (bn : Bool) (b : List (Bool × List Sm)) (ck : Int) (nn : Bool) (n : List Xp) (fn : Bool) (f : List Xp) (wn : Bool) (w : List Xp), l[i] = .mk op s t pn p xn x bn b ck nn n fn f wn w → ∀ (k : Nat) (hk : k < b.length) (n2 : Bool) (m : List Sm) (st : St) (Q : Res → St → Prop), CallA S 40 [encSl b[k].1 10 (encSms b[k].2), encSl n2 10 (encSms m)] st Q = Q (.ret (.bool (sameSms b[k].2 m))) st) :
    CallA S 40 [encSl n1 10 (encSms l), encSl n2 10 (encSms m)] st Q = Q (.ret (.bool (sameSms l m))) st := by
  refine callA_eq (fun Q hQ => ?_) Q
  refine callA_body (by rfl) (by rfl) rfl ?_
  unfold most at hl
  by_cases h0 : (l.length : Int) = (m.length : Int)
  · have h0' : l.length = m.length := by omega
    have hb0 : ((l.length : Int) != (m.length : Int)) = false := by simp [h0']
    simp only [b40, go_sem, encSms_length, hb0]
    refine wp_loop (fun n fr st' => st' = st ∧ ∃ (i : Nat) (ser : Nat) (lx : List (Nat × List AV)), n + i = l.length ∧ sameSms l m = sameSms (l.drop i) (m.drop i) ∧
      ((lx = [(0, []), (0, [])]) ∨ ∃ a b c d, lx = [(a, b), (c, d)]) ∧
      fr = ⟨[(0, encSl n1 10 (encSms l)), (1, encSl n2 10 (encSms m)), (5, .int .i64 (i : Int))], lx, [], ser⟩) l.length ⟨rfl, 0, _, _, rfl, rfl, .inl rfl, rfl⟩ ?_
    rintro N fr st' ⟨rfl, i, ser, lx, hn, hsz, hlx, rfl⟩
    have hlx : ∃ a b c d, lx = [(a, b), (c, d)] := by
      rcases hlx with rfl | h
      · exact ⟨_, _, _, _, rfl⟩
      · exact h
    obtain ⟨x1, x2, x3, x4, rfl⟩ := hlx
    by_cases h : (i : Int) < (l.length : Int)
    · have hi : i < l.length := by omega
      have hi2 : i < m.length := by omega
      rw [sameSms_drop hi hi2] at hsz
      have e1 := el_Sm n1 l hi
      have e2 := el_Sm n2 m hi2
      obtain ⟨op, s, t, pn, p, xn, x, bn, b, ck, nn, n, fn, f, wn, w, he⟩ := sm_cases l[i]
      obtain ⟨op2, s2, t2, pn2, p2, xn2, x2, bn2, b2, ck2, nn2, n2', fn2, f2, wn2, w2, he2⟩ := sm_cases m[i]
      have hbi := hb _ (List.getElem_mem hi)
      have ihi := ih i hi _ _ _ _ _ _ _ _ _ _ _ _ _ _ _ _ he
      rw [he] at hbi
      rw [he, encSm_mk] at e1
      rw [he2, encSm_mk] at e2
      rw [he, he2] at hsz
      simp only [bdSm] at hbi
      obtain ⟨hp, hbl, hxl, hx, hnn, hf, hw, hbb⟩ := hbi
      unfold most at hbl
      simp only [sameSm] at hsz
      have lx : x.length < most := by unfold most; omega
      have ln : n.length < most := by unfold most; omega
      have lf : f.length < most := by unfold most; omega
      have lw : w.length < most := by unfold most; omega
      have heq : ∀ (st : St) (Q : Res → St → Prop), CallA S 32 [encSl pn 1 (encStr p), encSl pn2 1 (encStr p2)] st Q = Q (.ret (.bool (p == p2))) st := fun st Q => sameTexts6_eq pn pn2 p p2 hp
      have ex := fun (st : St) (Q : Res → St → Prop) => rSameExprs_eq (st := st) (Q := Q) xn xn2 x x2 lx hx
      have en := fun (st : St) (Q : Res → St → Prop) => rSameExprs_eq (st := st) (Q := Q) nn nn2 n n2' ln hnn
      have ef := fun (st : St) (Q : Res → St → Prop) => rSameExprs_eq (st := st) (Q := Q) fn fn2 f f2 lf hf
      have ew := fun (st : St) (Q : Res → St → Prop) => rSameExprs_eq (st := st) (Q := Q) wn wn2 w w2 lw hw
      by_cases hB : (b.length : Int) = (b2.length : Int)
      · have hB' : b.length = b2.length := by omega
        have hbB : ((b.length : Int) != (b2.length : Int)) = false := by simp [hB']
        cases c1 : (op == op2) with
        | false =>
          simp only [c1, Bool.true_and, Bool.false_and, Bool.and_false] at hsz
          rw [hsz] at hQ
          have dc1 := bne_of c1
          simp only [b40l1, go_sem, encSms_length, encBls_length, h, e1, e2, heq, ex, en, ef, ew, hbB, c1, dc1, trunc_self]
          exact hQ
        | true =>
        cases c2 : (s == s2) with
        | false =>
          simp only [c1, c2, Bool.true_and, Bool.false_and, Bool.and_false] at hsz
          rw [hsz] at hQ
          have dc1 := bne_of c1
          have dc2 := bne_of c2
          simp only [b40l1, go_sem, encSms_length, encBls_length, h, e1, e2, heq, ex, en, ef, ew, hbB, c1, c2, dc1, dc2, trunc_self]
          exact hQ
        | true =>
        cases c3 : (t == t2) with
        | false =>
          simp only [c1, c2, c3, Bool.true_and, Bool.false_and, Bool.and_false] at hsz
          rw [hsz] at hQ
          have dc1 := bne_of c1
          have dc2 := bne_of c2
          have dc3 := bne_of c3
          simp only [b40l1, go_sem, encSms_length, encBls_length, h, e1, e2, heq, ex, en, ef, ew, hbB, c1, c2, c3, dc1, dc2, dc3, trunc_self]
          exact hQ
        | true =>
        cases c4 : (p == p2) with
        | false =>
          simp only [c1, c2, c3, c4, Bool.true_and, Bool.false_and, Bool.and_false] at hsz
          rw [hsz] at hQ
          have dc1 := bne_of c1
          have dc2 := bne_of c2
          have dc3 := bne_of c3
          simp only [b40l1, go_sem, encSms_length, encBls_length, h, e1, e2, heq, ex, en, ef, ew, hbB, c1, c2, c3, c4, dc1, dc2, dc3, trunc_self]
          exact hQ
        | true =>
        cases c5 : sameXs x x2 with
        | false =>
          simp only [c1, c2, c3, c4, c5, Bool.true_and, Bool.false_and, Bool.and_false] at hsz
          rw [hsz] at hQ
          have dc1 := bne_of c1
          have dc2 := bne_of c2
          have dc3 := bne_of c3
          simp only [b40l1, go_sem, encSms_length, encBls_length, h, e1, e2, heq, ex, en, ef, ew, hbB, c1, c2, c3, c4, c5, dc1, dc2, dc3, trunc_self]
          exact hQ
        | true =>
        cases c6 : (ck == ck2) with
        | false =>
          simp only [c1, c2, c3, c4, c5, c6, Bool.true_and, Bool.false_and, Bool.and_false] at hsz
          rw [hsz] at hQ
          have dc1 := bne_of c1
          have dc2 := bne_of c2
          have dc3 := bne_of c3
          have dc6 := bne_of c6
          simp only [b40l1, go_sem, encSms_length, encBls_length, h, e1, e2, heq, ex, en, ef, ew, hbB, c1, c2, c3, c4, c5, c6, dc1, dc2, dc3, dc6, trunc_self]
          exact hQ
        | true =>
        cases c7 : sameXs n n2' with
        | false =>
          simp only [c1, c2, c3, c4, c5, c6, c7, Bool.true_and, Bool.false_and, Bool.and_false] at hsz
          rw [hsz] at hQ
          have dc1 := bne_of c1
          have dc2 := bne_of c2
          have dc3 := bne_of c3
          have dc6 := bne_of c6
          simp only [b40l1, go_sem, encSms_length, encBls_length, h, e1, e2, heq, ex, en, ef, ew, hbB, c1, c2, c3, c4, c5, c6, c7, dc1, dc2, dc3, dc6, trunc_self]
          exact hQ
        | true =>
        cases c8 : sameXs f f2 with
        | false =>
          simp only [c1, c2, c3, c4, c5, c6, c7, c8, Bool.true_and, Bool.false_and, Bool.and_false] at hsz
          rw [hsz] at hQ
          have dc1 := bne_of c1
          have dc2 := bne_of c2
          have dc3 := bne_of c3
          have dc6 := bne_of c6
          simp only [b40l1, go_sem, encSms_length, encBls_length, h, e1, e2, heq, ex, en, ef, ew, hbB, c1, c2, c3, c4, c5, c6, c7, c8, dc1, dc2, dc3, dc6, trunc_self]
          exact hQ
        | true =>
        cases c9 : sameXs w w2 with
        | false =>
          simp only [c1, c2, c3, c4, c5, c6, c7, c8, c9, Bool.true_and, Bool.false_and, Bool.and_false] at hsz
          rw [hsz] at hQ
          have dc1 := bne_of c1
          have dc2 := bne_of c2
          have dc3 := bne_of c3
          have dc6 := bne_of c6
          simp only [b40l1, go_sem, encSms_length, encBls_length, h, e1, e2, heq, ex, en, ef, ew, hbB, c1, c2, c3, c4, c5, c6, c7, c8, c9, dc1, dc2, dc3, dc6, trunc_self]
          exact hQ
        | true =>
        have dc1 := bne_of c1
        have dc2 := bne_of c2
        have dc3 := bne_of c3
        have dc6 := bne_of c6
        simp only [c1, c2, c3, c4, c5, c6, c7, c8, c9, Bool.and_self, Bool.true_and] at hsz
        simp only [b40l1, go_sem, encSms_length, encBls_length, h, e1, e2, heq, ex, en, ef, ew, hbB, c1, c2, c3, c4, c5, c6, c7, c8, c9, dc1, dc2, dc3, dc6]
        refine wp_loop (fun n' fr st => st = st' ∧ ∃ (k : Nat) (ser : Nat) (v1 v2 : Nat × List AV), n' + k = b.length ∧ sameBls b b2 = sameBls (b.drop k) (b2.drop k) ∧
          fr = ⟨[(0, encSl n1 10 (encSms l)), (1, encSl n2 10 (encSms m)), (5, .int .i64 (i : Int)), (6, .lptr 0 v1.1 0), (7, .lptr 1 v2.1 0), (8, .int .i64 (k : Int))], [(v1.1, encSm (.mk op s t pn p xn x bn b ck nn n fn f wn w)), (v2.1, encSm (.mk op2 s2 t2 pn2 p2 xn2 x2 bn2 b2 ck2 nn2 n2' fn2 f2 wn2 w2))], [], ser⟩) b.length ⟨rfl, 0, _, (_, []), (_, []), rfl, rfl, by rw [encSm_mk, encSm_mk]; rfl⟩ ?_
        rintro N2 fr st ⟨rfl, k, ser, v1, v2, hn2, hs2, rfl⟩
        by_cases hk : (k : Int) < (b.length : Int)
        · have hk1 : k < b.length := by omega
          have hk2 : k < b2.length := by omega
          rw [sameBls_drop hk1 hk2] at hs2
          cases cc : sameSms b[k].2 b2[k].2 with
          | true =>
            simp only [cc, Bool.true_and] at hs2
            simp only [b40l0, go_sem, encSm_mk, encBls_length, hk, el_Bl bn b hk1, el_Bl bn2 b2 hk2, ihi k hk1, cc, wrap_one k (by omega)]
            exact ⟨N2 - 1, by omega, k + 1, _, (_, []), (_, []), by omega, hs2, by rfl⟩
          | false =>
            simp only [cc, Bool.false_and] at hs2
            simp only [hs2, Bool.false_and] at hsz
            rw [hsz] at hQ
            simp only [b40l0, go_sem, encSm_mk, encBls_length, hk, el_Bl bn b hk1, el_Bl bn2 b2 hk2, ihi k hk1, cc, trunc_self]
            exact hQ
        · rw [List.drop_of_length_le (by omega), List.drop_of_length_le (by omega), sameBls] at hs2
          simp only [hs2, List.isEmpty_nil, Bool.true_and] at hsz
          simp only [b40l0, go_sem, encSm_mk, encBls_length, hk, wrap_one i (by omega)]
          exact ⟨N - 1, by omega, i + 1, _, _, by omega, hsz, .inr ⟨_, _, _, _, rfl⟩, rfl⟩
      · have hbB := bne_iff_ne.2 hB
        have hbe : sameBls b b2 = false := by
          cases h : sameBls b b2 with
          | false => rfl
          | true => exact absurd (by rw [sameBls_len h]) hB
        simp only [hbe, Bool.and_false, Bool.false_and] at hsz
        rw [hsz] at hQ
        cases c1 : (op == op2)
        · have dc1 := bne_of c1
          simp only [b40l1, go_sem, encSms_length, encBls_length, h, e1, e2, heq, ex, en, ef, ew, hbB, c1, dc1, trunc_self]
          exact hQ
        have dc1 := bne_of c1
        cases c2 : (s == s2)
        · have dc2 := bne_of c2
          simp only [b40l1, go_sem, encSms_length, encBls_length, h, e1, e2, heq, ex, en, ef, ew, hbB, c1, dc1, c2, dc2, trunc_self]
          exact hQ
        have dc2 := bne_of c2
        cases c3 : (t == t2)
        · have dc3 := bne_of c3
          simp only [b40l1, go_sem, encSms_length, encBls_length, h, e1, e2, heq, ex, en, ef, ew, hbB, c1, dc1, c2, dc2, c3, dc3, trunc_self]
          exact hQ
        have dc3 := bne_of c3
        cases c4 : (p == p2)
        · simp only [b40l1, go_sem, encSms_length, encBls_length, h, e1, e2, heq, ex, en, ef, ew, hbB, c1, dc1, c2, dc2, c3, dc3, c4, trunc_self]
          exact hQ
        cases c5 : sameXs x x2
        · simp only [b40l1, go_sem, encSms_length, encBls_length, h, e1, e2, heq, ex, en, ef, ew, hbB, c1, dc1, c2, dc2, c3, dc3, c4, c5, trunc_self]
          exact hQ
        simp only [b40l1, go_sem, encSms_length, encBls_length, h, e1, e2, heq, ex, en, ef, ew, hbB, c1, dc1, c2, dc2, c3, dc3, c4, c5, trunc_self]
        exact hQ
    · rw [List.drop_of_length_le (by omega), List.drop_of_length_le (by omega), sameSms] at hsz
      rw [hsz] at hQ
      simp only [b40l1, go_sem, encSms_length, h, trunc_self]
      exact hQ
  · have hb0 := bne_iff_ne.2 h0
    have he : sameSms l m = false := by
      cases h : sameSms l m with
      | false => rfl
      | true => exact absurd (by rw [sameSms_len h]) h0
    rw [he] at hQ
    simp only [b40, go_sem, encSms_length, hb0, trunc_self]
    exact hQ

theorem rSameSm_eq : ∀ (x : Sm), bdSm x → ∀ (op : Int) (s t : List UInt8) (pn : Bool) (p : List (List UInt8)) (xn : Bool) (x' : List Xp) (bn : Bool) (b : List (Bool × List Sm)) (ck : Int) (nn : Bool) (n : List Xp) (fn : Bool) (f : List Xp) (wn : Bool) (w : List Xp), x = .mk op s t pn p xn x' bn b ck nn n fn f wn w → ∀ (k : Nat) (hk : k < b.length) (n2 : Bool) (m : List Sm) (st : St) (Q : Res → St → Prop), CallA S 40 [encSl b[k].1 10 (encSms b[k].2), encSl n2 10 (encSms m)] st Q = Q (.ret (.bool (sameSms b[k].2 m))) st
  | .mk op s t pn p xn x bn b ck nn n fn f wn w, hb => by
    intro _ _ _ _ _ _ _ _ b' _ _ _ _ _ _ _ he
    injection he with _ _ _ _ _ _ _ _ h1
    subst h1
    intro k hk n2 m st Q
    simp only [bdSm] at hb
    obtain ⟨_, _, _, _, _, _, _, hbb⟩ := hb
    have h3 := bdBls_mem hbb _ (List.getElem_mem hk)
    exact rSameBlock_of _ _ _ _ h3.1 (bdSms_mem h3.2) (fun j hj => rSameSm_eq b[k].2[j] (bdSms_mem h3.2 _ (List.getElem_mem hj)))
termination_by x => SizeOf.sizeOf x
decreasing_by
  have h1 := List.sizeOf_lt_of_mem (List.getElem_mem hk)
  have h2 := List.sizeOf_lt_of_mem (List.getElem_mem hj)
  have h3 : SizeOf.sizeOf b[k] = 1 + SizeOf.sizeOf b[k].1 + SizeOf.sizeOf b[k].2 := by rfl
  simp only [Sm.mk.sizeOf_spec]
  omega

theorem rSameBlock_eq (n1 n2 : Bool) (l m : List Sm) (hl : l.length < most) (hb : bdSms l) : CallA S 40 [encSl n1 10 (encSms l), encSl n2 10 (encSms m)] st Q = Q (.ret (.bool (sameSms l m))) st :=
  rSameBlock_of _ _ _ _ hl (bdSms_mem hb) (fun i h => rSameSm_eq l[i] (bdSms_mem hb _ (List.getElem_mem h)))

theorem rSame_eq (n1 n2 : Bool) (l m : List Pd) (hb : bdPds l) : CallA S 14 [encSl n1 4 (encPds l), encSl n2 4 (encPds m)] st Q = Q (.ret (.bool (samePds l m))) st := by
  refine callA_eq (fun Q hQ => ?_) Q
  refine callA_body (by rfl) (by rfl) rfl ?_
  obtain ⟨hl, hb⟩ := hb
  unfold most at hl
  by_cases h0 : (l.length : Int) = (m.length : Int)
  · have h0' : l.length = m.length := by omega
    have hb0 : ((l.length : Int) != (m.length : Int)) = false := by simp [h0']
    simp only [b14, go_sem, encPds_length, hb0]
    refine wp_loop (fun n fr st' => st' = st ∧ ∃ (i : Nat) (ser : Nat), n + i = l.length ∧ samePds l m = samePds (l.drop i) (m.drop i) ∧
      fr = ⟨[(0, encSl n1 4 (encPds l)), (1, encSl n2 4 (encPds m)), (5, .int .i64 (i : Int))], [], [], ser⟩) l.length ⟨rfl, 0, _, rfl, rfl, rfl⟩ ?_
    rintro N fr st' ⟨rfl, i, ser, hn, hsz, rfl⟩
    by_cases h : (i : Int) < (l.length : Int)
    · have hi : i < l.length := by omega
      have hi2 : i < m.length := by omega
      rw [samePds_drop hi hi2] at hsz
      have e1 := el_Pd n1 l hi
      have e2 := el_Pd n2 m hi2
      have hbi := hb _ (List.getElem_mem hi)
      generalize l[i] = x at *
      generalize m[i] = y at *
      obtain ⟨name, fn, pn, p, bn, b⟩ := x
      obtain ⟨name2, fn2, pn2, p2, bn2, b2⟩ := y
      simp only [encPd] at e1 e2
      simp only at hbi
      simp only [samePd] at hsz
      have heq : ∀ (st : St) (Q : Res → St → Prop), CallA S 32 [encSl pn 1 (encStr p), encSl pn2 1 (encStr p2)] st Q = Q (.ret (.bool (p == p2))) st := fun st Q => sameTexts6_eq pn pn2 p p2 hbi.1
      have eb := fun (st : St) (Q : Res → St → Prop) => rSameBlock_eq (st := st) (Q := Q) bn bn2 b b2 hbi.2.1 hbi.2.2
      cases c1 : (name == name2) with
      | false =>
        simp only [c1, Bool.true_and, Bool.false_and, Bool.and_false] at hsz
        rw [hsz] at hQ
        have dc1 := bne_of c1
        simp only [b14l0, go_sem, encPds_length, h, e1, e2, heq, eb, c1, dc1, trunc_self]
        exact hQ
      | true =>
      cases c2 : (fn == fn2) with
      | false =>
        simp only [c1, c2, Bool.true_and, Bool.false_and, Bool.and_false] at hsz
        rw [hsz] at hQ
        have dc1 := bne_of c1
        have dc2 := bne_of c2
        simp only [b14l0, go_sem, encPds_length, h, e1, e2, heq, eb, c1, c2, dc1, dc2, trunc_self]
        exact hQ
      | true =>
      cases c3 : (p == p2) with
      | false =>
        simp only [c1, c2, c3, Bool.true_and, Bool.false_and, Bool.and_false] at hsz
        rw [hsz] at hQ
        have dc1 := bne_of c1
        have dc2 := bne_of c2
        simp only [b14l0, go_sem, encPds_length, h, e1, e2, heq, eb, c1, c2, c3, dc1, dc2, trunc_self]
        exact hQ
      | true =>
      cases c4 : sameSms b b2 with
      | false =>
        simp only [c1, c2, c3, c4, Bool.true_and, Bool.false_and, Bool.and_false] at hsz
        rw [hsz] at hQ
        have dc1 := bne_of c1
        have dc2 := bne_of c2
        simp only [b14l0, go_sem, encPds_length, h, e1, e2, heq, eb, c1, c2, c3, c4, dc1, dc2, trunc_self]
        exact hQ
      | true =>
      have dc1 := bne_of c1
      have dc2 := bne_of c2
      simp only [c1, c2, c3, c4, Bool.and_self, Bool.true_and] at hsz
      simp only [b14l0, go_sem, encPds_length, h, e1, e2, heq, eb, c1, c2, c3, c4, dc1, dc2, wrap_one i (by omega)]
      exact ⟨N - 1, by omega, i + 1, _, by omega, hsz, rfl⟩
    · rw [List.drop_of_length_le (by omega), List.drop_of_length_le (by omega), samePds] at hsz
      rw [hsz] at hQ
      simp only [b14l0, go_sem, encPds_length, h, trunc_self]
      exact hQ
  · have hb0 := bne_iff_ne.2 h0
    have he : samePds l m = false := by
      cases h : samePds l m with
      | false => rfl
      | true => exact absurd (by rw [samePds_len h]) h0
    rw [he] at hQ
    simp only [b14, go_sem, encPds_length, hb0, trunc_self]
    exact hQ
end
end Go.Proofs.YtelpkgbghhpgaaaGreatDoor.Sx
end
section
/- known(): what the two readings come to. -/
set_option maxRecDepth 100000
namespace Go.Proofs.YtelpkgbghhpgaaaGreatDoor.Sx
def srcA : List UInt8 := [97, 45, 62, 98, 32, 43, 32, 49]
def srcB : List UInt8 := [105, 102, 32, 61, 32, 49]
def toksA : List Tok := [⟨0, 0, [65]⟩, ⟨4, 1, [45, 62]⟩, ⟨0, 3, [66]⟩, ⟨4, 5, [43]⟩, ⟨1, 7, [49]⟩, ⟨5, 8, []⟩]
def toksB : List Tok := [⟨0, 0, [73, 70]⟩, ⟨4, 3, [61]⟩, ⟨1, 5, [49]⟩, ⟨5, 6, []⟩]
theorem lexA : lexP srcA = (toksA, 6, 0) := by rfl
theorem lexB : lexP srcB = (toksB, 4, 0) := by rfl
def exprA : Xp := mkBin [43] (mkAlias [65] (mkName [66])) (mkC 2 1 [])
theorem spA : sp toksA 8 .expr 0 = .ok exprA 5 := by rfl
theorem kwB0 : kwAt toksB 0 = [] := by rfl
theorem kwB4 : toksB.length = 4 := rfl
theorem endB : isEnding [] = false := by rfl
theorem setB : spSet toksB (sp toksB 8 .expr) 0 = .ok (mkSet (mkName [73, 70]) (mkC 2 1 [])) 4 := by rfl
def bodyB : List Sm := [mkSet (mkName [73, 70]) (mkC 2 1 [])]
def progB : List Pd := [⟨[77, 65, 73, 78], false, true, [], true, bodyB⟩]
theorem sizeA : isLarge (szX exprA) = false := by rfl
theorem twiceB : hasTwice [] progB = false := by rfl
theorem sizeB : isLarge (szPds (0, 0) progB) = false := by rfl
theorem bdA : bdX exprA := by
  simp [exprA, mkBin, mkAlias, mkName, mkC, bdX, bdXs, most]
theorem bdB : bdPds progB := by
  refine ⟨by decide, fun x hx => ?_⟩
  simp only [progB, List.mem_cons, List.mem_nil_iff, or_false] at hx
  subst hx
  simp [bodyB, mkSet, mkName, mkC, bdSms, bdSm, bdXs, bdX, bdBls, most]
def blockB (a : Nat) : PR (List Sm) := spBlockL toksB (fun a => if a = 0 then spSet toksB (sp toksB 8 .expr) 0 else .out) 8 [] a
theorem programB : spProgram toksB blockB 8 0 = .ok progB 4 := by rfl
end Go.Proofs.YtelpkgbghhpgaaaGreatDoor.Sx
end
section
/- known() is true. -/
set_option maxRecDepth 100000
namespace Go.Proofs.YtelpkgbghhpgaaaGreatDoor.Sx
section
variable {st : St} {Q : Res → St → Prop}

theorem parseA_eq : CallA S 9 [.str srcA] st Q = Q (.ret (.tuple [.agg (encX exprA), .int .i64 6, .int .i64 0])) st := by
  refine callA_eq (fun Q hQ => ?_) Q
  refine parseExpr_ok srcA 8 (by omega) ?_
  unfold peQ
  rw [lexA, if_pos rfl, spA]
  refine ⟨exprA, rfl, ?_⟩
  rw [if_neg (by decide)]
  refine ⟨bdA, ?_⟩
  rw [sizeA]
  exact hQ

theorem tokB : ∀ t ∈ toksB, TokOk t := by
  have := (lexP_ok srcB).2
  rw [lexB] at this
  exact this

theorem parseB_eq : CallA S 12 [.str srcB] st Q = Q (.ret (.tuple [ePds progB, .int .i64 4, .int .i64 0])) st := by
  refine callA_eq (fun Q hQ => ?_) Q
  refine parse_ok srcB (fun _ => spProgram toksB blockB 8 0) (fun st id Q hid hQ => ?_) ?_
  · rw [lexB] at hQ ⊢
    have hl : toksB.length < 65536 := by decide
    refine program_ok hid hl tokB 8 (by omega) blockB (block_ok hid hl tokB 8 (by omega) _ (fun a Q ha h hQ => ?_)) 0 Q (Nat.zero_le _) hQ
    by_cases h0 : a = 0
    · subst h0
      rw [if_pos rfl] at hQ
      exact set_ok hid hl tokB (sp_ok hl tokB 8 (by omega) .expr st id hid) (Nat.zero_le _) kwB0 (by rfl) (by rfl) hQ
    · rw [if_neg h0] at hQ
      exact hQ.elim
  · unfold paQ
    rw [lexB, if_pos rfl, programB]
    unfold programQ
    rw [PR.on_ok, if_neg (by decide)]
    refine ⟨bdB, ?_⟩
    rw [twiceB, sizeB]
    exact hQ

theorem num_eq (n : Int) : CallA S 22 [.int .i64 n] st Q = Q (.ret (.agg [.int .i64 2, .int .i64 n, .str []])) st := by
  refine callA_eq (fun Q hQ => ?_) Q
  refine callA_body (by rfl) (by rfl) rfl ?_
  simp only [b22, go_sem, trunc_self]
  exact hQ

theorem known_eq : CallA S 8 [] st Q = Q (.ret (.bool true)) st := by
  refine callA_eq (fun Q hQ => ?_) Q
  refine callA_body (by rfl) (by rfl) rfl ?_
  have h1 := fun (st : St) (Q : Res → St → Prop) => parseA_eq (st := st) (Q := Q)
  have h2 := fun (st : St) (Q : Res → St → Prop) => parseB_eq (st := st) (Q := Q)
  unfold srcA at h1
  unfold srcB at h2
  have h3 : ∀ (st : St) (Q : Res → St → Prop), CallA S 11 [.agg (encX exprA), .agg (encX exprA)] st Q = Q (.ret (.bool true)) st := fun st Q => by
    rw [rSameExpr_eq exprA bdA, sameX_refl]
  have hx : encX exprA = [.int .i64 5, .str [43], .int .i64 0, .int .i64 0, .str [], .nilslice, .slice 7 [[.int .i64 2, .str [65], .int .i64 0, .int .i64 0, .str [], .nilslice, .slice 7 [[.int .i64 1, .str [66], .int .i64 0, .int .i64 0, .str [], .nilslice, .nilslice]] .no], [.int .i64 0, .str [], .int .i64 2, .int .i64 1, .str [], .nilslice, .nilslice]] .no] := by rfl
  rw [hx] at h1 h3
  have hp : ePds progB = .slice 4 [[.str [77, 65, 73, 78], .bool false, .nilslice, .slice 10 [encSm (mkSet (mkName [73, 70]) (mkC 2 1 []))] .no]] .no := by rfl
  have hs : encSm (mkSet (mkName [73, 70]) (mkC 2 1 [])) = [.int .i64 0, .str [], .str [], .nilslice, encSl false 7 (encXs [mkName [73, 70], mkC 2 1 []]), .nilslice, .int .i64 0, .nilslice, .nilslice, .nilslice] := by rfl
  rw [hp, hs] at h2
  simp only [b8, go_sem, h1, h2, num_eq, h3]
  rw [if_pos (by rfl), if_pos (by rfl), trunc_self]
  exact hQ
end
end Go.Proofs.YtelpkgbghhpgaaaGreatDoor.Sx
end
section
/- How much is in expressions. -/
set_option maxRecDepth 100000
namespace Go.Proofs.YtelpkgbghhpgaaaGreatDoor.Sx
section
variable {st : St} {Q : Res → St → Prop}

theorem encX_cells (x : Xp) : ∃ (op : Int) (s : List UInt8) (vk vn : Int) (vs : List UInt8) (pn : Bool) (p : List (List UInt8)) (ln : Bool) (l : List Xp), x = .mk op s vk vn vs pn p ln l := by
  cases x; exact ⟨_, _, _, _, _, _, _, _, _, rfl⟩

/-- heavy comes to some number. -/
theorem heavy_of (nb : Bool) (l : List Xp) (hl : l.length < most) (hp : ∀ x ∈ l, bdX x)
    (ih : ∀ (i : Nat) (h : i < l.length) (op : Int) (s : List UInt8) (vk vn : Int) (vs : List UInt8) (pn : Bool) (p : List (List UInt8)) (ln : Bool) (m : List Xp), l[i] = .mk op s vk vn vs pn p ln m → ∀ (st : St) (Q : Res → St → Prop), (∀ n : Int, Q (.ret (.int .i64 n)) st) → CallA S 41 [encSl ln 7 (encXs m)] st Q)
    (hQ : ∀ n : Int, Q (.ret (.int .i64 n)) st) : CallA S 41 [encSl nb 7 (encXs l)] st Q := by
  refine callA_body (by rfl) (by rfl) rfl ?_
  unfold most at hl
  simp only [b41, go_sem, encXs_length]
  refine wp_loop (fun m fr st' => st' = st ∧ ∃ (i : Nat) (n : Int) (ser : Nat), m + i = l.length ∧
    fr = ⟨[(0, encSl nb 7 (encXs l)), (3, .int .i64 n), (4, .int .i64 (i : Int))], [], [], ser⟩) l.length ⟨rfl, 0, _, _, rfl, rfl⟩ ?_
  rintro m fr st' ⟨rfl, i, n, ser, hm, rfl⟩
  by_cases h : (i : Int) < (l.length : Int)
  · by_cases h2 : n < 65536
    · have hi : i < l.length := by omega
      obtain ⟨op, s, vk, vn, vs, pn, p, ln, ll, he⟩ := encX_cells l[i]
      have hel := el_X nb l hi
      rw [he, encX_mk] at hel
      have hb := hp _ (List.getElem_mem hi)
      rw [he] at hb
      simp only [bdX] at hb
      have hpl := hb.1
      unfold most at hpl
      simp only [b41l1, go_sem, encXs_length, h, h2, hel]
      refine ih i hi op s vk vn vs pn p ln ll he _ _ (fun n2 => ?_)
      simp only [go_sem]
      refine wp_loop (fun m2 fr st => st = st' ∧ ∃ (k : Nat) (n : Int) (ser : Nat), m2 + k = p.length ∧
        fr = ⟨[(0, encSl nb 7 (encXs l)), (3, .int .i64 n), (4, .int .i64 (i : Int)), (5, .int .i64 (k : Int))], [], [], ser⟩) p.length ⟨rfl, 0, _, _, rfl, rfl⟩ ?_
      rintro m2 fr st ⟨rfl, k, n, ser, hm2, rfl⟩
      by_cases h3 : (k : Int) < (p.length : Int)
      · have hk : k < p.length := by omega
        have hes : elA 1 (k : Int) (encSl pn 1 (p.map fun x => [.str x])) = some [.str p[k]] := el_str pn p hk
        simp only [b41l0, go_sem, hel, List.length_map, h3, hes, wrap_one k (by omega)]
        exact ⟨m2 - 1, by omega, k + 1, _, _, by omega, rfl⟩
      · simp only [b41l0, go_sem, hel, List.length_map, h3, wrap_one i (by omega)]
        exact ⟨m - 1, by omega, i + 1, _, _, by omega, rfl⟩
    · simp only [b41l1, go_sem, encXs_length, h, h2, trunc_self]
      exact hQ _
  · simp only [b41l1, go_sem, encXs_length, h, trunc_self]
    exact hQ _

theorem heavyX_ok : ∀ (x : Xp), bdX x → ∀ (op : Int) (s : List UInt8) (vk vn : Int) (vs : List UInt8) (pn : Bool) (p : List (List UInt8)) (ln : Bool) (m : List Xp), x = .mk op s vk vn vs pn p ln m → ∀ (st : St) (Q : Res → St → Prop), (∀ n : Int, Q (.ret (.int .i64 n)) st) → CallA S 41 [encSl ln 7 (encXs m)] st Q
  | .mk _ _ _ _ _ _ _ _ l, hb, op, s, vk, vn, vs, pn, p, ln, m, he, st, Q, hQ => by
    injection he with _ _ _ _ _ _ _ h1 h2
    subst h1 h2
    simp only [bdX] at hb
    exact heavy_of _ _ hb.2.1 (fun x hx => bdXs_mem hb.2.2 x hx) (fun i h => heavyX_ok l[i] (bdXs_mem hb.2.2 _ (List.getElem_mem h))) hQ
termination_by x => SizeOf.sizeOf x
decreasing_by
  have := List.sizeOf_lt_of_mem (List.getElem_mem h)
  simp only [Xp.mk.sizeOf_spec]
  omega

theorem heavy_ok (nb : Bool) (l : List Xp) (hl : l.length < most) (hp : bdXs l) (hQ : ∀ n : Int, Q (.ret (.int .i64 n)) st) : CallA S 41 [encSl nb 7 (encXs l)] st Q :=
  heavy_of nb l hl (bdXs_mem hp) (fun i h => heavyX_ok l[i] (bdXs_mem hp _ (List.getElem_mem h))) hQ

end
end Go.Proofs.YtelpkgbghhpgaaaGreatDoor.Sx
end
