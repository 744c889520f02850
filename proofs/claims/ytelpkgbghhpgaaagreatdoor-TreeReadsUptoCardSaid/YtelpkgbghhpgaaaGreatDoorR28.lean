/- TreeReads returns true for all texts whose data are not larger than a bound. The document's values: numbers and days that digits write. The document's lexer: bytes, line ends, comments. -/
import Derived.Test.YtelpkgbghhpgaaaGreatDoorR22
import Derived.Test.YtelpkgbghhpgaaaGreatDoorR25
import Derived.Test.YtelpkgbghhpgaaaGreatDoorR27
set_option linter.all false
section
set_option maxRecDepth 100000
namespace Go.Proofs.YtelpkgbghhpgaaaGreatDoor.Sx
section
variable {st : St} {Q : Res → St → Prop}
theorem risDigit_eq (b : UInt8) : CallA S 173 [.int .u8 (b.toNat : Int)] st Q = Q (.ret (.bool (isDig b))) st := by
  refine callA_eq (fun Q hQ => ?_) Q
  refine callA_body (by rfl) (by rfl) rfl ?_
  cases hd : isDig b with
  | true =>
    have := isDig_iff.1 hd
    have g1 : (b.toNat : Int) ≥ 48 := by omega
    have g2 : (b.toNat : Int) ≤ 57 := by omega
    rw [hd] at hQ
    simp only [b173, go_sem, g1, g2, trunc_self]
    exact hQ
  | false =>
    have hn : ¬ (48 ≤ b.toNat ∧ b.toNat ≤ 57) := fun h => by rw [isDig_iff.2 h] at hd; cases hd
    rw [hd] at hQ
    by_cases g1 : (b.toNat : Int) ≥ 48
    · have g2 : ¬ (b.toNat : Int) ≤ 57 := by omega
      simp only [b173, go_sem, g1, g2, trunc_self]
      exact hQ
    · simp only [b173, go_sem, g1, trunc_self]
      exact hQ
theorem rval_eq (s : List UInt8) (h1 : s ≠ []) (h2 : s.length ≤ 15) (h3 : ∀ c ∈ s, isDig c = true) : CallA S 246 [.str s] st Q = Q (.ret (.int .i64 (numOf s))) st := by
  refine callA_eq (fun Q hQ => ?_) Q
  refine callA_body (by rfl) (by rfl) rfl ?_
  obtain ⟨b, h0⟩ : ∃ b, s[0]? = some b := by cases s with | nil => exact absurd rfl h1 | cons b t => exact ⟨b, rfl⟩
  have hb := isDig_iff.1 (h3 b (List.mem_of_getElem? h0))
  have hl0 : (0 : Int) < (s.length : Int) := by
    have := (List.getElem?_eq_some_iff.1 h0).1
    omega
  have g3 : ((b.toNat : Int) == 32) = false := by simp; omega
  have g4 : ((b.toNat : Int) == 45) = false := by simp; omega
  have g5 : ((b.toNat : Int) == 43) = false := by simp; omega
  simp only [b246, go_sem]
  refine wp_unroll 1 ?_
  rw [WpL_succ]
  simp only [b246l0, go_sem, hl0, h0, g3, g4, g5, loopN_exit]
  refine wp_loop (fun n fr st' => st' = st ∧ ∃ (i ser : Nat), n + i = s.length ∧
    fr = ⟨[(0, .str s), (3, .int .i64 (i : Int)), (4, .bool false), (5, .int .i64 (numOf (s.take i)))], [], [], ser⟩) s.length ⟨rfl, 0, _, rfl, by rw [List.take_zero]; rfl⟩ ?_
  rintro n fr st' ⟨rfl, i, ser, hn, rfl⟩
  by_cases h : (i : Int) < (s.length : Int)
  · have hi : i < s.length := by omega
    have hdd := h3 _ (List.getElem_mem hi)
    have hd := isDig_iff.1 hdd
    have hg : s[i]? = some s[i] := List.getElem?_eq_getElem hi
    obtain ⟨n1, n2⟩ := numOf_bound h3 i (by omega)
    have hp : (10 : Int) ^ i ≤ 100000000000000 := by
      have : (10 : Int) ^ i ≤ 10 ^ 14 := by exact_mod_cast Nat.pow_le_pow_right (by omega) (show i ≤ 14 by omega)
      exact this
    have e1 : IntKind.u8.wrap ((s[i].toNat : Int) - 48) = (s[i].toNat : Int) - 48 := wrap_u8 _ (by omega) (by omega)
    have e3 : IntKind.i64.wrap (10 * numOf (s.take i)) = numOf (s.take i) * 10 := by rw [Int.mul_comm]; exact wrap_int _ (by omega) (by omega)
    have e4 : IntKind.i64.wrap ((s[i].toNat : Int) - 48) = (s[i].toNat : Int) - 48 := wrap_int _ (by omega) (by omega)
    have e5 : IntKind.i64.wrap (numOf (s.take i) * 10 + ((s[i].toNat : Int) - 48)) = numOf (s.take (i + 1)) := by
      rw [numOf_take hi]; exact wrap_int _ (by omega) (by omega)
    have e6 : ¬ (1000000000000000 < numOf (s.take (i + 1))) := by rw [numOf_take hi]; omega
    simp only [b246l1, go_sem, h, hg, risDigit_eq, hdd, e1, e3, e4, e5, e6, wrap_one i (by omega)]
    exact ⟨n - 1, by omega, i + 1, _, by omega, rfl⟩
  · have e : s.take i = s := List.take_of_length_le (by omega)
    simp only [b246l1, go_sem, h, e, trunc_self]
    exact hQ
theorem rleap_eq (y : Int) (h1 : 0 ≤ y) (h2 : y < 100000) : CallA S 290 [.int .i64 y] st Q = Q (.ret (.bool (leapY y))) st := by
  refine callA_eq (fun Q hQ => ?_) Q
  refine callA_body (by rfl) (by rfl) rfl ?_
  unfold leapY at hQ
  have h4 : (y.tmod 4 == 0) = false → (y.tmod 400 == 0) = false := by
    intro h
    have t4 : y.tmod 4 = y % 4 := Int.tmod_eq_emod_of_nonneg h1
    have t400 : y.tmod 400 = y % 400 := Int.tmod_eq_emod_of_nonneg h1
    simp only [beq_eq_false_iff_ne, ne_eq] at h ⊢
    omega
  cases c1 : (y.tmod 4 == 0) <;> cases c2 : (y.tmod 100 != 0) <;> cases c3 : (y.tmod 400 == 0)
  all_goals try (rw [h4 c1] at c3; cases c3; done)
  all_goals
    simp only [c1, c2, c3, Bool.true_and, Bool.false_and, Bool.or_true, Bool.or_false, Bool.true_or, Bool.false_or] at hQ
    simp only [b290, go_sem, Int.reduceEq, c1, c2, c3, trunc_self]
    exact hQ
theorem rlength_eq (y : Int) (h1 : 0 ≤ y) (h2 : y < 100000) (m : Int) : CallA S 276 [.int .i64 y, .int .i64 m] st Q = Q (.ret (.int .i64 (monthLen y m))) st := by
  refine callA_eq (fun Q hQ => ?_) Q
  refine callA_body (by rfl) (by rfl) rfl ?_
  unfold monthLen at hQ
  by_cases c1 : m = 2
  · subst c1
    cases hl : leapY y
    all_goals
      simp [hl] at hQ
      simp only [b276, go_sem, rleap_eq y h1 h2, hl, Int.reduceBEq, trunc_self]
      exact hQ
  · have d1 : (m == 2) = false := by simp [c1]
    rw [if_neg c1] at hQ
    by_cases c2 : m = 4
    · subst c2
      rw [if_pos (by simp)] at hQ
      simp only [b276, go_sem, d1, Int.reduceBEq, trunc_self]
      exact hQ
    by_cases c3 : m = 6
    · subst c3
      rw [if_pos (by simp)] at hQ
      simp only [b276, go_sem, d1, Int.reduceBEq, trunc_self]
      exact hQ
    by_cases c4 : m = 9
    · subst c4
      rw [if_pos (by simp)] at hQ
      simp only [b276, go_sem, d1, Int.reduceBEq, trunc_self]
      exact hQ
    by_cases c5 : m = 11
    · subst c5
      rw [if_pos (by simp)] at hQ
      simp only [b276, go_sem, d1, Int.reduceBEq, trunc_self]
      exact hQ
    have d2 : (m == 4) = false := by simp [c2]
    have d3 : (m == 6) = false := by simp [c3]
    have d4 : (m == 9) = false := by simp [c4]
    have d5 : (m == 11) = false := by simp [c5]
    rw [if_neg (by simp [c2, c3, c4, c5])] at hQ
    simp only [b276, go_sem, d1, d2, d3, d4, d5, trunc_self]
    exact hQ
theorem rdays_eq (y m d : Int) (hy : 0 ≤ y ∧ y < 100000) (hm : 0 ≤ m ∧ m < 100000) (hd : 0 ≤ d ∧ d < 100000) :
    CallA S 245 [.int .i64 y, .int .i64 m, .int .i64 d] st Q = Q (.ret (.tuple [.int .i64 (daysOf y m d), .int .i64 (if badDay y m d then 1 else 0)])) st := by
  refine callA_eq (fun Q hQ => ?_) Q
  refine callA_body (by rfl) (by rfl) rfl ?_
  unfold daysOf at hQ
  have hbad : badDay y m d → Q (.ret (.tuple [.int .i64 0, .int .i64 1])) st := fun h => by
    rw [if_pos h] at hQ
    rw [if_pos (show y < 1 ∨ y > 9999 ∨ m < 1 ∨ m > 12 ∨ d < 1 ∨ d > monthLen y m from h)] at hQ
    exact hQ
  by_cases c1 : y < 1
  · simp only [b245, go_sem, c1, trunc_self]
    exact hbad (.inl c1)
  by_cases c2 : y > 9999
  · simp only [b245, go_sem, c1, c2, trunc_self]
    exact hbad (.inr (.inl c2))
  by_cases c3 : m < 1
  · simp only [b245, go_sem, c1, c2, c3, trunc_self]
    exact hbad (.inr (.inr (.inl c3)))
  by_cases c4 : m > 12
  · simp only [b245, go_sem, c1, c2, c3, c4, trunc_self]
    exact hbad (.inr (.inr (.inr (.inl c4))))
  by_cases c5 : d < 1
  · simp only [b245, go_sem, c1, c2, c3, c4, c5, trunc_self]
    exact hbad (.inr (.inr (.inr (.inr (.inl c5)))))
  by_cases c6 : d > monthLen y m
  · simp only [b245, go_sem, c1, c2, c3, c4, c5, rlength_eq y hy.1 hy.2 m, c6, trunc_self]
    exact hbad (.inr (.inr (.inr (.inr (.inr c6)))))
  have hb : ¬ badDay y m d := by
    unfold badDay
    omega
  have hb2 : ¬ (y < 1 ∨ y > 9999 ∨ m < 1 ∨ m > 12 ∨ d < 1 ∨ d > monthLen y m) := hb
  rw [if_neg hb, if_neg hb2] at hQ
  have hdl := (monthLen_bound y m).2
  have w0 : IntKind.i64.wrap (y - 1) = y - 1 := wrap_int _ (by omega) (by omega)
  have t4 : (y - 1).tdiv 4 = (y - 1) / 4 := Int.tdiv_eq_ediv_of_nonneg (by omega)
  have t100 : (y - 1).tdiv 100 = (y - 1) / 100 := Int.tdiv_eq_ediv_of_nonneg (by omega)
  have t400 : (y - 1).tdiv 400 = (y - 1) / 400 := Int.tdiv_eq_ediv_of_nonneg (by omega)
  simp only [b245, go_sem, c1, c2, c3, c4, c5, rlength_eq y hy.1 hy.2 m, c6]
  refine wp_loop (fun n fr st' => st' = st ∧ ∃ (k ser : Nat), (n : Int) + k = m - 1 ∧
    fr = ⟨[(0, .int .i64 y), (1, .int .i64 m), (8, .int .i64 (d + monthsLen y k)), (9, .int .i64 ((k : Int) + 1))], [], [], ser⟩) (m - 1).toNat ⟨rfl, 0, _, by omega, by rw [monthsLen, Int.add_zero]; rfl⟩ ?_
  rintro n fr st' ⟨rfl, k, ser, hn, rfl⟩
  obtain ⟨k1, k2⟩ := monthsLen_bound y k
  by_cases h : (k : Int) + 1 < m
  · have e1 : IntKind.i64.wrap ((k : Int) + 1 + 1) = ((k + 1 : Nat) : Int) + 1 := wrap_int _ (by omega) (by omega)
    obtain ⟨l1, l2⟩ := monthLen_bound y ((k : Int) + 1)
    have e2 : IntKind.i64.wrap (d + monthsLen y k + monthLen y ((k : Int) + 1)) = d + monthsLen y (k + 1) := by
      rw [wrap_int _ (by omega) (by omega), monthsLen]; omega
    simp only [b245l0, go_sem, h, e1, rlength_eq y hy.1 hy.2 ((k : Int) + 1), e2]
    exact ⟨n - 1, by omega, k + 1, _, by omega, rfl⟩
  · have e : k = (m - 1).toNat := by omega
    rw [← e] at hQ
    have w1 : IntKind.i64.wrap (365 * (y - 1)) = 365 * (y - 1) := wrap_int _ (by omega) (by omega)
    have w2 : IntKind.i64.wrap ((y - 1).tdiv 4) = (y - 1).tdiv 4 := wrap_int _ (by omega) (by omega)
    have w3 : IntKind.i64.wrap ((y - 1).tdiv 100) = (y - 1).tdiv 100 := wrap_int _ (by omega) (by omega)
    have w4 : IntKind.i64.wrap ((y - 1).tdiv 400) = (y - 1).tdiv 400 := wrap_int _ (by omega) (by omega)
    have w5 : IntKind.i64.wrap (d + monthsLen y k + 365 * (y - 1)) = d + monthsLen y k + 365 * (y - 1) := wrap_int _ (by omega) (by omega)
    have w6 : IntKind.i64.wrap (d + monthsLen y k + 365 * (y - 1) + (y - 1).tdiv 4) = d + monthsLen y k + 365 * (y - 1) + (y - 1).tdiv 4 := wrap_int _ (by omega) (by omega)
    have w7 : IntKind.i64.wrap (d + monthsLen y k + 365 * (y - 1) + (y - 1).tdiv 4 - (y - 1).tdiv 100) = d + monthsLen y k + 365 * (y - 1) + (y - 1).tdiv 4 - (y - 1).tdiv 100 := wrap_int _ (by omega) (by omega)
    have w8 : IntKind.i64.wrap (d + monthsLen y k + 365 * (y - 1) + (y - 1).tdiv 4 - (y - 1).tdiv 100 + (y - 1).tdiv 400) = 365 * (y - 1) + (y - 1).tdiv 4 - (y - 1).tdiv 100 + (y - 1).tdiv 400 + d + monthsLen y k := by
      rw [wrap_int _ (by omega) (by omega)]; omega
    simp only [b245l0, go_sem, h, Int.reduceEq, w0, w1, w2, w3, w4, w5, w6, w7, w8, trunc_self]
    exact hQ
theorem runstamp_eq (s : List UInt8) (h : s.length < 65536) : CallA S 212 [.str s] st Q = Q (.ret (.tuple [.int .i64 (dayOf s), .bool (s == blanks8 || dayOk s)])) st := by
  refine callA_eq (fun Q hQ => ?_) Q
  refine callA_body (by rfl) (by rfl) rfl ?_
  cases c1 : (s == [32, 32, 32, 32, 32, 32, 32, 32]) with
  | true =>
    have e := eq_of_beq c1
    subst e
    have e1 : dayOf [32, 32, 32, 32, 32, 32, 32, 32] = 0 := by rfl
    have e2 : (([32, 32, 32, 32, 32, 32, 32, 32] : List UInt8) == blanks8) = true := by rfl
    rw [e1, e2, Bool.true_or] at hQ
    simp only [b212, go_sem, c1, trunc_self]
    exact hQ
  | false =>
    rw [show (s == blanks8) = false from c1, Bool.false_or] at hQ
    by_cases c2 : s.length = 8
    · have c2' : ((s.length : Int) != 8) = false := by simp [c2]
      simp only [b212, go_sem, c1, c2']
      refine wp_loop (fun n fr st' => st' = st ∧ ∃ (i ser : Nat), n + i = 8 ∧ s.all isDig = (s.drop i).all isDig ∧
        fr = ⟨[(0, .str s), (4, .int .i64 (i : Int))], [], [], ser⟩) 8 ⟨rfl, 0, _, rfl, rfl, rfl⟩ ?_
      rintro n fr st' ⟨rfl, i, ser, hn, hal, rfl⟩
      by_cases hi8 : (i : Int) < 8
      · have hi : i < s.length := by omega
        have hg : s[i]? = some s[i] := List.getElem?_eq_getElem hi
        rw [List.drop_eq_getElem_cons hi, List.all_cons] at hal
        cases hd : isDig s[i] with
        | true =>
          rw [hd, Bool.true_and] at hal
          simp only [b212l0, go_sem, hi8, hg, risDigit_eq, hd, wrap_one i (by omega)]
          exact ⟨n - 1, by omega, i + 1, _, by omega, hal, rfl⟩
        | false =>
          rw [hd, Bool.false_and] at hal
          have e1 : dayOf s = 0 := by simp [dayOf, hal]
          have e2 : dayOk s = false := by simp [dayOk, hal]
          rw [e1, e2] at hQ
          simp only [b212l0, go_sem, hi8, hg, risDigit_eq, hd, trunc_self]
          exact hQ
      · rw [List.drop_of_length_le (by omega), List.all_nil] at hal
        have c3 := hal
        have hd : ∀ c ∈ s, isDig c = true := List.all_eq_true.1 c3
        have f4 : (4 : Int) ≤ (s.length : Int) := by omega
        have f6 : (6 : Int) ≤ (s.length : Int) := by omega
        have hs2 : (s.take 6).drop 4 = (s.drop 4).take 2 := by rw [List.drop_take]
        have key : ∀ t : List UInt8, t ≠ [] → t.length ≤ 4 → (∀ c ∈ t, c ∈ s) → (∀ (st : St) (Q : Res → St → Prop), CallA S 246 [.str t] st Q = Q (.ret (.int .i64 (numOf t))) st) ∧ 0 ≤ numOf t ∧ numOf t < 100000 := by
          intro t h1 h2 h3
          have hdt : ∀ c ∈ t, isDig c = true := fun c hc => hd c (h3 c hc)
          refine ⟨fun st Q => rval_eq t h1 (by omega) hdt, ?_⟩
          obtain ⟨n1, n2⟩ := numOf_bound hdt t.length (Nat.le_refl _)
          rw [List.take_length] at n1 n2
          have hp : (10 : Int) ^ t.length ≤ 10000 := by
            have : (10 : Int) ^ t.length ≤ 10 ^ 4 := by exact_mod_cast Nat.pow_le_pow_right (by omega) h2
            exact this
          omega
        have l1 : (s.take 4).length = 4 := by rw [List.length_take]; omega
        have l2 : ((s.drop 4).take 2).length = 2 := by rw [List.length_take, List.length_drop]; omega
        have l3 : (s.drop 6).length = 2 := by rw [List.length_drop]; omega
        obtain ⟨v1, y1, y2⟩ := key (s.take 4) (by intro e; rw [e] at l1; cases l1) (by omega) (fun c hc => List.mem_of_mem_take hc)
        obtain ⟨v2, m1, m2⟩ := key ((s.drop 4).take 2) (by intro e; rw [e] at l2; cases l2) (by omega) (fun c hc => List.mem_of_mem_drop (List.mem_of_mem_take hc))
        obtain ⟨v3, d1, d2⟩ := key (s.drop 6) (by intro e; rw [e] at l3; cases l3) (by omega) (fun c hc => List.mem_of_mem_drop hc)
        have hday : dayOf s = daysOf (numOf (s.take 4)) (numOf ((s.drop 4).take 2)) (numOf (s.drop 6)) := by unfold dayOf; rw [if_pos ⟨c2, c3⟩]
        have hok : dayOk s = !decide (badDay (numOf (s.take 4)) (numOf ((s.drop 4).take 2)) (numOf (s.drop 6))) := by
          unfold dayOk badDay
          rw [c3, decide_eq_true c2]; rfl
        rw [hday, hok] at hQ
        have hdays := fun (st : St) (Q : Res → St → Prop) => rdays_eq (st := st) (Q := Q) _ _ _ ⟨y1, y2⟩ ⟨m1, m2⟩ ⟨d1, d2⟩
        by_cases hb : badDay (numOf (s.take 4)) (numOf ((s.drop 4).take 2)) (numOf (s.drop 6))
        · simp only [hb, if_true] at hdays
          have e10 : ((1 : Int) == 0) = false := by decide
          rw [decide_eq_true hb] at hQ
          simp only [b212l0, go_sem, hi8, f4, f6, Int.le_refl, List.take_length, hs2, v1, v2, v3, hdays, e10, trunc_self]
          exact hQ
        · simp only [hb, if_false] at hdays
          have e10 : ((0 : Int) == 0) = true := by decide
          rw [decide_eq_false hb] at hQ
          simp only [b212l0, go_sem, hi8, f4, f6, Int.le_refl, List.take_length, hs2, v1, v2, v3, hdays, e10, trunc_self]
          exact hQ
    · have c2' : ((s.length : Int) != 8) = true := by simp; omega
      have e1 : dayOf s = 0 := by simp [dayOf, c2]
      have e2 : dayOk s = false := by simp [dayOk, c2]
      rw [e1, e2] at hQ
      simp only [b212, go_sem, c1, c2', trunc_self]
      exact hQ
theorem rnum_eq (n : Int) : CallA S 22 [.int .i64 n] st Q = Q (.ret (.agg [.int .i64 2, .int .i64 n, .str []])) st := by
  refine callA_eq (fun Q hQ => ?_) Q
  refine callA_body (by rfl) (by rfl) rfl ?_
  simp only [b22, go_sem, trunc_self]
  exact hQ
theorem rdate_eq (n : Int) : CallA S 292 [.int .i64 n] st Q = Q (.ret (.agg [.int .i64 3, .int .i64 n, .str []])) st := by
  refine callA_eq (fun Q hQ => ?_) Q
  refine callA_body (by rfl) (by rfl) rfl ?_
  simp only [b292, go_sem, trunc_self]
  exact hQ
theorem rtext_eq (s : List UInt8) : CallA S 291 [.str s] st Q = Q (.ret (.agg [.int .i64 4, .int .i64 0, .str s])) st := by
  refine callA_eq (fun Q hQ => ?_) Q
  refine callA_body (by rfl) (by rfl) rfl ?_
  simp only [b291, go_sem, trunc_self]
  exact hQ
theorem rtruth_eq (b : Bool) : CallA S 294 [.bool b] st Q = Q (.ret (.agg [.int .i64 1, .int .i64 (if b = true then 1 else 0), .str []])) st := by
  refine callA_eq (fun Q hQ => ?_) Q
  refine callA_body (by rfl) (by rfl) rfl ?_
  cases b
  · simp only [b294, go_sem, trunc_self]
    exact hQ
  · simp only [b294, go_sem, trunc_self]
    exact hQ
end
end Go.Proofs.YtelpkgbghhpgaaaGreatDoor.Sx
end
section
set_option maxRecDepth 100000
namespace Go.Proofs.YtelpkgbghhpgaaaGreatDoor.Sx
def outV (id : Nat) (acc : List Tok) : AV := match acc with
  | [] => .nilslice
  | _ => .slice 3 (acc.map encT) (.cell id 4)
def VL (st : St) (id : Nat) (s : List UInt8) (a : Nat) (line : Bool) (wr : Int) (acc : List Tok) : St := st.setCells id [.str s, .int .i64 (a : Int), .bool line, .int .i64 wr, outV id acc]
section
variable {st : St} {id a : Nat} {s : List UInt8} {line : Bool} {wr : Int} {acc : List Tok} {Q : Res → St → Prop}
theorem VL_cells (hid : id < st.size) : (VL st id s a line wr acc).cells id = some [.str s, .int .i64 (a : Int), .bool line, .int .i64 wr, outV id acc] := cells_set hid
theorem VL_set (b : Nat) (l2 : Bool) (w2 : Int) (acc2 : List Tok) : (VL st id s a line wr acc).setCells id [.str s, .int .i64 (b : Int), .bool l2, .int .i64 w2, outV id acc2] = VL st id s b l2 w2 acc2 := set_set
theorem VL_size : (VL st id s a line wr acc).size = st.size := size_set
theorem VL_trunc : (VL st id s a line wr acc).trunc st.size = VL st id s a line wr acc := trunc_set
theorem beqi_byte (b : UInt8) (k : Int) (hk : 0 ≤ k) (hk2 : k < 256) : ((b.toNat : Int) == k) = decide (b = UInt8.ofNat k.toNat) := by
  have := beq_byte b k.toNat (by omega)
  rwa [show ((k.toNat : Nat) : Int) = k by omega] at this
theorem risBlank_eq (b : UInt8) : CallA S 119 [.int .u8 (b.toNat : Int)] st Q = Q (.ret (.bool (clsOf b.toNat == 3))) st := by
  refine callA_eq (fun Q hQ => ?_) Q
  refine callA_body (by rfl) (by rfl) rfl ?_
  have e : (clsOf b.toNat == 3) = (((b.toNat : Int) == 9) || ((b.toNat : Int) == 32)) := by
    rw [beqi_byte b 9 (by omega) (by omega), beqi_byte b 32 (by omega) (by omega)]
    have := byte_all (p := fun b => (clsOf b.toNat == 3) == (decide (b = UInt8.ofNat (9 : Int).toNat) || decide (b = UInt8.ofNat (32 : Int).toNat))) (by decide +kernel) b
    exact eq_of_beq this
  rw [e] at hQ
  cases c1 : ((b.toNat : Int) == 9) with
  | true =>
    rw [c1, Bool.true_or] at hQ
    simp only [b119, go_sem, c1, trunc_self]
    exact hQ
  | false =>
    rw [c1, Bool.false_or] at hQ
    simp only [b119, go_sem, c1, trunc_self]
    exact hQ
theorem risByte_eq (b : UInt8) : CallA S 168 [.int .u8 (b.toNat : Int)] st Q = Q (.ret (.bool (!(clsOf b.toNat == 4)))) st := by
  refine callA_eq (fun Q hQ => ?_) Q
  refine callA_body (by rfl) (by rfl) rfl ?_
  have e : (!(clsOf b.toNat == 4)) = (((b.toNat : Int) == 9) || (((b.toNat : Int) == 10) || (decide ((b.toNat : Int) ≥ 32) && decide ((b.toNat : Int) ≤ 126)))) := by
    rw [beqi_byte b 9 (by omega) (by omega), beqi_byte b 10 (by omega) (by omega)]
    have := byte_all (p := fun b => (!(clsOf b.toNat == 4)) == (decide (b = UInt8.ofNat (9 : Int).toNat) || (decide (b = UInt8.ofNat (10 : Int).toNat) || (decide ((b.toNat : Int) ≥ 32) && decide ((b.toNat : Int) ≤ 126))))) (by decide +kernel) b
    exact eq_of_beq this
  rw [e] at hQ
  cases c1 : ((b.toNat : Int) == 9) with
  | true =>
    rw [c1, Bool.true_or] at hQ
    simp only [b168, go_sem, c1, trunc_self]
    exact hQ
  | false =>
  rw [c1, Bool.false_or] at hQ
  cases c2 : ((b.toNat : Int) == 10) with
  | true =>
    rw [c2, Bool.true_or] at hQ
    simp only [b168, go_sem, c1, c2, trunc_self]
    exact hQ
  | false =>
  rw [c2, Bool.false_or] at hQ
  by_cases c3 : (b.toNat : Int) ≥ 32
  · rw [decide_eq_true c3, Bool.true_and] at hQ
    simp only [b168, go_sem, c1, c2, c3, trunc_self]
    exact hQ
  · rw [decide_eq_false c3, Bool.false_and] at hQ
    simp only [b168, go_sem, c1, c2, c3, trunc_self]
    exact hQ
theorem risLetter_eq (b : UInt8) : CallA S 170 [.int .u8 (b.toNat : Int)] st Q = Q (.ret (.bool (clsOf b.toNat == 1))) st := by
  refine callA_eq (fun Q hQ => ?_) Q
  refine callA_body (by rfl) (by rfl) rfl ?_
  have e : (clsOf b.toNat == 1) = (((b.toNat : Int) == 95) || ((decide ((b.toNat : Int) ≥ 97) && decide ((b.toNat : Int) ≤ 122)) || (decide ((b.toNat : Int) ≥ 65) && decide ((b.toNat : Int) ≤ 90)))) := by
    rw [beqi_byte b 95 (by omega) (by omega)]
    have := byte_all (p := fun b => (clsOf b.toNat == 1) == (decide (b = UInt8.ofNat (95 : Int).toNat) || ((decide ((b.toNat : Int) ≥ 97) && decide ((b.toNat : Int) ≤ 122)) || (decide ((b.toNat : Int) ≥ 65) && decide ((b.toNat : Int) ≤ 90))))) (by decide +kernel) b
    exact eq_of_beq this
  rw [e] at hQ
  cases c1 : ((b.toNat : Int) == 95) with
  | true =>
    rw [c1, Bool.true_or] at hQ
    simp only [b170, go_sem, c1, trunc_self]
    exact hQ
  | false =>
  rw [c1, Bool.false_or] at hQ
  by_cases c2 : (b.toNat : Int) ≥ 97
  · by_cases c3 : (b.toNat : Int) ≤ 122
    · rw [decide_eq_true c2, decide_eq_true c3, Bool.and_self, Bool.true_or] at hQ
      simp only [b170, go_sem, c1, c2, c3, trunc_self]
      exact hQ
    · have c4 : (b.toNat : Int) ≥ 65 := by omega
      rw [decide_eq_true c2, decide_eq_false c3, Bool.and_false, Bool.false_or, decide_eq_true c4, Bool.true_and] at hQ
      simp only [b170, go_sem, c1, c2, c3, c4, trunc_self]
      exact hQ
  · rw [decide_eq_false c2, Bool.false_and, Bool.false_or] at hQ
    by_cases c4 : (b.toNat : Int) ≥ 65
    · rw [decide_eq_true c4, Bool.true_and] at hQ
      simp only [b170, go_sem, c1, c2, c4, trunc_self]
      exact hQ
    · rw [decide_eq_false c4, Bool.false_and] at hQ
      simp only [b170, go_sem, c1, c2, c4, trunc_self]
      exact hQ
theorem isDig_is (b : UInt8) : isDig b = (clsOf b.toNat == 2) := by
  have := byte_all (p := fun b => isDig b == (clsOf b.toNat == 2)) (by decide +kernel) b
  exact eq_of_beq this
theorem indexB_succ (b : UInt8) : ∀ (l : List UInt8) (n : Nat), indexB b l (n + 1) = if indexB b l n < 0 then -1 else indexB b l n + 1
  | [], n => rfl
  | c :: l, n => by
    by_cases h : c = b
    · have e1 : indexB b (c :: l) n = (n : Int) := by rw [indexB, if_pos h]
      have e2 : indexB b (c :: l) (n + 1) = ((n + 1 : Nat) : Int) := by rw [indexB, if_pos h]
      rw [e1, e2, if_neg (by omega)]; omega
    · have e1 : indexB b (c :: l) n = indexB b l (n + 1) := by rw [indexB, if_neg h]
      have e2 : indexB b (c :: l) (n + 1) = indexB b l (n + 1 + 1) := by rw [indexB, if_neg h]
      rw [e1, e2]; exact indexB_succ b l (n + 1)
theorem lineEnd_step {i : Nat} (h : i < s.length) (hn : s[i] ≠ 10) : lineEnd s i = lineEnd s (i + 1) := by
  unfold lineEnd
  rw [List.drop_eq_getElem_cons h]
  simp only [indexB, hn, if_false]
  rw [indexB_succ 10 (s.drop (i + 1)) 0]
  rcases indexB_lt (b := 10) (s.drop (i + 1)) 0 with h1 | ⟨k, h1, h2⟩
  · rw [h1]; rfl
  · rw [h2, if_neg (show ¬ ((0 + k : Nat) : Int) < 0 by omega), if_pos (show ((0 + k : Nat) : Int) + 1 ≥ 0 by omega), if_pos (show ((0 + k : Nat) : Int) ≥ 0 by omega)]
    omega
theorem lineEnd_at {i : Nat} (h : s[i]? = some 10) : lineEnd s i = i := by
  obtain ⟨hi, h1⟩ := List.getElem?_eq_some_iff.1 h
  unfold lineEnd
  rw [List.drop_eq_getElem_cons hi, h1]
  simp [indexB]
theorem lineEnd_past {i : Nat} (h : s.length ≤ i) : lineEnd s i = s.length := by
  unfold lineEnd
  rw [List.drop_of_length_le h]
  simp [indexB]
theorem rend_pos (hid : id < st.size) (hs : s.length < 65536) (i : Nat) (hi : i ≤ s.length) :
    CallA S 123 [.ptr id 0, .int .i64 (i : Int)] (VL st id s a line wr acc) Q = Q (.ret (.int .i64 (lineEnd s i : Int))) (VL st id s a line wr acc) := by
  refine callA_eq (fun Q hQ => ?_) Q
  refine callA_body (by rfl) (by rfl) rfl ?_
  simp only [b123, go_sem]
  refine wp_loop (fun n fr st' => st' = VL st id s a line wr acc ∧ ∃ (j : Nat) (ser : Nat), n + j = s.length ∧ lineEnd s i = lineEnd s j ∧
    fr = ⟨[(0, .ptr id 0), (1, .int .i64 (j : Int))], [], [], ser⟩) (s.length - i) ⟨rfl, i, _, by omega, rfl, rfl⟩ ?_
  rintro n fr st' ⟨rfl, j, ser, hn, hle, rfl⟩
  by_cases h : (j : Int) < (s.length : Int)
  · have hj : j < s.length := by omega
    cases hb : ((s[j].toNat : Int) == 10) with
    | true =>
      have hb2 : ((s[j].toNat : Int) != 10) = false := by rw [bne, hb]; rfl
      have h10 : s[j]? = some 10 := by
        rw [getB hj]
        rw [beqi_byte _ 10 (by omega) (by omega)] at hb
        rw [of_decide_eq_true hb]; rfl
      rw [hle, lineEnd_at h10] at hQ
      simp only [b123l0, go_sem, VL_cells hid, h, getB hj, hb, hb2, VL_size, VL_trunc]
      exact hQ
    | false =>
      have hb2 : ((s[j].toNat : Int) != 10) = true := by rw [bne, hb]; rfl
      have h10 : s[j] ≠ 10 := by
        rw [beqi_byte _ 10 (by omega) (by omega)] at hb
        exact of_decide_eq_false hb
      rw [lineEnd_step hj h10] at hle
      simp only [b123l0, go_sem, VL_cells hid, h, getB hj, hb, hb2, wrap_one j (by omega)]
      exact ⟨n - 1, by omega, j + 1, _, by omega, hle, rfl⟩
  · rw [lineEnd_past (i := j) (by omega)] at hle
    rw [hle] at hQ
    have e : j = s.length := by omega
    subst e
    simp only [b123l0, go_sem, VL_cells hid, h, VL_size, VL_trunc]
    exact hQ
theorem rfails_eq (hid : id < st.size) (i : Nat) : CallA S 169 [.ptr id 0, .int .i64 (i : Int)] (VL st id s a line wr acc) Q = Q (.ret (.tuple [])) (VL st id s a line (if wr < 0 ∨ (i : Int) < wr then (i : Int) else wr) acc) := by
  refine callA_eq (fun Q hQ => ?_) Q
  refine callA_body (by rfl) (by rfl) rfl ?_
  by_cases h1 : wr < 0
  · rw [if_pos (.inl h1)] at hQ
    simp only [b169, go_sem, VL_cells hid, h1, VL_set, VL_size, VL_trunc]
    exact hQ
  · by_cases h2 : (i : Int) < wr
    · rw [if_pos (.inr h2)] at hQ
      simp only [b169, go_sem, VL_cells hid, h1, h2, VL_set, VL_size, VL_trunc]
      exact hQ
    · rw [if_neg (by omega)] at hQ
      simp only [b169, go_sem, VL_cells hid, h1, h2, VL_size, VL_trunc]
      exact hQ
def wrV : Option Nat → Int
  | none => -1
  | some p => p
theorem skips_eq (hid : id < st.size) (hs : s.length < 65536) (e : Nat) (ha : a ≤ e) (he : e ≤ s.length) :
    CallA S 122 [.ptr id 0, .int .i64 (e : Int)] (VL st id s a line (-1) acc) Q = Q (.ret (.tuple [])) (VL st id s e line (wrV (wrongIn s (e - a) a)) acc) := by
  refine callA_eq (fun Q hQ => ?_) Q
  refine callA_body (by rfl) (by rfl) rfl ?_
  simp only [b122, go_sem]
  refine wp_loop (fun n fr st' => ∃ (j : Nat) (w : Int) (ser : Nat), n + j = e ∧ st' = VL st id s j line w acc ∧ (w < 0 ∧ w = -1 ∧ wrongIn s (e - a) a = wrongIn s (e - j) j ∨ 0 ≤ w ∧ w < (j : Int) ∧ wrV (wrongIn s (e - a) a) = w) ∧
    fr = ⟨[(0, .ptr id 0), (1, .int .i64 (e : Int))], [], [], ser⟩) (e - a) ⟨a, -1, _, by omega, rfl, .inl ⟨by omega, rfl, rfl⟩, rfl⟩ ?_
  rintro n fr st' ⟨j, w, ser, hn, rfl, hw, rfl⟩
  by_cases h : (j : Int) < (e : Int)
  · have hj : j < s.length := by omega
    have hsp : e - j = (e - (j + 1)) + 1 := by omega
    cases hb : (clsOf s[j].toNat == 4) with
    | true =>
      have hc : isC s j 4 = true := by unfold isC; rw [getB hj]; exact hb
      simp only [b122l0, go_sem, VL_cells hid, h, getB hj, risByte_eq, hb, rfails_eq hid, wrap_one j (by omega), VL_set]
      refine ⟨n - 1, by omega, j + 1, _, _, by omega, rfl, ?_, rfl⟩
      rcases hw with ⟨h1, h2, h3⟩ | ⟨h1, h2, h3⟩
      · right
        rw [if_pos (.inl h1)]
        rw [hsp, wrongIn, if_pos hc] at h3
        exact ⟨by omega, by omega, by rw [h3]; rfl⟩
      · right
        rw [if_neg (by omega)]
        exact ⟨h1, by omega, h3⟩
    | false =>
      have hc : isC s j 4 = false := by unfold isC; rw [getB hj]; exact hb
      simp only [b122l0, go_sem, VL_cells hid, h, getB hj, risByte_eq, hb, wrap_one j (by omega), VL_set]
      refine ⟨n - 1, by omega, j + 1, w, _, by omega, rfl, ?_, rfl⟩
      rcases hw with ⟨h1, h2, h3⟩ | ⟨h1, h2, h3⟩
      · left
        rw [hsp, wrongIn, if_neg (by rw [hc]; exact Bool.false_ne_true)] at h3
        exact ⟨h1, h2, h3⟩
      · right
        exact ⟨h1, by omega, h3⟩
  · have e1 : j = e := by omega
    subst e1
    have : w = wrV (wrongIn s (j - a) a) := by
      rcases hw with ⟨h1, h2, h3⟩ | ⟨h1, h2, h3⟩
      · rw [h3, Nat.sub_self, wrongIn, h2]; rfl
      · exact h3.symm
    rw [← this] at hQ
    simp only [b122l0, go_sem, VL_cells hid, h, VL_size, VL_trunc]
    exact hQ
end
end Go.Proofs.YtelpkgbghhpgaaaGreatDoor.Sx
end
