/- TreeReads returns true for all texts whose data are not larger than a bound. Days of dates: val.isLeap, monthDays, yearsDays, Days. val.Val at digits. Dates of tokens: val.Unstamp. The program's reader of expressions: the whole. The program's reader of expressions: the whole, closed. -/
import Derived.Test.YtelpkgbghhpgaaaGreatDoorR21
set_option linter.all false
section
set_option maxRecDepth 100000
namespace Go.Proofs.YtelpkgbghhpgaaaGreatDoor.Sx
section
variable {st : St} {Q : Res → St → Prop}
theorem isLeap_eq (y : Int) (h1 : 0 ≤ y) (h2 : y < 100000) : CallA S 284 [.int .i64 y] st Q = Q (.ret (.bool (leapY y))) st := by
  refine callA_eq (fun Q hQ => ?_) Q
  refine callA_body (by rfl) (by rfl) rfl ?_
  unfold leapY at hQ
  cases c1 : (y.tmod 4 == 0) <;> cases c2 : (y.tmod 100 != 0) <;> cases c3 : (y.tmod 400 == 0)
  all_goals
    simp only [c1, c2, c3, Bool.true_and, Bool.false_and, Bool.or_true, Bool.or_false, Bool.true_or, Bool.false_or] at hQ
    simp only [b284, go_sem, Int.reduceEq, c1, c2, c3, trunc_self]
    exact hQ
theorem yearsDays_eq (y : Int) (h1 : 1 ≤ y) (h2 : y < 100000) : CallA S 270 [.int .i64 y] st Q = Q (.ret (.int .i64 (365 * (y - 1) + (y - 1).tdiv 4 - (y - 1).tdiv 100 + (y - 1).tdiv 400))) st := by
  refine callA_eq (fun Q hQ => ?_) Q
  refine callA_body (by rfl) (by rfl) rfl ?_
  have w0 : IntKind.i64.wrap (y - 1) = y - 1 := wrap_int _ (by omega) (by omega)
  have t4 : (y - 1).tdiv 4 = (y - 1) / 4 := Int.tdiv_eq_ediv_of_nonneg (by omega)
  have t100 : (y - 1).tdiv 100 = (y - 1) / 100 := Int.tdiv_eq_ediv_of_nonneg (by omega)
  have t400 : (y - 1).tdiv 400 = (y - 1) / 400 := Int.tdiv_eq_ediv_of_nonneg (by omega)
  have w1 : IntKind.i64.wrap (365 * (y - 1)) = 365 * (y - 1) := wrap_int _ (by omega) (by omega)
  have w2 : IntKind.i64.wrap ((y - 1).tdiv 4) = (y - 1).tdiv 4 := wrap_int _ (by omega) (by omega)
  have w3 : IntKind.i64.wrap ((y - 1).tdiv 100) = (y - 1).tdiv 100 := wrap_int _ (by omega) (by omega)
  have w4 : IntKind.i64.wrap ((y - 1).tdiv 400) = (y - 1).tdiv 400 := wrap_int _ (by omega) (by omega)
  have w5 : IntKind.i64.wrap (365 * (y - 1) + (y - 1).tdiv 4) = 365 * (y - 1) + (y - 1).tdiv 4 := wrap_int _ (by omega) (by omega)
  have w6 : IntKind.i64.wrap (365 * (y - 1) + (y - 1).tdiv 4 - (y - 1).tdiv 100) = 365 * (y - 1) + (y - 1).tdiv 4 - (y - 1).tdiv 100 := wrap_int _ (by omega) (by omega)
  have w7 : IntKind.i64.wrap (365 * (y - 1) + (y - 1).tdiv 4 - (y - 1).tdiv 100 + (y - 1).tdiv 400) = 365 * (y - 1) + (y - 1).tdiv 4 - (y - 1).tdiv 100 + (y - 1).tdiv 400 := wrap_int _ (by omega) (by omega)
  simp only [b270, go_sem, w0, Int.reduceEq, w1, w2, w3, w4, w5, w6, w7, trunc_self]
  exact hQ
theorem monthDays_eq (y : Int) (h1 : 0 ≤ y) (h2 : y < 100000) (m : Int) (h3 : 1 ≤ m) (h4 : m ≤ 12) : CallA S 269 [.int .i64 y, .int .i64 m] st Q = Q (.ret (.int .i64 (monthLen y m))) st := by
  refine callA_eq (fun Q hQ => ?_) Q
  refine callA_body (by rfl) (by rfl) rfl ?_
  have w0 : IntKind.i64.wrap 0 = 0 := by decide
  have w1 : IntKind.i64.wrap 1 = 1 := by decide
  have w2 : IntKind.i64.wrap 2 = 2 := by decide
  have w3 : IntKind.i64.wrap 3 = 3 := by decide
  have w4 : IntKind.i64.wrap 4 = 4 := by decide
  have w5 : IntKind.i64.wrap 5 = 5 := by decide
  have w6 : IntKind.i64.wrap 6 = 6 := by decide
  have w7 : IntKind.i64.wrap 7 = 7 := by decide
  have w8 : IntKind.i64.wrap 8 = 8 := by decide
  have w9 : IntKind.i64.wrap 9 = 9 := by decide
  have w10 : IntKind.i64.wrap 10 = 10 := by decide
  have w11 : IntKind.i64.wrap 11 = 11 := by decide
  have hk : m = 1 ∨ m = 2 ∨ m = 3 ∨ m = 4 ∨ m = 5 ∨ m = 6 ∨ m = 7 ∨ m = 8 ∨ m = 9 ∨ m = 10 ∨ m = 11 ∨ m = 12 := by omega
  rcases hk with rfl | rfl | rfl | rfl | rfl | rfl | rfl | rfl | rfl | rfl | rfl | rfl
  all_goals
    cases hl : leapY y
    all_goals
      simp [monthLen, hl] at hQ
      simp only [b269, go_sem, isLeap_eq y h1 h2, hl, Int.reduceBEq, Int.reduceSub, w0, w1, w2, w3, w4, w5, w6, w7, w8, w9, w10, w11, (show ((12 : Nat) : Int) = 12 from rfl), trunc_self]
      exact hQ
theorem monthLen_bound (y m : Int) : 28 ≤ monthLen y m ∧ monthLen y m ≤ 31 := by
  unfold monthLen
  split
  · split <;> omega
  · split <;> omega
theorem monthsLen_bound (y : Int) : ∀ k : Nat, 0 ≤ monthsLen y k ∧ monthsLen y k ≤ 31 * k
  | 0 => by rw [monthsLen]; omega
  | k + 1 => by
    obtain ⟨a, b⟩ := monthsLen_bound y k
    obtain ⟨c, d⟩ := monthLen_bound y ((k : Int) + 1)
    rw [monthsLen]
    push_cast
    omega
def badDay (y m d : Int) : Prop := y < 1 ∨ y > 9999 ∨ m < 1 ∨ m > 12 ∨ d < 1 ∨ d > monthLen y m
instance (y m d : Int) : Decidable (badDay y m d) := by unfold badDay; infer_instance
theorem days_eq (y m d : Int) (hy : 0 ≤ y ∧ y < 100000) (hm : 0 ≤ m ∧ m < 100000) (hd : 0 ≤ d ∧ d < 100000) :
    CallA S 242 [.int .i64 y, .int .i64 m, .int .i64 d] st Q = Q (.ret (.tuple [.int .i64 (daysOf y m d), .int .i64 (if badDay y m d then 1 else 0)])) st := by
  refine callA_eq (fun Q hQ => ?_) Q
  refine callA_body (by rfl) (by rfl) rfl ?_
  unfold daysOf at hQ
  have hbad : badDay y m d → Q (.ret (.tuple [.int .i64 0, .int .i64 1])) st := fun h => by
    rw [if_pos h] at hQ
    rw [if_pos (show y < 1 ∨ y > 9999 ∨ m < 1 ∨ m > 12 ∨ d < 1 ∨ d > monthLen y m from h)] at hQ
    exact hQ
  by_cases c1 : y < 1
  · simp only [b242, go_sem, c1, trunc_self]
    exact hbad (.inl c1)
  by_cases c2 : y > 9999
  · simp only [b242, go_sem, c1, c2, trunc_self]
    exact hbad (.inr (.inl c2))
  by_cases c3 : m < 1
  · simp only [b242, go_sem, c1, c2, c3, trunc_self]
    exact hbad (.inr (.inr (.inl c3)))
  by_cases c4 : m > 12
  · simp only [b242, go_sem, c1, c2, c3, c4, trunc_self]
    exact hbad (.inr (.inr (.inr (.inl c4))))
  by_cases c5 : d < 1
  · simp only [b242, go_sem, c1, c2, c3, c4, c5, trunc_self]
    exact hbad (.inr (.inr (.inr (.inr (.inl c5)))))
  by_cases c6 : d > monthLen y m
  · simp only [b242, go_sem, c1, c2, c3, c4, c5, monthDays_eq y hy.1 hy.2 m (by omega) (by omega), c6, trunc_self]
    exact hbad (.inr (.inr (.inr (.inr (.inr c6)))))
  have hb : ¬ badDay y m d := by
    unfold badDay
    omega
  have hb2 : ¬ (y < 1 ∨ y > 9999 ∨ m < 1 ∨ m > 12 ∨ d < 1 ∨ d > monthLen y m) := hb
  rw [if_neg hb, if_neg hb2] at hQ
  have hdl := (monthLen_bound y m).2
  have w0 : IntKind.i64.wrap (m - 1) = m - 1 := wrap_int _ (by omega) (by omega)
  have t4 : (y - 1).tdiv 4 = (y - 1) / 4 := Int.tdiv_eq_ediv_of_nonneg (by omega)
  have t100 : (y - 1).tdiv 100 = (y - 1) / 100 := Int.tdiv_eq_ediv_of_nonneg (by omega)
  have t400 : (y - 1).tdiv 400 = (y - 1) / 400 := Int.tdiv_eq_ediv_of_nonneg (by omega)
  generalize hY : 365 * (y - 1) + (y - 1).tdiv 4 - (y - 1).tdiv 100 + (y - 1).tdiv 400 = Y at *
  have hYb : 0 ≤ Y ∧ Y < 10000000 := by omega
  have w1 : IntKind.i64.wrap (Y + d) = Y + d := wrap_int _ (by omega) (by omega)
  have hyd : ∀ (st : St) (Q : Res → St → Prop), CallA S 270 [.int .i64 y] st Q = Q (.ret (.int .i64 Y)) st := fun st Q => by rw [yearsDays_eq y (by omega) (by omega), hY]
  simp only [b242, go_sem, c1, c2, c3, c4, c5, monthDays_eq y hy.1 hy.2 m (by omega) (by omega), c6, hyd, w1, w0]
  refine wp_loop (fun n fr st' => st' = st ∧ ∃ (k ser : Nat), (n : Int) + k = m - 1 ∧
    fr = ⟨[(0, .int .i64 y), (8, .int .i64 (Y + d + monthsLen y k)), (40, .int .i64 (m - 1)), (41, .int .i64 (k : Int))], [], [], ser⟩) (m - 1).toNat ⟨rfl, 0, 4, by omega, by rw [monthsLen, Int.add_zero]; rfl⟩ ?_
  rintro n fr st' ⟨rfl, k, ser, hn, rfl⟩
  obtain ⟨k1, k2⟩ := monthsLen_bound y k
  by_cases h : (k : Int) < m - 1
  · have e1 : IntKind.i64.wrap ((k : Int) + 1) = (k : Int) + 1 := wrap_int _ (by omega) (by omega)
    obtain ⟨l1, l2⟩ := monthLen_bound y ((k : Int) + 1)
    have e2 : IntKind.i64.wrap (Y + d + monthsLen y k + monthLen y ((k : Int) + 1)) = Y + d + monthsLen y (k + 1) := by
      rw [wrap_int _ (by omega) (by omega), monthsLen]; omega
    simp only [b242l0, go_sem, h, e1, monthDays_eq y hy.1 hy.2 ((k : Int) + 1) (by omega) (by omega), e2]
    exact ⟨n - 1, by omega, k + 1, _, by omega, rfl⟩
  · have e : k = (m - 1).toNat := by omega
    rw [← e] at hQ
    simp only [b242l0, go_sem, h, trunc_self]
    exact hQ
end
end Go.Proofs.YtelpkgbghhpgaaaGreatDoor.Sx
end
section
set_option maxRecDepth 100000
namespace Go.Proofs.YtelpkgbghhpgaaaGreatDoor.Sx
section
variable {st : St} {Q : Res → St → Prop}
theorem trimLeftByte_eq (s : List UInt8) (b : UInt8) (h0 : s[0]? = some b) (hb : 48 ≤ b.toNat) : CallA S 256 [.str s, .int .u8 32] st Q = Q (.ret (.str s)) st := by
  refine callA_eq (fun Q hQ => ?_) Q
  refine callA_body (by rfl) (by rfl) rfl ?_
  have g1 : (s.length : Int) > 0 := by
    have := (List.getElem?_eq_some_iff.1 h0).1
    omega
  have g2 : ((b.toNat : Int) == 32) = false := by simp; omega
  simp only [b256, go_sem]
  refine wp_unroll 1 ?_
  rw [WpL_succ]
  simp only [b256l0, go_sem, h0, g1, g2, loopN_exit, trunc_self]
  exact hQ
theorem trimLeft_eq (s : List UInt8) (b : UInt8) (h0 : s[0]? = some b) (hb : 48 ≤ b.toNat) : CallA S 271 [.str s, .str [32]] st Q = Q (.ret (.str s)) st := by
  refine callA_eq (fun Q hQ => ?_) Q
  refine callA_body (by rfl) (by rfl) rfl ?_
  have g1 : (s == []) = false := by cases s with | nil => simp at h0 | cons => rfl
  have g2 : ((([32] : List UInt8).length : Int) == 1) = true := by decide
  have g3 : ([32] : List UInt8)[0]? = some 32 := rfl
  have g4 : (((32 : UInt8).toNat : Int)) = 32 := by decide
  have g5 : (([32] : List UInt8) == []) = false := rfl
  have g6 : ((32 : Int) < 128) := by decide
  simp only [b271, go_sem, g1, g2, g3, g4, g5, g6, trimLeftByte_eq s b h0 hb, trunc_self]
  rw [if_pos (by rfl)]
  exact hQ
theorem val_eq (s : List UInt8) (h1 : s ≠ []) (h2 : s.length ≤ 8) (h3 : ∀ c ∈ s, isDig c = true) : CallA S 243 [.str s] st Q = Q (.ret (.int .i64 (numOf s))) st := by
  refine callA_eq (fun Q hQ => ?_) Q
  refine callA_body (by rfl) (by rfl) rfl ?_
  obtain ⟨b, h0⟩ : ∃ b, s[0]? = some b := by cases s with | nil => exact absurd rfl h1 | cons b t => exact ⟨b, rfl⟩
  have hb := isDig_iff.1 (h3 b (List.mem_of_getElem? h0))
  have g1 : (s == []) = false := by cases s with | nil => simp at h0 | cons => rfl
  have g4 : ((b.toNat : Int) == 45) = false := by simp; omega
  have g5 : ((b.toNat : Int) == 43) = false := by simp; omega
  simp only [b243, go_sem, h0, g1, g4, g5, trimLeft_eq s b h0 hb.1]
  refine wp_loop (fun n fr st' => st' = st ∧ ∃ (i ser : Nat), n + i = s.length ∧
    fr = ⟨[(0, .str s), (3, .int .i64 1), (4, .int .i64 (numOf (s.take i))), (26, .int .i64 (s.length : Int)), (27, .int .i64 (i : Int))], [], [], ser⟩) s.length ⟨rfl, 0, _, rfl, by rw [List.take_zero]; rfl⟩ ?_
  rintro n fr st' ⟨rfl, i, ser, hn, rfl⟩
  by_cases h : (i : Int) < (s.length : Int)
  · have hi : i < s.length := by omega
    have hd := isDig_iff.1 (h3 _ (List.getElem_mem hi))
    have hg : s[i]? = some s[i] := List.getElem?_eq_getElem hi
    obtain ⟨n1, n2⟩ := numOf_bound h3 i (by omega)
    have hp : (10 : Int) ^ i ≤ 10000000 := by
      have : (10 : Int) ^ i ≤ 10 ^ 7 := by exact_mod_cast Nat.pow_le_pow_right (by omega) (show i ≤ 7 by omega)
      exact this
    have e1 : IntKind.u8.wrap ((s[i].toNat : Int) - 48) = (s[i].toNat : Int) - 48 := wrap_u8 _ (by omega) (by omega)
    have e2 : ¬ ((s[i].toNat : Int) < 48) := by omega
    have e2' : ¬ ((s[i].toNat : Int) > 57) := by omega
    have e3 : IntKind.i64.wrap (numOf (s.take i) * 10) = numOf (s.take i) * 10 := wrap_int _ (by omega) (by omega)
    have e4 : IntKind.i64.wrap ((s[i].toNat : Int) - 48) = (s[i].toNat : Int) - 48 := wrap_int _ (by omega) (by omega)
    have e5 : IntKind.i64.wrap (numOf (s.take i) * 10 + ((s[i].toNat : Int) - 48)) = numOf (s.take (i + 1)) := by
      rw [numOf_take hi]; exact wrap_int _ (by omega) (by omega)
    have e6 : ¬ (1000000000000000 < numOf (s.take (i + 1))) := by rw [numOf_take hi]; omega
    simp only [b243l0, go_sem, h, hg, e1, e2, e2', e3, e4, e5, e6, wrap_one i (by omega)]
    exact ⟨n - 1, by omega, i + 1, _, by omega, rfl⟩
  · have e : s.take i = s := List.take_of_length_le (by omega)
    obtain ⟨n1, n2⟩ := numOf_bound h3 s.length (Nat.le_refl _)
    rw [List.take_length] at n1 n2
    have hp : (10 : Int) ^ s.length ≤ 100000000 := by
      have : (10 : Int) ^ s.length ≤ 10 ^ 8 := by exact_mod_cast Nat.pow_le_pow_right (by omega) h2
      exact this
    have e1 : IntKind.i64.wrap (1 * numOf s) = numOf s := by rw [Int.one_mul]; exact wrap_int _ (by omega) (by omega)
    simp only [b243l0, go_sem, h, e, e1, trunc_self]
    exact hQ
end
end Go.Proofs.YtelpkgbghhpgaaaGreatDoor.Sx
end
section
set_option maxRecDepth 100000
namespace Go.Proofs.YtelpkgbghhpgaaaGreatDoor.Sx
def digitSet : List UInt8 := [48, 49, 50, 51, 52, 53, 54, 55, 56, 57]
theorem digitSet_contains (b : UInt8) : digitSet.contains b = isDig b := by
  have := byte_all (p := fun b => digitSet.contains b == isDig b) (by decide +kernel) b
  exact eq_of_beq this
theorem trim_digits (s : List UInt8) : (trimA s digitSet == []) = s.all isDig := by
  have h := trimA_nil s digitSet
  simp only [digitSet_contains] at h
  cases ha : s.all isDig with
  | true =>
    rw [h.2 (List.all_eq_true.1 ha)]; rfl
  | false =>
    simp only [beq_eq_false_iff_ne, ne_eq]
    intro e
    have := List.all_eq_true.2 (h.1 e)
    rw [ha] at this; cases this
section
variable {st : St} {Q : Res → St → Prop}
theorem unstamp_eq (s : List UInt8) (h : s.length < 65536) : CallA S 209 [.str s] st Q = Q (.ret (.tuple [.int .i64 (dayOf s), .bool (s == blanks8 || dayOk s)])) st := by
  refine callA_eq (fun Q hQ => ?_) Q
  refine callA_body (by rfl) (by rfl) rfl ?_
  cases c1 : (s == [32, 32, 32, 32, 32, 32, 32, 32]) with
  | true =>
    have e := eq_of_beq c1
    subst e
    have e1 : dayOf [32, 32, 32, 32, 32, 32, 32, 32] = 0 := by rfl
    have e2 : (([32, 32, 32, 32, 32, 32, 32, 32] : List UInt8) == blanks8) = true := by rfl
    rw [e1, e2, Bool.true_or] at hQ
    simp only [b209, go_sem, c1, trunc_self]
    exact hQ
  | false =>
    rw [show (s == blanks8) = false from c1, Bool.false_or] at hQ
    by_cases c2 : s.length = 8
    · have c2' : ((s.length : Int) != 8) = false := by simp [c2]
      have ht : ∀ (st : St) (Q : Res → St → Prop), CallA S 227 [.str s, .str [48, 49, 50, 51, 52, 53, 54, 55, 56, 57]] st Q = Q (.ret (.str (trimA s digitSet))) st :=
        fun st Q => trim_eq s digitSet (by omega) (by decide) (by decide)
      cases c3 : s.all isDig with
      | false =>
        have c3' : (trimA s digitSet == []) = false := by rw [trim_digits, c3]
        have e1 : dayOf s = 0 := by simp [dayOf, c3]
        have e2 : dayOk s = false := by simp [dayOk, c3]
        rw [e1, e2] at hQ
        simp only [b209, go_sem, c1, c2', ht, c3', trunc_self]
        exact hQ
      | true =>
        have c3' : (trimA s digitSet == []) = true := by rw [trim_digits, c3]
        have hd : ∀ c ∈ s, isDig c = true := List.all_eq_true.1 c3
        have f4 : (4 : Int) ≤ (s.length : Int) := by omega
        have f6 : (6 : Int) ≤ (s.length : Int) := by omega
        have hs2 : (s.take 6).drop 4 = (s.drop 4).take 2 := by rw [List.drop_take]
        have key : ∀ t : List UInt8, t ≠ [] → t.length ≤ 4 → (∀ c ∈ t, c ∈ s) → (∀ (st : St) (Q : Res → St → Prop), CallA S 243 [.str t] st Q = Q (.ret (.int .i64 (numOf t))) st) ∧ 0 ≤ numOf t ∧ numOf t < 100000 := by
          intro t h1 h2 h3
          have hdt : ∀ c ∈ t, isDig c = true := fun c hc => hd c (h3 c hc)
          refine ⟨fun st Q => val_eq t h1 (by omega) hdt, ?_⟩
          obtain ⟨n1, n2⟩ := numOf_bound hdt t.length (Nat.le_refl _)
          rw [List.take_length] at n1 n2
          have hp : (10 : Int) ^ t.length ≤ 10000 := by
            have : (10 : Int) ^ t.length ≤ 10 ^ 4 := by exact_mod_cast Nat.pow_le_pow_right (by omega) h2
            exact this
          omega
        have l1 : (s.take 4).length = 4 := by rw [List.length_take]; omega
        have l2 : ((s.drop 4).take 2).length = 2 := by rw [List.length_take, List.length_drop]; omega
        have l3 : (s.drop 6).length = 2 := by rw [List.length_drop]; omega
        obtain ⟨v1, y1, y2⟩ := key (s.take 4) (by intro e; rw [e] at l1; cases l1) (by omega) (fun c hc => List.mem_of_mem_take hc)
        obtain ⟨v2, m1, m2⟩ := key ((s.drop 4).take 2) (by intro e; rw [e] at l2; cases l2) (by omega) (fun c hc => List.mem_of_mem_drop (List.mem_of_mem_take hc))
        obtain ⟨v3, d1, d2⟩ := key (s.drop 6) (by intro e; rw [e] at l3; cases l3) (by omega) (fun c hc => List.mem_of_mem_drop hc)
        have hday : dayOf s = daysOf (numOf (s.take 4)) (numOf ((s.drop 4).take 2)) (numOf (s.drop 6)) := by unfold dayOf; rw [if_pos ⟨c2, c3⟩]
        have hok : dayOk s = !decide (badDay (numOf (s.take 4)) (numOf ((s.drop 4).take 2)) (numOf (s.drop 6))) := by
          unfold dayOk badDay
          rw [c3, decide_eq_true c2]; rfl
        rw [hday, hok] at hQ
        have hdays := fun (st : St) (Q : Res → St → Prop) => days_eq (st := st) (Q := Q) _ _ _ ⟨y1, y2⟩ ⟨m1, m2⟩ ⟨d1, d2⟩
        by_cases hb : badDay (numOf (s.take 4)) (numOf ((s.drop 4).take 2)) (numOf (s.drop 6))
        · simp only [hb, if_true] at hdays
          have e10 : ((1 : Int) == 0) = false := by decide
          rw [decide_eq_true hb] at hQ
          simp only [b209, go_sem, c1, c2', ht, c3', f4, f6, Int.le_refl, List.take_length, hs2, v1, v2, v3, hdays, e10, trunc_self]
          exact hQ
        · simp only [hb, if_false] at hdays
          have e10 : ((0 : Int) == 0) = true := by decide
          rw [decide_eq_false hb] at hQ
          simp only [b209, go_sem, c1, c2', ht, c3', f4, f6, Int.le_refl, List.take_length, hs2, v1, v2, v3, hdays, e10, trunc_self]
          exact hQ
    · have c2' : ((s.length : Int) != 8) = true := by simp; omega
      have e1 : dayOf s = 0 := by simp [dayOf, c2]
      have e2 : dayOk s = false := by simp [dayOk, c2]
      rw [e1, e2] at hQ
      simp only [b209, go_sem, c1, c2', trunc_self]
      exact hQ
end
end Go.Proofs.YtelpkgbghhpgaaaGreatDoor.Sx
end
section
set_option maxRecDepth 100000
namespace Go.Proofs.YtelpkgbghhpgaaaGreatDoor.Sx
section
variable {st : St} {id a : Nat} {l : List Tok} {Q : Res → St → Prop} {o : HObj} {e : Nat → PR Xp}
theorem number_eq (n : Int) : CallA S 273 [.int .i64 n] st Q = Q (.ret (.agg (encX (mkC 2 n [])))) st := by
  refine callA_eq (fun Q hQ => ?_) Q
  refine callA_body (by rfl) (by rfl) rfl ?_
  simp only [b273, go_sem, trunc_self]
  exact hQ
theorem truth_eq (n : Int) : CallA S 288 [.int .i64 n] st Q = Q (.ret (.agg (encX (mkC 1 n [])))) st := by
  refine callA_eq (fun Q hQ => ?_) Q
  refine callA_body (by rfl) (by rfl) rfl ?_
  simp only [b288, go_sem, trunc_self]
  exact hQ
theorem signed_ok (hid : id < st.size) (hl : l.length < 65536) (hT : ∀ t ∈ l, TokOk t) (n : Nat) (hn : n ≤ 65536) (he : ReadsAt eX st id l 56 [.ptr id 0] e) : ReadsAt eX st id l 275 [.ptr id 0] (spSigned l e n) := by
  intro a Q ha hQ
  refine callA_body (by rfl) (by rfl) rfl ?_
  unfold spSigned at hQ
  have no := fun {s : List UInt8} (h : isS (tokAt l a) s = false) (Q : Res → St → Prop) => sign_no (Q := Q) hid hl ha h
  cases h1 : isS (tokAt l a) [38] with
  | true =>
    simp only [h1, if_true] at hQ
    simp only [b275, go_sem, ahead0 hid hl ha, isSign_eq, h1]
    refine macro_ok hid hl hT he a _ ha (PR.on_mono hQ (fun x a _ hQ ha => ?_) (fun a _ hQ => (by simp only [go_sem, V_size, V_trunc]; exact hQ)))
    simp only [go_sem, V_size, V_trunc]
    exact hQ ha
  | false =>
    simp only [h1, Bool.false_eq_true, if_false] at hQ
    cases h2 : isS (tokAt l a) [46, 84, 46] with
    | true =>
      have hlt := isS_lt h2
      simp only [h2, if_true] at hQ
      simp only [b275, go_sem, ahead0 hid hl ha, isSign_eq, h1, sign_yes hid hl ha h2, truth_eq, V_size, V_trunc]
      exact RK_ok hQ (by omega)
    | false =>
      simp only [h2, Bool.false_eq_true, if_false] at hQ
      cases h3 : isS (tokAt l a) [46, 70, 46] with
      | true =>
        have hlt := isS_lt h3
        simp only [h3, if_true] at hQ
        simp only [b275, go_sem, ahead0 hid hl ha, isSign_eq, h1, no h2, sign_yes hid hl ha h3, truth_eq, V_size, V_trunc]
        exact RK_ok hQ (by omega)
      | false =>
        simp only [h3, Bool.false_eq_true, if_false] at hQ
        cases h4 : isS (tokAt l a) [46, 78, 85, 76, 76, 46] with
        | true =>
          have hlt := isS_lt h4
          simp only [h4, if_true] at hQ
          simp only [b275, go_sem, ahead0 hid hl ha, isSign_eq, h1, no h2, no h3, sign_yes hid hl ha h4, V_size, V_trunc]
          exact RK_ok hQ (by omega)
        | false =>
          simp only [h4, Bool.false_eq_true, if_false] at hQ
          cases h5 : isS (tokAt l a) [40] with
          | true =>
            have hlt := isS_lt h5
            simp only [h5, if_true] at hQ
            simp only [b275, go_sem, ahead0 hid hl ha, isSign_eq, h1, no h2, no h3, no h4, sign_yes hid hl ha h5]
            refine he (a + 1) _ (by omega) (RK_step hQ (fun x a ha hQ => ?_) (fun a hQ => (by simp only [go_sem, V_size, V_trunc]; exact hQ)))
            simp only [go_sem]
            refine want_ok hid hl _ a _ ha (RK_step hQ (fun u a ha hQ => ?_) (fun a hQ => (by simp only [go_sem, V_size, V_trunc]; exact hQ)))
            simp only [go_sem, V_size, V_trunc]
            exact RK_ok hQ ha
          | false =>
            simp only [h5, Bool.false_eq_true, if_false] at hQ
            cases h6 : isS (tokAt l a) [64] with
            | true =>
              have hlt := isS_lt h6
              simp only [h6, if_true] at hQ
              simp only [b275, go_sem, ahead0 hid hl ha, isSign_eq, h1, no h2, no h3, no h4, no h5, sign_yes hid hl ha h6]
              refine name_ok hid hl hT (a + 1) _ (by omega) (RK_step hQ (fun s a ha hQ => ?_) (fun a hQ => (by simp only [go_sem, V_size, V_trunc]; exact hQ)))
              simp only [go_sem, V_size, V_trunc]
              exact RK_ok hQ ha
            | false =>
              simp only [h6, Bool.false_eq_true, if_false] at hQ
              cases h7 : isS (tokAt l a) [123] with
              | true =>
                have hlt := isS_lt h7
                simp only [h7, if_true] at hQ
                simp only [b275, go_sem, ahead0 hid hl ha, isSign_eq, h1, no h2, no h3, no h4, no h5, no h6, sign_yes hid hl ha h7]
                refine braced_ok hid hl hT n hn he (a + 1) _ (by omega) (PR.on_mono hQ (fun x a _ hQ ha => ?_) (fun a _ hQ => (by simp only [go_sem, V_size, V_trunc]; exact hQ)))
                simp only [go_sem, V_size, V_trunc]
                exact hQ ha
              | false =>
                simp only [h7, Bool.false_eq_true, if_false] at hQ
                simp only [b275, go_sem, ahead0 hid hl ha, isSign_eq, h1, no h2, no h3, no h4, no h5, no h6, no h7, fail_eq hid, V_size, V_trunc]
                exact RK_fail hQ
theorem prim_ok (hid : id < st.size) (hl : l.length < 65536) (hT : ∀ t ∈ l, TokOk t) (n : Nat) (hn : n ≤ 65536) (he : ReadsAt eX st id l 56 [.ptr id 0] e) : ReadsAt eX st id l 244 [.ptr id 0] (spPrim l e n) := by
  intro a Q ha hQ
  refine callA_body (by rfl) (by rfl) rfl ?_
  unfold spPrim at hQ
  have kk : ∀ m k : Int, ((m : Int) == k) = decide (m = k) := fun _ _ => rfl
  by_cases h1 : (tokAt l a).kind = 1
  · have hlt := tokAt_lt (l := l) (i := a) (by omega)
    rw [if_pos h1] at hQ
    obtain ⟨n1, n2, n3⟩ := (tokOk_at hT a).num h1
    simp only [b244, go_sem, V_cells hid, ahead0 hid hl ha, h1, wrap_one a (by omega), V_set, atoi_eq _ n1 n2 n3, number_eq, V_size, V_trunc]
    exact RK_ok hQ (by omega)
  · rw [if_neg h1] at hQ
    by_cases h2 : (tokAt l a).kind = 2
    · have hlt := tokAt_lt (l := l) (i := a) (by omega)
      rw [if_pos h2] at hQ
      have e1 : ((2 : Int) == 1) = false := rfl
      by_cases hlen : ((tokAt l a).text.length : Int) > 2048
      · rw [if_pos hlen] at hQ
        simp only [b244, go_sem, V_cells hid, ahead0 hid hl ha, h2, e1, hlen, fail_eq hid, V_size, V_trunc]
        exact RK_fail hQ
      · rw [if_neg hlen] at hQ
        simp only [b244, go_sem, V_cells hid, ahead0 hid hl ha, h2, e1, hlen, wrap_one a (by omega), V_set, V_size, V_trunc]
        exact RK_ok hQ (by omega)
    · rw [if_neg h2] at hQ
      by_cases h3 : (tokAt l a).kind = 3
      · have hlt := tokAt_lt (l := l) (i := a) (by omega)
        rw [if_pos h3] at hQ
        have e1 : ((3 : Int) == 1) = false := rfl
        have e2 : ((3 : Int) == 2) = false := rfl
        simp only [b244, go_sem, V_cells hid, ahead0 hid hl ha, h3, e1, e2, wrap_one a (by omega), V_set]
        rw [unstamp_eq _ (tokOk_at hT a).len]
        simp only [go_sem, V_size, V_trunc]
        exact RK_ok hQ (by omega)
      · rw [if_neg h3] at hQ
        by_cases h4 : (tokAt l a).kind = 0
        · rw [if_pos h4] at hQ
          have e1 : ((0 : Int) == 1) = false := rfl
          have e2 : ((0 : Int) == 2) = false := rfl
          have e3 : ((0 : Int) == 3) = false := rfl
          simp only [b244, go_sem, V_cells hid, ahead0 hid hl ha, h4, e1, e2, e3]
          refine named_ok hid hl hT n hn he a _ ha (PR.on_mono hQ (fun x a _ hQ ha => ?_) (fun a _ hQ => (by simp only [go_sem, V_size, V_trunc]; exact hQ)))
          simp only [go_sem, V_size, V_trunc]
          exact hQ ha
        · rw [if_neg h4] at hQ
          have e1 : ((tokAt l a).kind == 1) = false := by simp [h1]
          have e2 : ((tokAt l a).kind == 2) = false := by simp [h2]
          have e3 : ((tokAt l a).kind == 3) = false := by simp [h3]
          have e4 : ((tokAt l a).kind == 0) = false := by simp [h4]
          simp only [b244, go_sem, V_cells hid, ahead0 hid hl ha, e1, e2, e3, e4]
          refine signed_ok hid hl hT n hn he a _ ha (PR.on_mono hQ (fun x a _ hQ ha => ?_) (fun a _ hQ => (by simp only [go_sem, V_size, V_trunc]; exact hQ)))
          simp only [go_sem, V_size, V_trunc]
          exact hQ ha
end
end Go.Proofs.YtelpkgbghhpgaaaGreatDoor.Sx
end
section
set_option maxRecDepth 100000
namespace Go.Proofs.YtelpkgbghhpgaaaGreatDoor.Sx
section
variable {st : St} {id a : Nat} {l : List Tok} {Q : Res → St → Prop} {o : HObj} {e : Nat → PR Xp}
theorem V_cells_ne {bx : Nat} (h : id ≠ bx) : (V st id l a).cells bx = st.cells bx := cells_set_ne h
theorem unary_ok (hid : id < st.size) (hl : l.length < 65536) (hT : ∀ t ∈ l, TokOk t) (n : Nat) (hn : n ≤ 65536) (rec : Nt → Nat → PR Xp) (he : ReadsAt eX st id l 56 [.ptr id 0] (rec .expr))
    (hu : ReadsAt eX st id l 211 [.ptr id 0] (rec .unary)) : ReadsAt eX st id l 211 [.ptr id 0] (spStep l rec n .unary) := by
  intro a Q ha hQ
  refine callA_body (by rfl) (by rfl) rfl ?_
  simp only [spStep] at hQ
  cases h : isS (tokAt l a) [45] with
  | true =>
    have hlt := isS_lt h
    simp only [h, if_true] at hQ
    simp only [b211, go_sem, sign_yes hid hl ha h]
    refine hu (a + 1) _ (by omega) (RK_step hQ (fun x a ha hQ => ?_) (fun a hQ => (by simp only [go_sem, V_size, V_trunc]; exact hQ)))
    simp only [go_sem, V_size, V_trunc]
    exact RK_ok hQ ha
  | false =>
    simp only [h, Bool.false_eq_true, if_false] at hQ
    simp only [b211, go_sem, sign_no hid hl ha h]
    refine prim_ok hid hl hT n hn he a _ ha (RK_step hQ (fun x a ha hQ => ?_) (fun a hQ => (by simp only [go_sem, V_size, V_trunc]; exact hQ)))
    simp only [go_sem]
    refine wp_loop (fun m fr st' => ∃ x cs a ser ser2, RK eX st id l Q (spIdx l (rec .expr) m x a) ∧ a ≤ l.length ∧ st' = V st id l a ∧ (cs.length = 7 ∧ cs.map AV.strip1 = encX x ∧ cs.all AV.okIn = true) ∧
      fr = ⟨[(0, .ptr id 0), (2, .lptr 0 1 0), (3, .lptr 1 ser 0)], [(1, [.int .i64 0, .str [], .int .i64 0, .int .i64 0, .str [], .nilslice, .nilslice]), (ser, cs)], [], ser2⟩) n ⟨x, encX x, a, _, _, hQ, ha, rfl, ⟨encX_length x, encX_strip1 x, encX_okIn x⟩, rfl⟩ ?_
    rintro m fr st' ⟨x, cs, a, ser, ser2, hQ, ha, rfl, ⟨hc1, hc2, hc3⟩, rfl⟩
    have hc4 : cs.take 7 = cs := List.take_of_length_le (by omega)
    have hc5 : cs.drop 7 = [] := List.drop_of_length_le (by omega)
    cases m with
    | zero => exact hQ.elim
    | succ m =>
      simp only [spIdx] at hQ
      cases h : isS (tokAt l a) [91] with
      | false =>
        simp only [h, Bool.false_eq_true, if_false] at hQ
        simp only [b211l0, go_sem, sign_no hid hl ha h, hc1, hc2, hc3, hc4, hc5, V_size, V_trunc]
        exact RK_ok hQ ha
      | true =>
        have hlt := isS_lt h
        simp only [h, if_true] at hQ
        simp only [b211l0, go_sem, sign_yes hid hl ha h, hc1, hc4]
        refine he (a + 1) _ (by omega) (RK_step hQ (fun i a ha hQ => ?_) (fun a hQ => (by simp only [go_sem, V_size, V_trunc]; exact hQ)))
        simp only [go_sem, hc1, hc2, hc3, hc4, hc5]
        refine want_ok hid hl _ a _ ha (RK_step hQ (fun u a ha hQ => ?_) (fun a hQ => (by simp only [go_sem, V_size, V_trunc]; exact hQ)))
        simp only [go_sem]
        exact ⟨m, Nat.lt_succ_self m, mkIndex x i, _, a, ser, _, hQ, ha, rfl, ⟨rfl, rfl, rfl⟩, rfl⟩
theorem pow_ok (hid : id < st.size) (hl : l.length < 65536) (n : Nat) (rec : Nt → Nat → PR Xp) (hp : ReadsAt eX st id l 167 [.ptr id 0] (rec .pow))
    (hu : ReadsAt eX st id l 211 [.ptr id 0] (rec .unary)) : ReadsAt eX st id l 167 [.ptr id 0] (spStep l rec n .pow) := by
  intro a Q ha hQ
  refine callA_body (by rfl) (by rfl) rfl ?_
  simp only [spStep] at hQ
  simp only [b167, go_sem]
  refine hu a _ ha (RK_step hQ (fun x a ha hQ => ?_) (fun a hQ => (by simp only [go_sem, V_size, V_trunc]; exact hQ)))
  have hop := fun Q => operator_eq (st := st) (Q := Q) hid hl ha 5 (by omega)
  have hop : ∀ Q : Res → St → Prop, CallA S 115 [.ptr id 0, .int .i64 5] (V st id l a) Q = Q (.ret (.str (opOf 5 (tokAt l a)))) (V st id l (if opOf 5 (tokAt l a) = [] then a else a + 1)) := hop
  by_cases ho : opOf 5 (tokAt l a) = []
  · rw [if_pos ho] at hQ
    simp only [go_sem, hop, ho, beqL_nn, V_size, V_trunc]
    exact RK_ok hQ ha
  · rw [if_neg ho] at hQ
    have hlt := opOf_lt ho
    have hb : (opOf 5 (tokAt l a) == []) = false := by simp [ho]
    simp only [go_sem, hop, ho, hb]
    refine hp (a + 1) _ (by omega) (RK_step hQ (fun y a' ha' hQ => ?_) (fun a hQ => (by simp only [go_sem, V_size, V_trunc]; exact hQ)))
    simp only [go_sem, binary_eq, V_size, V_trunc]
    exact RK_ok hQ ha'
theorem sum1_ok (hid : id < st.size) (hl : l.length < 65536) (n : Nat) (rec : Nt → Nat → PR Xp) (hp : ReadsAt eX st id l 167 [.ptr id 0] (rec .pow)) (bx : Nat) (hbx : st.cells bx = some [.ptr id 0]) (hne : id ≠ bx) :
    ReadsAt eX st id l 166 [.ptr bx 0] (fun a => spJoined l (rec .pow) 4 n a) := by
  intro a Q ha hQ
  refine callA_body (by rfl) (by rfl) rfl ?_
  simp only [b166, go_sem, V_cells_ne hne, hbx]
  refine joined_ok hid hl 4 (by omega) n 167 [.ptr id 0] [] (by rfl) (by rfl) (rec .pow) hp a _ ha (PR.on_mono hQ (fun x a _ hQ ha => ?_) (fun a _ hQ => (by simp only [go_sem, V_size, V_trunc]; exact hQ)))
  simp only [go_sem, V_size, V_trunc]
  exact hQ ha
theorem sum_ok (hid : id < st.size) (hl : l.length < 65536) (n : Nat) (rec : Nt → Nat → PR Xp) (hp : ∀ o, ReadsAt eX (st.push o) id l 167 [.ptr id 0] (rec .pow)) :
    ReadsAt eX st id l 118 [.ptr id 0] (fun a => spSum l rec n a) := by
  intro a Q ha hQ
  refine callA_body (by rfl) (by rfl) rfl ?_
  have hle : id + 1 ≤ st.size := hid
  have hid' : id < (st.push (.cells [.ptr id 0])).size := by rw [size_push]; omega
  have hne : id ≠ st.size := by omega
  have hbx : (st.push (.cells [.ptr id 0])).cells st.size = some [.ptr id 0] := cells_new
  simp only [b118, go_sem, V_size, hle, V_push hid, V_cells_ne hne, hbx]
  refine joined_ok hid' hl 3 (by omega) n 166 [] [.ptr st.size 0] (by rfl) (by rfl) _ (sum1_ok hid' hl n rec (hp _) st.size hbx hne) a _ ha (PR.on_mono hQ (fun x a _ hQ ha => ?_) (fun a _ hQ => (by simp only [go_sem, V_size, V_trunc_push hid]; exact hQ)))
  simp only [go_sem, V_size, V_trunc_push hid]
  exact hQ ha
theorem not_ok (hid : id < st.size) (hl : l.length < 65536) (n : Nat) (rec : Nt → Nat → PR Xp) (hn : ReadsAt eX st id l 89 [.ptr id 0] (rec .not))
    (hs : ReadsAt eX st id l 118 [.ptr id 0] (fun a => spSum l rec n a)) : ReadsAt eX st id l 89 [.ptr id 0] (spStep l rec n .not) := by
  intro a Q ha hQ
  refine callA_body (by rfl) (by rfl) rfl ?_
  simp only [spStep] at hQ
  cases h1 : isS (tokAt l a) [46, 78, 79, 84, 46] with
  | true =>
    have hlt := isS_lt h1
    rw [if_pos (.inl h1)] at hQ
    simp only [b89, go_sem, sign_yes hid hl ha h1]
    refine hn (a + 1) _ (by omega) (RK_step hQ (fun x a ha hQ => ?_) (fun a hQ => (by simp only [go_sem, V_size, V_trunc]; exact hQ)))
    simp only [go_sem, V_size, V_trunc]
    exact RK_ok hQ ha
  | false =>
    cases h2 : isS (tokAt l a) [33] with
    | true =>
      have hlt := isS_lt h2
      rw [if_pos (.inr h2)] at hQ
      simp only [b89, go_sem, sign_no hid hl ha h1, sign_yes hid hl ha h2]
      refine hn (a + 1) _ (by omega) (RK_step hQ (fun x a ha hQ => ?_) (fun a hQ => (by simp only [go_sem, V_size, V_trunc]; exact hQ)))
      simp only [go_sem, V_size, V_trunc]
      exact RK_ok hQ ha
    | false =>
      rw [if_neg (by simp [h1, h2])] at hQ
      simp only [b89, go_sem, sign_no hid hl ha h1, sign_no hid hl ha h2]
      refine hs a _ ha (RK_step hQ (fun x a ha hQ => ?_) (fun a hQ => (by simp only [go_sem, V_size, V_trunc]; exact hQ)))
      have hop := fun Q => operator_eq (st := st) (Q := Q) hid hl ha 2 (by omega)
      have hop : ∀ Q : Res → St → Prop, CallA S 115 [.ptr id 0, .int .i64 2] (V st id l a) Q = Q (.ret (.str (opOf 2 (tokAt l a)))) (V st id l (if opOf 2 (tokAt l a) = [] then a else a + 1)) := hop
      by_cases ho : opOf 2 (tokAt l a) = []
      · rw [if_pos ho] at hQ
        simp only [go_sem, hop, ho, beqL_nn, V_size, V_trunc]
        exact RK_ok hQ ha
      · rw [if_neg ho] at hQ
        have hlt := opOf_lt ho
        have hb : (opOf 2 (tokAt l a) == []) = false := by simp [ho]
        simp only [go_sem, hop, ho, hb]
        refine hs (a + 1) _ (by omega) (RK_step hQ (fun y a' ha' hQ => ?_) (fun a hQ => (by simp only [go_sem, V_size, V_trunc]; exact hQ)))
        simp only [go_sem, binary_eq, V_size, V_trunc]
        exact RK_ok hQ ha'
theorem expr1_ok (hid : id < st.size) (hl : l.length < 65536) (n : Nat) (rec : Nt → Nat → PR Xp) (hp : ReadsAt eX st id l 89 [.ptr id 0] (rec .not)) (bx : Nat) (hbx : st.cells bx = some [.ptr id 0]) (hne : id ≠ bx) :
    ReadsAt eX st id l 88 [.ptr bx 0] (fun a => spJoined l (rec .not) 1 n a) := by
  intro a Q ha hQ
  refine callA_body (by rfl) (by rfl) rfl ?_
  simp only [b88, go_sem, V_cells_ne hne, hbx]
  refine joined_ok hid hl 1 (by omega) n 89 [.ptr id 0] [] (by rfl) (by rfl) (rec .not) hp a _ ha (PR.on_mono hQ (fun x a _ hQ ha => ?_) (fun a _ hQ => (by simp only [go_sem, V_size, V_trunc]; exact hQ)))
  simp only [go_sem, V_size, V_trunc]
  exact hQ ha
theorem expr_ok (hid : id < st.size) (hl : l.length < 65536) (n : Nat) (rec : Nt → Nat → PR Xp) (hp : ∀ o, ReadsAt eX (st.push o) id l 89 [.ptr id 0] (rec .not)) :
    ReadsAt eX st id l 56 [.ptr id 0] (spStep l rec n .expr) := by
  intro a Q ha hQ
  refine callA_body (by rfl) (by rfl) rfl ?_
  simp only [spStep] at hQ
  have hle : id + 1 ≤ st.size := hid
  have hid' : id < (st.push (.cells [.ptr id 0])).size := by rw [size_push]; omega
  have hne : id ≠ st.size := by omega
  have hbx : (st.push (.cells [.ptr id 0])).cells st.size = some [.ptr id 0] := cells_new
  simp only [b56, go_sem, V_size, hle, V_push hid, V_cells_ne hne, hbx]
  refine joined_ok hid' hl 0 (by omega) n 88 [] [.ptr st.size 0] (by rfl) (by rfl) _ (expr1_ok hid' hl n rec (hp _) st.size hbx hne) a _ ha (PR.on_mono hQ (fun x a _ hQ ha => ?_) (fun a _ hQ => (by simp only [go_sem, V_size, V_trunc_push hid]; exact hQ)))
  simp only [go_sem, V_size, V_trunc_push hid]
  exact hQ ha
end
def fnOf : Nt → Nat
  | .expr => 56
  | .not => 89
  | .pow => 167
  | .unary => 211
theorem sp_ok {l : List Tok} (hl : l.length < 65536) (hT : ∀ t ∈ l, TokOk t) : ∀ (n : Nat), n ≤ 65536 → ∀ (nt : Nt) (st : St) (id : Nat), id < st.size → ReadsAt eX st id l (fnOf nt) [.ptr id 0] (sp l n nt)
  | 0, _, nt, st, id, hid => fun a Q ha hQ => hQ.elim
  | n + 1, hn, nt, st, id, hid => by
    have ih := sp_ok hl hT n (by omega)
    have hpush : ∀ o, id < (st.push o).size := fun o => by rw [size_push]; omega
    cases nt with
    | expr => exact expr_ok hid hl n (sp l n) (fun o => ih .not _ _ (hpush o))
    | not => exact not_ok hid hl n (sp l n) (ih .not _ _ hid) (sum_ok hid hl n (sp l n) (fun o => ih .pow _ _ (hpush o)))
    | pow => exact pow_ok hid hl n (sp l n) (ih .pow _ _ hid) (ih .unary _ _ hid)
    | unary => exact unary_ok hid hl hT n (by omega) (sp l n) (ih .expr _ _ hid) (ih .unary _ _ hid)
end Go.Proofs.YtelpkgbghhpgaaaGreatDoor.Sx
end
