/- TreeReads returns true for all texts whose data are not larger than a bound. The document's lexer: comments, continued lines, tokens put. What capitals of a text can be a sign: the two ways to make capitals agree where signs are sought. The document's lexer: signs and dates at a place. -/
import Derived.Test.YtelpkgbghhpgaaaGreatDoorR25
import Derived.Test.YtelpkgbghhpgaaaGreatDoorR28
import Derived.Lib.TrimUEq
import Derived.Shelf.Strings.CaseAny
set_option linter.all false
section
set_option maxRecDepth 100000
namespace Go.Proofs.YtelpkgbghhpgaaaGreatDoor.Sx
theorem beq_dec (u v : UInt8) : (u == v) = decide (v = u) := by
  by_cases h : v = u
  · subst h; rw [beq_self_eq_true, decide_eq_true rfl]
  · rw [decide_eq_false h, beq_eq_false_iff_ne]; exact fun e => h e.symm
theorem hasPre2 {s : List UInt8} {a : Nat} (x y : UInt8) : hasPre (s.drop a) [x, y] = (decide (s[a]? = some x) && decide (s[a + 1]? = some y)) := by
  unfold hasPre
  by_cases h1 : a < s.length
  · rw [List.drop_eq_getElem_cons h1, getB h1]
    by_cases h2 : a + 1 < s.length
    · rw [List.drop_eq_getElem_cons h2, getB h2]
      simp only [List.isPrefixOf, Option.some.injEq, Bool.and_true]
      rw [beq_dec, beq_dec]
    · rw [List.drop_of_length_le (by omega), List.getElem?_eq_none (by omega)]
      simp [List.isPrefixOf]
  · rw [List.drop_of_length_le (by omega), List.getElem?_eq_none (by omega)]
    simp [List.isPrefixOf]
def firstP (s : List UInt8) : Nat → Bool
  | 0 => true
  | k + 1 => if isC s k 3 = true then firstP s k else decide (s[k]? = some 10)
section
variable {st : St} {id a : Nat} {s : List UInt8} {line : Bool} {wr : Int} {acc : List Tok} {Q : Res → St → Prop}
theorem risComment_eq (hid : id < st.size) (hs : s.length < 65536) (ha : a < s.length) :
    CallA S 120 [.ptr id 0] (VL st id s a line wr acc) Q = Q (.ret (.bool (hasPre (s.drop a) [38, 38]))) (VL st id s a line wr acc) := by
  refine callA_eq (fun Q hQ => ?_) Q
  refine callA_body (by rfl) (by rfl) rfl ?_
  rw [hasPre2, getB ha] at hQ
  by_cases h1 : ((a + 1 : Nat) : Int) < (s.length : Int)
  · have h2 : a + 1 < s.length := by omega
    have e1 : ((s[a].toNat : Int) == 38) = decide (s[a] = 38) := beqi_byte _ 38 (by omega) (by omega)
    have e2 : ((s[a + 1].toNat : Int) == 38) = decide (s[a + 1] = 38) := beqi_byte _ 38 (by omega) (by omega)
    rw [getB h2] at hQ
    simp only [Option.some.injEq] at hQ
    by_cases c1 : s[a] = 38
    · rw [decide_eq_true c1] at e1 hQ
      rw [Bool.true_and] at hQ
      simp only [b120, go_sem, VL_cells hid, wrap_one a (by omega), h1, getB ha, getB h2, e1, e2, VL_size, VL_trunc]
      exact hQ
    · rw [decide_eq_false c1] at e1 hQ
      rw [Bool.false_and] at hQ
      simp only [b120, go_sem, VL_cells hid, wrap_one a (by omega), h1, getB ha, getB h2, e1, VL_size, VL_trunc]
      exact hQ
  · have e : decide (s[a + 1]? = some 38) = false := by rw [List.getElem?_eq_none (by omega)]; rfl
    rw [e, Bool.and_false] at hQ
    simp only [b120, go_sem, VL_cells hid, wrap_one a (by omega), h1, VL_size, VL_trunc]
    exact hQ
theorem rfirst_eq (hid : id < st.size) (hs : s.length < 65536) (ha : a ≤ s.length) :
    CallA S 121 [.ptr id 0] (VL st id s a line wr acc) Q = Q (.ret (.bool (firstP s a))) (VL st id s a line wr acc) := by
  refine callA_eq (fun Q hQ => ?_) Q
  refine callA_body (by rfl) (by rfl) rfl ?_
  have w : ∀ k : Nat, k ≤ s.length → IntKind.i64.wrap ((k : Int) - 1) = (k : Int) - 1 := fun k hk => wrap_int _ (by omega) (by omega)
  simp only [b121, go_sem, VL_cells hid, w a ha]
  refine wp_loop (fun n fr st' => st' = VL st id s a line wr acc ∧ ∃ (k : Nat) (ser : Nat), n = k ∧ k ≤ a ∧ firstP s a = firstP s k ∧
    fr = ⟨[(0, .ptr id 0), (3, .int .i64 ((k : Int) - 1))], [], [], ser⟩) a ⟨rfl, a, _, rfl, Nat.le_refl _, rfl, rfl⟩ ?_
  rintro n fr st' ⟨rfl, k, ser, rfl, hk, hf, rfl⟩
  cases n with
  | zero =>
    rw [firstP] at hf
    rw [hf] at hQ
    have c1 : ¬ (((0 : Nat) : Int) - 1 ≥ 0) := by omega
    have c2 : ((0 : Nat) : Int) - 1 < 0 := by omega
    simp only [b121l0, go_sem, c1, c2, VL_size, VL_trunc]
    exact hQ
  | succ j =>
    have hj : j < s.length := by omega
    have ej : ((j + 1 : Nat) : Int) - 1 = (j : Int) := by omega
    have c1 : (j : Int) ≥ 0 := by omega
    have c2 : ¬ (j : Int) < 0 := by omega
    rw [firstP] at hf
    rw [ej]
    cases hb : (clsOf s[j].toNat == 3) with
    | true =>
      have hc : isC s j 3 = true := by unfold isC; rw [getB hj]; exact hb
      rw [if_pos hc] at hf
      simp only [b121l0, go_sem, VL_cells hid, c1, getB hj, risBlank_eq, hb, w j (by omega)]
      exact ⟨j, Nat.lt_succ_self j, j, _, rfl, by omega, hf, rfl⟩
    | false =>
      have hc : isC s j 3 = false := by unfold isC; rw [getB hj]; exact hb
      rw [if_neg (by rw [hc]; exact Bool.false_ne_true)] at hf
      have e2 : ((s[j].toNat : Int) == 10) = decide (s[j]? = some 10) := by rw [getB hj, beqi_byte _ 10 (by omega) (by omega)]; simp
      rw [hf] at hQ
      simp only [b121l0, go_sem, VL_cells hid, c1, c2, getB hj, risBlank_eq, hb, VL_size, VL_trunc]
      rw [getB hj] at e2
      rw [e2]
      rw [getB hj] at hQ
      exact hQ
theorem rgoesOn_eq (hid : id < st.size) (hs : s.length < 65536) (ha : a < s.length) :
    CallA S 124 [.ptr id 0] (VL st id s a line wr acc) Q = Q (.ret (.bool (goesOn s a))) (VL st id s a line wr acc) := by
  refine callA_eq (fun Q hQ => ?_) Q
  refine callA_body (by rfl) (by rfl) rfl ?_
  simp only [b124, go_sem, VL_cells hid, wrap_one a (by omega)]
  refine wp_loop (fun n fr st' => ∃ i ser, n + i = s.length ∧ st' = VL st id s a line wr acc ∧ skipB s (a + 1) = runTo (fun i => isC s i 3) n i ∧ fr = ⟨[(0, .ptr id 0), (3, .int .i64 (i : Int))], [], [], ser⟩) (s.length - (a + 1)) ⟨a + 1, _, by omega, rfl, rfl, rfl⟩ ?_
  rintro n fr st' ⟨i, ser, hn, rfl, hr, rfl⟩
  by_cases h : (i : Int) < (s.length : Int)
  · have hi : i < s.length := by omega
    have g1 : ¬ (i : Int) ≥ (s.length : Int) := by omega
    cases n with
    | zero => omega
    | succ n =>
      cases hb : (clsOf s[i].toNat == 3) with
      | true =>
        have hc : isC s i 3 = true := by unfold isC; rw [getB hi]; exact hb
        simp only [runTo, hc, if_true] at hr
        simp only [b124l0, go_sem, VL_cells hid, h, getB hi, risBlank_eq, hb, wrap_one i (by omega)]
        exact ⟨n, Nat.lt_succ_self n, i + 1, _, by omega, hr, rfl⟩
      | false =>
        have hc : isC s i 3 = false := by unfold isC; rw [getB hi]; exact hb
        simp only [runTo, hc, Bool.false_eq_true, if_false] at hr
        have hgo : goesOn s a = (decide (s[i] = 10) || hasPre (s.drop i) [38, 38]) := by
          unfold goesOn; rw [hr]; simp only; rw [getB hi]
          simp only [show ¬ i = s.length by omega, decide_false, Bool.false_or, Option.some.injEq]
        have e10 : ((s[i].toNat : Int) == 10) = decide (s[i] = 10) := beqi_byte _ 10 (by omega) (by omega)
        rw [hgo] at hQ
        by_cases c1 : s[i] = 10
        · rw [decide_eq_true c1] at e10 hQ
          rw [Bool.true_or] at hQ
          simp only [b124l0, go_sem, VL_cells hid, h, g1, getB hi, risBlank_eq, hb, e10, VL_size, VL_trunc]
          exact hQ
        · rw [decide_eq_false c1] at e10 hQ
          rw [Bool.false_or] at hQ
          by_cases h1 : ((i + 1 : Nat) : Int) < (s.length : Int)
          · have w2 : IntKind.i64.wrap ((i : Int) + 2) = ((i + 2 : Nat) : Int) := wrap_add i 2 (by omega)
            have s1 : (i : Int) ≤ ((i + 2 : Nat) : Int) := by omega
            have s2 : ((i + 2 : Nat) : Int) ≤ (s.length : Int) := by omega
            have ht : (((s.take (i + 2)).drop i) == [38, 38]) = hasPre (s.drop i) [38, 38] := by
              rw [← take_eq_pre]
              rw [show (s.take (i + 2)).drop i = (s.drop i).take 2 by rw [List.drop_take]; congr 1; omega]
              simp; omega
            rw [← ht] at hQ
            simp only [b124l0, go_sem, VL_cells hid, h, g1, getB hi, risBlank_eq, hb, e10, wrap_one i (by omega), h1, w2, s1, s2, VL_size, VL_trunc]
            exact hQ
          · have e : hasPre (s.drop i) [38, 38] = false := by
              rw [hasPre2, List.getElem?_eq_none (show s.length ≤ i + 1 by omega)]; simp
            rw [e] at hQ
            simp only [b124l0, go_sem, VL_cells hid, h, g1, getB hi, risBlank_eq, hb, e10, wrap_one i (by omega), h1, VL_size, VL_trunc]
            exact hQ
  · have e : i = s.length := by omega
    have g1 : (i : Int) ≥ (s.length : Int) := by omega
    obtain rfl : n = 0 := by omega
    rw [runTo] at hr
    have hgo : goesOn s a = true := by unfold goesOn; rw [hr]; simp [e]
    rw [hgo] at hQ
    simp only [b124l0, go_sem, VL_cells hid, h, g1, VL_size, VL_trunc]
    exact hQ
theorem outV_nil : outV id [] = .nilslice := rfl
theorem outV_cons (t : Tok) (r : List Tok) : outV id (t :: r) = .slice 3 (encT t :: r.map encT) (.cell id 4) := rfl
theorem outV_snoc (acc : List Tok) (t : Tok) : outV id (acc ++ [t]) = .slice 3 (acc.map encT ++ [encT t]) (.cell id 4) := by
  cases acc with
  | nil => rfl
  | cons x r => simp [outV]
theorem put_eq (hid : id < st.size) (k : Int) (t : List UInt8) (n : Nat) (ha : a + n < 1000000) (hacc : acc.length < 1000000) :
    CallA S 172 [.ptr id 0, .int .i64 k, .str t, .int .i64 (n : Int)] (VL st id s a line wr acc) Q = Q (.ret (.tuple [])) (VL st id s (a + n) true wr (acc ++ [⟨k, a, t⟩])) := by
  refine callA_eq (fun Q hQ => ?_) Q
  refine callA_body (by rfl) (by rfl) rfl ?_
  have hle : id + 1 ≤ st.size := hid
  have hst : ∀ (x : Nat) (l2 : Bool) (w2 : Int) (v v2 : AV), (st.setCells id [.str s, .int .i64 (x : Int), .bool l2, .int .i64 w2, v]).cells id = some [.str s, .int .i64 (x : Int), .bool l2, .int .i64 w2, v] := fun x l2 w2 v v2 => cells_set hid
  unfold VL at hQ ⊢
  rw [outV_snoc] at hQ
  cases acc with
  | nil =>
    simp only [outV_nil, b172, go_sem, cells_set hid, set_set, aappend, grow, inCell, homeOk, wrap_add a n (by omega), size_set, trunc_set, List.isEmpty_cons]
    exact hQ
  | cons x r =>
    have hb : ((r.length + 1) + 1) * 72 ≤ 1099511627776 := by simp at hacc; omega
    simp only [outV_cons, b172, go_sem, cells_set hid, set_set, aappend, grow, inCell, homeOk, List.length_map, hb, wrap_add a n (by omega), size_set, trunc_set, List.isEmpty_cons, ne_eq, reduceCtorEq, not_false_eq_true, and_self, if_true, beq_self_eq_true, Bool.and_true, Bool.true_and, decide_true, Nat.lt_add_one, List.length_append]
    exact hQ
theorem ends_eq (hid : id < st.size) (hacc : acc.length < 1000000) :
    CallA S 92 [.ptr id 0] (VL st id s a line wr acc) Q = Q (.ret (.tuple [])) (VL st id s a false wr (if line = true then acc ++ [⟨5, a, []⟩] else acc)) := by
  refine callA_eq (fun Q hQ => ?_) Q
  refine callA_body (by rfl) (by rfl) rfl ?_
  have hle : id + 1 ≤ st.size := hid
  unfold VL at hQ ⊢
  cases line with
  | false =>
    simp only [Bool.false_eq_true, if_false] at hQ
    simp only [b92, go_sem, cells_set hid, set_set, size_set, trunc_set]
    exact hQ
  | true =>
    simp only [if_true, outV_snoc] at hQ
    cases acc with
    | nil =>
      simp only [outV_nil, b92, go_sem, cells_set hid, set_set, aappend, grow, inCell, homeOk, size_set, trunc_set, List.isEmpty_cons]
      exact hQ
    | cons x r =>
      have hb : ((r.length + 1) + 1) * 72 ≤ 1099511627776 := by simp at hacc; omega
      simp only [outV_cons, b92, go_sem, cells_set hid, set_set, aappend, grow, inCell, homeOk, List.length_map, hb, size_set, trunc_set, List.isEmpty_cons, ne_eq, reduceCtorEq, not_false_eq_true, and_self, if_true, beq_self_eq_true, Bool.and_true, Bool.true_and, decide_true, Nat.lt_add_one, List.length_append]
      exact hQ
theorem run_eq (hid : id < st.size) (hs : s.length < 65536) (ha : a ≤ s.length) (word : Bool) :
    CallA S 171 [.ptr id 0, .bool word] (VL st id s a line wr acc) Q =
      Q (.ret (.int .i64 ((runTo (fun i => if word = true then isC s i 1 || isC s i 2 else isC s i 2) (s.length - a) a - a : Nat) : Int))) (VL st id s a line wr acc) := by
  refine callA_eq (fun Q hQ => ?_) Q
  refine callA_body (by rfl) (by rfl) rfl ?_
  simp only [b171, go_sem]
  refine wp_loop (fun n fr st' => st' = VL st id s a line wr acc ∧ ∃ (j ser : Nat), n + (a + j) = s.length ∧ runTo (fun i => if word = true then isC s i 1 || isC s i 2 else isC s i 2) (s.length - a) a = runTo (fun i => if word = true then isC s i 1 || isC s i 2 else isC s i 2) n (a + j) ∧
    fr = ⟨[(0, .ptr id 0), (1, .bool word), (5, .int .i64 (j : Int))], [], [], ser⟩) (s.length - a) ⟨rfl, 0, _, by omega, rfl, rfl⟩ ?_
  rintro n fr st' ⟨rfl, j, ser, hn, hr, rfl⟩
  by_cases h : ((a + j : Nat) : Int) < (s.length : Int)
  · have hj : a + j < s.length := by omega
    cases n with
    | zero => omega
    | succ n =>
      have e1 : isC s (a + j) 1 = (clsOf s[a + j].toNat == 1) := by unfold isC; rw [getB hj]
      have e2 : isC s (a + j) 2 = (clsOf s[a + j].toNat == 2) := by unfold isC; rw [getB hj]
      rw [runTo, e1, e2] at hr
      have stop : runTo (fun i => if word = true then isC s i 1 || isC s i 2 else isC s i 2) (s.length - a) a = a + j → Q (.ret (.int .i64 (j : Int))) (VL st id s a line wr acc) := by
        intro h
        rw [h, show a + j - a = j by omega] at hQ
        exact hQ
      cases hd : (clsOf s[a + j].toNat == 2) with
      | true =>
        have hr2 : runTo (fun i => if word = true then isC s i 1 || isC s i 2 else isC s i 2) (s.length - a) a = runTo (fun i => if word = true then isC s i 1 || isC s i 2 else isC s i 2) n (a + j + 1) := by
          rw [hd] at hr
          rw [hr, if_pos (by cases word <;> simp)]
        simp only [b171l0, go_sem, VL_cells hid, wrap_add a j (by omega), h, getB hj, risDigit_eq, isDig_is, hd, wrap_one j (by omega)]
        exact ⟨n, Nat.lt_succ_self n, j + 1, _, by omega, hr2, rfl⟩
      | false =>
        cases word with
        | false =>
          rw [hd] at hr
          simp only [Bool.false_eq_true, if_false] at hr stop
          simp only [b171l0, go_sem, VL_cells hid, wrap_add a j (by omega), h, getB hj, risDigit_eq, isDig_is, hd, VL_size, VL_trunc]
          exact stop hr
        | true =>
          cases hl : (clsOf s[a + j].toNat == 1) with
          | true =>
            rw [hd, hl] at hr
            simp only [if_true, Bool.true_or] at hr
            simp only [b171l0, go_sem, VL_cells hid, wrap_add a j (by omega), h, getB hj, risDigit_eq, isDig_is, hd, risLetter_eq, hl, wrap_one j (by omega)]
            exact ⟨n, Nat.lt_succ_self n, j + 1, _, by omega, hr, rfl⟩
          | false =>
            rw [hd, hl] at hr
            simp only [if_true, Bool.or_self, Bool.false_eq_true, if_false] at hr stop
            simp only [b171l0, go_sem, VL_cells hid, wrap_add a j (by omega), h, getB hj, risDigit_eq, isDig_is, hd, risLetter_eq, hl, VL_size, VL_trunc]
            exact stop hr
  · obtain rfl : n = 0 := by omega
    rw [runTo] at hr
    rw [hr, show a + j - a = j by omega] at hQ
    simp only [b171l0, go_sem, VL_cells hid, wrap_add a j (by omega), h, VL_size, VL_trunc]
    exact hQ
end
end Go.Proofs.YtelpkgbghhpgaaaGreatDoor.Sx
end
section
set_option maxRecDepth 100000
namespace Go.Proofs.YtelpkgbghhpgaaaGreatDoor.Sx
open Go.Lib
theorem decode_high (l : List UInt8) (h : 128 ≤ (l.getD 0 0).toNat) : 128 ≤ (decodeL l).1 := by
  rw [decodeL_N]
  unfold decodeN
  rw [if_neg (by omega)]
  repeat' split
  all_goals simp only
  all_goals omega
def highRow (x : CaseRow) : Bool := decide (x.2.1 < 128) || (decide (x.2.2.1 > 1114111) && decide (128 ≤ x.1)) || (decide (x.2.2.1 ≤ 1114111) && decide (128 ≤ max (x.1 : Int) 128 + x.2.2.1)) || (decide (x.1 = x.2.1) && (decide ((x.1 : Int) + x.2.2.1 = 73) || decide ((x.1 : Int) + x.2.2.1 = 83)))
theorem highRows : caseA.toList.all highRow = true := by decide +kernel
theorem toUpperU_high (r : Int) (h : 128 ≤ r) : 128 ≤ toUpperU r ∨ toUpperU r = 73 ∨ toUpperU r = 83 := by
  unfold toUpperU
  rw [if_neg (by omega)]
  unfold toR lookupGo
  cases hi : lookupIdx caseA r (caseA.size + 1) 0 caseA.size with
  | none => exact .inl h
  | some i =>
    obtain ⟨hil, hlo, hhi⟩ := lookupIdx_some caseA r _ _ _ i hi
    simp only [Option.map_some]
    have hx : highRow (caseA.getD i (0, 0, 0, 0, 0)) = true := by
      have e : caseA.getD i (0, 0, 0, 0, 0) = caseA[i] := by simp [Array.getD, hil]
      rw [e]
      exact List.all_eq_true.1 highRows _ (by simp)
    generalize caseA.getD i (0, 0, 0, 0, 0) = x at *
    have hd : CaseRow.delta x 0 = x.2.2.1 := rfl
    simp only [highRow, Bool.or_eq_true, Bool.and_eq_true, decide_eq_true_eq] at hx
    unfold convertR
    rw [hd]
    have hm : max (x.1 : Int) 128 = (x.1 : Int) ∧ 128 ≤ (x.1 : Int) ∨ max (x.1 : Int) 128 = 128 ∧ (x.1 : Int) ≤ 128 := by
      by_cases h : (x.1 : Int) ≤ 128
      · right; exact ⟨Int.max_eq_right h, h⟩
      · left; exact ⟨Int.max_eq_left (by omega), by omega⟩
    split
    · have : (0 : Nat) % 2 = 0 := rfl
      left
      rcases hx with ((hx | hx) | hx) | hx
      · omega
      · omega
      · omega
      · omega
    · rcases hx with ((hx | hx) | hx) | hx
      · omega
      · omega
      · left; omega
      · omega
def noSign (c : UInt8) : Bool := decide (128 ≤ c.toNat) || c == 73 || c == 83
theorem signs_free : allSigns.all (fun w => w.all fun c => !noSign c) = true := by decide +kernel
theorem enc_high (u : Int) (h0 : 0 ≤ u) (h : 128 ≤ u ∨ u = 73 ∨ u = 83) : ∃ c ∈ encodeRune u, noSign c = true := by
  have big : ∀ x : Int, 128 ≤ x → x < 256 → noSign x.toNat.toUInt8 = true := by
    intro x h1 h2
    have : (x.toNat.toUInt8).toNat = x.toNat := by
      rw [Nat.toUInt8_eq, UInt8.toNat_ofNat']
      exact Nat.mod_eq_of_lt (by omega)
    unfold noSign
    rw [this, decide_eq_true (by omega)]; rfl
  unfold encodeRune encodeRuneZ
  rcases h with h | rfl | rfl
  · rw [if_neg (by omega)]
    split
    · exact ⟨_, by simp, big (192 + u / 64) (by omega) (by omega)⟩
    · split
      · exact ⟨_, by simp, big (224 + u / 4096) (by omega) (by omega)⟩
      · split
        · exact ⟨_, by simp, big (240 + u / 262144) (by omega) (by omega)⟩
        · exact ⟨_, by simp, big 239 (by omega) (by omega)⟩
  · exact ⟨73, by decide, by decide⟩
  · exact ⟨83, by decide, by decide⟩
theorem upperD_high : ∀ (n : Nat) (l : List UInt8), l.length ≤ n → (∃ b ∈ l, 128 ≤ b.toNat) → ∃ c ∈ toUpperD l, noSign c = true
  | 0, l, hn, ⟨b, hb, _⟩ => by
    have : l = [] := List.eq_nil_of_length_eq_zero (by omega)
    subst this; cases hb
  | n + 1, [], hn, ⟨b, hb, _⟩ => by cases hb
  | n + 1, b :: t, hn, hx => by
    have hs := mapD_step toUpperU (b :: t) (by simp)
    have hr := toUpperU_range (decodeL (b :: t)).1 (decodeL_rune _)
    rw [if_pos hr.1] at hs
    by_cases hb : b.toNat < 128
    · rw [decodeL_ascii b t hb] at hs
      simp only [List.drop_succ_cons, List.drop_zero] at hs
      obtain ⟨c, hc, h128⟩ := hx
      have hct : c ∈ t := by
        rcases List.mem_cons.1 hc with rfl | h
        · omega
        · exact h
      obtain ⟨d, hd, hd2⟩ := upperD_high n t (by simp at hn; omega) ⟨c, hct, h128⟩
      refine ⟨d, ?_, hd2⟩
      show d ∈ mapD toUpperU (b :: t)
      rw [hs]
      exact List.mem_append.2 (.inr hd)
    · have hh := decode_high (b :: t) (by simp; omega)
      obtain ⟨d, hd, hd2⟩ := enc_high _ hr.1 (toUpperU_high _ (by omega))
      refine ⟨d, ?_, hd2⟩
      show d ∈ mapD toUpperU (b :: t)
      rw [hs]
      exact List.mem_append.2 (.inl hd)
theorem upperS_sign (t w : List UInt8) (hw : w ∈ allSigns) : (upperS t == w) = (t.map upB == w) := by
  unfold upperS
  by_cases ha : isAscii t = true
  · rw [if_pos ha]
  · rw [if_neg ha]
    have hf := List.all_eq_true.1 (List.all_eq_true.1 signs_free w hw)
    have hx : ∃ b ∈ t, 128 ≤ b.toNat := by
      refine Classical.byContradiction fun h => ha ?_
      unfold isAscii
      refine List.all_eq_true.2 fun b hb => decide_eq_true ?_
      have : ¬ 128 ≤ b.toNat := fun h1 => h ⟨b, hb, h1⟩
      exact UInt8.lt_iff_toNat_lt.2 (by simpa using this)
    have e1 : (toUpperD t == w) = false := by
      rw [beq_eq_false_iff_ne]
      rintro rfl
      obtain ⟨c, hc, h1⟩ := upperD_high _ t (Nat.le_refl _) hx
      have := hf c hc
      rw [h1] at this; cases this
    have e2 : (t.map upB == w) = false := by
      rw [beq_eq_false_iff_ne]
      rintro rfl
      obtain ⟨b, hb, h1⟩ := hx
      have h2 := hf (upB b) (List.mem_map.2 ⟨b, hb, rfl⟩)
      have h3 := byte_all (p := fun b => !decide (128 ≤ b.toNat) || noSign (upB b)) (by decide +kernel) b
      rw [decide_eq_true h1] at h3
      simp only [Bool.not_true, Bool.false_or] at h3
      rw [h3] at h2; cases h2
    rw [e1, e2]
end Go.Proofs.YtelpkgbghhpgaaaGreatDoor.Sx
end
section
set_option maxRecDepth 100000
namespace Go.Proofs.YtelpkgbghhpgaaaGreatDoor.Sx
theorem bneOf {α : Type} [BEq α] {a b : α} {c : Bool} (h : (a == b) = c) : (a != b) = !c := by rw [bne, h]
theorem sub_drop (s : List UInt8) (a i j : Nat) : sub (s.drop a) i j = (s.take (a + j)).drop (a + i) := by
  unfold sub
  rw [List.take_drop, List.drop_drop]
theorem take_drop2 (s : List UInt8) (a j : Nat) : (s.take (a + j)).drop a = (s.drop a).take j := by
  rw [List.take_drop]
section
variable {st : St} {id a : Nat} {s : List UInt8} {line : Bool} {wr : Int} {acc : List Tok} {Q : Res → St → Prop}
theorem caps_eq (t : List UInt8) (h : t.length < 1048576) : CallA S 141 [.str t] st Q = Q (.ret (.str (t.map upB))) st :=
  callA_intr (n := 0) (by rfl) (by simp only [iCaps, h, if_true]) Q
theorem rsigns_eq : CallA S 213 [] st Q = Q (.ret (.slice 1 (encStr allSigns) .no)) st := by
  refine callA_eq (fun Q hQ => ?_) Q
  refine callA_body (by rfl) (by rfl) rfl ?_
  have e : encStr allSigns = [[.str [46, 78, 85, 76, 76, 46]], [.str [46, 65, 78, 68, 46]], [.str [46, 78, 79, 84, 46]], [.str [46, 79, 82, 46]], [.str [46, 84, 46]], [.str [46, 70, 46]], [.str [58, 61]], [.str [61, 61]], [.str [60, 62]], [.str [33, 61]], [.str [60, 61]], [.str [62, 61]], [.str [45, 62]], [.str [40]], [.str [41]], [.str [91]], [.str [93]], [.str [123]], [.str [125]], [.str [44]], [.str [124]], [.str [58]], [.str [46]], [.str [61]], [.str [35]], [.str [60]], [.str [62]], [.str [43]], [.str [45]], [.str [42]], [.str [47]], [.str [37]], [.str [94]], [.str [36]], [.str [38]], [.str [63]], [.str [64]], [.str [33]]] := by rfl
  rw [e] at hQ
  simp only [b213, go_sem, trunc_self]
  exact hQ
theorem signAt_eq (hs : s.length < 65536) (ha : a ≤ s.length) : CallA S 176 [.str s, .int .i64 (a : Int)] st Q = Q (.ret (.str ((signP s a).getD []))) st := by
  refine callA_eq (fun Q hQ => ?_) Q
  refine callA_body (by rfl) (by rfl) rfl ?_
  simp only [b176, go_sem, rsigns_eq]
  have h38 : allSigns.length = 38 := by decide
  refine wp_loop (fun n fr st' => st' = st ∧ ∃ (i : Nat) (ser : Nat), n + i = 38 ∧ signP s a = (allSigns.drop i).find? (signFits s a) ∧
    fr = ⟨[(0, .str s), (1, .int .i64 (a : Int)), (5, .slice 1 (encStr allSigns) .no), (6, .int .i64 (i : Int))], [], [], ser⟩) 38 ⟨rfl, 0, _, rfl, rfl, rfl⟩ ?_
  rintro n fr st' ⟨rfl, i, ser, hn, hf, rfl⟩
  have hlen : ((encStr allSigns).length : Int) = 38 := by rw [encStr_length, h38]; rfl
  by_cases h : (i : Int) < 38
  · have hi : i < allSigns.length := by omega
    have hel : elA 1 (i : Int) (.slice 1 (encStr allSigns) .no) = some [.str allSigns[i]] := el_str false allSigns hi
    have hw : allSigns[i] ∈ allSigns := List.getElem_mem hi
    have hwl : allSigns[i].length ≤ 6 := (show ∀ w ∈ allSigns, w.length ≤ 6 by decide) _ hw
    rw [List.drop_eq_getElem_cons hi, List.find?_cons] at hf
    generalize allSigns[i] = w at *
    by_cases h1 : ((a + w.length : Nat) : Int) ≤ (s.length : Int)
    · have hsl : (a : Int) ≤ ((a + w.length : Nat) : Int) := by omega
      have hfit : signFits s a w = (((s.take (a + w.length)).drop a).map upB == w) := by
        unfold signFits
        rw [decide_eq_true (by omega), Bool.true_and, upperS_sign _ _ hw]
        rfl
      have hcl : ((s.take (a + w.length)).drop a).length < 1048576 := by simp; omega
      have hcap := fun (st : St) (Q : Res → St → Prop) => caps_eq (st := st) (Q := Q) _ hcl
      cases hb : (((s.take (a + w.length)).drop a).map upB == w) with
      | true =>
        rw [hfit, hb] at hf
        simp only at hf
        rw [hf] at hQ
        simp only [b176l0, go_sem, hlen, h, hel, wrap_add a w.length (by omega), h1, hsl, hcap, hb, trunc_self]
        exact hQ
      | false =>
        rw [hfit, hb] at hf
        simp only at hf
        simp only [b176l0, go_sem, hlen, h, hel, wrap_add a w.length (by omega), h1, hsl, hcap, hb, wrap_one i (by omega)]
        exact ⟨n - 1, by omega, i + 1, _, by omega, hf, rfl⟩
    · have hfit : signFits s a w = false := by unfold signFits; rw [decide_eq_false (by omega), Bool.false_and]
      rw [hfit] at hf
      simp only at hf
      simp only [b176l0, go_sem, hlen, h, hel, wrap_add a w.length (by omega), h1, wrap_one i (by omega)]
      exact ⟨n - 1, by omega, i + 1, _, by omega, hf, rfl⟩
  · rw [List.drop_of_length_le (by omega), List.find?_nil] at hf
    rw [hf] at hQ
    simp only [b176l0, go_sem, hlen, h, trunc_self]
    exact hQ
def dateR (s : List UInt8) (a : Nat) : List UInt8 × Int := if (dateP s a).2.2 = true then ((dateP s a).1, (dateP s a).2.1) else ([], 0)
theorem dateDigits_length {t : List UInt8} (h : 13 ≤ t.length) : (dateDigits t).length = 8 := by
  unfold dateDigits
  simp [sub]; omega
theorem dateAt_eq (hs : s.length < 65536) (ha : a ≤ s.length) : CallA S 175 [.str s, .int .i64 (a : Int)] st Q = Q (.ret (.tuple [.str (dateR s a).1, .int .i64 (dateR s a).2])) st := by
  refine callA_eq (fun Q hQ => ?_) Q
  refine callA_body (by rfl) (by rfl) rfl ?_
  have w1 : IntKind.i64.wrap ((a : Int) + 1) = ((a + 1 : Nat) : Int) := wrap_add a 1 (by omega)
  have w2 : IntKind.i64.wrap ((a : Int) + 2) = ((a + 2 : Nat) : Int) := wrap_add a 2 (by omega)
  have w6 : IntKind.i64.wrap ((a : Int) + 6) = ((a + 6 : Nat) : Int) := wrap_add a 6 (by omega)
  have w7 : IntKind.i64.wrap ((a : Int) + 7) = ((a + 7 : Nat) : Int) := wrap_add a 7 (by omega)
  have w9 : IntKind.i64.wrap ((a : Int) + 9) = ((a + 9 : Nat) : Int) := wrap_add a 9 (by omega)
  have w10 : IntKind.i64.wrap ((a : Int) + 10) = ((a + 10 : Nat) : Int) := wrap_add a 10 (by omega)
  have w12 : IntKind.i64.wrap ((a : Int) + 12) = ((a + 12 : Nat) : Int) := wrap_add a 12 (by omega)
  have w13 : IntKind.i64.wrap ((a : Int) + 13) = ((a + 13 : Nat) : Int) := wrap_add a 13 (by omega)
  unfold dateR dateP at hQ
  have hpre : ∀ (p : List UInt8), p.length = 2 → a + 2 ≤ s.length → (((s.take (a + 2)).drop a) == p) = hasPre (s.drop a) p := by
    intro p hp hl
    rw [← take_eq_pre, take_drop2, hp]
    simp; omega
  by_cases g1 : ((a + 1 : Nat) : Int) < (s.length : Int)
  · have sl1 : (a : Int) ≤ ((a + 2 : Nat) : Int) := by omega
    have sl2 : ((a + 2 : Nat) : Int) ≤ (s.length : Int) := by omega
    have hp1 := hpre [123, 125] rfl (by omega)
    have hp2 := hpre [123, 94] rfl (by omega)
    cases c1 : hasPre (s.drop a) [123, 125] with
    | true =>
      rw [c1] at hp1
      simp only [c1, if_true] at hQ
      simp only [b175, go_sem, w1, g1, w2, sl1, sl2, hp1, trunc_self]
      exact hQ
    | false =>
      rw [c1] at hp1
      simp only [c1, Bool.false_eq_true, if_false] at hQ
      by_cases g13 : ((a + 13 : Nat) : Int) > (s.length : Int)
      · have hdl : dateLike (s.drop a) = false := by
          unfold dateLike
          rw [decide_eq_false (by rw [List.length_drop]; omega)]; simp only [Bool.false_and]
        simp only [hdl, Bool.false_eq_true, if_false] at hQ
        simp only [b175, go_sem, w1, g1, w2, sl1, sl2, hp1, w13, g13, trunc_self]
        exact hQ
      · have hl13 : a + 13 ≤ s.length := by omega
        have dl : dateLike (s.drop a) = (hasPre (s.drop a) [123, 94] && decide (s[a + 6]? = some 45) && decide (s[a + 9]? = some 45) && decide (s[a + 12]? = some 125)) := by
          unfold dateLike
          rw [decide_eq_true (by rw [List.length_drop]; omega), Bool.true_and, ← take_eq_pre]
          rw [decide_eq_true (show ([123, 94] : List UInt8).length ≤ (s.drop a).length by rw [List.length_drop]; simp; omega), Bool.true_and]
          simp only [List.getElem?_drop]
          rfl
        have k6 : a + 6 < s.length := by omega
        have k9 : a + 9 < s.length := by omega
        have k12 : a + 12 < s.length := by omega
        rw [getB k6, getB k9, getB k12] at dl
        simp only [Option.some.injEq] at dl
        have f6 : ((s[a + 6].toNat : Int) == 45) = decide (s[a + 6] = 45) := beqi_byte _ 45 (by omega) (by omega)
        have f9 : ((s[a + 9].toNat : Int) == 45) = decide (s[a + 9] = 45) := beqi_byte _ 45 (by omega) (by omega)
        have f12 : ((s[a + 12].toNat : Int) == 125) = decide (s[a + 12] = 125) := beqi_byte _ 125 (by omega) (by omega)
        cases c2 : hasPre (s.drop a) [123, 94] with
        | false =>
          rw [c2] at hp2 dl
          simp only [Bool.false_and] at dl
          simp only [dl, Bool.false_eq_true, if_false] at hQ
          have d2 := bneOf hp2
          simp only [b175, go_sem, w1, g1, w2, sl1, sl2, hp1, w13, g13, hp2, d2, trunc_self]
          exact hQ
        | true =>
        rw [c2] at hp2 dl
        simp only [Bool.true_and] at dl
        have d2 := bneOf hp2
        by_cases c6 : s[a + 6] = 45
        · rw [decide_eq_true c6] at f6 dl
          simp only [Bool.true_and] at dl
          have d6 := bneOf f6
          by_cases c9 : s[a + 9] = 45
          · rw [decide_eq_true c9] at f9 dl
            simp only [Bool.true_and] at dl
            have d9 := bneOf f9
            by_cases c12 : s[a + 12] = 125
            · rw [decide_eq_true c12] at f12 dl
              have d12 := bneOf f12
              simp only [dl, if_true] at hQ
              have x1 : ((a + 2 : Nat) : Int) ≤ ((a + 6 : Nat) : Int) := by omega
              have x2 : ((a + 6 : Nat) : Int) ≤ (s.length : Int) := by omega
              have x3 : ((a + 7 : Nat) : Int) ≤ ((a + 9 : Nat) : Int) := by omega
              have x4 : ((a + 9 : Nat) : Int) ≤ (s.length : Int) := by omega
              have x5 : ((a + 10 : Nat) : Int) ≤ ((a + 12 : Nat) : Int) := by omega
              have x6 : ((a + 12 : Nat) : Int) ≤ (s.length : Int) := by omega
              have dd : (s.take (a + 6)).drop (a + 2) ++ (s.take (a + 9)).drop (a + 7) ++ (s.take (a + 12)).drop (a + 10) = dateDigits (s.drop a) := by
                unfold dateDigits; rw [sub_drop, sub_drop, sub_drop]
              have l1 : ((s.take (a + 6)).drop (a + 2)).length = 4 := by simp; omega
              have l2 : ((s.take (a + 9)).drop (a + 7)).length = 2 := by simp; omega
              have l3 : ((s.take (a + 12)).drop (a + 10)).length = 2 := by simp; omega
              have hd8 := dateDigits_length (t := s.drop a) (by rw [List.length_drop]; omega)
              have hun := fun (st : St) (Q : Res → St → Prop) => runstamp_eq (st := st) (Q := Q) (dateDigits (s.drop a)) (by omega)
              have ll1 : ((s.take (a + 6)).drop (a + 2)).length + ((s.take (a + 9)).drop (a + 7)).length ≤ 1099511627776 := by omega
              have ll2 : ((s.take (a + 6)).drop (a + 2) ++ (s.take (a + 9)).drop (a + 7)).length + ((s.take (a + 12)).drop (a + 10)).length ≤ 1099511627776 := by rw [List.length_append]; omega
              generalize hD : dateDigits (s.drop a) = D at *
              obtain ⟨x, r, rfl⟩ : ∃ x r, D = x :: r := by
                cases D with
                | nil => simp at hd8
                | cons x r => exact ⟨x, r, rfl⟩
              cases hbl : (x :: r == blanks8) with
              | true =>
                have e := eq_of_beq hbl
                have hne : (x :: r != blanks8) = false := by rw [bne, hbl]; rfl
                simp only [hbl, hne, Bool.true_or, Bool.true_and, Bool.and_false, Bool.false_eq_true, if_false] at hQ
                have hx : ((x.toNat : Int) == 32) = true := by
                  unfold blanks8 at e
                  injection e with e1 e2
                  rw [e1]; rfl
                rw [hbl] at hun
                simp only [Bool.true_or] at hun
                simp only [b175, go_sem, w1, g1, w2, sl1, sl2, hp1, w13, g13, hp2, d2, w6, w7, w9, w10, w12, getB k6, getB k9, getB k12, f6, d6, f9, d9, f12, d12, x1, x2, x3, x4, x5, x6, ll1, ll2, dd, hun, hx, trunc_self]
                exact hQ
              | false =>
                have hne : (x :: r != blanks8) = true := by rw [bne, hbl]; rfl
                simp only [hbl, hne, Bool.false_or, Bool.and_true] at hQ
                rw [hbl] at hun
                simp only [Bool.false_or] at hun
                cases hdy : dayOk (x :: r) with
                | true =>
                  simp only [hdy, if_true] at hQ
                  rw [hdy] at hun
                  have hx : ((x.toNat : Int) == 32) = false := by
                    have hdg : isDig x = true := by
                      unfold dayOk at hdy
                      simp only [Bool.and_eq_true, List.all_cons] at hdy
                      exact hdy.1.2.1
                    have := isDig_iff.1 hdg
                    rw [beq_eq_false_iff_ne]; omega
                  simp only [b175, go_sem, w1, g1, w2, sl1, sl2, hp1, w13, g13, hp2, d2, w6, w7, w9, w10, w12, getB k6, getB k9, getB k12, f6, d6, f9, d9, f12, d12, x1, x2, x3, x4, x5, x6, ll1, ll2, dd, hun, hx, trunc_self]
                  exact hQ
                | false =>
                  simp only [hdy, Bool.false_eq_true, if_false] at hQ
                  rw [hdy] at hun
                  simp only [b175, go_sem, w1, g1, w2, sl1, sl2, hp1, w13, g13, hp2, d2, w6, w7, w9, w10, w12, getB k6, getB k9, getB k12, f6, d6, f9, d9, f12, d12, x1, x2, x3, x4, x5, x6, ll1, ll2, dd, hun, trunc_self]
                  exact hQ
            · rw [decide_eq_false c12] at f12 dl
              have d12 := bneOf f12
              simp only [dl, Bool.false_eq_true, if_false] at hQ
              simp only [b175, go_sem, w1, g1, w2, sl1, sl2, hp1, w13, g13, hp2, d2, w6, w9, w12, getB k6, getB k9, getB k12, f6, d6, f9, d9, f12, d12, trunc_self]
              exact hQ
          · rw [decide_eq_false c9] at f9 dl
            simp only [Bool.false_and] at dl
            have d9 := bneOf f9
            simp only [dl, Bool.false_eq_true, if_false] at hQ
            simp only [b175, go_sem, w1, g1, w2, sl1, sl2, hp1, w13, g13, hp2, d2, w6, w9, getB k6, getB k9, f6, d6, f9, d9, trunc_self]
            exact hQ
        · rw [decide_eq_false c6] at f6 dl
          simp only [Bool.false_and] at dl
          have d6 := bneOf f6
          simp only [dl, Bool.false_eq_true, if_false] at hQ
          simp only [b175, go_sem, w1, g1, w2, sl1, sl2, hp1, w13, g13, hp2, d2, w6, getB k6, f6, d6, trunc_self]
          exact hQ
  · have c1 : hasPre (s.drop a) [123, 125] = false := by
      rw [hasPre2, List.getElem?_eq_none (show s.length ≤ a + 1 by omega)]; simp
    have g13 : ((a + 13 : Nat) : Int) > (s.length : Int) := by omega
    have hdl : dateLike (s.drop a) = false := by
      unfold dateLike
      rw [decide_eq_false (by rw [List.length_drop]; omega)]; simp only [Bool.false_and]
    simp only [c1, hdl, Bool.false_eq_true, if_false] at hQ
    simp only [b175, go_sem, w1, g1, w13, g13, trunc_self]
    exact hQ
end
end Go.Proofs.YtelpkgbghhpgaaaGreatDoor.Sx
end
