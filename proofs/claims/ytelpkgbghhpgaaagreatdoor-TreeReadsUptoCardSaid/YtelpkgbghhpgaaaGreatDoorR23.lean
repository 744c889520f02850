/- TreeReads returns true for all texts whose data are not larger than a bound. The program's scanner: its cells; classes of bytes; blanks, lines, comments. The program's scanner: the table of classes; ends of lines; lines that go on. The program's scanner: ends of lines, lines that go on, words and numbers. -/
import Derived.Test.YtelpkgbghhpgaaaGreatDoorR21
import Derived.Test.YtelpkgbghhpgaaaGreatDoorR22
set_option linter.all false
section
set_option maxRecDepth 100000
namespace Go.Proofs.YtelpkgbghhpgaaaGreatDoor.Sx
def clsList : List AV := (List.range 256).map fun (b : Nat) => .int .u8 (clsOf b)
theorem clsList_length : clsList.length = 256 := by simp [clsList]
theorem clsList_get {k : Nat} (h : k < 256) : clsList[k]? = some (.int .u8 (clsOf k)) := by
  unfold clsList; rw [List.getElem?_map, List.getElem?_range h]; rfl
def sc (s : List UInt8) (a : Nat) (line begun : Bool) (bad : Int) : List AV := .str s :: .int .i64 (a : Int) :: (clsList ++ [.bool line, .bool begun, .int .i64 bad])
section
variable {s : List UInt8} {a : Nat} {line begun : Bool} {bad : Int}
theorem sc_length : (sc s a line begun bad).length = 261 := by simp [sc, clsList_length]
theorem sc_0 : (sc s a line begun bad)[0]? = some (.str s) := rfl
theorem sc_1 : (sc s a line begun bad)[1]? = some (.int .i64 (a : Int)) := rfl
theorem sc_cls {k : Nat} (h : k < 256) : (sc s a line begun bad)[2 + k]? = some (.int .u8 (clsOf k)) := by
  rw [Nat.add_comm]
  show (clsList ++ _)[k]? = _
  rw [List.getElem?_append_left (by rw [clsList_length]; exact h), clsList_get h]
theorem sc_tail (k : Nat) : (sc s a line begun bad)[258 + k]? = [AV.bool line, .bool begun, .int .i64 bad][k]? := by
  rw [Nat.add_comm]
  show (clsList ++ _)[k + 256]? = _
  rw [List.getElem?_append_right (by rw [clsList_length]; omega), clsList_length, Nat.add_sub_cancel]
theorem sc_258 : (sc s a line begun bad)[258]? = some (.bool line) := sc_tail 0
theorem sc_259 : (sc s a line begun bad)[259]? = some (.bool begun) := sc_tail 1
theorem sc_260 : (sc s a line begun bad)[260]? = some (.int .i64 bad) := sc_tail 2
theorem sc_set1 (b : Nat) : (sc s a line begun bad).set 1 (.int .i64 (b : Int)) = sc s b line begun bad := rfl
theorem sc_setTail (k : Nat) (v : AV) : (sc s a line begun bad).set (258 + k) v = .str s :: .int .i64 (a : Int) :: (clsList ++ [AV.bool line, .bool begun, .int .i64 bad].set k v) := by
  rw [Nat.add_comm]
  show _ :: _ :: ((clsList ++ _).set (k + 256) v) = _
  rw [List.set_append_right _ _ (by rw [clsList_length]; omega), clsList_length, Nat.add_sub_cancel]
theorem sc_set258 (b : Bool) : (sc s a line begun bad).set 258 (.bool b) = sc s a b begun bad := sc_setTail 0 _
theorem sc_set259 (b : Bool) : (sc s a line begun bad).set 259 (.bool b) = sc s a line b bad := sc_setTail 1 _
theorem sc_set260 (b : Int) : (sc s a line begun bad).set 260 (.int .i64 b) = sc s a line begun b := sc_setTail 2 _
end
attribute [go_sem] sc_length sc_0 sc_1 sc_258 sc_259 sc_260 sc_set1 sc_set258 sc_set259 sc_set260
def W (st : St) (id : Nat) (s : List UInt8) (a : Nat) (line begun : Bool) (bad : Int) : St := st.setCells id (sc s a line begun bad)
section
variable {st : St} {id a : Nat} {s : List UInt8} {line begun : Bool} {bad : Int} {Q : Res → St → Prop} {o : HObj}
theorem W_cells (hid : id < st.size) : (W st id s a line begun bad).cells id = some (sc s a line begun bad) := cells_set hid
theorem W_set (b : Nat) (l2 b2 : Bool) (bad2 : Int) : (W st id s a line begun bad).setCells id (sc s b l2 b2 bad2) = W st id s b l2 b2 bad2 := set_set
theorem W_size : (W st id s a line begun bad).size = st.size := size_set
theorem W_trunc : (W st id s a line begun bad).trunc st.size = W st id s a line begun bad := trunc_set
theorem getB {i : Nat} (h : i < s.length) : s[i]? = some s[i] := List.getElem?_eq_getElem h
theorem is_eq (hid : id < st.size) (hs : s.length < 65536) (i : Nat) (k : Int) :
    CallA S 156 [.ptr id 0, .int .i64 (i : Int), .int .u8 k] (W st id s a line begun bad) Q = Q (.ret (.bool (isC s i k))) (W st id s a line begun bad) := by
  refine callA_eq (fun Q hQ => ?_) Q
  refine callA_body (by rfl) (by rfl) rfl ?_
  by_cases h : (i : Int) < (s.length : Int)
  · have hi : i < s.length := by omega
    have hb := s[i].toNat_lt
    have h0 : (0 : Int) ≤ (s[i].toNat : Int) := by omega
    have h1 : (s[i].toNat : Int) < ((256 : Nat) : Int) := by omega
    have hc : isC s i k = (clsOf s[i].toNat == k) := by unfold isC; rw [getB hi]
    rw [hc] at hQ
    simp only [b156, go_sem, W_cells hid, h, getB hi, h0, h1, and_self, Nat.mul_one, sc_cls hb, trunc_self]
    exact hQ
  · have hc : isC s i k = false := by unfold isC; rw [List.getElem?_eq_none (by omega)]
    rw [hc] at hQ
    simp only [b156, go_sem, W_cells hid, h, trunc_self]
    exact hQ
theorem isC_lt {i : Nat} {k : Int} (h : isC s i k = true) : i < s.length := by
  unfold isC at h
  split at h
  · rename_i h1; exact (List.getElem?_eq_some_iff.1 h1).1
  · cases h
theorem skip_eq (hid : id < st.size) (hs : s.length < 65536) (ha : a ≤ s.length) :
    CallA S 109 [.ptr id 0] (W st id s a line begun bad) Q = Q (.ret (.tuple [])) (W st id s (skipB s a) line begun bad) := by
  refine callA_eq (fun Q hQ => ?_) Q
  refine callA_body (by rfl) (by rfl) rfl ?_
  simp only [b109, go_sem]
  refine wp_loop (fun n fr st' => ∃ i ser, n + i = s.length ∧ st' = W st id s i line begun bad ∧ skipB s a = runTo (fun i => isC s i 3) n i ∧ fr = ⟨[(0, .ptr id 0)], [], [], ser⟩) (s.length - a) ⟨a, _, by omega, rfl, rfl, rfl⟩ ?_
  rintro n fr st' ⟨i, ser, hn, rfl, hr, rfl⟩
  simp only [b109l0, go_sem, W_cells hid, is_eq hid hs]
  cases h : isC s i 3 with
  | true =>
    have hlt := isC_lt h
    cases n with
    | zero => omega
    | succ n =>
      simp only [runTo, h, if_true] at hr
      simp only [go_sem, wrap_one i (by omega), W_set]
      exact ⟨n, Nat.lt_succ_self n, i + 1, _, by omega, rfl, hr, rfl⟩
  | false =>
    have : skipB s a = i := by cases n <;> simp [runTo, h] at hr <;> exact hr
    rw [this] at hQ
    simp only [go_sem, W_size, W_trunc]
    exact hQ
theorem indexByte_eq (t : List UInt8) (b : UInt8) : CallA S 202 [.str t, .int .u8 (b.toNat : Int)] st Q = Q (.ret (.int .i64 (indexB b t 0))) st := by
  refine callA_intr (n := 0) (k := iIndexByte) (by rfl) ?_ Q
  have := b.toNat_lt
  simp only [iIndexByte]
  rw [if_pos (by omega)]
  simp
theorem indexB_lt {b : UInt8} : ∀ (t : List UInt8) (n : Nat), indexB b t n = -1 ∨ ∃ i, i < t.length ∧ indexB b t n = ((n + i : Nat) : Int)
  | [], n => .inl rfl
  | c :: t, n => by
    simp only [indexB]
    split
    · exact .inr ⟨0, by simp, by simp⟩
    · rcases indexB_lt t (n + 1) with h | ⟨i, h1, h2⟩
      · exact .inl h
      · exact .inr ⟨i + 1, by simpa using h1, by rw [h2]; congr 1; omega⟩
theorem lineEnd_le (ha : a ≤ s.length) : a ≤ lineEnd s a ∧ lineEnd s a ≤ s.length := by
  unfold lineEnd
  rcases indexB_lt (b := 10) (s.drop a) 0 with h | ⟨i, h1, h2⟩
  · rw [h]; simp; omega
  · rw [h2]
    simp only [List.length_drop] at h1
    rw [if_pos (by omega)]
    omega
theorem lineEnd_eq (hid : id < st.size) (hs : s.length < 65536) (i : Nat) (hi : i ≤ s.length) :
    CallA S 158 [.ptr id 0, .int .i64 (i : Int)] (W st id s a line begun bad) Q = Q (.ret (.int .i64 (lineEnd s i : Int))) (W st id s a line begun bad) := by
  refine callA_eq (fun Q hQ => ?_) Q
  refine callA_body (by rfl) (by rfl) rfl ?_
  have h0 : (0 : Int) ≤ (i : Int) := by omega
  have h1 : (i : Int) ≤ (s.length : Int) := by omega
  have h2 : (s.length : Int) ≤ (s.length : Int) := by omega
  have ht : s.take s.length = s := List.take_length
  have hx := fun Q => indexByte_eq (st := W st id s a line begun bad) (Q := Q) (s.drop i) 10
  have hx : ∀ Q : Res → St → Prop, CallA S 202 [.str (s.drop i), .int .u8 10] (W st id s a line begun bad) Q = Q (.ret (.int .i64 (indexB 10 (s.drop i) 0))) (W st id s a line begun bad) := hx
  unfold lineEnd at hQ
  rcases indexB_lt (b := 10) (s.drop i) 0 with h | ⟨k, hk, h⟩
  · have hneg : ¬ ((-1 : Int) ≥ 0) := by omega
    rw [h, if_neg hneg] at hQ
    simp only [b158, go_sem, W_cells hid, h0, h1, h2, and_self, ht, hx, h, hneg, trunc_self]
    exact hQ
  · rw [Nat.zero_add] at h
    have hpos : (k : Int) ≥ 0 := by omega
    simp only [List.length_drop] at hk
    rw [h, if_pos hpos, Int.toNat_natCast] at hQ
    simp only [b158, go_sem, W_cells hid, h0, h1, h2, and_self, ht, hx, h, hpos, wrap_add i k (by omega), trunc_self]
    exact hQ
theorem comment_eq (hid : id < st.size) (hs : s.length < 65536) (ha : a ≤ s.length) :
    CallA S 112 [.ptr id 0] (W st id s a line begun bad) Q =
      match commentP s a with
      | some p => Q (.ret (.bool false)) (W st id s p line begun (p : Int))
      | none => Q (.ret (.bool true)) (W st id s (lineEnd s a) line begun bad) := by
  have hle := lineEnd_le ha
  have key : ∀ Q : Res → St → Prop, (match commentP s a with
      | some p => Q (.ret (.bool false)) (W st id s p line begun (p : Int))
      | none => Q (.ret (.bool true)) (W st id s (lineEnd s a) line begun bad)) → CallA S 112 [.ptr id 0] (W st id s a line begun bad) Q := by
    intro Q hQ
    refine callA_body (by rfl) (by rfl) rfl ?_
    unfold commentP at hQ
    simp only [b112, go_sem, W_cells hid, lineEnd_eq hid hs a ha]
    refine wp_loop (fun n fr st' => ∃ i ser, n + i = lineEnd s a ∧ st' = W st id s i line begun bad ∧ wrongIn s (lineEnd s a - a) a = wrongIn s n i ∧ fr = ⟨[(0, .ptr id 0), (3, .int .i64 (lineEnd s a : Int))], [], [], ser⟩) (lineEnd s a - a) ⟨a, _, by omega, rfl, rfl, rfl⟩ ?_
    rintro n fr st' ⟨i, ser, hn, rfl, hr, rfl⟩
    rw [hr] at hQ
    cases n with
    | zero =>
      have h : ¬ (i : Int) < (lineEnd s a : Int) := by omega
      simp only [wrongIn] at hQ
      simp only [b112l0, go_sem, W_cells hid, h, W_size, W_trunc]
      rw [show i = lineEnd s a by omega]
      exact hQ
    | succ n =>
      have h : (i : Int) < (lineEnd s a : Int) := by omega
      cases hc : isC s i 4 with
      | true =>
        simp only [wrongIn, hc, if_true] at hQ
        simp only [b112l0, go_sem, W_cells hid, h, is_eq hid hs, hc, W_set, W_size, W_trunc]
        exact hQ
      | false =>
        simp only [wrongIn, hc, Bool.false_eq_true, if_false] at hr
        simp only [b112l0, go_sem, W_cells hid, h, is_eq hid hs, hc, wrap_one i (by omega), W_set]
        exact ⟨n, Nat.lt_succ_self n, i + 1, _, by omega, rfl, hr, rfl⟩
  cases hcp : commentP s a with
  | none => refine callA_eq (fun Q hQ => ?_) Q; apply key; rw [hcp]; exact hQ
  | some p => refine callA_eq (fun Q hQ => ?_) Q; apply key; rw [hcp]; exact hQ
end
end Go.Proofs.YtelpkgbghhpgaaaGreatDoor.Sx
end
section
set_option maxRecDepth 100000
namespace Go.Proofs.YtelpkgbghhpgaaaGreatDoor.Sx
section
variable {st : St} {id a : Nat} {s : List UInt8} {line begun : Bool} {bad : Int} {Q : Res → St → Prop} {o : HObj}
def clsTo (n : Nat) : List AV := (List.range 256).map fun (b : Nat) => .int .u8 (if b < n then clsOf b else 0)
theorem clsTo_length (n : Nat) : (clsTo n).length = 256 := by simp [clsTo]
theorem clsTo_zero : clsTo 0 = zs256 := by
  unfold clsTo zs256
  rw [List.eq_replicate_iff]
  exact ⟨by simp, fun b hb => by
    obtain ⟨k, _, hk⟩ := List.mem_map.1 hb
    rw [← hk, if_neg (Nat.not_lt_zero _)]⟩
theorem clsTo_all : clsTo 256 = clsList := by
  unfold clsTo clsList
  exact List.map_congr_left fun b hb => by rw [if_pos (List.mem_range.1 hb)]
theorem clsTo_step {n : Nat} (h : n < 256) : (clsTo n).take n ++ [AV.int .u8 (clsOf n)] ++ (clsTo n).drop (n + 1) = clsTo (n + 1) := by
  rw [List.append_assoc, List.singleton_append]
  apply List.ext_getElem
  · simp [clsTo]; omega
  · intro i h1 h2
    simp only [clsTo, List.length_map, List.length_range] at h2
    by_cases hi : i < n
    · rw [List.getElem_append_left (by simp [clsTo]; omega)]
      simp [clsTo, hi, show i < n + 1 by omega]
    · rw [List.getElem_append_right (by simp [clsTo]; omega)]
      simp only [List.length_take, clsTo_length, show min n 256 = n by omega]
      by_cases he : i = n
      · subst he; simp [clsTo]
      · obtain ⟨d, rfl⟩ : ∃ d, i = n + 1 + d := ⟨i - n - 1, by omega⟩
        simp only [show n + 1 + d - n = d + 1 by omega, List.getElem_cons_succ, List.getElem_drop]
        simp [clsTo, show ¬ n + 1 + d < n by omega, show ¬ n + 1 + d < n + 1 by omega]
theorem clsTo_same {n : Nat} (h : n < 256) (h0 : clsOf n = 0) : clsTo n = clsTo (n + 1) := by
  unfold clsTo
  refine List.map_congr_left fun b hb => ?_
  by_cases hb2 : b < n
  · rw [if_pos hb2, if_pos (by omega)]
  · rw [if_neg hb2]
    by_cases hb3 : b = n
    · subst hb3; rw [if_pos (by omega), h0]
    · rw [if_neg (by omega)]
theorem clsList_strip1 : clsList.map AV.strip1 = clsList := by simp [clsList, AV.strip1]
theorem clsList_out1 : clsList.all AV.out1 = true := by simp [clsList, AV.out1, AV.out0]
theorem clsList_okIn : clsList.all AV.okIn = true := by simp [clsList, AV.okIn, AV.out1, AV.out0]
theorem clsList_refs : AV.refs1L clsList = 0 := by decide +kernel
theorem zs256_length : zs256.length = 256 := by simp [zs256]
theorem w8 {n : Nat} (h : n < 256) : IntKind.u8.wrap (n : Int) = n := by
  have e1 : (2 : Int) ^ 8 = 256 := by decide
  simp only [IntKind.wrap, IntKind.signed, IntKind.bits, Bool.false_and, Bool.false_eq_true, if_false, e1]
  omega
theorem classes_eq : CallA S 51 [] st Q = Q (.ret (.agg clsList)) st := by
  refine callA_eq (fun Q hQ => ?_) Q
  refine callA_body (by rfl) (by rfl) rfl ?_
  simp only [b51, go_sem]
  refine wp_loop (fun m fr st' => ∃ n ser ser2, m + n = 256 ∧ st' = st ∧ fr = ⟨[(0, .lptr 0 1 0), (1, .lptr 1 ser 0), (4, .int .i64 (n : Int))], [(1, zs256), (ser, clsTo n)], [], ser2⟩) 256 ⟨0, 2, _, rfl, rfl, by rw [clsTo_zero]; rfl⟩ ?_
  rintro m fr st' ⟨n, ser, ser2, hm, rfl, rfl⟩
  by_cases hn : (n : Int) < 256
  · have hn' : n < 256 := by omega
    have h1 : (n : Int) < ((256 : Nat) : Int) := by omega
    have hle : n + 1 ≤ 256 := by omega
    have hw := w8 hn'
    have hw1 := wrap_one n (by omega)
    have e := clsTo_step hn'
    have len := clsTo_length n
    rcases (by omega : (n = 9) ∨ (n = 32) ∨ (n = 95) ∨ (97 ≤ n ∧ n ≤ 122) ∨ (65 ≤ n ∧ n ≤ 90) ∨ (48 ≤ n ∧ n ≤ 57) ∨ (n = 10) ∨ (n < 32 ∧ n ≠ 9 ∧ n ≠ 10) ∨ (n > 126) ∨ (33 ≤ n ∧ n ≤ 47) ∨ (58 ≤ n ∧ n ≤ 64) ∨ (91 ≤ n ∧ n ≤ 94) ∨ (n = 96) ∨ (123 ≤ n ∧ n ≤ 126)) with hr | hr | hr | hr | hr | hr | hr | hr | hr | hr | hr | hr | hr | hr
    · have hc : clsOf n = 3 := by unfold clsOf; (repeat' split) <;> omega
      have e9 : ((n : Int) == 9) = true := by rw [beq_iff_eq]; omega
      have e32 : ((n : Int) == 32) = false := by rw [beq_eq_false_iff_ne]; omega
      have e95 : ((n : Int) == 95) = false := by rw [beq_eq_false_iff_ne]; omega
      have g97 : ¬ (n : Int) ≥ 97 := by omega
      have g65 : ¬ (n : Int) ≥ 65 := by omega
      have g48 : ¬ (n : Int) ≥ 48 := by omega
      have l122 : (n : Int) ≤ 122 := by omega
      have l90 : (n : Int) ≤ 90 := by omega
      have l57 : (n : Int) ≤ 57 := by omega
      have n10 : ((n : Int) != 10) = true := by rw [bne_iff_ne]; omega
      have s32 : (n : Int) < 32 := by omega
      have s126 : ¬ (n : Int) > 126 := by omega
      simp only [b51l0, go_sem, hn, hw, h1, and_self, Nat.mul_one, len, hle, hw1, e9, e32, e95, g97, g65, g48, l122, l90, l57, n10, s32, s126]
      exact ⟨m - 1, by omega, n + 1, ser, _, by omega, by rw [← e, hc]⟩
    · have hc : clsOf n = 3 := by unfold clsOf; (repeat' split) <;> omega
      have e9 : ((n : Int) == 9) = false := by rw [beq_eq_false_iff_ne]; omega
      have e32 : ((n : Int) == 32) = true := by rw [beq_iff_eq]; omega
      have e95 : ((n : Int) == 95) = false := by rw [beq_eq_false_iff_ne]; omega
      have g97 : ¬ (n : Int) ≥ 97 := by omega
      have g65 : ¬ (n : Int) ≥ 65 := by omega
      have g48 : ¬ (n : Int) ≥ 48 := by omega
      have l122 : (n : Int) ≤ 122 := by omega
      have l90 : (n : Int) ≤ 90 := by omega
      have l57 : (n : Int) ≤ 57 := by omega
      have n10 : ((n : Int) != 10) = true := by rw [bne_iff_ne]; omega
      have s32 : ¬ (n : Int) < 32 := by omega
      have s126 : ¬ (n : Int) > 126 := by omega
      simp only [b51l0, go_sem, hn, hw, h1, and_self, Nat.mul_one, len, hle, hw1, e9, e32, e95, g97, g65, g48, l122, l90, l57, n10, s32, s126]
      exact ⟨m - 1, by omega, n + 1, ser, _, by omega, by rw [← e, hc]⟩
    · have hc : clsOf n = 1 := by unfold clsOf; (repeat' split) <;> omega
      have e9 : ((n : Int) == 9) = false := by rw [beq_eq_false_iff_ne]; omega
      have e32 : ((n : Int) == 32) = false := by rw [beq_eq_false_iff_ne]; omega
      have e95 : ((n : Int) == 95) = true := by rw [beq_iff_eq]; omega
      have g97 : ¬ (n : Int) ≥ 97 := by omega
      have g65 : (n : Int) ≥ 65 := by omega
      have g48 : (n : Int) ≥ 48 := by omega
      have l122 : (n : Int) ≤ 122 := by omega
      have l90 : ¬ (n : Int) ≤ 90 := by omega
      have l57 : ¬ (n : Int) ≤ 57 := by omega
      have n10 : ((n : Int) != 10) = true := by rw [bne_iff_ne]; omega
      have s32 : ¬ (n : Int) < 32 := by omega
      have s126 : ¬ (n : Int) > 126 := by omega
      simp only [b51l0, go_sem, hn, hw, h1, and_self, Nat.mul_one, len, hle, hw1, e9, e32, e95, g97, g65, g48, l122, l90, l57, n10, s32, s126]
      exact ⟨m - 1, by omega, n + 1, ser, _, by omega, by rw [← e, hc]⟩
    · have hc : clsOf n = 1 := by unfold clsOf; (repeat' split) <;> omega
      have e9 : ((n : Int) == 9) = false := by rw [beq_eq_false_iff_ne]; omega
      have e32 : ((n : Int) == 32) = false := by rw [beq_eq_false_iff_ne]; omega
      have e95 : ((n : Int) == 95) = false := by rw [beq_eq_false_iff_ne]; omega
      have g97 : (n : Int) ≥ 97 := by omega
      have g65 : (n : Int) ≥ 65 := by omega
      have g48 : (n : Int) ≥ 48 := by omega
      have l122 : (n : Int) ≤ 122 := by omega
      have l90 : ¬ (n : Int) ≤ 90 := by omega
      have l57 : ¬ (n : Int) ≤ 57 := by omega
      have n10 : ((n : Int) != 10) = true := by rw [bne_iff_ne]; omega
      have s32 : ¬ (n : Int) < 32 := by omega
      have s126 : ¬ (n : Int) > 126 := by omega
      simp only [b51l0, go_sem, hn, hw, h1, and_self, Nat.mul_one, len, hle, hw1, e9, e32, e95, g97, g65, g48, l122, l90, l57, n10, s32, s126]
      exact ⟨m - 1, by omega, n + 1, ser, _, by omega, by rw [← e, hc]⟩
    · have hc : clsOf n = 1 := by unfold clsOf; (repeat' split) <;> omega
      have e9 : ((n : Int) == 9) = false := by rw [beq_eq_false_iff_ne]; omega
      have e32 : ((n : Int) == 32) = false := by rw [beq_eq_false_iff_ne]; omega
      have e95 : ((n : Int) == 95) = false := by rw [beq_eq_false_iff_ne]; omega
      have g97 : ¬ (n : Int) ≥ 97 := by omega
      have g65 : (n : Int) ≥ 65 := by omega
      have g48 : (n : Int) ≥ 48 := by omega
      have l122 : (n : Int) ≤ 122 := by omega
      have l90 : (n : Int) ≤ 90 := by omega
      have l57 : ¬ (n : Int) ≤ 57 := by omega
      have n10 : ((n : Int) != 10) = true := by rw [bne_iff_ne]; omega
      have s32 : ¬ (n : Int) < 32 := by omega
      have s126 : ¬ (n : Int) > 126 := by omega
      simp only [b51l0, go_sem, hn, hw, h1, and_self, Nat.mul_one, len, hle, hw1, e9, e32, e95, g97, g65, g48, l122, l90, l57, n10, s32, s126]
      exact ⟨m - 1, by omega, n + 1, ser, _, by omega, by rw [← e, hc]⟩
    · have hc : clsOf n = 2 := by unfold clsOf; (repeat' split) <;> omega
      have e9 : ((n : Int) == 9) = false := by rw [beq_eq_false_iff_ne]; omega
      have e32 : ((n : Int) == 32) = false := by rw [beq_eq_false_iff_ne]; omega
      have e95 : ((n : Int) == 95) = false := by rw [beq_eq_false_iff_ne]; omega
      have g97 : ¬ (n : Int) ≥ 97 := by omega
      have g65 : ¬ (n : Int) ≥ 65 := by omega
      have g48 : (n : Int) ≥ 48 := by omega
      have l122 : (n : Int) ≤ 122 := by omega
      have l90 : (n : Int) ≤ 90 := by omega
      have l57 : (n : Int) ≤ 57 := by omega
      have n10 : ((n : Int) != 10) = true := by rw [bne_iff_ne]; omega
      have s32 : ¬ (n : Int) < 32 := by omega
      have s126 : ¬ (n : Int) > 126 := by omega
      simp only [b51l0, go_sem, hn, hw, h1, and_self, Nat.mul_one, len, hle, hw1, e9, e32, e95, g97, g65, g48, l122, l90, l57, n10, s32, s126]
      exact ⟨m - 1, by omega, n + 1, ser, _, by omega, by rw [← e, hc]⟩
    · have hc : clsOf n = 0 := by unfold clsOf; (repeat' split) <;> omega
      have e9 : ((n : Int) == 9) = false := by rw [beq_eq_false_iff_ne]; omega
      have e32 : ((n : Int) == 32) = false := by rw [beq_eq_false_iff_ne]; omega
      have e95 : ((n : Int) == 95) = false := by rw [beq_eq_false_iff_ne]; omega
      have g97 : ¬ (n : Int) ≥ 97 := by omega
      have g65 : ¬ (n : Int) ≥ 65 := by omega
      have g48 : ¬ (n : Int) ≥ 48 := by omega
      have l122 : (n : Int) ≤ 122 := by omega
      have l90 : (n : Int) ≤ 90 := by omega
      have l57 : (n : Int) ≤ 57 := by omega
      have n10 : ((n : Int) != 10) = false := by rw [bne_eq_false_iff_eq]; omega
      have s32 : (n : Int) < 32 := by omega
      have s126 : ¬ (n : Int) > 126 := by omega
      simp only [b51l0, go_sem, hn, hw, h1, and_self, Nat.mul_one, len, hle, hw1, e9, e32, e95, g97, g65, g48, l122, l90, l57, n10, s32, s126]
      exact ⟨m - 1, by omega, n + 1, ser, _, by omega, by rw [← clsTo_same hn' hc]⟩
    · have hc : clsOf n = 4 := by unfold clsOf; (repeat' split) <;> omega
      have e9 : ((n : Int) == 9) = false := by rw [beq_eq_false_iff_ne]; omega
      have e32 : ((n : Int) == 32) = false := by rw [beq_eq_false_iff_ne]; omega
      have e95 : ((n : Int) == 95) = false := by rw [beq_eq_false_iff_ne]; omega
      have g97 : ¬ (n : Int) ≥ 97 := by omega
      have g65 : ¬ (n : Int) ≥ 65 := by omega
      have g48 : ¬ (n : Int) ≥ 48 := by omega
      have l122 : (n : Int) ≤ 122 := by omega
      have l90 : (n : Int) ≤ 90 := by omega
      have l57 : (n : Int) ≤ 57 := by omega
      have n10 : ((n : Int) != 10) = true := by rw [bne_iff_ne]; omega
      have s32 : (n : Int) < 32 := by omega
      have s126 : ¬ (n : Int) > 126 := by omega
      simp only [b51l0, go_sem, hn, hw, h1, and_self, Nat.mul_one, len, hle, hw1, e9, e32, e95, g97, g65, g48, l122, l90, l57, n10, s32, s126]
      exact ⟨m - 1, by omega, n + 1, ser, _, by omega, by rw [← e, hc]⟩
    · have hc : clsOf n = 4 := by unfold clsOf; (repeat' split) <;> omega
      have e9 : ((n : Int) == 9) = false := by rw [beq_eq_false_iff_ne]; omega
      have e32 : ((n : Int) == 32) = false := by rw [beq_eq_false_iff_ne]; omega
      have e95 : ((n : Int) == 95) = false := by rw [beq_eq_false_iff_ne]; omega
      have g97 : (n : Int) ≥ 97 := by omega
      have g65 : (n : Int) ≥ 65 := by omega
      have g48 : (n : Int) ≥ 48 := by omega
      have l122 : ¬ (n : Int) ≤ 122 := by omega
      have l90 : ¬ (n : Int) ≤ 90 := by omega
      have l57 : ¬ (n : Int) ≤ 57 := by omega
      have n10 : ((n : Int) != 10) = true := by rw [bne_iff_ne]; omega
      have s32 : ¬ (n : Int) < 32 := by omega
      have s126 : (n : Int) > 126 := by omega
      simp only [b51l0, go_sem, hn, hw, h1, and_self, Nat.mul_one, len, hle, hw1, e9, e32, e95, g97, g65, g48, l122, l90, l57, n10, s32, s126]
      exact ⟨m - 1, by omega, n + 1, ser, _, by omega, by rw [← e, hc]⟩
    · have hc : clsOf n = 0 := by unfold clsOf; (repeat' split) <;> omega
      have e9 : ((n : Int) == 9) = false := by rw [beq_eq_false_iff_ne]; omega
      have e32 : ((n : Int) == 32) = false := by rw [beq_eq_false_iff_ne]; omega
      have e95 : ((n : Int) == 95) = false := by rw [beq_eq_false_iff_ne]; omega
      have g97 : ¬ (n : Int) ≥ 97 := by omega
      have g65 : ¬ (n : Int) ≥ 65 := by omega
      have g48 : ¬ (n : Int) ≥ 48 := by omega
      have l122 : (n : Int) ≤ 122 := by omega
      have l90 : (n : Int) ≤ 90 := by omega
      have l57 : (n : Int) ≤ 57 := by omega
      have n10 : ((n : Int) != 10) = true := by rw [bne_iff_ne]; omega
      have s32 : ¬ (n : Int) < 32 := by omega
      have s126 : ¬ (n : Int) > 126 := by omega
      simp only [b51l0, go_sem, hn, hw, h1, and_self, Nat.mul_one, len, hle, hw1, e9, e32, e95, g97, g65, g48, l122, l90, l57, n10, s32, s126]
      exact ⟨m - 1, by omega, n + 1, ser, _, by omega, by rw [← clsTo_same hn' hc]⟩
    · have hc : clsOf n = 0 := by unfold clsOf; (repeat' split) <;> omega
      have e9 : ((n : Int) == 9) = false := by rw [beq_eq_false_iff_ne]; omega
      have e32 : ((n : Int) == 32) = false := by rw [beq_eq_false_iff_ne]; omega
      have e95 : ((n : Int) == 95) = false := by rw [beq_eq_false_iff_ne]; omega
      have g97 : ¬ (n : Int) ≥ 97 := by omega
      have g65 : ¬ (n : Int) ≥ 65 := by omega
      have g48 : (n : Int) ≥ 48 := by omega
      have l122 : (n : Int) ≤ 122 := by omega
      have l90 : (n : Int) ≤ 90 := by omega
      have l57 : ¬ (n : Int) ≤ 57 := by omega
      have n10 : ((n : Int) != 10) = true := by rw [bne_iff_ne]; omega
      have s32 : ¬ (n : Int) < 32 := by omega
      have s126 : ¬ (n : Int) > 126 := by omega
      simp only [b51l0, go_sem, hn, hw, h1, and_self, Nat.mul_one, len, hle, hw1, e9, e32, e95, g97, g65, g48, l122, l90, l57, n10, s32, s126]
      exact ⟨m - 1, by omega, n + 1, ser, _, by omega, by rw [← clsTo_same hn' hc]⟩
    · have hc : clsOf n = 0 := by unfold clsOf; (repeat' split) <;> omega
      have e9 : ((n : Int) == 9) = false := by rw [beq_eq_false_iff_ne]; omega
      have e32 : ((n : Int) == 32) = false := by rw [beq_eq_false_iff_ne]; omega
      have e95 : ((n : Int) == 95) = false := by rw [beq_eq_false_iff_ne]; omega
      have g97 : ¬ (n : Int) ≥ 97 := by omega
      have g65 : (n : Int) ≥ 65 := by omega
      have g48 : (n : Int) ≥ 48 := by omega
      have l122 : (n : Int) ≤ 122 := by omega
      have l90 : ¬ (n : Int) ≤ 90 := by omega
      have l57 : ¬ (n : Int) ≤ 57 := by omega
      have n10 : ((n : Int) != 10) = true := by rw [bne_iff_ne]; omega
      have s32 : ¬ (n : Int) < 32 := by omega
      have s126 : ¬ (n : Int) > 126 := by omega
      simp only [b51l0, go_sem, hn, hw, h1, and_self, Nat.mul_one, len, hle, hw1, e9, e32, e95, g97, g65, g48, l122, l90, l57, n10, s32, s126]
      exact ⟨m - 1, by omega, n + 1, ser, _, by omega, by rw [← clsTo_same hn' hc]⟩
    · have hc : clsOf n = 0 := by unfold clsOf; (repeat' split) <;> omega
      have e9 : ((n : Int) == 9) = false := by rw [beq_eq_false_iff_ne]; omega
      have e32 : ((n : Int) == 32) = false := by rw [beq_eq_false_iff_ne]; omega
      have e95 : ((n : Int) == 95) = false := by rw [beq_eq_false_iff_ne]; omega
      have g97 : ¬ (n : Int) ≥ 97 := by omega
      have g65 : (n : Int) ≥ 65 := by omega
      have g48 : (n : Int) ≥ 48 := by omega
      have l122 : (n : Int) ≤ 122 := by omega
      have l90 : ¬ (n : Int) ≤ 90 := by omega
      have l57 : ¬ (n : Int) ≤ 57 := by omega
      have n10 : ((n : Int) != 10) = true := by rw [bne_iff_ne]; omega
      have s32 : ¬ (n : Int) < 32 := by omega
      have s126 : ¬ (n : Int) > 126 := by omega
      simp only [b51l0, go_sem, hn, hw, h1, and_self, Nat.mul_one, len, hle, hw1, e9, e32, e95, g97, g65, g48, l122, l90, l57, n10, s32, s126]
      exact ⟨m - 1, by omega, n + 1, ser, _, by omega, by rw [← clsTo_same hn' hc]⟩
    · have hc : clsOf n = 0 := by unfold clsOf; (repeat' split) <;> omega
      have e9 : ((n : Int) == 9) = false := by rw [beq_eq_false_iff_ne]; omega
      have e32 : ((n : Int) == 32) = false := by rw [beq_eq_false_iff_ne]; omega
      have e95 : ((n : Int) == 95) = false := by rw [beq_eq_false_iff_ne]; omega
      have g97 : (n : Int) ≥ 97 := by omega
      have g65 : (n : Int) ≥ 65 := by omega
      have g48 : (n : Int) ≥ 48 := by omega
      have l122 : ¬ (n : Int) ≤ 122 := by omega
      have l90 : ¬ (n : Int) ≤ 90 := by omega
      have l57 : ¬ (n : Int) ≤ 57 := by omega
      have n10 : ((n : Int) != 10) = true := by rw [bne_iff_ne]; omega
      have s32 : ¬ (n : Int) < 32 := by omega
      have s126 : ¬ (n : Int) > 126 := by omega
      simp only [b51l0, go_sem, hn, hw, h1, and_self, Nat.mul_one, len, hle, hw1, e9, e32, e95, g97, g65, g48, l122, l90, l57, n10, s32, s126]
      exact ⟨m - 1, by omega, n + 1, ser, _, by omega, by rw [← clsTo_same hn' hc]⟩
  · have : n = 256 := by omega
    subst this
    simp only [b51l0, go_sem, hn, clsTo_all, clsList_length, clsList_okIn, clsList_strip1, clsList_out1, clsList_refs, zs256_length, show clsList.take 256 = clsList from List.take_of_length_le (by rw [clsList_length]; exact Nat.le_refl _), show zs256.drop 256 = [] from List.drop_of_length_le (by rw [zs256_length]; exact Nat.le_refl _), show clsList.drop 256 = [] from List.drop_of_length_le (by rw [clsList_length]; exact Nat.le_refl _), trunc_self]
    exact hQ
end
end Go.Proofs.YtelpkgbghhpgaaaGreatDoor.Sx
end
section
set_option maxRecDepth 100000
namespace Go.Proofs.YtelpkgbghhpgaaaGreatDoor.Sx
theorem runTo_le {p : Nat → Bool} : ∀ (n a : Nat), a ≤ runTo p n a ∧ runTo p n a ≤ a + n
  | 0, a => ⟨Nat.le_refl _, Nat.le_refl _⟩
  | n + 1, a => by
    simp only [runTo]
    split
    · have := runTo_le (p := p) n (a + 1); omega
    · omega
theorem skipB_le {s : List UInt8} {a : Nat} (h : a ≤ s.length) : a ≤ skipB s a ∧ skipB s a ≤ s.length := by
  have := runTo_le (p := fun i => isC s i 3) (s.length - a) a
  unfold skipB; omega
theorem beq_byte (b : UInt8) (k : Nat) (hk : k < 256) : ((b.toNat : Int) == (k : Int)) = decide (b = UInt8.ofNat k) := by
  rw [Bool.eq_iff_iff, beq_iff_eq, decide_eq_true_eq]
  constructor
  · intro h
    have : b.toNat = k := by omega
    rw [← this]; simp
  · rintro rfl
    simp [Nat.mod_eq_of_lt hk]
section
variable {st : St} {id a : Nat} {s : List UInt8} {line begun : Bool} {bad : Int} {Q : Res → St → Prop} {o : HObj}
theorem end_eq' (hid : id < st.size) (hs : s.length < 65536) (ha : a ≤ s.length) :
    CallA S 110 [.ptr id 0] (W st id s a line line bad) Q =
      Q (.ret (.tuple [.agg (if line = true then [.int .i64 5, .int .i64 (a : Int), .str []] else [.int .i64 0, .int .i64 0, .str []]), .bool (line || decide (a = s.length))])) (W st id s (if a = s.length then a else a + 1) false false bad) := by
  refine callA_eq (fun Q hQ => ?_) Q
  refine callA_body (by rfl) (by rfl) rfl ?_
  by_cases h : a = s.length
  · have e : ((a : Int) == (s.length : Int)) = true := by rw [beq_iff_eq]; omega
    cases line
    · simp only [h, decide_true, if_true, Bool.or_true, Bool.false_eq_true, if_false] at hQ e ⊢
      simp only [b110, go_sem, W_cells hid, e, W_set, W_size, W_trunc]
      exact hQ
    · simp only [h, decide_true, if_true, Bool.or_true, Bool.false_eq_true, if_false] at hQ e ⊢
      simp only [b110, go_sem, W_cells hid, e, W_set, W_size, W_trunc]
      exact hQ
  · have e : ((a : Int) == (s.length : Int)) = false := by rw [beq_eq_false_iff_ne]; omega
    cases line
    · simp only [h, decide_false, if_true, Bool.or_false, Bool.false_eq_true, if_false] at hQ
      simp only [b110, go_sem, W_cells hid, e, wrap_one a (by omega), W_set, W_size, W_trunc]
      exact hQ
    · simp only [h, decide_false, if_true, Bool.or_false, Bool.false_eq_true, if_false] at hQ
      simp only [b110, go_sem, W_cells hid, e, wrap_one a (by omega), W_set, W_size, W_trunc]
      exact hQ
def contQ (st : St) (id : Nat) (s : List UInt8) (a : Nat) (line : Bool) (bad : Int) (Q : Res → St → Prop) : Prop :=
  if goesOn s a = true then
    match commentP s (skipB s (a + 1)) with
    | some p => Q (.ret (.tuple [.bool true, .bool false])) (W st id s p line line (p : Int))
    | none => Q (.ret (.tuple [.bool true, .bool true])) (W st id s (if lineEnd s (skipB s (a + 1)) < s.length then lineEnd s (skipB s (a + 1)) + 1 else lineEnd s (skipB s (a + 1))) line line bad)
  else Q (.ret (.tuple [.bool false, .bool true])) (W st id s a line line bad)
theorem continues_ok (hid : id < st.size) (hs : s.length < 65536) (ha : a < s.length) (hQ : contQ st id s a line bad Q) :
    CallA S 113 [.ptr id 0] (W st id s a line line bad) Q := by
  refine callA_body (by rfl) (by rfl) rfl ?_
  simp only [b113, go_sem, W_cells hid, wrap_one a (by omega)]
  refine wp_loop (fun n fr st' => ∃ i ser, n + i = s.length ∧ st' = W st id s a line line bad ∧ skipB s (a + 1) = runTo (fun i => isC s i 3) n i ∧ fr = ⟨[(0, .ptr id 0), (4, .int .i64 (i : Int))], [], [], ser⟩) (s.length - (a + 1)) ⟨a + 1, _, by omega, rfl, rfl, rfl⟩ ?_
  rintro n fr st' ⟨i, ser, hn, rfl, hr, rfl⟩
  simp only [b113l0, go_sem, is_eq hid hs]
  cases h : isC s i 3 with
  | true =>
    have hlt := isC_lt h
    cases n with
    | zero => omega
    | succ n =>
      simp only [runTo, h, if_true] at hr
      simp only [go_sem, wrap_one i (by omega)]
      exact ⟨n, Nat.lt_succ_self n, i + 1, _, by omega, hr, rfl⟩
  | false =>
    have hk : skipB s (a + 1) = i := by cases n <;> simp [runTo, h] at hr <;> exact hr
    have hle := skipB_le (s := s) (a := a + 1) (by omega)
    rw [hk] at hle
    have h1 : (i : Int) ≤ (s.length : Int) := by omega
    have h2 : (s.length : Int) ≤ (s.length : Int) := by omega
    have ht : s.take s.length = s := List.take_length
    have rest : goesOn s a = true → (match commentP s i with
        | some p => Q (.ret (.tuple [.bool true, .bool false])) (W st id s p line line (p : Int))
        | none => Q (.ret (.tuple [.bool true, .bool true])) (W st id s (if lineEnd s i < s.length then lineEnd s i + 1 else lineEnd s i) line line bad)) := by
      intro hg
      unfold contQ at hQ
      rw [if_pos hg, hk] at hQ
      exact hQ
    have no : goesOn s a = false → Q (.ret (.tuple [.bool false, .bool true])) (W st id s a line line bad) := by
      intro hg
      unfold contQ at hQ
      rw [hg] at hQ
      exact hQ
    have hgo : goesOn s a = (decide (i = s.length) || decide (s[i]? = some 10) || hasPre (s.drop i) [38, 38]) := by unfold goesOn; rw [hk]
    by_cases c1 : i = s.length
    · have e : ((i : Int) == (s.length : Int)) = true := by rw [beq_iff_eq]; omega
      have hQ := rest (by rw [hgo]; simp [c1])
      simp only [go_sem, W_cells hid, e, W_set]
      rw [comment_eq hid hs hle.2]
      have hle2 := lineEnd_le hle.2
      cases hcp : commentP s i with
      | some p =>
        simp only [hcp] at hQ
        simp only [go_sem, W_size, W_trunc]
        exact hQ
      | none =>
        simp only [hcp] at hQ
        by_cases hl : lineEnd s i < s.length
        · have hl' : (lineEnd s i : Int) < (s.length : Int) := by omega
          rw [if_pos hl] at hQ
          simp only [go_sem, W_cells hid, hl', wrap_one (lineEnd s i) (by omega), W_set, W_size, W_trunc]
          exact hQ
        · have hl' : ¬ (lineEnd s i : Int) < (s.length : Int) := by omega
          rw [if_neg hl] at hQ
          simp only [go_sem, W_cells hid, hl', W_set, W_size, W_trunc]
          exact hQ
    · have e : ((i : Int) == (s.length : Int)) = false := by rw [beq_eq_false_iff_ne]; omega
      have hlt : i < s.length := by omega
      have e10 : ((s[i].toNat : Int) == 10) = decide (s[i] = 10) := beq_byte s[i] 10 (by omega)
      by_cases c2 : s[i] = 10
      · have hQ := rest (by rw [hgo, getB hlt]; simp [c2])
        rw [decide_eq_true c2] at e10
        simp only [go_sem, W_cells hid, e, getB hlt, e10, W_set]
        rw [comment_eq hid hs hle.2]
        have hle2 := lineEnd_le hle.2
        cases hcp : commentP s i with
        | some p =>
          simp only [hcp] at hQ
          simp only [go_sem, W_size, W_trunc]
          exact hQ
        | none =>
          simp only [hcp] at hQ
          by_cases hl : lineEnd s i < s.length
          · have hl' : (lineEnd s i : Int) < (s.length : Int) := by omega
            rw [if_pos hl] at hQ
            simp only [go_sem, W_cells hid, hl', wrap_one (lineEnd s i) (by omega), W_set, W_size, W_trunc]
            exact hQ
          · have hl' : ¬ (lineEnd s i : Int) < (s.length : Int) := by omega
            rw [if_neg hl] at hQ
            simp only [go_sem, W_cells hid, hl', W_set, W_size, W_trunc]
            exact hQ
      · rw [decide_eq_false c2] at e10
        cases c3 : hasPre (s.drop i) [38, 38] with
        | true =>
          have hQ := rest (by rw [hgo, c3]; simp)
          simp only [go_sem, W_cells hid, e, getB hlt, e10, h1, h2, and_self, ht, hasPrefix_eq, c3, W_set]
          rw [comment_eq hid hs hle.2]
          have hle2 := lineEnd_le hle.2
          cases hcp : commentP s i with
          | some p =>
            simp only [hcp] at hQ
            simp only [go_sem, W_size, W_trunc]
            exact hQ
          | none =>
            simp only [hcp] at hQ
            by_cases hl : lineEnd s i < s.length
            · have hl' : (lineEnd s i : Int) < (s.length : Int) := by omega
              rw [if_pos hl] at hQ
              simp only [go_sem, W_cells hid, hl', wrap_one (lineEnd s i) (by omega), W_set, W_size, W_trunc]
              exact hQ
            · have hl' : ¬ (lineEnd s i : Int) < (s.length : Int) := by omega
              rw [if_neg hl] at hQ
              simp only [go_sem, W_cells hid, hl', W_set, W_size, W_trunc]
              exact hQ
        | false =>
          have hQ := no (by rw [hgo, getB hlt, c3]; simp [c1, c2])
          simp only [go_sem, W_cells hid, e, getB hlt, e10, h1, h2, and_self, ht, hasPrefix_eq, c3, W_set, W_size, W_trunc]
          exact hQ
end
end Go.Proofs.YtelpkgbghhpgaaaGreatDoor.Sx
end
