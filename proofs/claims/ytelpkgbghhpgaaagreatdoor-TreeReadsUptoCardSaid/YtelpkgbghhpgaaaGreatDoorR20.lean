/- TreeReads returns true for all texts whose data are not larger than a bound. slices.Index, IndexFunc over texts; strings.HasPrefix; lex.upper, lex.Full. lex.Full; the words of statements in the program's reader. The program's reader of tokens: words of statements, names. The program's reader of tokens: words, names, operators. The program's reader of tokens: operators by level. -/
import Derived.Test.YtelpkgbghhpgaaaGreatDoorR19
set_option linter.all false
section
namespace Go.Proofs.YtelpkgbghhpgaaaGreatDoor.Sx
def encStr (l : List (List UInt8)) : List (List AV) := l.map fun x => [.str x]
theorem encStr_length (l : List (List UInt8)) : (encStr l).length = l.length := List.length_map _
def idxP (p : List UInt8 → Bool) : List (List UInt8) → Nat → Int
  | [], _ => -1
  | x :: l, n => if p x = true then n else idxP p l (n + 1)
theorem idxP_drop {p : List UInt8 → Bool} {l : List (List UInt8)} {i : Nat} (h : i < l.length) : idxP p (l.drop i) i = if p l[i] = true then (i : Int) else idxP p (l.drop (i + 1)) (i + 1) := by
  rw [List.drop_eq_getElem_cons h]; rfl
section
variable {st : St} {Q : Res → St → Prop}
theorem el_str (nb : Bool) (l : List (List UInt8)) {i : Nat} (h : i < l.length) : elA 1 (i : Int) (encSl nb 1 (encStr l)) = some [.str l[i]] := by
  rw [elA_sl (by rw [encStr_length]; exact h)]
  simp [encStr]
theorem index_eq (nb : Bool) (l : List (List UInt8)) (s : List UInt8) (hl : l.length < 1099511627776) :
    CallA S 215 [encSl nb 1 (encStr l), .str s] st Q = Q (.ret (.int .i64 (idxP (s == ·) l 0))) st := by
  refine callA_eq (fun Q hQ => ?_) Q
  refine callA_body (by rfl) (by rfl) rfl ?_
  simp only [b215, go_sem]
  refine wp_loop (fun n fr st' => st' = st ∧ ∃ i ser, n + i = l.length ∧ idxP (s == ·) l 0 = idxP (s == ·) (l.drop i) i ∧
    fr = ⟨[(0, encSl nb 1 (encStr l)), (1, .str s), (7, .int .i64 (l.length : Int)), (8, .int .i64 (i : Int))], [], [], ser⟩) l.length ?_ ?_
  · exact ⟨rfl, 0, _, rfl, rfl, by simp only [encStr_length]; rfl⟩
  · rintro n fr st' ⟨rfl, i, ser, hn, hi, rfl⟩
    simp only [b215l0, go_sem]
    by_cases h : i < l.length
    · rw [if_pos (show (i : Int) < (l.length : Int) by omega)]
      simp only [go_sem, el_str nb l h]
      rw [idxP_drop h] at hi
      cases hp : (s == l[i])
      · simp only [hp, go_sem] at hi ⊢
        rw [wrap_one i (by omega)]
        exact ⟨n - 1, by omega, i + 1, _, by omega, hi, rfl⟩
      · simp only [hp, go_sem, trunc_self] at hi ⊢
        rw [hi] at hQ
        exact hQ
    · rw [if_neg (show ¬ (i : Int) < (l.length : Int) by omega)]
      simp only [go_sem, trunc_self]
      rw [hi, List.drop_of_length_le (by omega)] at hQ
      exact hQ
theorem contains_eq (nb : Bool) (l : List (List UInt8)) (s : List UInt8) (hl : l.length < 1099511627776) :
    CallA S 178 [encSl nb 1 (encStr l), .str s] st Q = Q (.ret (.bool (decide (idxP (s == ·) l 0 ≥ 0)))) st := by
  refine callA_eq (fun Q hQ => ?_) Q
  refine callA_body (by rfl) (by rfl) rfl ?_
  simp only [b178, go_sem, index_eq nb l s hl, trunc_self]
  exact hQ
theorem indexFunc_eq (nb : Bool) (l : List (List UInt8)) (p : List UInt8 → Bool) (f : Nat) (cap : List AV) (hl : l.length < 1099511627776) (hcap : cap.all AV.out0 = true)
    (hp : ∀ (x : List UInt8) (Q : Res → St → Prop), CallA S f (.str x :: cap) st Q = Q (.ret (.bool (p x))) st) :
    CallA S 225 [encSl nb 1 (encStr l), .func (.func f) [] cap] st Q = Q (.ret (.int .i64 (idxP p l 0))) st := by
  refine callA_eq (fun Q hQ => ?_) Q
  refine callA_body (by rfl) (by rfl) rfl ?_
  simp only [b225, go_sem]
  refine wp_loop (fun n fr st' => st' = st ∧ ∃ i ser, n + i = l.length ∧ idxP p l 0 = idxP p (l.drop i) i ∧
    fr = ⟨[(0, encSl nb 1 (encStr l)), (1, .func (.func f) [] cap), (7, .int .i64 (l.length : Int)), (8, .int .i64 (i : Int))], [], [], ser⟩) l.length ?_ ?_
  · exact ⟨rfl, 0, _, rfl, rfl, by simp only [encStr_length]; rfl⟩
  · rintro n fr st' ⟨rfl, i, ser, hn, hi, rfl⟩
    simp only [b225l0, go_sem]
    by_cases h : i < l.length
    · rw [if_pos (show (i : Int) < (l.length : Int) by omega)]
      simp only [go_sem, el_str nb l h, hcap, hp]
      rw [idxP_drop h] at hi
      cases hpi : p l[i]
      · simp only [hpi, go_sem] at hi ⊢
        rw [wrap_one i (by omega)]
        exact ⟨n - 1, by omega, i + 1, _, by omega, hi, rfl⟩
      · simp only [hpi, go_sem, trunc_self] at hi ⊢
        rw [hi] at hQ
        exact hQ
    · rw [if_neg (show ¬ (i : Int) < (l.length : Int) by omega)]
      simp only [go_sem, trunc_self]
      rw [hi, List.drop_of_length_le (by omega)] at hQ
      exact hQ
def hasPre (s p : List UInt8) : Bool := p.isPrefixOf s
theorem take_eq_pre (s p : List UInt8) : (decide (p.length ≤ s.length) && s.take p.length == p) = hasPre s p := by
  unfold hasPre
  rw [Bool.eq_iff_iff]
  simp only [Bool.and_eq_true, decide_eq_true_eq, beq_iff_eq, List.isPrefixOf_iff_prefix]
  constructor
  · rintro ⟨_, h⟩; rw [← h]; exact List.take_prefix _ _
  · intro h; exact ⟨h.length_le, (List.prefix_iff_eq_take.1 h).symm⟩
theorem hasPrefix0_eq (s p : List UInt8) : CallA S 157 [.str s, .str p] st Q = Q (.ret (.bool (hasPre s p))) st := by
  refine callA_eq (fun Q hQ => ?_) Q
  refine callA_body (by rfl) (by rfl) rfl ?_
  rw [← take_eq_pre] at hQ
  simp only [b157, go_sem]
  by_cases h : p.length ≤ s.length
  · rw [if_pos (show (s.length : Int) ≥ (p.length : Int) by omega), if_pos (by omega)]
    rw [decide_eq_true h] at hQ
    simp only [go_sem, trunc_self]
    exact hQ
  · rw [if_neg (show ¬ (s.length : Int) ≥ (p.length : Int) by omega), trunc_self]
    rw [decide_eq_false h] at hQ
    exact hQ
def isLow (b : UInt8) : Bool := 97 ≤ b && b ≤ 122
theorem el_byte (s : List UInt8) {i : Nat} (h : i < s.length) : elA 1 (i : Int) (.slice 1 (s.map fun b => [.int .u8 b.toNat]) .no) = some [.int .u8 s[i].toNat] := by
  simp [elA, h]
theorem bytesOf_map : ∀ s : List UInt8, bytesOf (s.map fun b => [.int .u8 b.toNat]) = some s
  | [] => rfl
  | b :: s => by
    have := b.toNat_lt
    simp only [List.map_cons, bytesOf, bytesOf_map s]
    rw [if_pos (by omega)]
    simp
theorem upper_eq (s : List UInt8) (hs : s.length < 1099511627776) (hu : ∀ b ∈ s, isLow b = false) : CallA S 224 [.str s] st Q = Q (.ret (.str s)) st := by
  refine callA_eq (fun Q hQ => ?_) Q
  refine callA_body (by rfl) (by rfl) rfl ?_
  simp only [b224, go_sem]
  rw [if_pos (by omega)]
  simp only [go_sem]
  refine wp_loop (fun n fr st' => st' = st ∧ ∃ i ser, n + i = s.length ∧
    fr = ⟨[(3, .slice 1 (s.map fun b => [.int .u8 b.toNat]) .no), (8, .slice 1 (s.map fun b => [.int .u8 b.toNat]) .no), (9, .int .i64 (s.length : Int)), (10, .int .i64 (i : Int))], [], [], ser⟩) s.length ?_ ?_
  · exact ⟨rfl, 0, _, rfl, by simp only [List.length_map]; rfl⟩
  · rintro n fr st' ⟨rfl, i, ser, hn, rfl⟩
    by_cases h : (i : Int) < (s.length : Int)
    · have hi : i < s.length := by omega
      have hb := hu s[i] (List.getElem_mem hi)
      simp only [isLow, Bool.and_eq_false_iff, decide_eq_false_iff_not, UInt8.le_iff_toNat_le] at hb
      have next : ∃ m, m < n ∧ ∃ j ser2, m + j = s.length ∧ (⟨[(3, .slice 1 (s.map fun b => [.int .u8 b.toNat]) .no), (8, .slice 1 (s.map fun b => [.int .u8 b.toNat]) .no), (9, .int .i64 (s.length : Int)), (10, .int .i64 ((i + 1 : Nat) : Int))], [], [], ser + 1 + 1 + 1 + 1⟩ : Fr) =
          ⟨[(3, .slice 1 (s.map fun b => [.int .u8 b.toNat]) .no), (8, .slice 1 (s.map fun b => [.int .u8 b.toNat]) .no), (9, .int .i64 (s.length : Int)), (10, .int .i64 (j : Int))], [], [], ser2⟩ := ⟨n - 1, by omega, i + 1, _, by omega, rfl⟩
      by_cases h1 : (s[i].toNat : Int) ≥ 97
      · have h2 : ¬ (s[i].toNat : Int) ≤ 122 := by
          rcases hb with hb | hb
          · exact absurd (show 97 ≤ s[i].toNat by omega) hb
          · intro h3; exact hb (show s[i].toNat ≤ 122 by omega)
        simp only [b224l0, go_sem, h, el_byte s hi, h1, h2, wrap_one i (by omega)]
        exact next
      · simp only [b224l0, go_sem, h, el_byte s hi, h1, wrap_one i (by omega)]
        exact next
    · simp only [b224l0, go_sem, h, trunc_self, bytesOf_map]
      exact hQ
theorem hasPrefix_eq (s p : List UInt8) : CallA S 111 [.str s, .str p] st Q = Q (.ret (.bool (hasPre s p))) st := by
  refine callA_eq (fun Q hQ => ?_) Q
  refine callA_body (by rfl) (by rfl) rfl ?_
  simp only [b111, go_sem, hasPrefix0_eq, trunc_self]
  exact hQ
end
end Go.Proofs.YtelpkgbghhpgaaaGreatDoor.Sx
end
section
namespace Go.Proofs.YtelpkgbghhpgaaaGreatDoor.Sx
def fullIn (words : List (List UInt8)) (w : List UInt8) : List UInt8 :=
  if idxP (w == ·) words 0 ≥ 0 then w
  else if idxP (fun x => decide ((w.length : Int) ≥ 4) && hasPre x w) words 0 < 0 then []
  else words.getD (idxP (fun x => decide ((w.length : Int) ≥ 4) && hasPre x w) words 0).toNat []
def foundIn (words : List (List UInt8)) (w : List UInt8) : Bool :=
  if idxP (w == ·) words 0 ≥ 0 then true
  else if idxP (fun x => decide ((w.length : Int) ≥ 4) && hasPre x w) words 0 < 0 then false
  else true
theorem idxP_lt {p : List UInt8 → Bool} : ∀ (l : List (List UInt8)) (n : Nat), idxP p l n = -1 ∨ ∃ i, i < l.length ∧ idxP p l n = ((n + i : Nat) : Int)
  | [], n => .inl rfl
  | x :: l, n => by
    simp only [idxP]
    split
    · exact .inr ⟨0, by simp, by simp⟩
    · rcases idxP_lt l (n + 1) with h | ⟨i, h1, h2⟩
      · exact .inl h
      · exact .inr ⟨i + 1, by simpa using h1, by rw [h2]; congr 1; omega⟩
section
variable {st : St} {id a : Nat} {l : List Tok} {Q : Res → St → Prop} {o : HObj}
theorem full1_eq (x w : List UInt8) (n : Nat) (hn : st.cells n = some [.str w]) :
    CallA S 226 [.str x, .ptr n 0] st Q = Q (.ret (.bool (decide ((w.length : Int) ≥ 4) && hasPre x w))) st := by
  refine callA_eq (fun Q hQ => ?_) Q
  refine callA_body (by rfl) (by rfl) rfl ?_
  by_cases h : (w.length : Int) ≥ 4
  · simp only [b226, go_sem, hn, h, hasPrefix_eq, trunc_self]
    rw [decide_eq_true h] at hQ
    exact hQ
  · simp only [b226, go_sem, hn, h, hasPrefix_eq, trunc_self]
    rw [decide_eq_false h] at hQ
    exact hQ
theorem full_eq (nb : Bool) (words : List (List UInt8)) (hw : words.length < 1099511627776) (w : List UInt8) (hs : w.length < 1099511627776) (hu : ∀ b ∈ w, isLow b = false) :
    CallA S 183 [.str w, encSl nb 1 (encStr words)] st Q = Q (.ret (.tuple [.str (fullIn words w), .bool (foundIn words w)])) st := by
  refine callA_eq (fun Q hQ => ?_) Q
  refine callA_body (by rfl) (by rfl) rfl ?_
  unfold fullIn foundIn at hQ
  by_cases h1 : idxP (w == ·) words 0 ≥ 0
  · simp only [b183, go_sem, cells_new, set_new, upper_eq w hs hu, contains_eq nb words w hw, h1, trunc_push]
    simp only [h1, go_sem] at hQ
    exact hQ
  · have h4 : (st.push (.cells [.str w])).cells st.size = some [.str w] := cells_new
    have hp := fun (x : List UInt8) (Q : Res → St → Prop) => full1_eq (st := st.push (.cells [.str w])) (Q := Q) x w st.size h4
    by_cases h2 : idxP (fun x => decide ((w.length : Int) ≥ 4) && hasPre x w) words 0 < 0
    · simp only [b183, go_sem, cells_new, set_new, upper_eq w hs hu, contains_eq nb words w hw, h1, indexFunc_eq nb words _ _ _ hw (by rfl) hp, h2, trunc_push]
      simp only [h1, h2, go_sem] at hQ
      exact hQ
    · simp only [h1, h2, go_sem] at hQ
      rcases idxP_lt (p := fun x => decide ((w.length : Int) ≥ 4) && hasPre x w) words 0 with h | ⟨i, hi, h⟩
      · exact absurd (by omega) h2
      · have e := el_str nb words hi
        rw [show 0 + i = i by omega] at h
        have hneg : ¬ ((i : Int) < 0) := by omega
        simp only [b183, go_sem, cells_new, set_new, upper_eq w hs hu, contains_eq nb words w hw, h1, indexFunc_eq nb words _ _ _ hw (by rfl) hp, h, hneg, e, trunc_push]
        simp only [h, Int.toNat_natCast] at hQ
        rw [show words.getD i [] = words[i] by simp [hi]] at hQ
        exact hQ
end
end Go.Proofs.YtelpkgbghhpgaaaGreatDoor.Sx
end
section
namespace Go.Proofs.YtelpkgbghhpgaaaGreatDoor.Sx
def isUp (b : UInt8) : Bool := 65 ≤ b && b ≤ 90
def isDig (b : UInt8) : Bool := 48 ≤ b && b ≤ 57
def isNameC (b : UInt8) : Bool := isUp b || isDig b || b == 95
structure TokOk (t : Tok) : Prop where
  len : t.text.length < 65536
  word : t.kind = 0 → ∃ b s, t.text = b :: s ∧ isDig b = false ∧ ∀ c ∈ t.text, isNameC c = true
  num : t.kind = 1 → t.text ≠ [] ∧ t.text.length ≤ 15 ∧ ∀ c ∈ t.text, isDig c = true
theorem tokOk_none : TokOk noTok := ⟨by simp [noTok], fun h => by simp [noTok] at h, fun h => by simp [noTok] at h⟩
theorem tokOk_at {l : List Tok} (h : ∀ t ∈ l, TokOk t) (i : Nat) : TokOk (tokAt l i) := by
  unfold tokAt
  by_cases hi : i < l.length
  · simpa [hi] using h _ (List.getElem_mem hi)
  · simpa [Nat.le_of_not_lt hi] using tokOk_none
theorem isLow_of_nameC {b : UInt8} (h : isNameC b = true) : isLow b = false := by
  have := byte_all (p := fun b => !isNameC b || !isLow b) (by decide +kernel) b
  simpa [h] using this
theorem TokOk.notLow {t : Tok} (h : TokOk t) (hk : t.kind = 0) : ∀ b ∈ t.text, isLow b = false := by
  obtain ⟨_, _, _, _, h4⟩ := h.word hk
  exact fun b hb => isLow_of_nameC (h4 b hb)
def wordOf (t : Tok) : List UInt8 := if t.kind = 0 then fullIn theWords t.text else []
def nameSet : List UInt8 := [65, 66, 67, 68, 69, 70, 71, 72, 73, 74, 75, 76, 77, 78, 79, 80, 81, 82, 83, 84, 85, 86, 87, 88, 89, 90, 48, 49, 50, 51, 52, 53, 54, 55, 56, 57, 95]
theorem nameSet_contains (b : UInt8) : nameSet.contains b = isNameC b := by
  have := byte_all (p := fun b => nameSet.contains b == isNameC b) (by decide +kernel) b
  exact eq_of_beq this
theorem dropWhile_nil {α : Type} {p : α → Bool} : ∀ {s : List α}, s.dropWhile p = [] ↔ ∀ b ∈ s, p b = true
  | [] => by simp
  | b :: s => by
    rw [List.dropWhile_cons]
    cases h : p b
    · simp [h]
    · simp [h, dropWhile_nil (s := s)]
theorem trimA_nil (s cs : List UInt8) : trimA s cs = [] ↔ ∀ b ∈ s, cs.contains b = true := by
  unfold trimA trimL
  rw [dropWhile_nil]
  constructor
  · intro h b hb
    apply Classical.byContradiction
    intro hn
    have hn' : cs.contains b = false := by simpa using hn
    have hb' : b ∈ s.reverse := by simpa using hb
    have : b ∈ s.reverse.dropWhile (cs.contains ·) := by
      clear h hb
      generalize s.reverse = u at hb' ⊢
      induction u with
      | nil => cases hb'
      | cons c r ih =>
        rw [List.dropWhile_cons]
        split
        · rename_i hc
          rcases List.mem_cons.1 hb' with rfl | hb'
          · rw [hn'] at hc; cases hc
          · exact ih hb'
        · exact hb'
    have := h b (by simpa using this)
    rw [hn'] at this; cases this
  · intro h b hb
    have hb : b ∈ s.reverse.dropWhile (cs.contains ·) := by simpa using hb
    have := (List.dropWhile_suffix (cs.contains ·)).subset hb
    exact h b (by simpa using this)
def isNameT (s : List UInt8) : Bool := match s with
  | [] => false
  | b :: r => decide (s.length ≤ 10) && !isDig b && s.all isNameC
section
variable {st : St} {id a : Nat} {l : List Tok} {Q : Res → St → Prop} {o : HObj}
theorem trim_eq (s cs : List UInt8) (hs : s.length < 1099511627776) (hc : isAscii cs = true) (hc2 : cs.length < 65536) : CallA S 227 [.str s, .str cs] st Q = Q (.ret (.str (trimA s cs))) st := by
  refine callA_intr (n := 0) (k := iTrim) (by rfl) ?_ Q
  simp only [iTrim, hc, decide_eq_true hs, decide_eq_true hc2, Bool.and_self, if_true]
theorem lexIsName_eq (s : List UInt8) (hs : s.length < 1099511627776) : CallA S 184 [.str s] st Q = Q (.ret (.bool (isNameT s))) st := by
  refine callA_eq (fun Q hQ => ?_) Q
  refine callA_body (by rfl) (by rfl) rfl ?_
  cases s with
  | nil => simp only [b184, go_sem, trunc_self]; exact hQ
  | cons b r =>
    have e0 : ((b :: r) == ([] : List UInt8)) = false := rfl
    have h0 : (b :: r)[0]? = some b := rfl
    have hfin : isNameT (b :: r) = (decide ((b :: r).length ≤ 10) && !isDig b && (b :: r).all isNameC) := rfl
    have hd : isDig b = (decide (48 ≤ b.toNat) && decide (b.toNat ≤ 57)) := rfl
    generalize (b :: r) = s at *
    generalize hbn : b.toNat = bn at hd
    have ht := fun Q => trim_eq (st := st) (Q := Q) s nameSet hs (by decide) (by decide)
    simp only [nameSet] at ht
    have hend : (trimA s nameSet == []) = s.all isNameC := by
      rw [Bool.eq_iff_iff, beq_iff_eq, trimA_nil, List.all_eq_true]
      simp only [nameSet_contains]
    simp only [nameSet] at hend
    rw [hfin, hd] at hQ
    simp only [b184, go_sem, e0, h0, hbn, trunc_self]
    by_cases h1 : (s.length : Int) > 10
    · rw [decide_eq_false (show ¬ s.length ≤ 10 by omega)] at hQ
      rw [if_neg (by rw [decide_eq_true h1]; decide)]
      exact hQ
    · rw [decide_eq_true (show s.length ≤ 10 by omega)] at hQ
      rw [if_pos (decide_eq_false h1)]
      by_cases h2 : (bn : Int) ≥ 48
      · rw [decide_eq_true (show 48 ≤ bn by omega)] at hQ
        rw [if_pos h2]
        by_cases h3 : (bn : Int) ≤ 57
        · rw [decide_eq_true (show bn ≤ 57 by omega)] at hQ
          rw [if_pos h3]
          exact hQ
        · rw [decide_eq_false (show ¬ bn ≤ 57 by omega)] at hQ
          rw [if_neg h3, ht]
          simp only [go_sem, hend, trunc_self]
          exact hQ
      · rw [decide_eq_false (show ¬ 48 ≤ bn by omega)] at hQ
        rw [if_neg h2, ht]
        simp only [go_sem, hend, trunc_self]
        exact hQ
theorem isName_eq (s : List UInt8) (hs : s.length < 1099511627776) : CallA S 132 [.str s] st Q = Q (.ret (.bool (isNameT s))) st := by
  refine callA_eq (fun Q hQ => ?_) Q
  refine callA_body (by rfl) (by rfl) rfl ?_
  simp only [b132, go_sem, lexIsName_eq s hs, trunc_self]
  exact hQ
theorem pFull_eq (hid : id < st.size) (t : Tok) (ht : TokOk t) :
    CallA S 131 [.ptr id 0, .agg [.int .i64 t.kind, .int .i64 t.at_, .str t.text]] (V st id l a) Q = Q (.ret (.str (wordOf t))) (V st id l a) := by
  refine callA_eq (fun Q hQ => ?_) Q
  refine callA_body (by rfl) (by rfl) rfl ?_
  unfold wordOf at hQ
  by_cases hk : t.kind = 0
  · have hf := fun st Q => full_eq (st := st) (Q := Q) false theWords (by decide) t.text (Nat.lt_trans ht.len (by decide)) (ht.notLow hk)
    have hf : ∀ (st : St) (Q : Res → St → Prop), CallA S 183 [.str t.text, encW] st Q = Q (.ret (.tuple [.str (fullIn theWords t.text), .bool (foundIn theWords t.text)])) st := hf
    rw [if_pos hk] at hQ
    have hw : AV.strip encW = encW := rfl
    have hw2 : AV.out encW = true := rfl
    simp only [b131, go_sem, hk, bne_self_eq_false, V_cells hid, hw, hw2, hf, trunc_self]
    exact hQ
  · rw [if_neg hk] at hQ
    simp only [b131, go_sem, bne_iff_ne.2 hk, trunc_self]
    exact hQ
end
end Go.Proofs.YtelpkgbghhpgaaaGreatDoor.Sx
end
section
namespace Go.Proofs.YtelpkgbghhpgaaaGreatDoor.Sx
def loopN (S : Sim) (Q : Ex → Fr → St → Prop) (b : ACode) (k : List KI) (n : Nat) : Ex → Fr → St → Prop
  | .normal, fr, st => WpL (WpC S b) (unwind S Q k) n fr st
  | e, fr, st => unwind S Q k e fr st
section
variable {S : Sim} {Q : Ex → Fr → St → Prop} {b : ACode} {k : List KI} {fr : Fr} {st : St}
theorem wp_unroll (n : Nat) (h : WpL (WpC S b) (unwind S Q k) n fr st) : WpK S Q (.loop b) k fr st := ⟨n, h⟩
theorem WpL_succ (n : Nat) : WpL (WpC S b) (unwind S Q k) (n + 1) fr st = WpK S (loopN S Q b k n) b [] fr st := by
  show WpC S b _ fr st = WpC S b _ fr st
  congr 1
theorem loopN_normal (n : Nat) : loopN S Q b k n .normal fr st = WpL (WpC S b) (unwind S Q k) n fr st := rfl
theorem loopN_ret (n : Nat) : loopN S Q b k n .ret fr st = unwind S Q k .ret fr st := rfl
theorem loopN_exit (n i : Nat) : loopN S Q b k n (.exit i) fr st = unwind S Q k (.exit i) fr st := rfl
theorem loopN_panic (n : Nat) (v : AV) : loopN S Q b k n (.panic v) fr st = unwind S Q k (.panic v) fr st := rfl
end
attribute [go_sem] loopN_normal loopN_ret loopN_exit loopN_panic
def kwAt (l : List Tok) (a : Nat) : List UInt8 :=
  if isS (tokAt l (a + 1)) [61] || isS (tokAt l (a + 1)) [58, 61] || isS (tokAt l (a + 1)) [91] || isS (tokAt l (a + 1)) [45, 62] then [] else wordOf (tokAt l a)
theorem wordOf_lt {l : List Tok} {a : Nat} (h : wordOf (tokAt l a) ≠ []) : a < l.length := by
  refine tokAt_lt fun e => h ?_
  simp [wordOf, e]
section
variable {st : St} {id a : Nat} {l : List Tok} {Q : Res → St → Prop} {o : HObj}
set_option maxRecDepth 100000 in
theorem keyword_eq (hid : id < st.size) (hl : l.length < 65536) (ha : a ≤ l.length) (hT : ∀ t ∈ l, TokOk t) :
    CallA S 129 [.ptr id 0] (V st id l a) Q = Q (.ret (.str (kwAt l a))) (V st id l a) := by
  refine callA_eq (fun Q hQ => ?_) Q
  refine callA_body (by rfl) (by rfl) rfl ?_
  have hf := fun Q => pFull_eq (l := l) (a := a) (Q := Q) hid _ (tokOk_at hT a)
  unfold kwAt at hQ
  simp only [b129, go_sem, ahead1 hid hl ha]
  refine wp_unroll 5 ?_
  have c4 : ((4 : Nat) : Int) = 4 := rfl
  have w1 : IntKind.i64.wrap (0 + 1) = 1 := by decide
  have w2 : IntKind.i64.wrap (1 + 1) = 2 := by decide
  have w3 : IntKind.i64.wrap (2 + 1) = 3 := by decide
  have w4 : IntKind.i64.wrap (3 + 1) = 4 := by decide
  simp only [WpL_succ, b129l0, go_sem, isSign_eq, c4, w1, w2, w3, w4, ahead0 hid hl ha, hf, trunc_self]
  cases h1 : isS (tokAt l (a + 1)) [61] <;> simp only [h1, go_sem, Bool.true_or, Bool.false_or] at hQ ⊢
  case true => exact hQ
  cases h2 : isS (tokAt l (a + 1)) [58, 61] <;> simp only [h2, go_sem, Bool.true_or, Bool.false_or] at hQ ⊢
  case true => exact hQ
  cases h3 : isS (tokAt l (a + 1)) [91] <;> simp only [h3, go_sem, Bool.true_or, Bool.false_or] at hQ ⊢
  case true => exact hQ
  cases h4 : isS (tokAt l (a + 1)) [45, 62] <;> simp only [h4, go_sem, Bool.true_or, Bool.false_or] at hQ ⊢
  · exact hQ
  · exact hQ
theorem word_no (hid : id < st.size) (hl : l.length < 65536) (ha : a ≤ l.length) (hT : ∀ t ∈ l, TokOk t) {s : List UInt8} (hs : (wordOf (tokAt l a) == s) = false) :
    CallA S 96 [.ptr id 0, .str s] (V st id l a) Q = Q (.ret (.bool false)) (V st id l a) := by
  refine callA_eq (fun Q hQ => ?_) Q
  refine callA_body (by rfl) (by rfl) rfl ?_
  simp only [b96, go_sem, V_cells hid, ahead0 hid hl ha, pFull_eq hid _ (tokOk_at hT a), hs, trunc_self]
  exact hQ
theorem word_yes (hid : id < st.size) (hl : l.length < 65536) (ha : a ≤ l.length) (hT : ∀ t ∈ l, TokOk t) {s : List UInt8} (hs : (wordOf (tokAt l a) == s) = true) (hn : s ≠ []) :
    CallA S 96 [.ptr id 0, .str s] (V st id l a) Q = Q (.ret (.bool true)) (V st id l (a + 1)) := by
  have := wordOf_lt (l := l) (a := a) (by rw [eq_of_beq hs]; exact hn)
  refine callA_eq (fun Q hQ => ?_) Q
  refine callA_body (by rfl) (by rfl) rfl ?_
  simp only [b96, go_sem, V_cells hid, ahead0 hid hl ha, pFull_eq hid _ (tokOk_at hT a), hs, wrap_one a (by omega), V_set, V_size, V_trunc]
  exact hQ
theorem wantWord_no (hid : id < st.size) (hl : l.length < 65536) (ha : a ≤ l.length) (hT : ∀ t ∈ l, TokOk t) {s : List UInt8} (hs : (wordOf (tokAt l a) == s) = false) :
    CallA S 97 [.ptr id 0, .str s] (V st id l a) Q = Q (.panic (thrown a)) (V st id l a) := by
  refine callA_eq (fun Q hQ => ?_) Q
  refine callA_body (by rfl) (by rfl) rfl ?_
  simp only [b97, go_sem, word_no hid hl ha hT hs, fail_eq hid, trunc_self]
  exact hQ
theorem wantWord_yes (hid : id < st.size) (hl : l.length < 65536) (ha : a ≤ l.length) (hT : ∀ t ∈ l, TokOk t) {s : List UInt8} (hs : (wordOf (tokAt l a) == s) = true) (hn : s ≠ []) :
    CallA S 97 [.ptr id 0, .str s] (V st id l a) Q = Q (.ret (.tuple [])) (V st id l (a + 1)) := by
  refine callA_eq (fun Q hQ => ?_) Q
  refine callA_body (by rfl) (by rfl) rfl ?_
  simp only [b97, go_sem, word_yes hid hl ha hT hs hn, V_size, V_trunc]
  exact hQ
def isNameTok (t : Tok) : Bool := t.kind == 0 && isNameT t.text
theorem name_no (hid : id < st.size) (hl : l.length < 65536) (ha : a ≤ l.length) (hT : ∀ t ∈ l, TokOk t) (hs : isNameTok (tokAt l a) = false) :
    CallA S 98 [.ptr id 0] (V st id l a) Q = Q (.panic (thrown a)) (V st id l a) := by
  refine callA_eq (fun Q hQ => ?_) Q
  refine callA_body (by rfl) (by rfl) rfl ?_
  by_cases hk : (tokAt l a).kind = 0
  · have hs : isNameT (tokAt l a).text = false := by simpa [isNameTok, hk] using hs
    simp only [b98, go_sem, V_cells hid, ahead0 hid hl ha, hk, bne_self_eq_false, isName_eq _ (Nat.lt_trans (tokOk_at hT a).len (by decide)), hs, fail_eq hid, trunc_self]
    exact hQ
  · simp only [b98, go_sem, V_cells hid, ahead0 hid hl ha, bne_iff_ne.2 hk, fail_eq hid, trunc_self]
    exact hQ
theorem name_yes (hid : id < st.size) (hl : l.length < 65536) (ha : a ≤ l.length) (hT : ∀ t ∈ l, TokOk t) (hs : isNameTok (tokAt l a) = true) :
    CallA S 98 [.ptr id 0] (V st id l a) Q = Q (.ret (.str (tokAt l a).text)) (V st id l (a + 1)) := by
  refine callA_eq (fun Q hQ => ?_) Q
  refine callA_body (by rfl) (by rfl) rfl ?_
  simp only [isNameTok, Bool.and_eq_true, beq_iff_eq] at hs
  have := tokAt_lt (l := l) (i := a) (by omega)
  simp only [b98, go_sem, V_cells hid, ahead0 hid hl ha, hs.1, bne_self_eq_false, isName_eq _ (Nat.lt_trans (tokOk_at hT a).len (by decide)), hs.2, wrap_one a (by omega), V_set, V_size, V_trunc]
  exact hQ
theorem binary_eq (s : List UInt8) (x y : Xp) : CallA S 116 [.str s, .agg (encX x), .agg (encX y)] st Q = Q (.ret (.agg (encX (.mk 5 s 0 0 [] true [] false [x, y])))) st := by
  refine callA_eq (fun Q hQ => ?_) Q
  refine callA_body (by rfl) (by rfl) rfl ?_
  simp only [b116, go_sem, trunc_self]
  exact hQ
end
end Go.Proofs.YtelpkgbghhpgaaaGreatDoor.Sx
end
section
namespace Go.Proofs.YtelpkgbghhpgaaaGreatDoor.Sx
def opTab : Nat → List (List UInt8 × List UInt8)
  | 0 => [([46, 79, 82, 46], [46, 79, 82, 46])]
  | 1 => [([46, 65, 78, 68, 46], [46, 65, 78, 68, 46])]
  | 2 => [([61], [61]), ([61, 61], [61, 61]), ([60, 62], [60, 62]), ([35], [60, 62]), ([33, 61], [60, 62]), ([60], [60]), ([62], [62]), ([60, 61], [60, 61]), ([62, 61], [62, 61]), ([36], [36])]
  | 3 => [([43], [43]), ([45], [45])]
  | 4 => [([42], [42]), ([47], [47]), ([37], [37])]
  | 5 => [([94], [94])]
  | _ => []
def encTab (l : List (List UInt8 × List UInt8)) : HObj := .map (l.map fun x => (.str x.1, .str x.2))
def opOf (k : Nat) (t : Tok) : List UInt8 := if t.kind = 4 then ((opTab k).lookup t.text).getD [] else []
theorem beqL_cc (a b : UInt8) (l m : List UInt8) : ((a :: l) == (b :: m)) = (a == b && l == m) := rfl
theorem beqL_cn (a : UInt8) (l : List UInt8) : ((a :: l) == ([] : List UInt8)) = false := rfl
theorem beqL_nc (a : UInt8) (l : List UInt8) : (([] : List UInt8) == (a :: l)) = false := rfl
theorem beqL_nn : (([] : List UInt8) == []) = true := rfl
theorem lookE_str (s : List UInt8) : ∀ l : List (List UInt8 × List UInt8), lookE (.str s) (l.map fun x => (.str x.1, .str x.2)) = some ((l.lookup s).map .str)
  | [] => rfl
  | (a, b) :: l => by
    simp only [List.map_cons, lookE, keyEq, List.lookup_cons, lookE_str s l]
    cases h : (s == a) <;> rfl
def lvSt (st : St) : St := ((((((st.push (encTab (opTab 0))).push (encTab (opTab 1))).push (encTab (opTab 2))).push (encTab (opTab 3))).push (encTab (opTab 4))).push (encTab (opTab 5)))
section
variable {st : St} {id a : Nat} {l : List Tok} {Q : Res → St → Prop} {o : HObj} {es es' : List (AV × AV)}
theorem entries_new : (st.push (.map es)).entries st.size = some es := by simp [St.entries, St.push, St.size]
theorem setMap_new : (st.push (.map es)).setMap st.size es' = st.push (.map es') := by
  simp only [St.setMap, St.push, St.size]; congr 1; rw [List.set_append_right _ _ (Nat.le_refl _)]; simp
theorem levels_eq : CallA S 164 [] st Q = Q (.ret (.agg [.mapr st.size, .mapr (st.size + 1), .mapr (st.size + 2), .mapr (st.size + 3), .mapr (st.size + 4), .mapr (st.size + 5)])) (lvSt st) := by
  refine callA_eq (fun Q hQ => ?_) Q
  refine callA_body (by rfl) (by rfl) rfl ?_
  simp only [b164, go_sem, entries_new, setMap_new, AV.strip2, AV.plain, AV.plain1, Bool.and_self, if_true, keyIs, setE, keyEq, beqL_cc, beqL_cn, beqL_nc, beqL_nn, (show ((61 : UInt8) == 61) = true from rfl), (show ((61 : UInt8) == 60) = false from rfl), (show ((61 : UInt8) == 35) = false from rfl), (show ((61 : UInt8) == 33) = false from rfl), (show ((61 : UInt8) == 62) = false from rfl), (show ((61 : UInt8) == 36) = false from rfl), (show ((60 : UInt8) == 61) = false from rfl), (show ((60 : UInt8) == 60) = true from rfl), (show ((60 : UInt8) == 35) = false from rfl), (show ((60 : UInt8) == 33) = false from rfl), (show ((60 : UInt8) == 62) = false from rfl), (show ((60 : UInt8) == 36) = false from rfl), (show ((35 : UInt8) == 61) = false from rfl), (show ((35 : UInt8) == 60) = false from rfl), (show ((35 : UInt8) == 35) = true from rfl), (show ((35 : UInt8) == 33) = false from rfl), (show ((35 : UInt8) == 62) = false from rfl), (show ((35 : UInt8) == 36) = false from rfl), (show ((33 : UInt8) == 61) = false from rfl), (show ((33 : UInt8) == 60) = false from rfl), (show ((33 : UInt8) == 35) = false from rfl), (show ((33 : UInt8) == 33) = true from rfl), (show ((33 : UInt8) == 62) = false from rfl), (show ((33 : UInt8) == 36) = false from rfl), (show ((62 : UInt8) == 61) = false from rfl), (show ((62 : UInt8) == 60) = false from rfl), (show ((62 : UInt8) == 35) = false from rfl), (show ((62 : UInt8) == 33) = false from rfl), (show ((62 : UInt8) == 62) = true from rfl), (show ((62 : UInt8) == 36) = false from rfl), (show ((36 : UInt8) == 61) = false from rfl), (show ((36 : UInt8) == 60) = false from rfl), (show ((36 : UInt8) == 35) = false from rfl), (show ((36 : UInt8) == 33) = false from rfl), (show ((36 : UInt8) == 62) = false from rfl), (show ((36 : UInt8) == 36) = true from rfl), (show ((43 : UInt8) == 43) = true from rfl), (show ((43 : UInt8) == 45) = false from rfl), (show ((45 : UInt8) == 43) = false from rfl), (show ((45 : UInt8) == 45) = true from rfl), (show ((42 : UInt8) == 42) = true from rfl), (show ((42 : UInt8) == 47) = false from rfl), (show ((42 : UInt8) == 37) = false from rfl), (show ((47 : UInt8) == 42) = false from rfl), (show ((47 : UInt8) == 47) = true from rfl), (show ((47 : UInt8) == 37) = false from rfl), (show ((37 : UInt8) == 42) = false from rfl), (show ((37 : UInt8) == 47) = false from rfl), (show ((37 : UInt8) == 37) = true from rfl)]
  simp only [size_push, AV.refs2, AV.refs1L, AV.refs1, AV.refs0]
  have e : ∀ (s : St) (k : Nat), k = s.size → s.trunc k = s := by rintro s k rfl; exact trunc_self
  rw [e _ _ (by simp only [size_push]; omega)]
  exact hQ
theorem lvSt_entries {k : Nat} (hk : k < 6) : (lvSt st).entries (st.size + k) = some ((opTab k).map fun x => (.str x.1, .str x.2)) := by
  simp only [lvSt, St.push, St.entries, St.size, encTab, List.append_assoc]
  rw [List.getElem?_append_right (by omega), Nat.add_sub_cancel_left]
  match k, hk with
  | 0, _ | 1, _ | 2, _ | 3, _ | 4, _ | 5, _ => rfl
theorem lvSt_size : (lvSt st).size = st.size + 6 := by simp only [lvSt, size_push]
theorem lvSt_trunc : (lvSt st).trunc st.size = st := by
  cases st
  simp [lvSt, St.push, St.trunc, St.size]
theorem lvSt_V (hid : id < st.size) : lvSt (V st id l a) = V (lvSt st) id l a := by
  simp only [lvSt]
  rw [V_push hid, V_push (by rw [size_push]; omega), V_push (by simp only [size_push]; omega), V_push (by simp only [size_push]; omega), V_push (by simp only [size_push]; omega), V_push (by simp only [size_push]; omega)]
theorem V_lv_trunc (hid : id < st.size) : (V (lvSt st) id l a).trunc st.size = V st id l a := by
  rw [← lvSt_V hid]
  have := lvSt_trunc (st := V st id l a)
  rwa [V_size] at this
theorem lookup_cell (k : Nat) (hk : k < 6) (n : Nat) : ([.mapr n, .mapr (n + 1), .mapr (n + 2), .mapr (n + 3), .mapr (n + 4), .mapr (n + 5)] : List AV)[k]? = some (.mapr (n + k)) := by
  match k, hk with
  | 0, _ | 1, _ | 2, _ | 3, _ | 4, _ | 5, _ => rfl
theorem operator_eq (hid : id < st.size) (hl : l.length < 65536) (ha : a ≤ l.length) (k : Nat) (hk : k < 6) :
    CallA S 115 [.ptr id 0, .int .i64 (k : Int)] (V st id l a) Q = Q (.ret (.str (opOf k (tokAt l a)))) (V st id l (if opOf k (tokAt l a) = [] then a else a + 1)) := by
  refine callA_eq (fun Q hQ => ?_) Q
  refine callA_body (by rfl) (by rfl) rfl ?_
  by_cases hk4 : (tokAt l a).kind = 4
  · have hlt := tokAt_lt (l := l) (i := a) (by omega)
    have h1 : (0 : Int) ≤ (k : Int) := by omega
    have h2 : (k : Int) < ((6 : Nat) : Int) := by omega
    have hlv := fun Q => levels_eq (st := V st id l a) (Q := Q)
    have hc : AV.plain (.str []) = true := rfl
    have hcells : (V (lvSt st) id l a).cells id = some [encSl true 3 (l.map encT), .int .i64 (a : Int), encW, .nilslice] := V_cells (by rw [lvSt_size]; omega)
    have hent : (V (lvSt st) id l a).entries (st.size + k) = some ((opTab k).map fun x => (.str x.1, .str x.2)) := by
      rw [← lvSt_V hid, ← V_size (st := st) (id := id) (l := l) (a := a)]
      exact lvSt_entries hk
    simp only [b115, go_sem, V_cells hid, ahead0 hid hl ha, hk4, bne_self_eq_false, hlv, V_size, h1, h2, and_self, Nat.mul_one, lookup_cell k hk, lvSt_V hid, hent, lookE_str]
    unfold opOf at hQ
    rw [if_pos hk4] at hQ
    cases hlo : (opTab k).lookup (tokAt l a).text with
    | none =>
      simp only [hlo, Option.getD_none, if_true] at hQ
      simp only [go_sem, V_lv_trunc hid, beqL_nn, bne]
      exact hQ
    | some s =>
      cases s with
      | nil =>
        simp only [hlo, Option.getD_some, if_true] at hQ
        simp only [go_sem, V_lv_trunc hid, beqL_nn, bne]
        exact hQ
      | cons b r =>
        simp only [hlo, Option.getD_some, reduceCtorEq, if_false] at hQ
        simp only [go_sem, hcells, wrap_one a (by omega), V_set, V_lv_trunc hid, beqL_cn, bne]
        exact hQ
  · unfold opOf at hQ
    rw [if_neg hk4] at hQ
    simp only [b115, go_sem, V_cells hid, ahead0 hid hl ha, bne_iff_ne.2 hk4, trunc_self]
    exact hQ
end
end Go.Proofs.YtelpkgbghhpgaaaGreatDoor.Sx
end
