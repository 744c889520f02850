/- TreeSames returns true for all programs whose data are not larger than a bound. The program's reader of expressions: the whole, closed. The program's scanner: its cells; classes of bytes; blanks, lines, comments. -/
import Derived.Test.YtelpkgbghhpgaaaGreatDoorS22
import Derived.Test.YtelpkgbghhpgaaaGreatDoorS23
set_option linter.all false
section
/- The program's reader of expressions: the whole, closed. -/
set_option maxRecDepth 100000
namespace Go.Proofs.YtelpkgbghhpgaaaGreatDoor.Sx
section
variable {st : St} {id a : Nat} {l : List Tok} {Q : Res → St → Prop} {o : HObj} {e : Nat → PR Xp}

theorem V_cells_ne {bx : Nat} (h : id ≠ bx) : (V st id l a).cells bx = st.cells bx := cells_set_ne h

theorem unary_ok (hid : id < st.size) (hl : l.length < 65536) (hT : ∀ t ∈ l, TokOk t) (n : Nat) (hn : n ≤ 65536) (rec : Nt → Nat → PR Xp) (he : ReadsAt eX st id l 56 [.ptr id 0] (rec .expr))
    (hu : ReadsAt eX st id l 211 [.ptr id 0] (rec .unary)) : ReadsAt eX st id l 211 [.ptr id 0] (spStep l rec n .unary) := by
  intro a Q ha hQ
  refine callA_body (by rfl) (by rfl) rfl ?_
  simp only [spStep] at hQ
  cases h : isS (tokAt l a) [45] with
  | true =>
    have hlt := isS_lt h
    simp only [h, if_true] at hQ
    simp only [b211, go_sem, sign_yes hid hl ha h]
    refine hu (a + 1) _ (by omega) (RK_step hQ (fun x a ha hQ => ?_) (fun a hQ => (by simp only [go_sem, V_size, V_trunc]; exact hQ)))
    simp only [go_sem, V_size, V_trunc]
    exact RK_ok hQ ha
  | false =>
    simp only [h, Bool.false_eq_true, if_false] at hQ
    simp only [b211, go_sem, sign_no hid hl ha h]
    refine prim_ok hid hl hT n hn he a _ ha (RK_step hQ (fun x a ha hQ => ?_) (fun a hQ => (by simp only [go_sem, V_size, V_trunc]; exact hQ)))
    simp only [go_sem]
    refine wp_loop (fun m fr st' => ∃ x cs a ser ser2, RK eX st id l Q (spIdx l (rec .expr) m x a) ∧ a ≤ l.length ∧ st' = V st id l a ∧ (cs.length = 7 ∧ cs.map AV.strip1 = encX x ∧ cs.all AV.okIn = true) ∧
      fr = ⟨[(0, .ptr id 0), (2, .lptr 0 1 0), (3, .lptr 1 ser 0)], [(1, [.int .i64 0, .str [], .int .i64 0, .int .i64 0, .str [], .nilslice, .nilslice]), (ser, cs)], [], ser2⟩) n ⟨x, encX x, a, _, _, hQ, ha, rfl, ⟨encX_length x, encX_strip1 x, encX_okIn x⟩, rfl⟩ ?_
    rintro m fr st' ⟨x, cs, a, ser, ser2, hQ, ha, rfl, ⟨hc1, hc2, hc3⟩, rfl⟩
    have hc4 : cs.take 7 = cs := List.take_of_length_le (by omega)
    have hc5 : cs.drop 7 = [] := List.drop_of_length_le (by omega)
    cases m with
    | zero => exact hQ.elim
    | succ m =>
      simp only [spIdx] at hQ
      cases h : isS (tokAt l a) [91] with
      | false =>
        simp only [h, Bool.false_eq_true, if_false] at hQ
        simp only [b211l0, go_sem, sign_no hid hl ha h, hc1, hc2, hc3, hc4, hc5, V_size, V_trunc]
        exact RK_ok hQ ha
      | true =>
        have hlt := isS_lt h
        simp only [h, if_true] at hQ
        simp only [b211l0, go_sem, sign_yes hid hl ha h, hc1, hc4]
        refine he (a + 1) _ (by omega) (RK_step hQ (fun i a ha hQ => ?_) (fun a hQ => (by simp only [go_sem, V_size, V_trunc]; exact hQ)))
        simp only [go_sem, hc1, hc2, hc3, hc4, hc5]
        refine want_ok hid hl _ a _ ha (RK_step hQ (fun u a ha hQ => ?_) (fun a hQ => (by simp only [go_sem, V_size, V_trunc]; exact hQ)))
        simp only [go_sem]
        exact ⟨m, Nat.lt_succ_self m, mkIndex x i, _, a, ser, _, hQ, ha, rfl, ⟨rfl, rfl, rfl⟩, rfl⟩

theorem pow_ok (hid : id < st.size) (hl : l.length < 65536) (n : Nat) (rec : Nt → Nat → PR Xp) (hp : ReadsAt eX st id l 167 [.ptr id 0] (rec .pow))
    (hu : ReadsAt eX st id l 211 [.ptr id 0] (rec .unary)) : ReadsAt eX st id l 167 [.ptr id 0] (spStep l rec n .pow) := by
  intro a Q ha hQ
  refine callA_body (by rfl) (by rfl) rfl ?_
  simp only [spStep] at hQ
  simp only [b167, go_sem]
  refine hu a _ ha (RK_step hQ (fun x a ha hQ => ?_) (fun a hQ => (by simp only [go_sem, V_size, V_trunc]; exact hQ)))
  have hop := fun Q => operator_eq (st := st) (Q := Q) hid hl ha 5 (by omega)
  have hop : ∀ Q : Res → St → Prop, CallA S 115 [.ptr id 0, .int .i64 5] (V st id l a) Q = Q (.ret (.str (opOf 5 (tokAt l a)))) (V st id l (if opOf 5 (tokAt l a) = [] then a else a + 1)) := hop
  by_cases ho : opOf 5 (tokAt l a) = []
  · rw [if_pos ho] at hQ
    simp only [go_sem, hop, ho, beqL_nn, V_size, V_trunc]
    exact RK_ok hQ ha
  · rw [if_neg ho] at hQ
    have hlt := opOf_lt ho
    have hb : (opOf 5 (tokAt l a) == []) = false := by simp [ho]
    simp only [go_sem, hop, ho, hb]
    refine hp (a + 1) _ (by omega) (RK_step hQ (fun y a' ha' hQ => ?_) (fun a hQ => (by simp only [go_sem, V_size, V_trunc]; exact hQ)))
    simp only [go_sem, binary_eq, V_size, V_trunc]
    exact RK_ok hQ ha'

theorem sum1_ok (hid : id < st.size) (hl : l.length < 65536) (n : Nat) (rec : Nt → Nat → PR Xp) (hp : ReadsAt eX st id l 167 [.ptr id 0] (rec .pow)) (bx : Nat) (hbx : st.cells bx = some [.ptr id 0]) (hne : id ≠ bx) :
    ReadsAt eX st id l 166 [.ptr bx 0] (fun a => spJoined l (rec .pow) 4 n a) := by
  intro a Q ha hQ
  refine callA_body (by rfl) (by rfl) rfl ?_
  simp only [b166, go_sem, V_cells_ne hne, hbx]
  refine joined_ok hid hl 4 (by omega) n 167 [.ptr id 0] [] (by rfl) (by rfl) (rec .pow) hp a _ ha (PR.on_mono hQ (fun x a _ hQ ha => ?_) (fun a _ hQ => (by simp only [go_sem, V_size, V_trunc]; exact hQ)))
  simp only [go_sem, V_size, V_trunc]
  exact hQ ha

theorem sum_ok (hid : id < st.size) (hl : l.length < 65536) (n : Nat) (rec : Nt → Nat → PR Xp) (hp : ∀ o, ReadsAt eX (st.push o) id l 167 [.ptr id 0] (rec .pow)) :
    ReadsAt eX st id l 118 [.ptr id 0] (fun a => spSum l rec n a) := by
  intro a Q ha hQ
  refine callA_body (by rfl) (by rfl) rfl ?_
  have hle : id + 1 ≤ st.size := hid
  have hid' : id < (st.push (.cells [.ptr id 0])).size := by rw [size_push]; omega
  have hne : id ≠ st.size := by omega
  have hbx : (st.push (.cells [.ptr id 0])).cells st.size = some [.ptr id 0] := cells_new
  simp only [b118, go_sem, V_size, hle, V_push hid, V_cells_ne hne, hbx]
  refine joined_ok hid' hl 3 (by omega) n 166 [] [.ptr st.size 0] (by rfl) (by rfl) _ (sum1_ok hid' hl n rec (hp _) st.size hbx hne) a _ ha (PR.on_mono hQ (fun x a _ hQ ha => ?_) (fun a _ hQ => (by simp only [go_sem, V_size, V_trunc_push hid]; exact hQ)))
  simp only [go_sem, V_size, V_trunc_push hid]
  exact hQ ha

theorem not_ok (hid : id < st.size) (hl : l.length < 65536) (n : Nat) (rec : Nt → Nat → PR Xp) (hn : ReadsAt eX st id l 89 [.ptr id 0] (rec .not))
    (hs : ReadsAt eX st id l 118 [.ptr id 0] (fun a => spSum l rec n a)) : ReadsAt eX st id l 89 [.ptr id 0] (spStep l rec n .not) := by
  intro a Q ha hQ
  refine callA_body (by rfl) (by rfl) rfl ?_
  simp only [spStep] at hQ
  cases h1 : isS (tokAt l a) [46, 78, 79, 84, 46] with
  | true =>
    have hlt := isS_lt h1
    rw [if_pos (.inl h1)] at hQ
    simp only [b89, go_sem, sign_yes hid hl ha h1]
    refine hn (a + 1) _ (by omega) (RK_step hQ (fun x a ha hQ => ?_) (fun a hQ => (by simp only [go_sem, V_size, V_trunc]; exact hQ)))
    simp only [go_sem, V_size, V_trunc]
    exact RK_ok hQ ha
  | false =>
    cases h2 : isS (tokAt l a) [33] with
    | true =>
      have hlt := isS_lt h2
      rw [if_pos (.inr h2)] at hQ
      simp only [b89, go_sem, sign_no hid hl ha h1, sign_yes hid hl ha h2]
      refine hn (a + 1) _ (by omega) (RK_step hQ (fun x a ha hQ => ?_) (fun a hQ => (by simp only [go_sem, V_size, V_trunc]; exact hQ)))
      simp only [go_sem, V_size, V_trunc]
      exact RK_ok hQ ha
    | false =>
      rw [if_neg (by simp [h1, h2])] at hQ
      simp only [b89, go_sem, sign_no hid hl ha h1, sign_no hid hl ha h2]
      refine hs a _ ha (RK_step hQ (fun x a ha hQ => ?_) (fun a hQ => (by simp only [go_sem, V_size, V_trunc]; exact hQ)))
      have hop := fun Q => operator_eq (st := st) (Q := Q) hid hl ha 2 (by omega)
      have hop : ∀ Q : Res → St → Prop, CallA S 115 [.ptr id 0, .int .i64 2] (V st id l a) Q = Q (.ret (.str (opOf 2 (tokAt l a)))) (V st id l (if opOf 2 (tokAt l a) = [] then a else a + 1)) := hop
      by_cases ho : opOf 2 (tokAt l a) = []
      · rw [if_pos ho] at hQ
        simp only [go_sem, hop, ho, beqL_nn, V_size, V_trunc]
        exact RK_ok hQ ha
      · rw [if_neg ho] at hQ
        have hlt := opOf_lt ho
        have hb : (opOf 2 (tokAt l a) == []) = false := by simp [ho]
        simp only [go_sem, hop, ho, hb]
        refine hs (a + 1) _ (by omega) (RK_step hQ (fun y a' ha' hQ => ?_) (fun a hQ => (by simp only [go_sem, V_size, V_trunc]; exact hQ)))
        simp only [go_sem, binary_eq, V_size, V_trunc]
        exact RK_ok hQ ha'

theorem expr1_ok (hid : id < st.size) (hl : l.length < 65536) (n : Nat) (rec : Nt → Nat → PR Xp) (hp : ReadsAt eX st id l 89 [.ptr id 0] (rec .not)) (bx : Nat) (hbx : st.cells bx = some [.ptr id 0]) (hne : id ≠ bx) :
    ReadsAt eX st id l 88 [.ptr bx 0] (fun a => spJoined l (rec .not) 1 n a) := by
  intro a Q ha hQ
  refine callA_body (by rfl) (by rfl) rfl ?_
  simp only [b88, go_sem, V_cells_ne hne, hbx]
  refine joined_ok hid hl 1 (by omega) n 89 [.ptr id 0] [] (by rfl) (by rfl) (rec .not) hp a _ ha (PR.on_mono hQ (fun x a _ hQ ha => ?_) (fun a _ hQ => (by simp only [go_sem, V_size, V_trunc]; exact hQ)))
  simp only [go_sem, V_size, V_trunc]
  exact hQ ha

theorem expr_ok (hid : id < st.size) (hl : l.length < 65536) (n : Nat) (rec : Nt → Nat → PR Xp) (hp : ∀ o, ReadsAt eX (st.push o) id l 89 [.ptr id 0] (rec .not)) :
    ReadsAt eX st id l 56 [.ptr id 0] (spStep l rec n .expr) := by
  intro a Q ha hQ
  refine callA_body (by rfl) (by rfl) rfl ?_
  simp only [spStep] at hQ
  have hle : id + 1 ≤ st.size := hid
  have hid' : id < (st.push (.cells [.ptr id 0])).size := by rw [size_push]; omega
  have hne : id ≠ st.size := by omega
  have hbx : (st.push (.cells [.ptr id 0])).cells st.size = some [.ptr id 0] := cells_new
  simp only [b56, go_sem, V_size, hle, V_push hid, V_cells_ne hne, hbx]
  refine joined_ok hid' hl 0 (by omega) n 88 [] [.ptr st.size 0] (by rfl) (by rfl) _ (expr1_ok hid' hl n rec (hp _) st.size hbx hne) a _ ha (PR.on_mono hQ (fun x a _ hQ ha => ?_) (fun a _ hQ => (by simp only [go_sem, V_size, V_trunc_push hid]; exact hQ)))
  simp only [go_sem, V_size, V_trunc_push hid]
  exact hQ ha
end

def fnOf : Nt → Nat
  | .expr => 56
  | .not => 89
  | .pow => 167
  | .unary => 211

/-- The program reads an expression as `sp` says. -/
theorem sp_ok {l : List Tok} (hl : l.length < 65536) (hT : ∀ t ∈ l, TokOk t) : ∀ (n : Nat), n ≤ 65536 → ∀ (nt : Nt) (st : St) (id : Nat), id < st.size → ReadsAt eX st id l (fnOf nt) [.ptr id 0] (sp l n nt)
  | 0, _, nt, st, id, hid => fun a Q ha hQ => hQ.elim
  | n + 1, hn, nt, st, id, hid => by
    have ih := sp_ok hl hT n (by omega)
    have hpush : ∀ o, id < (st.push o).size := fun o => by rw [size_push]; omega
    cases nt with
    | expr => exact expr_ok hid hl n (sp l n) (fun o => ih .not _ _ (hpush o))
    | not => exact not_ok hid hl n (sp l n) (ih .not _ _ hid) (sum_ok hid hl n (sp l n) (fun o => ih .pow _ _ (hpush o)))
    | pow => exact pow_ok hid hl n (sp l n) (ih .pow _ _ hid) (ih .unary _ _ hid)
    | unary => exact unary_ok hid hl hT n (by omega) (sp l n) (ih .expr _ _ hid) (ih .unary _ _ hid)
end Go.Proofs.YtelpkgbghhpgaaaGreatDoor.Sx
end
section
/- The program's scanner: its cells; classes of bytes; blanks, lines, comments. -/
set_option maxRecDepth 100000
namespace Go.Proofs.YtelpkgbghhpgaaaGreatDoor.Sx

def clsList : List AV := (List.range 256).map fun (b : Nat) => .int .u8 (clsOf b)
theorem clsList_length : clsList.length = 256 := by simp [clsList]
theorem clsList_get {k : Nat} (h : k < 256) : clsList[k]? = some (.int .u8 (clsOf k)) := by
  unfold clsList; rw [List.getElem?_map, List.getElem?_range h]; rfl

/-- The cells of a scanner. -/
def sc (s : List UInt8) (a : Nat) (line begun : Bool) (bad : Int) : List AV := .str s :: .int .i64 (a : Int) :: (clsList ++ [.bool line, .bool begun, .int .i64 bad])

section
variable {s : List UInt8} {a : Nat} {line begun : Bool} {bad : Int}
theorem sc_length : (sc s a line begun bad).length = 261 := by simp [sc, clsList_length]
theorem sc_0 : (sc s a line begun bad)[0]? = some (.str s) := rfl
theorem sc_1 : (sc s a line begun bad)[1]? = some (.int .i64 (a : Int)) := rfl
theorem sc_cls {k : Nat} (h : k < 256) : (sc s a line begun bad)[2 + k]? = some (.int .u8 (clsOf k)) := by
  rw [Nat.add_comm]
  show (clsList ++ _)[k]? = _
  rw [List.getElem?_append_left (by rw [clsList_length]; exact h), clsList_get h]
theorem sc_tail (k : Nat) : (sc s a line begun bad)[258 + k]? = [AV.bool line, .bool begun, .int .i64 bad][k]? := by
  rw [Nat.add_comm]
  show (clsList ++ _)[k + 256]? = _
  rw [List.getElem?_append_right (by rw [clsList_length]; omega), clsList_length, Nat.add_sub_cancel]
theorem sc_258 : (sc s a line begun bad)[258]? = some (.bool line) := sc_tail 0
theorem sc_259 : (sc s a line begun bad)[259]? = some (.bool begun) := sc_tail 1
theorem sc_260 : (sc s a line begun bad)[260]? = some (.int .i64 bad) := sc_tail 2
theorem sc_set1 (b : Nat) : (sc s a line begun bad).set 1 (.int .i64 (b : Int)) = sc s b line begun bad := rfl
theorem sc_setTail (k : Nat) (v : AV) : (sc s a line begun bad).set (258 + k) v = .str s :: .int .i64 (a : Int) :: (clsList ++ [AV.bool line, .bool begun, .int .i64 bad].set k v) := by
  rw [Nat.add_comm]
  show _ :: _ :: ((clsList ++ _).set (k + 256) v) = _
  rw [List.set_append_right _ _ (by rw [clsList_length]; omega), clsList_length, Nat.add_sub_cancel]
theorem sc_set258 (b : Bool) : (sc s a line begun bad).set 258 (.bool b) = sc s a b begun bad := sc_setTail 0 _
theorem sc_set259 (b : Bool) : (sc s a line begun bad).set 259 (.bool b) = sc s a line b bad := sc_setTail 1 _
theorem sc_set260 (b : Int) : (sc s a line begun bad).set 260 (.int .i64 b) = sc s a line begun b := sc_setTail 2 _
end
attribute [go_sem] sc_length sc_0 sc_1 sc_258 sc_259 sc_260 sc_set1 sc_set258 sc_set259 sc_set260

/-- The scanner `id` stands at `a`. -/
def W (st : St) (id : Nat) (s : List UInt8) (a : Nat) (line begun : Bool) (bad : Int) : St := st.setCells id (sc s a line begun bad)

section
variable {st : St} {id a : Nat} {s : List UInt8} {line begun : Bool} {bad : Int} {Q : Res → St → Prop} {o : HObj}
theorem W_cells (hid : id < st.size) : (W st id s a line begun bad).cells id = some (sc s a line begun bad) := cells_set hid
theorem W_set (b : Nat) (l2 b2 : Bool) (bad2 : Int) : (W st id s a line begun bad).setCells id (sc s b l2 b2 bad2) = W st id s b l2 b2 bad2 := set_set
theorem W_size : (W st id s a line begun bad).size = st.size := size_set
theorem W_trunc : (W st id s a line begun bad).trunc st.size = W st id s a line begun bad := trunc_set

theorem getB {i : Nat} (h : i < s.length) : s[i]? = some s[i] := List.getElem?_eq_getElem h

theorem is_eq (hid : id < st.size) (hs : s.length < 65536) (i : Nat) (k : Int) :
    CallA S 156 [.ptr id 0, .int .i64 (i : Int), .int .u8 k] (W st id s a line begun bad) Q = Q (.ret (.bool (isC s i k))) (W st id s a line begun bad) := by
  refine callA_eq (fun Q hQ => ?_) Q
  refine callA_body (by rfl) (by rfl) rfl ?_
  by_cases h : (i : Int) < (s.length : Int)
  · have hi : i < s.length := by omega
    have hb := s[i].toNat_lt
    have h0 : (0 : Int) ≤ (s[i].toNat : Int) := by omega
    have h1 : (s[i].toNat : Int) < ((256 : Nat) : Int) := by omega
    have hc : isC s i k = (clsOf s[i].toNat == k) := by unfold isC; rw [getB hi]
    rw [hc] at hQ
    simp only [b156, go_sem, W_cells hid, h, getB hi, h0, h1, and_self, Nat.mul_one, sc_cls hb, trunc_self]
    exact hQ
  · have hc : isC s i k = false := by unfold isC; rw [List.getElem?_eq_none (by omega)]
    rw [hc] at hQ
    simp only [b156, go_sem, W_cells hid, h, trunc_self]
    exact hQ

theorem isC_lt {i : Nat} {k : Int} (h : isC s i k = true) : i < s.length := by
  unfold isC at h
  split at h
  · rename_i h1; exact (List.getElem?_eq_some_iff.1 h1).1
  · cases h

theorem skip_eq (hid : id < st.size) (hs : s.length < 65536) (ha : a ≤ s.length) :
    CallA S 109 [.ptr id 0] (W st id s a line begun bad) Q = Q (.ret (.tuple [])) (W st id s (skipB s a) line begun bad) := by
  refine callA_eq (fun Q hQ => ?_) Q
  refine callA_body (by rfl) (by rfl) rfl ?_
  simp only [b109, go_sem]
  refine wp_loop (fun n fr st' => ∃ i ser, n + i = s.length ∧ st' = W st id s i line begun bad ∧ skipB s a = runTo (fun i => isC s i 3) n i ∧ fr = ⟨[(0, .ptr id 0)], [], [], ser⟩) (s.length - a) ⟨a, _, by omega, rfl, rfl, rfl⟩ ?_
  rintro n fr st' ⟨i, ser, hn, rfl, hr, rfl⟩
  simp only [b109l0, go_sem, W_cells hid, is_eq hid hs]
  cases h : isC s i 3 with
  | true =>
    have hlt := isC_lt h
    cases n with
    | zero => omega
    | succ n =>
      simp only [runTo, h, if_true] at hr
      simp only [go_sem, wrap_one i (by omega), W_set]
      exact ⟨n, Nat.lt_succ_self n, i + 1, _, by omega, rfl, hr, rfl⟩
  | false =>
    have : skipB s a = i := by cases n <;> simp [runTo, h] at hr <;> exact hr
    rw [this] at hQ
    simp only [go_sem, W_size, W_trunc]
    exact hQ

theorem indexByte_eq (t : List UInt8) (b : UInt8) : CallA S 202 [.str t, .int .u8 (b.toNat : Int)] st Q = Q (.ret (.int .i64 (indexB b t 0))) st := by
  refine callA_intr (n := 0) (k := iIndexByte) (by rfl) ?_ Q
  have := b.toNat_lt
  simp only [iIndexByte]
  rw [if_pos (by omega)]
  simp

theorem indexB_lt {b : UInt8} : ∀ (t : List UInt8) (n : Nat), indexB b t n = -1 ∨ ∃ i, i < t.length ∧ indexB b t n = ((n + i : Nat) : Int)
  | [], n => .inl rfl
  | c :: t, n => by
    simp only [indexB]
    split
    · exact .inr ⟨0, by simp, by simp⟩
    · rcases indexB_lt t (n + 1) with h | ⟨i, h1, h2⟩
      · exact .inl h
      · exact .inr ⟨i + 1, by simpa using h1, by rw [h2]; congr 1; omega⟩

theorem lineEnd_le (ha : a ≤ s.length) : a ≤ lineEnd s a ∧ lineEnd s a ≤ s.length := by
  unfold lineEnd
  rcases indexB_lt (b := 10) (s.drop a) 0 with h | ⟨i, h1, h2⟩
  · rw [h]; simp; omega
  · rw [h2]
    simp only [List.length_drop] at h1
    rw [if_pos (by omega)]
    omega

theorem lineEnd_eq (hid : id < st.size) (hs : s.length < 65536) (i : Nat) (hi : i ≤ s.length) :
    CallA S 158 [.ptr id 0, .int .i64 (i : Int)] (W st id s a line begun bad) Q = Q (.ret (.int .i64 (lineEnd s i : Int))) (W st id s a line begun bad) := by
  refine callA_eq (fun Q hQ => ?_) Q
  refine callA_body (by rfl) (by rfl) rfl ?_
  have h0 : (0 : Int) ≤ (i : Int) := by omega
  have h1 : (i : Int) ≤ (s.length : Int) := by omega
  have h2 : (s.length : Int) ≤ (s.length : Int) := by omega
  have ht : s.take s.length = s := List.take_length
  have hx := fun Q => indexByte_eq (st := W st id s a line begun bad) (Q := Q) (s.drop i) 10
  have hx : ∀ Q : Res → St → Prop, CallA S 202 [.str (s.drop i), .int .u8 10] (W st id s a line begun bad) Q = Q (.ret (.int .i64 (indexB 10 (s.drop i) 0))) (W st id s a line begun bad) := hx
  unfold lineEnd at hQ
  rcases indexB_lt (b := 10) (s.drop i) 0 with h | ⟨k, hk, h⟩
  · have hneg : ¬ ((-1 : Int) ≥ 0) := by omega
    rw [h, if_neg hneg] at hQ
    simp only [b158, go_sem, W_cells hid, h0, h1, h2, and_self, ht, hx, h, hneg, trunc_self]
    exact hQ
  · rw [Nat.zero_add] at h
    have hpos : (k : Int) ≥ 0 := by omega
    simp only [List.length_drop] at hk
    rw [h, if_pos hpos, Int.toNat_natCast] at hQ
    simp only [b158, go_sem, W_cells hid, h0, h1, h2, and_self, ht, hx, h, hpos, wrap_add i k (by omega), trunc_self]
    exact hQ

theorem comment_eq (hid : id < st.size) (hs : s.length < 65536) (ha : a ≤ s.length) :
    CallA S 112 [.ptr id 0] (W st id s a line begun bad) Q =
      match commentP s a with
      | some p => Q (.ret (.bool false)) (W st id s p line begun (p : Int))
      | none => Q (.ret (.bool true)) (W st id s (lineEnd s a) line begun bad) := by
  have hle := lineEnd_le ha
  have key : ∀ Q : Res → St → Prop, (match commentP s a with
      | some p => Q (.ret (.bool false)) (W st id s p line begun (p : Int))
      | none => Q (.ret (.bool true)) (W st id s (lineEnd s a) line begun bad)) → CallA S 112 [.ptr id 0] (W st id s a line begun bad) Q := by
    intro Q hQ
    refine callA_body (by rfl) (by rfl) rfl ?_
    unfold commentP at hQ
    simp only [b112, go_sem, W_cells hid, lineEnd_eq hid hs a ha]
    refine wp_loop (fun n fr st' => ∃ i ser, n + i = lineEnd s a ∧ st' = W st id s i line begun bad ∧ wrongIn s (lineEnd s a - a) a = wrongIn s n i ∧ fr = ⟨[(0, .ptr id 0), (3, .int .i64 (lineEnd s a : Int))], [], [], ser⟩) (lineEnd s a - a) ⟨a, _, by omega, rfl, rfl, rfl⟩ ?_
    rintro n fr st' ⟨i, ser, hn, rfl, hr, rfl⟩
    rw [hr] at hQ
    cases n with
    | zero =>
      have h : ¬ (i : Int) < (lineEnd s a : Int) := by omega
      simp only [wrongIn] at hQ
      simp only [b112l0, go_sem, W_cells hid, h, W_size, W_trunc]
      rw [show i = lineEnd s a by omega]
      exact hQ
    | succ n =>
      have h : (i : Int) < (lineEnd s a : Int) := by omega
      cases hc : isC s i 4 with
      | true =>
        simp only [wrongIn, hc, if_true] at hQ
        simp only [b112l0, go_sem, W_cells hid, h, is_eq hid hs, hc, W_set, W_size, W_trunc]
        exact hQ
      | false =>
        simp only [wrongIn, hc, Bool.false_eq_true, if_false] at hr
        simp only [b112l0, go_sem, W_cells hid, h, is_eq hid hs, hc, wrap_one i (by omega), W_set]
        exact ⟨n, Nat.lt_succ_self n, i + 1, _, by omega, rfl, hr, rfl⟩
  cases hcp : commentP s a with
  | none => refine callA_eq (fun Q hQ => ?_) Q; apply key; rw [hcp]; exact hQ
  | some p => refine callA_eq (fun Q hQ => ?_) Q; apply key; rw [hcp]; exact hQ
end
end Go.Proofs.YtelpkgbghhpgaaaGreatDoor.Sx
end
