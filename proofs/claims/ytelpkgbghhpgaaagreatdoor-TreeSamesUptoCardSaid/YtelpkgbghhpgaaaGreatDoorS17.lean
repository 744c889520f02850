/- TreeSames returns true for all programs whose data are not larger than a bound. What is read as data stands in the plain machine as a plain value: slices, in general. What is read as data: numbers, texts, structs. Long rows of zeros in the program's code. -/
import Derived.Test.YtelpkgbghhpgaaaGreatDoorS0
import Derived.Test.YtelpkgbghhpgaaaGreatDoorS14
import Derived.Test.YtelpkgbghhpgaaaGreatDoorS16
import Derived.ChangeOld
import Derived.ChangeReads
import Derived.DataReads
import GoSem.ClaimChange
set_option linter.all false
section
/- What is read as data stands in the plain machine as a plain value: slices, in general. -/
namespace Go.Proofs.YtelpkgbghhpgaaaGreatDoor.Sx
open AV

/-- The cells that were there at first. -/
def Old0 (w : World) : Nat → Nat → Prop := fun b _ => b < w.heap.size

structure RepL (w : World) (vs : List AV) (cs : List Value) : Prop where
  len : vs.length = cs.length
  el : ∀ i (h : i < vs.length) (h' : i < cs.length), PRep w (Old0 w) vs[i] cs[i]

theorem RepL.nil {w : World} : RepL w [] [] := ⟨rfl, fun i h => by simp at h⟩
theorem RepL.cons {w : World} {v : AV} {c : Value} {vs : List AV} {cs : List Value} (h : PRep w (Old0 w) v c) (hs : RepL w vs cs) : RepL w (v :: vs) (c :: cs) := by
  refine ⟨by simp [hs.len], fun i h1 h2 => ?_⟩
  cases i with
  | zero => exact h
  | succ i => exact hs.el i (by simpa using h1) (by simpa using h2)

theorem exists_list {α : Type} {p : Nat → α → Prop} : ∀ n, (∀ i, i < n → ∃ x, p i x) → ∃ l : List α, l.length = n ∧ ∀ i (h : i < l.length), p i l[i]
  | 0, _ => ⟨[], rfl, fun i h => by simp at h⟩
  | n + 1, h => by
    obtain ⟨l, hl, hp⟩ := exists_list n fun i hi => h i (by omega)
    obtain ⟨x, hx⟩ := h n (by omega)
    refine ⟨l ++ [x], by simp [hl], fun i hi => ?_⟩
    by_cases h2 : i < l.length
    · rw [List.getElem_append_left h2]; exact hp i h2
    · have : i = l.length := by simp at hi; omega
      subst this
      rw [List.getElem_append_right (Nat.le_refl _)]
      simp only [Nat.sub_self, List.getElem_cons_zero]
      rw [hl]; exact hx

theorem spot_of_cell {w : World} {a : Addr} {v : Value} (h : w.cell? a = some v) : a.spot = none := by
  cases hs : a.spot with
  | none => rfl
  | some s =>
    unfold World.cell? at h
    split at h
    · simp [hs] at h
    · cases h

theorem add_eq {w : World} {a : Addr} {n : Nat} {v : Value} (h : w.cell? (a.add n) = some v) : a.add n = ⟨a.block, a.off + n, none⟩ := by
  have hs := spot_of_cell h
  unfold Addr.add at hs ⊢
  split
  · rename_i h0
    subst h0
    rw [if_pos rfl] at hs
    cases a
    simp_all
  · rfl

theorem flat_at {sz : Nat} (hsz : 0 < sz) {els : List (List AV)} (h : ∀ e ∈ els, e.length = sz) {k : Nat} (hk : k < els.flatten.length) : ∃ (h1 : k / sz < els.length) (h2 : k % sz < (els[k / sz]).length), els.flatten[k] = (els[k / sz])[k % sz] := by
  have hl := flat_len h
  rw [hl] at hk
  have h1 : k / sz < els.length := (Nat.div_lt_iff_lt_mul hsz).2 hk
  have hm : k % sz < sz := Nat.mod_lt _ hsz
  have h3 : (els[k / sz]).length = sz := h _ (List.getElem_mem h1)
  refine ⟨h1, by omega, ?_⟩
  have e := flat_get h (List.getElem?_eq_getElem h1)
  have e2 : (els[k / sz])[k % sz]? = els.flatten[k]? := by
    rw [e, List.getElem?_take, if_pos hm, List.getElem?_drop, Nat.div_add_mod' k sz]
  rw [List.getElem?_eq_getElem (by omega), List.getElem?_eq_getElem (by omega)] at e2
  exact (Option.some.inj e2).symm

section
variable {H : Type} {enc : TypeId × Value → H} {P : Program} {w : World} {sp : Nat → Bool} {held : Bool}

theorem slice_read {fuel : Nat} {t e : TypeId} {sz : Nat} (ht : P.underlying t = some (.slice e)) (hsz : P.cellsOf e = sz) (hpos : 0 < sz) {α : Type} (f : α → List AV) (hf : ∀ x, (f x).length = sz) (Bd : α → DataW H → Prop)
    (hr : ∀ cs d ps, cs.length = sz → DataW.trod enc P w 0 sp held fuel e cs = some (d, ps) → ∃ x, RepL w (f x) cs ∧ Bd x d) {c : Value} {d : DataW H} {ps : List MemPlace}
    (h : DataW.trod enc P w 0 sp held (fuel + 1) t [c] = some (d, ps)) :
    ∃ (nil : Bool) (l : List α), PRep w (Old0 w) (encSl nil sz (l.map f)) c ∧ ((l = [] ∧ d = .nil) ∨ ∃ es rest, d = .slice es rest ∧ es.length = l.length ∧ ∀ i (h : i < l.length) (h' : i < es.length), Bd l[i] es[i]) := by
  unfold DataW.trod at h
  rw [ht] at h
  simp only [hsz] at h
  split at h
  all_goals try (rename_i q1 q2; cases q1; done)
  · rename_i q1 q2
    cases q2
    cases h
    exact ⟨true, [], .nilslice, .inl ⟨rfl, rfl⟩⟩
  · rename_i a len cap q1 q2
    cases q1
    cases q2
    split at h
    case isFalse => cases h
    rename_i hcond
    simp only [hsz, Option.bind_eq_some_iff, Option.map_eq_some_iff] at h
    obtain ⟨elems, hel, rest, hrest, hd⟩ := h
    cases hd
    have hlen : elems.length = len := by simpa using mapM_some_length hel
    have each : ∀ i, i < len → ∃ x, ∃ cs, w.cells? 0 (a.add (i * sz)) sz = some cs ∧ RepL w (f x) cs ∧ ∃ h : i < elems.length, Bd x (elems[i]).1 := by
      intro i hi
      have h1 := mapM_some_get hel i i (by simp [hi])
      rw [List.getElem?_eq_getElem (by omega)] at h1
      simp only [Option.bind_eq_some_iff] at h1
      obtain ⟨cs, h2, h3⟩ := h1
      obtain ⟨x, h4, h5⟩ := hr cs _ _ (World.cells?_some h2).2.1 h3
      exact ⟨x, cs, h2, h4, by omega, h5⟩
    obtain ⟨l, hl, hp⟩ := exists_list len each
    have hu : ∀ e ∈ l.map f, e.length = sz := by
      intro e he
      obtain ⟨x, _, rfl⟩ := List.mem_map.1 he
      exact hf x
    have hfl := flat_len hu
    have hcell : ∀ k (hk : k < (l.map f).flatten.length), ∃ v, w.cell? ⟨a.block, a.off + k, none⟩ = some v ∧ PRep w (Old0 w) (l.map f).flatten[k] v ∧ (k = 0 → a.spot = none) := by
      intro k hk
      obtain ⟨h1, h2, h3⟩ := flat_at hpos hu hk
      have h1' : k / sz < l.length := by simpa using h1
      obtain ⟨cs, hc, hrep, _⟩ := hp (k / sz) h1'
      obtain ⟨_, hcl, hcv⟩ := World.cells?_some hc
      have hm : k % sz < sz := Nat.mod_lt _ hpos
      have hv := hcv (k % sz) hm
      rw [List.getElem?_eq_getElem (by omega)] at hv
      have e0 : (a.add (k / sz * sz)).add (k % sz) = ⟨a.block, a.off + k, none⟩ := by
        rw [add_eq hv]
        have := Nat.div_add_mod' k sz
        unfold Addr.add
        split
        · rename_i h0
          simp only [Addr.mk.injEq, and_true, true_and]
          omega
        · simp only [Addr.mk.injEq, and_true, true_and]
          omega
      refine ⟨cs[k % sz], by rw [← e0]; exact hv, ?_, fun h0 => ?_⟩
      · rw [h3]
        have := hrep.el (k % sz) (by rw [hf]; exact hm) (by omega)
        simpa using this
      · subst h0
        have := spot_of_cell hv
        simpa [Addr.add] using this
    have hlt : ∀ b, w.cell? ⟨a.block, a.off + b, none⟩ ≠ none → a.block < w.heap.size := by
      intro b hb
      cases hv : w.cell? ⟨a.block, a.off + b, none⟩ with
      | none => exact absurd hv hb
      | some v => exact World.block_lt_of_cell? w ⟨a.block, a.off + b, none⟩ hv
    refine ⟨false, l, ?_, .inr ⟨_, _, rfl, by simp [hl, hlen], fun i h h' => ?_⟩⟩
    · have e : (encSl false sz (l.map f)) = .slice sz (l.map f) .no := rfl
      rw [e, show len = (l.map f).length by simp [hl]]
      refine .slice sz (l.map f) a cap (fun k => (w.cell? ⟨a.block, a.off + k, none⟩).getD undef) hu (by simp [hl]; exact hcond.2.1) (fun h0 => ?_) (fun k hk => ?_) (fun k hk => ?_)
      · obtain ⟨v, _, _, h3⟩ := hcell 0 h0
        exact h3 rfl
      · obtain ⟨v, h1, h2, h3⟩ := hcell k hk
        refine ⟨hlt k (by rw [h1]; exact fun h => by cases h), ?_⟩
        rw [h1]; rfl
      · obtain ⟨v, h1, h2, h3⟩ := hcell k hk
        rw [h1]; exact h2
    · obtain ⟨_, _, _, h5, h6⟩ := hp i h
      simpa using h6
  all_goals first | (rename_i q1 q2; cases q2; done) | (cases h; done)
end
end Go.Proofs.YtelpkgbghhpgaaaGreatDoor.Sx
end
section
/- What is read as data: numbers, texts, structs. -/
namespace Go.Proofs.YtelpkgbghhpgaaaGreatDoor.Sx
open AV
section
variable {H : Type} {enc : TypeId × Value → H} {P : Program} {w : World} {sp : Nat → Bool} {held : Bool} {fuel : Nat} {t : TypeId} {c : Value} {cs : List Value} {d : DataW H} {ps : List MemPlace}

theorem int_read {k : IntKind} (ht : P.underlying t = some (.int k)) (h : DataW.trod enc P w 0 sp held fuel t [c] = some (d, ps)) : ∃ n, PRep w (Old0 w) (.int k n) c ∧ d = .lit (.int k n) := by
  cases fuel with
  | zero => simp [DataW.trod] at h
  | succ n =>
    unfold DataW.trod at h
    rw [ht] at h
    split at h
    all_goals try (rename_i q1 q2; cases q1; done)
    · rename_i q1 q2
      cases q1
      cases q2
      split at h
      · rename_i hk
        obtain ⟨rfl, _⟩ := hk
        cases h
        exact ⟨_, .int _ _, rfl⟩
      · cases h
    all_goals first | (rename_i q1 q2; cases q2; done) | (cases h; done)

theorem bool_read (ht : P.underlying t = some .bool) (h : DataW.trod enc P w 0 sp held fuel t [c] = some (d, ps)) : ∃ b, PRep w (Old0 w) (.bool b) c ∧ d = .lit (.bool b) := by
  cases fuel with
  | zero => simp [DataW.trod] at h
  | succ n =>
    unfold DataW.trod at h
    rw [ht] at h
    split at h
    all_goals try (rename_i q1 q2; cases q1; done)
    · rename_i q1 q2
      cases q2
      cases h
      exact ⟨_, .bool _, rfl⟩
    all_goals first | (rename_i q1 q2; cases q2; done) | (cases h; done)

theorem str_read (ht : P.underlying t = some .string) (h : DataW.trod enc P w 0 sp held fuel t [c] = some (d, ps)) : ∃ s, PRep w (Old0 w) (.str s) c ∧ d = .lit (.string s) := by
  cases fuel with
  | zero => simp [DataW.trod] at h
  | succ n =>
    unfold DataW.trod at h
    rw [ht] at h
    split at h
    all_goals try (rename_i q1 q2; cases q1; done)
    · rename_i s q1 q2
      cases q2
      split at h
      · cases h
        refine ⟨s.data.toList, ?_, rfl⟩
        have := PRep.str (w := w) (I := Old0 w) s.data.toList
        simpa using this
      · cases h
    all_goals first | (rename_i q1 q2; cases q2; done) | (cases h; done)

theorem struct_read {fs : Array Field} (ht : P.underlying t = some (.struct fs)) (h : DataW.trod enc P w 0 sp held (fuel + 1) t cs = some (d, ps)) :
    cs.length = P.cellsOf t ∧ ∃ xs, (fs.toList.mapM fun f => DataW.trod enc P w 0 sp held fuel f.type ((cs.drop f.offset).take (P.cellsOf f.type))) = some xs ∧ d = .agg (xs.map (·.1)) := by
  unfold DataW.trod at h
  rw [ht] at h
  split at h
  all_goals try (rename_i q1 q2; cases q1; done)
  all_goals first | (rename_i q1 q2; cases q2; done) | (cases h; done) | skip
  all_goals
    try (rename_i q1; cases q1)
    split at h
    · rename_i hl
      simp only [Option.map_eq_some_iff] at h
      obtain ⟨xs, hx, hd⟩ := h
      cases hd
      exact ⟨hl, xs, hx, rfl⟩
    · cases h

theorem strs_read {e : TypeId} (ht : P.underlying t = some (.slice e)) (he : P.underlying e = some .string) (hs : P.cellsOf e = 1) (h : DataW.trod enc P w 0 sp held (fuel + 1) t [c] = some (d, ps)) :
    ∃ (nil : Bool) (l : List (List UInt8)), PRep w (Old0 w) (encSl nil 1 (l.map fun s => [.str s])) c ∧ ((l = [] ∧ d = .nil) ∨ ∃ es rest, d = .slice es rest ∧ es.length = l.length ∧ ∀ i (h : i < l.length) (h' : i < es.length), es[i] = .lit (.string l[i])) := by
  obtain ⟨nil, l, h1, h2⟩ := slice_read ht hs (by omega) (fun s : List UInt8 => [.str s]) (fun _ => rfl) (fun s d => d = .lit (.string s)) (fun cs d ps hl hd => by
    match cs, hl with
    | [c], _ =>
      obtain ⟨s, h1, h2⟩ := str_read he hd
      exact ⟨s, .cons h1 .nil, h2⟩) h
  exact ⟨nil, l, h1, h2⟩
end
end Go.Proofs.YtelpkgbghhpgaaaGreatDoor.Sx
end
section
/- Long rows of zeros in the program's code. -/
namespace Go.Proofs.YtelpkgbghhpgaaaGreatDoor.Sx
def zs256 : List AV := List.replicate 256 (.int .u8 0)
def zb256 : List AV := List.replicate 256 (.bool false)
/-- Items of a region in few words: no condition; on a condition that is true; that is false. -/
def AItem.u (i d : Nat) (o : AOp) : AItem := ⟨i, some d, none, o, []⟩
def AItem.t (i d g : Nat) (o : AOp) : AItem := ⟨i, some d, some (g, true), o, []⟩
def AItem.w (i d g : Nat) (o : AOp) : AItem := ⟨i, some d, some (g, false), o, []⟩
attribute [go_sem] AItem.u AItem.t AItem.w
end Go.Proofs.YtelpkgbghhpgaaaGreatDoor.Sx
end
