/- TreeExprSames returns true for all expressions whose data are not larger than a bound. What is read as data: numbers, texts, structs. Long rows of zeros in the program's code. -/
import Derived.Test.YtelpkgbghhpgaaaGreatDoorK0
import Derived.Test.YtelpkgbghhpgaaaGreatDoorK13
set_option linter.all false
section
/- What is read as data: numbers, texts, structs. -/
namespace Go.Proofs.YtelpkgbghhpgaaaGreatDoor.Sx
open AV
section
variable {H : Type} {enc : TypeId × Value → H} {P : Program} {w : World} {sp : Nat → Bool} {held : Bool} {fuel : Nat} {t : TypeId} {c : Value} {cs : List Value} {d : DataW H} {ps : List MemPlace}

theorem int_read {k : IntKind} (ht : P.underlying t = some (.int k)) (h : DataW.trod enc P w 0 sp held fuel t [c] = some (d, ps)) : ∃ n, PRep w (Old0 w) (.int k n) c ∧ d = .lit (.int k n) := by
  cases fuel with
  | zero => simp [DataW.trod] at h
  | succ n =>
    unfold DataW.trod at h
    rw [ht] at h
    split at h
    all_goals try (rename_i q1 q2; cases q1; done)
    · rename_i q1 q2
      cases q1
      cases q2
      split at h
      · rename_i hk
        obtain ⟨rfl, _⟩ := hk
        cases h
        exact ⟨_, .int _ _, rfl⟩
      · cases h
    all_goals first | (rename_i q1 q2; cases q2; done) | (cases h; done)

theorem bool_read (ht : P.underlying t = some .bool) (h : DataW.trod enc P w 0 sp held fuel t [c] = some (d, ps)) : ∃ b, PRep w (Old0 w) (.bool b) c ∧ d = .lit (.bool b) := by
  cases fuel with
  | zero => simp [DataW.trod] at h
  | succ n =>
    unfold DataW.trod at h
    rw [ht] at h
    split at h
    all_goals try (rename_i q1 q2; cases q1; done)
    · rename_i q1 q2
      cases q2
      cases h
      exact ⟨_, .bool _, rfl⟩
    all_goals first | (rename_i q1 q2; cases q2; done) | (cases h; done)

theorem str_read (ht : P.underlying t = some .string) (h : DataW.trod enc P w 0 sp held fuel t [c] = some (d, ps)) : ∃ s, PRep w (Old0 w) (.str s) c ∧ d = .lit (.string s) := by
  cases fuel with
  | zero => simp [DataW.trod] at h
  | succ n =>
    unfold DataW.trod at h
    rw [ht] at h
    split at h
    all_goals try (rename_i q1 q2; cases q1; done)
    · rename_i s q1 q2
      cases q2
      split at h
      · cases h
        refine ⟨s.data.toList, ?_, rfl⟩
        have := PRep.str (w := w) (I := Old0 w) s.data.toList
        simpa using this
      · cases h
    all_goals first | (rename_i q1 q2; cases q2; done) | (cases h; done)

theorem struct_read {fs : Array Field} (ht : P.underlying t = some (.struct fs)) (h : DataW.trod enc P w 0 sp held (fuel + 1) t cs = some (d, ps)) :
    cs.length = P.cellsOf t ∧ ∃ xs, (fs.toList.mapM fun f => DataW.trod enc P w 0 sp held fuel f.type ((cs.drop f.offset).take (P.cellsOf f.type))) = some xs ∧ d = .agg (xs.map (·.1)) := by
  unfold DataW.trod at h
  rw [ht] at h
  split at h
  all_goals try (rename_i q1 q2; cases q1; done)
  all_goals first | (rename_i q1 q2; cases q2; done) | (cases h; done) | skip
  all_goals
    try (rename_i q1; cases q1)
    split at h
    · rename_i hl
      simp only [Option.map_eq_some_iff] at h
      obtain ⟨xs, hx, hd⟩ := h
      cases hd
      exact ⟨hl, xs, hx, rfl⟩
    · cases h

theorem strs_read {e : TypeId} (ht : P.underlying t = some (.slice e)) (he : P.underlying e = some .string) (hs : P.cellsOf e = 1) (h : DataW.trod enc P w 0 sp held (fuel + 1) t [c] = some (d, ps)) :
    ∃ (nil : Bool) (l : List (List UInt8)), PRep w (Old0 w) (encSl nil 1 (l.map fun s => [.str s])) c ∧ ((l = [] ∧ d = .nil) ∨ ∃ es rest, d = .slice es rest ∧ es.length = l.length ∧ ∀ i (h : i < l.length) (h' : i < es.length), es[i] = .lit (.string l[i])) := by
  obtain ⟨nil, l, h1, h2⟩ := slice_read ht hs (by omega) (fun s : List UInt8 => [.str s]) (fun _ => rfl) (fun s d => d = .lit (.string s)) (fun cs d ps hl hd => by
    match cs, hl with
    | [c], _ =>
      obtain ⟨s, h1, h2⟩ := str_read he hd
      exact ⟨s, .cons h1 .nil, h2⟩) h
  exact ⟨nil, l, h1, h2⟩
end
end Go.Proofs.YtelpkgbghhpgaaaGreatDoor.Sx
end
section
/- Long rows of zeros in the program's code. -/
namespace Go.Proofs.YtelpkgbghhpgaaaGreatDoor.Sx
def zs256 : List AV := List.replicate 256 (.int .u8 0)
def zb256 : List AV := List.replicate 256 (.bool false)
end Go.Proofs.YtelpkgbghhpgaaaGreatDoor.Sx
end
