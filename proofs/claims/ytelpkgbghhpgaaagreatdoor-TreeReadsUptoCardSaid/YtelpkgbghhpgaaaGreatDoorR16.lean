/- TreeReads returns true for all texts whose data are not larger than a bound. What is read as data stands in the plain machine as a plain value: slices, in general. What is read as data: numbers, texts, structs. Long rows of zeros in the program's code. -/
import Derived.Test.YtelpkgbghhpgaaaGreatDoorR0
import Derived.Test.YtelpkgbghhpgaaaGreatDoorR13
import Derived.Test.YtelpkgbghhpgaaaGreatDoorR15
import Derived.ChangeOld
import Derived.ChangeReads
import Derived.DataReads
import GoSem.ClaimChange
set_option linter.all false
section
namespace Go.Proofs.YtelpkgbghhpgaaaGreatDoor.Sx
open AV
def Old0 (w : World) : Nat → Nat → Prop := fun b _ => b < w.heap.size
structure RepL (w : World) (vs : List AV) (cs : List Value) : Prop where
  len : vs.length = cs.length
  el : ∀ i (h : i < vs.length) (h' : i < cs.length), PRep w (Old0 w) vs[i] cs[i]
theorem RepL.nil {w : World} : RepL w [] [] := ⟨rfl, fun i h => by simp at h⟩
theorem RepL.cons {w : World} {v : AV} {c : Value} {vs : List AV} {cs : List Value} (h : PRep w (Old0 w) v c) (hs : RepL w vs cs) : RepL w (v :: vs) (c :: cs) := by
  refine ⟨by simp [hs.len], fun i h1 h2 => ?_⟩
  cases i with
  | zero => exact h
  | succ i => exact hs.el i (by simpa using h1) (by simpa using h2)
section
variable {H : Type} {enc : TypeId × Value → H} {P : Program} {w : World} {sp : Nat → Bool} {held : Bool}
end
end Go.Proofs.YtelpkgbghhpgaaaGreatDoor.Sx
end
section
namespace Go.Proofs.YtelpkgbghhpgaaaGreatDoor.Sx
open AV
section
variable {H : Type} {enc : TypeId × Value → H} {P : Program} {w : World} {sp : Nat → Bool} {held : Bool} {fuel : Nat} {t : TypeId} {c : Value} {cs : List Value} {d : DataW H} {ps : List MemPlace}
theorem str_read (ht : P.underlying t = some .string) (h : DataW.trod enc P w 0 sp held fuel t [c] = some (d, ps)) : ∃ s, PRep w (Old0 w) (.str s) c ∧ d = .lit (.string s) := by
  cases fuel with
  | zero => simp [DataW.trod] at h
  | succ n =>
    unfold DataW.trod at h
    rw [ht] at h
    split at h
    all_goals try (rename_i q1 q2; cases q1; done)
    · rename_i s q1 q2
      cases q2
      split at h
      · cases h
        refine ⟨s.data.toList, ?_, rfl⟩
        have := PRep.str (w := w) (I := Old0 w) s.data.toList
        simpa using this
      · cases h
    all_goals first | (rename_i q1 q2; cases q2; done) | (cases h; done)
end
end Go.Proofs.YtelpkgbghhpgaaaGreatDoor.Sx
end
section
namespace Go.Proofs.YtelpkgbghhpgaaaGreatDoor.Sx
def zs256 : List AV := List.replicate 256 (.int .u8 0)
def zb256 : List AV := List.replicate 256 (.bool false)
def AItem.u (i d : Nat) (o : AOp) : AItem := ⟨i, some d, none, o, []⟩
def AItem.t (i d g : Nat) (o : AOp) : AItem := ⟨i, some d, some (g, true), o, []⟩
def AItem.w (i d g : Nat) (o : AOp) : AItem := ⟨i, some d, some (g, false), o, []⟩
def AItem.m (i d r : Nat) : AItem := ⟨i, some d, none, .mv (.r r), []⟩
def AItem.n (i d r : Nat) : AItem := ⟨i, some d, none, .nchk (.r r), []⟩
def AItem.a (i d r o : Nat) : AItem := ⟨i, some d, none, .addr (.r r) o, []⟩
def AItem.l (i d r : Nat) : AItem := ⟨i, some d, none, .load (.r r) 1 false, []⟩
def AItem.y (i d r n : Nat) : AItem := ⟨i, some d, none, .load (.r r) n true, []⟩
def AItem.b (i d : Nat) (o : BinOp) (x y : Nat) : AItem := ⟨i, some d, none, .bin o (.r x) (.r y), []⟩
def AItem.x (i d r k : Nat) : AItem := ⟨i, some d, none, .ext (.r r) k, []⟩
def AItem.s (i x y n : Nat) : AItem := ⟨i, none, none, .store (.r x) (.r y) n, []⟩
def AItem.tm (i d g r : Nat) : AItem := ⟨i, some d, some (g, true), .mv (.r r), []⟩
def AItem.wm (i d g r : Nat) : AItem := ⟨i, some d, some (g, false), .mv (.r r), []⟩
def zx7 : List AV := [(.int .i64 0), (.str []), (.int .i64 0), (.int .i64 0), (.str []), .nilslice, .nilslice]
def zt3 : List AV := [(.int .i64 0), (.int .i64 0), (.str [])]
attribute [go_sem] AItem.u AItem.t AItem.w AItem.m AItem.n AItem.a AItem.l AItem.y AItem.b AItem.x AItem.s AItem.tm AItem.wm zx7 zt3
end Go.Proofs.YtelpkgbghhpgaaaGreatDoor.Sx
end
