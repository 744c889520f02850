/- TreeSames returns true for all programs whose data are not larger than a bound. TreeSames: the row and the card. TreeSames: the card. -/
import Derived.Test.YtelpkgbghhpgaaaGreatDoorS32
import Derived.Test.YtelpkgbghhpgaaaGreatDoorS35
import Derived.Test.YtelpkgbghhpgaaaGreatDoorS36
import Derived.Deep.DeepHandedRow
import Derived.JoinedCond
import Derived.Lay
import Derived.MakeChecks
import Derived.OpenShut
import Derived.ProofKit
import Derived.Test.YtelpkgbghhpgaaaGreatDoorCards
import Derived.Test.YtelpkgbghhpgaaaGreatDoorTie
import Derived.WalkKit
set_option linter.all false
section
/- TreeSames: the row and the card. -/
set_option maxRecDepth 100000
namespace Go.Proofs.YtelpkgbghhpgaaaGreatDoor.Sx
open Go.ChangeShapes Go.WideShapes Go.ChangeAt Go.RowKit Go.Proofs.YtelpkgbghhpgaaaGreatDoor

theorem own : ownKnob Tryz.prog.godebug = none := by kernel_rfl
def zeroE : Value := .slice none 0 0
def zeroD {H : Type} : DataW H := .nil

theorem okC (W : World) : IntrOk Tryz.prog W 135 (iConcat 7 168) := intr_concat W
theorem okA (W : World) : IntrOk Tryz.prog W 82 (iAppendSeq 4100 83 84) := intr_appendSeq W

theorem laidIs : Rows.treeSamesUptoRow.laid = Rows.treeReadsRow.laid := rfl

theorem laidAt (os : Os) (args : Array Value) : laidMetH Tryz.prog Rows.treeSamesUptoRow.laid ((World.laidAll Tryz.prog os Rows.treeSamesUptoRow.laid).forCall (fun _ _ => 0) ⟨#[], args, []⟩).memory := by
  rw [MakeChecks.laidMetH_plain _ _ _ (by kernel_rfl)]
  exact laidMet_laidAll _ (by kernel_rfl) (by kernel_rfl)

theorem liftedUpto (os : Os) (started : os.Started) (H : Type) (enc : TypeId × Value → H) (F : Stop.Interp) :
    ReturnsInHanded {} Tryz.checked os 6 .any ((Rows.OpenSpec.upto Rows.treeSamesSpec).preRow enc Tryz.prog Tryz.f6 Rows.treeSamesUptoRow.domain false Rows.treeSamesUptoRow.laid) (((Rows.OpenSpec.upto Rows.treeSamesSpec).at F).post enc Tryz.prog Tryz.f6 false true false false) := by
  refine returnsInHanded_of_row (C := Tryz.checked) (s := Rows.OpenSpec.upto Rows.treeSamesSpec) own started (by kernel_rfl) Tryz.func6 ?_ ?_
  · have hok : Input.okWideB Tryz.prog ((World.laidAll Tryz.prog os Rows.treeSamesUptoRow.laid).forCall (fun _ _ => 0) ⟨#[], #[zeroE, zeroE], []⟩) 6 ⟨#[], #[zeroE, zeroE], []⟩ = true := by kernel_rfl
    have hx : DataW.whole enc Tryz.prog ((World.laidAll Tryz.prog os Rows.treeSamesUptoRow.laid).forCall (fun _ _ => 0) ⟨#[], #[zeroE, zeroE], []⟩).memory Tryz.f6.params.toList Rows.treeSamesSpec.vars false #[zeroE, zeroE].toList 8 = some ([zeroD, zeroD], [], []) := by kernel_rfl
    refine ⟨World.laidAll Tryz.prog os Rows.treeSamesUptoRow.laid, fun _ _ => 0, ⟨#[], #[zeroE, zeroE], []⟩, World.laidAll_os _ _ _, World.shaped_of_ZipB (by kernel_rfl) (by kernel_rfl), (Input.okWide_of_okWideB (base := 0) hok).1, (Input.okWide_of_okWideB hok).2, ?_, ?_⟩
    · exact OpenSpec.preRow_of_cond 8 hx (by kernel_rfl) (fun k hk => by cases hk; kernel_rfl) (by kernel_rfl) (laidAt os _)
    · simp only [Assume.holds]
      exact ⟨by simp, by simp, fun _ => Modest.zero, by simp, by simp⟩
  · intro W base args ds gs before hval hW _ hcond _ hL _ _
    have hk := hcond _ rfl
    have hb : Rows.uptoBulkAll (ds ++ gs) ≤ 1048576 := of_decide_eq_true hk
    have hg : gs = [] := by
      obtain ⟨p, q, _, hV, _⟩ := hW
      exact (trodVars_none hV).1
    subst hg
    rw [List.append_nil] at hb
    have hL' : laidMet Tryz.prog Rows.treeReadsRow.laid W := by
      rw [MakeChecks.laidMetH_plain _ _ _ (by kernel_rfl)] at hL
      rw [← laidIs]; exact hL
    exact rowTS W args ds [] before (simOk (tabs_of hL') (okC W) (okA W)) hval hW hb
end Go.Proofs.YtelpkgbghhpgaaaGreatDoor.Sx
end
section
/- TreeSames: the card. -/
set_option maxRecDepth 100000
namespace Go.Proofs.YtelpkgbghhpgaaaGreatDoor.Sx
open Go.ChangeShapes Go.WideShapes Go.ChangeAt Go.RowKit Go.Proofs.YtelpkgbghhpgaaaGreatDoor

theorem named : Tryz.pinned.checked.prog.funcNamed Rows.treeSamesUptoRow.func = some 6 := by kernel_rfl
theorem facts : joinedFacts Tryz.pinned.checked.prog 6 Tryz.f6 (Rows.OpenSpec.upto Rows.treeSamesSpec).bare Rows.treeSamesUptoRow = true := by kernel_rfl
theorem inst : Tryz.f6.isInstance Tryz.pinned.checked.prog Rows.treeSamesUptoRow.origin Rows.treeSamesUptoRow.targs := of_decide_eq_true (by kernel_rfl)
theorem wrapped : Tryz.f6.isWrapper Tryz.pinned.checked.prog Rows.treeSamesUptoRow.wrapper Rows.treeSamesUptoRow.mainSum := by
  unfold Func.isWrapper; first | (rw [if_pos (by decide +kernel)]; kernel_rfl) | (rw [if_neg (by decide +kernel)]; exact ⟨rfl, rfl⟩)
theorem returns (os : Os) (started : os.Started) (H : Type) (enc : TypeId × Value → H) (F : Stop.Interp) :
    ReturnsInHanded Rows.treeSamesUptoRow.assume Tryz.pinned.checked os 6 .any (Rows.treeSamesUptoRow.pre enc Tryz.pinned.checked.prog Tryz.f6 (Rows.OpenSpec.upto Rows.treeSamesSpec))
      (((Rows.OpenSpec.upto Rows.treeSamesSpec).at F).post enc Tryz.pinned.checked.prog Tryz.f6 Rows.treeSamesUptoRow.apart Rows.treeSamesUptoRow.fresh Rows.treeSamesUptoRow.handsOn Rows.treeSamesUptoRow.again) := by
  rw [OpenClaim.pre_eq_preRow]
  exact liftedUpto os started H enc F

theorem saidUpto : Rows.TreeSamesUptoSaid :=
  OpenClaim.holds_of_cond 6 Tryz.f6 rfl rfl rfl rfl rfl rfl rfl ⟨rfl, rfl, rfl, rfl, rfl⟩ rfl rfl rfl rfl rfl named Tryz.func6 facts inst wrapped
    (fun os started H enc _ F => returns os started H enc F)

theorem plain (f : FuncId) (fn : Func) (hf : Tryz.pinned.checked.prog.funcNamed "cabinetry/cabinetrylaw06.TreeSames" = some f) (hfn : Tryz.pinned.checked.prog.funcs[f]? = some fn) :
    true = Tryz.pinned.checked.prog.looks [] ∧ ∀ (j : Nat) t, fn.params[j]? = some t → Tryz.pinned.checked.prog.wantsStandIn t = false := by
  obtain rfl : f = 6 := Option.some.inj ((show Tryz.prog.funcNamed "cabinetry/cabinetrylaw06.TreeSames" = some 6 by kernel_rfl).symm.trans hf) |>.symm
  obtain rfl : fn = Tryz.f6 := (Option.some.inj (Tryz.func6.symm.trans hfn)).symm
  refine ⟨by kernel_rfl, fun j t ht => ?_⟩
  rw [Tryz.params6] at ht
  have hm : t ∈ [34, 34] := by simpa using Array.mem_of_getElem? ht
  have hall : ([34, 34].all fun u => !Tryz.prog.wantsStandIn u) = true := by kernel_rfl
  exact (show Tryz.prog.wantsStandIn t = false by simpa using List.all_eq_true.1 hall t hm)

theorem cardUpto : Rows.TreeSamesUptoCardSaid :=
  Claim7.holds_tied_plain_at .later [] _ _ _ _ saidUpto (fun _ h => by cases h) (by kernel_rfl) (fun _ h => by cases h) treeSamesUpto_row_tie rfl ⟨rfl, rfl⟩ (by kernel_rfl) rfl plain (by kernel_rfl)
end Go.Proofs.YtelpkgbghhpgaaaGreatDoor.Sx
end
