/- TreeReads returns true for all texts whose data are not larger than a bound. slices.AppendSeq over tokens: the contract, joined. TreeReads: the row and the card. TreeReads: the card. -/
import Derived.Test.YtelpkgbghhpgaaaGreatDoorR34
import Derived.Test.YtelpkgbghhpgaaaGreatDoorR37
import Derived.Test.YtelpkgbghhpgaaaGreatDoorR38
import Derived.Deep.DeepHandedRow
import Derived.JoinedCond
import Derived.Lay
import Derived.MakeChecks
import Derived.OpenShut
import Derived.ProofKit
import Derived.Test.YtelpkgbghhpgaaaGreatDoorCards
import Derived.Test.YtelpkgbghhpgaaaGreatDoorTie
import Derived.WalkKit
set_option linter.all false
section
set_option maxRecDepth 100000
namespace Go.Proofs.YtelpkgbghhpgaaaGreatDoor.Sx
open Go.RowKit AV
theorem intr_appendSeq (W0 : World) : IntrOk Tryz.prog W0 82 (iAppendSeq 4100 83 84) := by
  intro call vs st r st' hk
  refine ⟨⟨_, _, Tryz.func82, rfl, by decide⟩, fun g w args _ hcall hh hl hr => ?_⟩
  unfold iAppendSeq at hk
  split at hk
  case h_2 => cases hk
  rename_i f id
  split at hk
  case isFalse => cases hk
  rename_i hf
  subst hf
  split at hk
  case h_2 => cases hk
  rename_i s o hbox
  split at hk
  case h_2 => cases hk
  rename_i res stR hcol
  cases hk
  have hbx : boxIs st id s o = true := by unfold boxIs; rw [hbox]; simp
  obtain ⟨x, y, rfl, h1, h2⟩ := args2 hl hr
  rw [h1.nilslice_inv]
  obtain ⟨va, vb, rfl, hla, hlb, hva, hvb⟩ := h2.func_inv
  obtain ⟨hid, hs, hcell⟩ := box_val hh hbx
  match va, hla, vb, hlb, hvb with
  | [], _, [p], _, hvb =>
    obtain ⟨_, hp⟩ := (hvb 0 (by simp) (by simp)).ptr_inv
    have hp' : p = .pointer (some ⟨g.blk id, 0, none⟩) := hp
    subst hp'
    refine (append_walk w ⟨g.blk id, 0, none⟩ (.pointer (some ⟨g.blk s, o, none⟩))
      (fun k n els W => ∃ st1 acc, SeqAt g st w st1 acc n els W ∧ collectN call 84 id s o k acc st1 = some (res, st') ∧ boxIs st1 id s o = true)
      (fun n els W => SeqAt g st w st' res n els W) 4100 ?_ ?_ ?_).mono ?_
    · intro W1 hc hs1 hrow
      obtain ⟨k1, k2⟩ := priv_step hh (Ext.refl g st w) hc (fun b hb => hb.elim)
      refine ⟨st, [], ⟨⟨g, k1, k2, Rows2.nil _ _, fun b hb => ?_⟩, rfl, by simp, rfl⟩, hcol, hbx⟩
      rcases hb with rfl | rfl | rfl | hb
      · exact ⟨priv_new hh (by omega), by omega⟩
      · exact ⟨priv_new hh (by omega), by omega⟩
      · exact ⟨priv_new hh (by omega), by omega⟩
      · exact absurd hb (hrow b)
    · rintro k n els W ⟨st1, acc, hS, _, hb⟩
      obtain ⟨g1, h1, h2, _⟩ := hS.ex
      have := (box_val h1 hb).2.2
      rwa [h2.grow.blk _ hid, h2.grow.blk _ hs] at this
    · rintro k n els W ⟨st1, acc, hS, hcl, hb⟩ hlt
      obtain ⟨g1, h1, h2, h3, h4⟩ := hS.ex
      obtain ⟨_, hs1, _⟩ := box_val h1 hb
      have hrep : ∀ i (h : i < [AV.ptr s o].length) (h' : i < [Value.pointer (some ⟨g.blk s, o, none⟩)].length), Rep g1 Fh.none st1.size W [AV.ptr s o][i] [Value.pointer (some ⟨g.blk s, o, none⟩)][i] := fun i h h' => by
        obtain rfl : i = 0 := by simp at h; omega
        show Rep _ _ _ _ (.ptr s o) (.pointer (some ⟨g.blk s, o, none⟩))
        rw [← h2.grow.blk _ hs]
        exact .ptr s o hs1
      cases k with
      | zero => simp [collectN] at hcl
      | succ k =>
        rw [collectN] at hcl
        split at hcl
        · rename_i t st2 hcc
          split at hcl
          case isFalse => cases hcl
          rename_i hcond
          obtain ⟨ht, hp, hsz, hbig, hb2⟩ := hcond
          refine ((hcall _ _ _ _ _ hcc).2 g1 W [.pointer (some ⟨g.blk s, o, none⟩)] h2.grow h1 rfl hrep).mono fun e W' hpost => ?_
          cases e with
          | returned c =>
            obtain ⟨g2, v, hv, k1, k2, k3⟩ := hpost
            cases hv
            obtain ⟨x, y, z, rfl, hx, hy, hz, hrw⟩ := tok_val ht hp k3
            obtain ⟨hS2, hkeep⟩ := hS.next hsz h1 h2 h3 h4 hlt k1 k2
            refine ⟨x, y, z, true, rfl, hx, hy, hz, hkeep, fun h => (by cases h), fun _ => ?_⟩
            have hlt' := hlt
            have hB : w.heap.size < W'.heap.size := Nat.lt_of_lt_of_le (hlt _ (.inl rfl)) k2.size
            have hS3 := hS.add h3 hS2 k1 k2 (h2.trans k2) (fun b hb => by
              have hb' : b = w.heap.size ∨ b = w.heap.size + 1 ∨ b = w.heap.size + 2 ∨ Row W w.heap.size b := by
                rcases hb with hb | hb | hb | ⟨u, hu, hub⟩
                · exact .inl hb
                · exact .inr (.inl hb)
                · exact .inr (.inr (.inl hb))
                · rw [hkeep _ (.inl rfl)] at hu
                  exact .inr (.inr (.inr ⟨u, hu, hub⟩))
              exact ⟨(h4 b hb').1.ext k2 (hlt b hb'), (h4 b hb').2⟩) ht hrw
            refine ⟨by rw [← hS.len]; exact hbig, k, Nat.lt_succ_self k, fun W'' hch hrw'' => ⟨st2, acc ++ [t], hS3.own ((Chg.alloc _ _ _).trans hch) hrw'', hcl, hb2⟩⟩
          | panicked c => obtain ⟨_, v, _, hv, _⟩ := hpost; cases hv
          | outgrown => exact hpost.elim
        · rename_i t st2 hcc
          split at hcl
          case isFalse => cases hcl
          rename_i hcond
          cases hcl
          refine ((hcall _ _ _ _ _ hcc).2 g1 W [.pointer (some ⟨g.blk s, o, none⟩)] h2.grow h1 rfl hrep).mono fun e W' hpost => ?_
          cases e with
          | returned c =>
            obtain ⟨g2, v, hv, k1, k2, k3⟩ := hpost
            cases hv
            obtain ⟨u, rfl, hu⟩ := tok_end k3
            obtain ⟨us, hu', hl2, _, h1c⟩ := hu.agg_inv
            subst hu'
            obtain ⟨hS2, hkeep⟩ := hS.next hcond.2 h1 h2 h3 h4 hlt k1 k2
            match us, (hl2.symm.trans hcond.1 : us.length = 3) with
            | [x, y, z], _ => exact ⟨x, y, z, false, rfl, h1c x (by simp), h1c y (by simp), h1c z (by simp), hkeep, fun _ => hS2, fun h => by cases h⟩
          | panicked c => obtain ⟨_, v, _, hv, _⟩ := hpost; cases hv
          | outgrown => exact hpost.elim
        · cases hcl
    · rintro e w' ⟨v, n, els, W2, rfl, hS, hch, hown, hnil, hrw⟩
      obtain ⟨g2, h1, h2, h3, h4⟩ := hS.ex
      obtain ⟨k1, k2⟩ := priv_step h1 h2 hch (fun b hb => h4 b (by rcases hb with hb | hb <;> simp [hb]))
      have hw : ∀ b o, g2.imm b o → w'.cell? ⟨b, o, none⟩ = W2.cell? ⟨b, o, none⟩ := fun b o hb => cell_of_block (hch.block b (h1.1.immlt b o hb) (fun hx => (h4 b (by rcases hx with hx | hx <;> simp [hx])).1.2 o hb)) o
      have h3' := h3.mono (fun _ _ h => h) hw
      by_cases h0 : res = []
      · subst h0
        have hn0 : n = 0 := hS.len.symm
        rw [hnil.2 hn0]
        exact ⟨g2, _, rfl, k1, k2, .plain .nilslice⟩
      · obtain ⟨hlen, ⟨_, hz⟩ | ⟨nb, cp, cur, rfl, hnb, hheap, hcp, hmx, hcs, htake⟩⟩ := hown
        · exact absurd (List.eq_nil_of_length_eq_zero (hS.len.trans hz)) h0
        · have hlt : nb < w'.heap.size := (Array.getElem?_eq_some_iff.1 hheap).1
          obtain ⟨hpv, hge⟩ := h4 nb (.inr (.inr (.inr (hrw nb rfl))))
          have hi : ∀ b o, g2.imm b o → (g2.imm b o ∨ b = nb) := fun _ _ h => .inl h
          have hI : HInv (g2.wide fun b o => g2.imm b o ∨ b = nb) w' st' := k1.1.trans (X := fun _ => False) (Chg.refl _ _) hi (fun _ _ _ h => h) (fun _ _ _ => rfl) (fun b o hb => by
            rcases hb with hb | rfl
            · exact .inl hb
            · exact .inr hpv.1) (fun b o hb => by
            rcases hb with hb | rfl
            · exact k1.1.immlt b o hb
            · exact hlt)
          have hH : HSt (g2.wide fun b o => g2.imm b o ∨ b = nb) st' w' := ⟨hI, fun o o' b ho ho' => k1.2 o o' b (by cases o <;> exact ho) (by cases o' <;> exact ho')⟩
          have hE : Ext g st w (g2.wide fun b o => g2.imm b o ∨ b = nb) st' w' := Ext.step k2 (Chg.refl (fun _ => False) _) (fun b hb => hb.elim) (Grow.wide hi fun _ _ _ => rfl) (fun b o hb => by
            rcases hb with hb | rfl
            · exact .inl hb
            · exact .inr (.inl (.inl hge))) (fun o b ho _ => .inr ⟨o, by cases o <;> exact ho⟩)
          have hne : res.isEmpty = false := by cases res <;> simp_all
          refine ⟨_, _, rfl, hH, hE, ?_⟩
          rw [hne]
          refine .plain ?_
          have hfl := flat_len hS.unit
          rw [show n = res.length from hS.len.symm] at htake hcp ⊢
          refine PRep.of_row hS.unit hcp (vs := fun k => cur.getD k undef) ⟨fun _ => rfl, fun k hk => ⟨.inr rfl, ?_⟩, fun k hk => ?_⟩
          · have hks : k < cur.size := by
              have : res.length * 3 ≤ cp * 3 := Nat.mul_le_mul_right _ hcp
              omega
            simp [World.cell?, hheap, Array.getD, hks]
          · obtain ⟨c, hc1, hc2⟩ := h3'.2 k _ (List.getElem?_eq_getElem hk)
            rw [← htake] at hc1
            have hk3 : k < res.length * 3 := by omega
            rw [List.getElem?_take, if_pos hk3, Array.getElem?_toList] at hc1
            have hcd : cur.getD k undef = c := by simp [Array.getD_eq_getD_getElem?, hc1]
            simp only [hcd]
            exact hc2.mono hi (fun _ _ _ => rfl)
end Go.Proofs.YtelpkgbghhpgaaaGreatDoor.Sx
end
section
set_option maxRecDepth 100000
namespace Go.Proofs.YtelpkgbghhpgaaaGreatDoor.Sx
open Go.ChangeShapes Go.WideShapes Go.ChangeAt Go.RowKit Go.Proofs.YtelpkgbghhpgaaaGreatDoor
theorem own : ownKnob Tryz.prog.godebug = none := by kernel_rfl
def zeroE : Value := .string ⟨#[]⟩
def zeroD {H : Type} : DataW H := .lit (.string [])
theorem okC (W : World) : IntrOk Tryz.prog W 135 (iConcat 7 168) := intr_concat W
theorem okA (W : World) : IntrOk Tryz.prog W 82 (iAppendSeq 4100 83 84) := intr_appendSeq W
theorem laidIs : Rows.treeReadsUptoRow.laid = Rows.treeReadsRow.laid := rfl
theorem laidAt (os : Os) (args : Array Value) : laidMetH Tryz.prog Rows.treeReadsUptoRow.laid ((World.laidAll Tryz.prog os Rows.treeReadsUptoRow.laid).forCall (fun _ _ => 0) ⟨#[], args, []⟩).memory := by
  rw [MakeChecks.laidMetH_plain _ _ _ (by kernel_rfl)]
  exact laidMet_laidAll _ (by kernel_rfl) (by kernel_rfl)
theorem liftedUpto (os : Os) (started : os.Started) (H : Type) (enc : TypeId × Value → H) (F : Stop.Interp) :
    ReturnsInHanded {} Tryz.checked os 3 .any ((Rows.OpenSpec.upto Rows.treeReadsSpec).preRow enc Tryz.prog Tryz.f3 Rows.treeReadsUptoRow.domain false Rows.treeReadsUptoRow.laid) (((Rows.OpenSpec.upto Rows.treeReadsSpec).at F).post enc Tryz.prog Tryz.f3 false true false false) := by
  refine returnsInHanded_of_row (C := Tryz.checked) (s := Rows.OpenSpec.upto Rows.treeReadsSpec) own started (by kernel_rfl) Tryz.func3 ?_ ?_
  · have hok : Input.okWideB Tryz.prog ((World.laidAll Tryz.prog os Rows.treeReadsUptoRow.laid).forCall (fun _ _ => 0) ⟨#[], #[zeroE], []⟩) 3 ⟨#[], #[zeroE], []⟩ = true := by kernel_rfl
    have hx : DataW.whole enc Tryz.prog ((World.laidAll Tryz.prog os Rows.treeReadsUptoRow.laid).forCall (fun _ _ => 0) ⟨#[], #[zeroE], []⟩).memory Tryz.f3.params.toList Rows.treeReadsSpec.vars false #[zeroE].toList 8 = some ([zeroD], [], []) := by kernel_rfl
    refine ⟨World.laidAll Tryz.prog os Rows.treeReadsUptoRow.laid, fun _ _ => 0, ⟨#[], #[zeroE], []⟩, World.laidAll_os _ _ _, World.shaped_of_ZipB (by kernel_rfl) (by kernel_rfl), (Input.okWide_of_okWideB (base := 0) hok).1, (Input.okWide_of_okWideB hok).2, ?_, ?_⟩
    · exact OpenSpec.preRow_of_cond 8 hx (by kernel_rfl) (fun k hk => by cases hk; kernel_rfl) (by kernel_rfl) (laidAt os _)
    · simp only [Assume.holds]
      exact ⟨by simp, by simp, fun _ => Modest.zero, by simp, by simp⟩
  · intro W base args ds gs before hval hW _ hcond _ hL _ _
    have hk := hcond _ rfl
    have hb : Rows.uptoBulkAll (ds ++ gs) ≤ 1048576 := of_decide_eq_true hk
    have hg : gs = [] := by
      obtain ⟨p, q, _, hV, _⟩ := hW
      exact (trodVars_none hV).1
    subst hg
    rw [List.append_nil] at hb
    have hL' : laidMet Tryz.prog Rows.treeReadsRow.laid W := by
      rw [MakeChecks.laidMetH_plain _ _ _ (by kernel_rfl)] at hL
      rw [← laidIs]; exact hL
    exact rowTR W args ds [] before (simOk (tabs_of hL') (okC W) (okA W)) hval hW
end Go.Proofs.YtelpkgbghhpgaaaGreatDoor.Sx
end
section
set_option maxRecDepth 100000
namespace Go.Proofs.YtelpkgbghhpgaaaGreatDoor.Sx
open Go.ChangeShapes Go.WideShapes Go.ChangeAt Go.RowKit Go.Proofs.YtelpkgbghhpgaaaGreatDoor
theorem named : Tryz.pinned.checked.prog.funcNamed Rows.treeReadsUptoRow.func = some 3 := by kernel_rfl
theorem facts : joinedFacts Tryz.pinned.checked.prog 3 Tryz.f3 (Rows.OpenSpec.upto Rows.treeReadsSpec).bare Rows.treeReadsUptoRow = true := by kernel_rfl
theorem inst : Tryz.f3.isInstance Tryz.pinned.checked.prog Rows.treeReadsUptoRow.origin Rows.treeReadsUptoRow.targs := of_decide_eq_true (by kernel_rfl)
theorem wrapped : Tryz.f3.isWrapper Tryz.pinned.checked.prog Rows.treeReadsUptoRow.wrapper Rows.treeReadsUptoRow.mainSum := by
  unfold Func.isWrapper; first | (rw [if_pos (by decide +kernel)]; kernel_rfl) | (rw [if_neg (by decide +kernel)]; exact ⟨rfl, rfl⟩)
theorem returns (os : Os) (started : os.Started) (H : Type) (enc : TypeId × Value → H) (F : Stop.Interp) :
    ReturnsInHanded Rows.treeReadsUptoRow.assume Tryz.pinned.checked os 3 .any (Rows.treeReadsUptoRow.pre enc Tryz.pinned.checked.prog Tryz.f3 (Rows.OpenSpec.upto Rows.treeReadsSpec))
      (((Rows.OpenSpec.upto Rows.treeReadsSpec).at F).post enc Tryz.pinned.checked.prog Tryz.f3 Rows.treeReadsUptoRow.apart Rows.treeReadsUptoRow.fresh Rows.treeReadsUptoRow.handsOn Rows.treeReadsUptoRow.again) := by
  rw [OpenClaim.pre_eq_preRow]
  exact liftedUpto os started H enc F
theorem saidUpto : Rows.TreeReadsUptoSaid :=
  OpenClaim.holds_of_cond 3 Tryz.f3 rfl rfl rfl rfl rfl rfl rfl ⟨rfl, rfl, rfl, rfl, rfl⟩ rfl rfl rfl rfl rfl named Tryz.func3 facts inst wrapped
    (fun os started H enc _ F => returns os started H enc F)
theorem plain (f : FuncId) (fn : Func) (hf : Tryz.pinned.checked.prog.funcNamed "cabinetry/cabinetrylaw06.TreeReads" = some f) (hfn : Tryz.pinned.checked.prog.funcs[f]? = some fn) :
    true = Tryz.pinned.checked.prog.looks [] ∧ ∀ (j : Nat) t, fn.params[j]? = some t → Tryz.pinned.checked.prog.wantsStandIn t = false := by
  obtain rfl : f = 3 := Option.some.inj ((show Tryz.prog.funcNamed "cabinetry/cabinetrylaw06.TreeReads" = some 3 by kernel_rfl).symm.trans hf) |>.symm
  obtain rfl : fn = Tryz.f3 := (Option.some.inj (Tryz.func3.symm.trans hfn)).symm
  refine ⟨by kernel_rfl, fun j t ht => ?_⟩
  rw [Tryz.params3] at ht
  have hm : t ∈ [9] := by simpa using Array.mem_of_getElem? ht
  have hall : ([9].all fun u => !Tryz.prog.wantsStandIn u) = true := by kernel_rfl
  exact (show Tryz.prog.wantsStandIn t = false by simpa using List.all_eq_true.1 hall t hm)
theorem cardUpto : Rows.TreeReadsUptoCardSaid :=
  Claim7.holds_tied_plain_at .later [] _ _ _ _ saidUpto (fun _ h => by cases h) (by kernel_rfl) (fun _ h => by cases h) treeReadsUpto_row_tie rfl ⟨rfl, rfl⟩ (by kernel_rfl) rfl plain (by kernel_rfl)
end Go.Proofs.YtelpkgbghhpgaaaGreatDoor.Sx
end
