/- TreeReads returns true for all texts whose data are not larger than a bound. The program's functions as plain code. -/
import Derived.Test.YtelpkgbghhpgaaaGreatDoorR11
set_option linter.all false
section
namespace Go.Proofs.YtelpkgbghhpgaaaGreatDoor.Sx
open AV
section
variable {call : CallFn} {ops : Array Oper} {its : List AItem} {fr0 fr fr' frE : Fr} {st0 st st' stE : St} {ex : Ex} {T : Nat → Fr × St} {N m p : Nat} {D : Nat → Prop}
theorem Agree.same {l : List Nat} {a a' b b' : Fr} (h : Agree l a b) (h1 : Same a a') (h2 : Same b b') : Agree l a' b' := fun t ht => by rw [h1.slot, h2.slot]; exact h t ht
theorem wstep_step {op : AOp} {v : AV} (hc : op.cls ≠ .loud) : wstep call fr st op = some (.ret v, fr', st') ↔ step fr st op = some (v, fr', st') := by
  have key : ∀ q : Option (AV × Fr × St), (match q with | some (v, fr', st') => some (Res.ret v, fr', st') | none => none) = some (.ret v, fr', st') ↔ q = some (v, fr', st') := fun q => by
    cases q with
    | none => simp
    | some x => obtain ⟨a, b, c⟩ := x; simp
  cases op <;> first
    | exact absurd rfl hc
    | exact key (step fr st _)
    | (simp only [wstep, step]; simp; done)
theorem wstep_ret {op : AOp} {r : Res} (hc : op.cls ≠ .loud) (h : wstep call fr st op = some (r, fr', st')) : ∃ v, r = .ret v := by
  have key : ∀ q : Option (AV × Fr × St), (match q with | some (v, fr', st') => some (Res.ret v, fr', st') | none => none) = some (r, fr', st') → ∃ v, r = .ret v := fun q h => by
    cases q with
    | none => cases h
    | some x => cases h; exact ⟨_, rfl⟩
  cases op <;> first
    | exact absurd rfl hc
    | exact key _ h
    | (simp only [wstep, step] at h; cases h; exact ⟨_, rfl⟩)
theorem item_run (h : Dr call ops its fr0 st0 ex frE stE T N) (hs : Shut ops its D) (hR : Rel its T D m fr st) (hn : Next ops its D N p) (hpN : p ≤ N) (hser0 : ∀ (li s : Nat) (cs : List AV), fr0.loc[li]? = some (s, cs) → s < fr0.ser)
    (hinv : ∀ x n a, (its.getD p AItem.dummy).op = .load x n a → ∀ li s off, x.ev fr = .lptr li s off → ∃ (s' : Nat) (cs : List AV), fr.loc[li]? = some (s', cs) ∧ s ≤ s')
    {cG frG : Fr} (hcG : guardA (T p).1 (its.getD p AItem.dummy).g = some (true, cG)) (hfG : guardA fr (its.getD p AItem.dummy).g = some (true, frG)) {r : Res} {cW : Fr} {cS : St} (hw : wstep call cG (T p).2 (its.getD p AItem.dummy).op = some (r, cW, cS))
    (hret : ∀ v, r = .ret v → p < N ∧ (T (p + 1)).1 = cW.put (its.getD p AItem.dummy).d v ∧ (T (p + 1)).2 = cS) (hpan : (its.getD p AItem.dummy).op.cls ≠ .loud → p < N) :
    ∃ frW stW, wstep call frG st (its.getD p AItem.dummy).op = some (r, frW, stW) ∧ frW.regs = frG.regs ∧ frW.ser = frG.ser ∧ frW.loc.length = frG.loc.length ∧ ((its.getD p AItem.dummy).op.cls = .loud → stW = cS ∧ frW.ftoks = cW.ftoks) ∧ ((its.getD p AItem.dummy).op.cls ≠ .loud → stW = st ∧ frW.ftoks = frG.ftoks) ∧
      (((its.getD p AItem.dummy).op.al? = none ∧ frW.loc = frG.loc ∧ cW.loc = cG.loc) ∨ (∃ lp, (its.getD p AItem.dummy).op.al? = some lp ∧ (∀ li : Nat, li ≠ lp → frW.loc[li]? = frG.loc[li]?) ∧ frW.loc[lp]? = cW.loc[lp]?) ∨ ((its.getD p AItem.dummy).op.isStore = true ∧ frW.loc = cW.loc)) := by
  have hpl := hn.lt
  have sc := guard_same hcG
  have sf := guard_same hfG
  have hag0 := agree h hn hR hpN
  have hag : Agree (its.getD p AItem.dummy).op.reads cG frG := Agree.same (fun t ht => hag0 t (List.mem_append.2 (.inl ht))) sc sf
  have hser : frG.ser = cG.ser := by rw [sf.ser, sc.ser, hR.ser, (range_ser h.t (Nat.zero_le N)).1, (range_ser h.t hpN).1]
  have hlen : frG.loc.length = cG.loc.length := by rw [sf.loc, sc.loc, hR.len, (range_ser h.t (Nat.zero_le N)).2, (range_ser h.t hpN).2]
  cases hc : (its.getD p AItem.dummy).op.cls with
  | reg =>
    have hnl : (its.getD p AItem.dummy).op.cls ≠ .loud := by rw [hc]; simp
    obtain ⟨v, rfl⟩ := wstep_ret hnl hw
    obtain ⟨rfl, rfl, hk⟩ := reg_congr hc ((wstep_step hnl).1 hw)
    refine ⟨frG, st, (wstep_step hnl).2 (hk frG st hag), rfl, rfl, rfl, (fun e => by cases e), fun _ => ⟨rfl, rfl⟩, .inl ⟨?_, rfl, rfl⟩⟩
    cases ha : (its.getD p AItem.dummy).op.al? with
    | none => rfl
    | some li => rw [(al_cls ha).1] at hc; cases hc
  | load =>
    have hnl : (its.getD p AItem.dummy).op.cls ≠ .loud := by rw [hc]; simp
    obtain ⟨v, rfl⟩ := wstep_ret hnl hw
    have hst := (wstep_step hnl).1 hw
    obtain ⟨x, n, a, hop⟩ : ∃ x n a, (its.getD p AItem.dummy).op = .load x n a := by
      revert hc
      cases (its.getD p AItem.dummy).op <;> intro hc <;> first
        | (cases hc; done)
        | (rename_i k x; cases k <;> cases hc; done)
        | exact ⟨_, _, _, rfl⟩
    rw [hop] at hst
    obtain ⟨rfl, rfl, hl⟩ := load_congr hst
    have hxc : x.ev cW = x.ev (T p).1 := ev_congr fun t ht => sc.slot t
    have hxf : x.ev frG = x.ev fr := ev_congr fun t ht => sf.slot t
    have hxx : x.ev fr = x.ev (T p).1 := ev_congr fun t ht => hag0 t (List.mem_append.2 (.inl (by rw [hop]; exact ht)))
    obtain ⟨h1, h2, h3⟩ := hret v rfl
    have hl' : ld (T p).1 (T p).2 (x.ev (T p).1) n a = some v := by
      rw [← hl, hxc]
      exact ld_congr (fun li ser off _ => by rw [sc.loc]) fun _ _ _ => rfl
    have := load_same h hs hR hn h1 hser0 hop (hinv x n a hop) hxx hcG hl' fun d hd => by rw [h2, put_slot, if_pos hd]
    refine ⟨frG, st, (wstep_step hnl).2 ?_, rfl, rfl, rfl, (fun e => by cases e), fun _ => ⟨rfl, rfl⟩, .inl ⟨by rw [hop]; rfl, rfl, rfl⟩⟩
    rw [hop]
    have hl2 : ld frG st (x.ev frG) n a = some v := by
      rw [hxf, ← this]
      exact ld_congr (fun li ser off _ => by rw [sf.loc]) fun _ _ _ => rfl
    simp only [step, hl2]
  | al =>
    have hnl : (its.getD p AItem.dummy).op.cls ≠ .loud := by rw [hc]; simp
    obtain ⟨v, rfl⟩ := wstep_ret hnl hw
    have hst := (wstep_step hnl).1 hw
    obtain ⟨li, ha⟩ : ∃ li, (its.getD p AItem.dummy).op.al? = some li := by
      revert hc
      cases (its.getD p AItem.dummy).op <;> intro hc <;> first
        | (cases hc; done)
        | (rename_i k x; cases k <;> cases hc; done)
        | exact ⟨_, rfl⟩
    obtain ⟨rfl, rfl, zs, rfl, hlt, hk⟩ := al_congr ha hst
    refine ⟨{ frG with loc := frG.loc.set li (frG.ser, zs) }, st, (wstep_step hnl).2 (hser ▸ hk frG st hag (by omega)), rfl, rfl, by simp, (fun e => by cases e), fun _ => ⟨rfl, rfl⟩, .inr (.inl ⟨li, ha, fun li' hne => ?_, ?_⟩)⟩
    · show (frG.loc.set li _)[li']? = _
      rw [List.getElem?_set_ne (Ne.symm hne)]
    · show (frG.loc.set li _)[li]? = (cG.loc.set li _)[li]?
      rw [List.getElem?_set_self (by omega), List.getElem?_set_self hlt, hser]
  | loud =>
    have hmp : m ≤ p := Nat.le_of_not_lt fun hlt => hn.new ((hR.loud p hpl hc).2 hlt)
    obtain ⟨hst, htk⟩ := range_st h.t hmp hpN fun q h1 h2 => no_loud h hR hn h1 h2
    have est : st = (T p).2 := hR.st.trans hst.symm
    have etk : frG.ftoks = cG.ftoks := by rw [sf.ftoks, sc.ftoks, hR.tok, htk]
    by_cases hsto : ∃ x y n, (its.getD p AItem.dummy).op = .store x y n
    · obtain ⟨x, y, n, hop⟩ := hsto
      have hloc : frG.loc = cG.loc := by
        rw [sf.loc, sc.loc]
        apply List.ext_getElem?
        intro li
        by_cases hal : ∃ q, q < its.length ∧ (its.getD q AItem.dummy).op.al? = some li
        · obtain ⟨q, hq, ha⟩ := hal
          have hqp : q ≠ p := fun e => by subst e; rw [(al_cls ha).1] at hc; cases hc
          rcases Nat.lt_or_gt_of_ne hqp with hlt | hlt
          · have hDq : D q := by
              refine hn.pre q hq hqp ?_
              cases hb : isBef (befTable ops its []) (its.getD q AItem.dummy).i (its.getD p AItem.dummy).i with
              | true => rfl
              | false =>
                have := (h.float hlt hpl hb).2.2.1 (al_cls ha).1
                rw [hop] at this; cases this
            rw [hR.locD q li hq ha hDq]
            exact (range_loc (by omega) fun r h1 h2 => keeps h (by omega) (not_store (no_loud h hR hn (by omega) h2)) (h.al_ne hq (by omega) (by omega) ha)).symm
          · have hDq : ¬ D q := fun hD => absurd hc (hn.above h hlt hq hD)
            rw [hR.locN q li hq ha hDq, show min m q = m by omega]
            exact (range_loc hmp fun r h1 h2 => keeps h (by omega) (not_store (no_loud h hR hn h1 h2)) (h.al_ne hq (by omega) (by omega) ha)).symm
        · rw [hR.locO li fun q hq e => hal ⟨q, hq, e⟩]
          exact (range_loc hmp fun r h1 h2 => keeps h (by omega) (not_store (no_loud h hR hn h1 h2)) (fun e => hal ⟨r, by omega, e⟩)).symm
      rw [hop] at hw hag
      obtain ⟨k1, k0, k2⟩ := store_congr hw
      refine ⟨{ frG with loc := cW.loc, ftoks := cW.ftoks }, cS, by rw [hop, est]; exact k2 frG hag etk hloc, rfl, rfl, ?_, fun _ => ⟨rfl, rfl⟩, fun e => absurd rfl e, .inr (.inr ⟨by rw [hop]; rfl, rfl⟩)⟩
      show cW.loc.length = _
      rw [k0, hlen]
    · obtain ⟨k1, k2⟩ := loud_congr hc (fun x y n e => hsto ⟨x, y, n, e⟩) hw
      refine ⟨{ frG with ftoks := cW.ftoks }, cS, by rw [est]; exact k2 frG hag etk hser, rfl, rfl, rfl, fun _ => ⟨rfl, rfl⟩, fun e => absurd rfl e, .inl ⟨?_, rfl, by rw [k1]⟩⟩
      cases ha : (its.getD p AItem.dummy).op.al? with
      | none => rfl
      | some li => rw [(al_cls ha).1] at hc; cases hc
end
end Go.Proofs.YtelpkgbghhpgaaaGreatDoor.Sx
end
section
namespace Go.Proofs.YtelpkgbghhpgaaaGreatDoor.Sx
open AV
section
variable {call : CallFn} {ops : Array Oper} {its : List AItem} {fr0 fr fr' frE : Fr} {st0' st st' stE : St} {ex : Ex} {T : Nat → Fr × St} {N m p nt : Nat} {P : Program}
variable {g0 g : Gh} {f : Fh} {st0 : St} {w0 w : World} {tmps : Array Value}
def DL (its : List AItem) (listed : Array Bool) (q : Nat) : Prop := listed.getD (its.getD q AItem.dummy).i false = true
theorem done_same (h : Dr call ops its fr0 st0' ex frE stE T N) {D : Nat → Prop} (hR : Rel its T D m fr st) (hall : ∀ q, q < its.length → D q) (hN : N = its.length) (hmN : m ≤ N) :
    (∀ t, slot t fr.regs = slot t (T N).1.regs) ∧ fr.loc = (T N).1.loc ∧ fr.ftoks = (T N).1.ftoks ∧ fr.ser = (T N).1.ser ∧ st = (T N).2 := by
  have nol : ∀ q, m ≤ q → q < N → (its.getD q AItem.dummy).op.cls ≠ .loud := fun q h1 h2 hl => by
    have := (hR.loud q (by omega) hl).1 (hall q (by omega)); omega
  obtain ⟨e1, e2⟩ := range_st h.t hmN (Nat.le_refl N) nol
  refine ⟨fun t => ?_, ?_, by rw [hR.tok, e2], ?_, by rw [hR.st, e1]⟩
  · by_cases hw : ∃ q, q < its.length ∧ (its.getD q AItem.dummy).d = some t
    · obtain ⟨q, hq, hd⟩ := hw
      rw [hR.slotD q t hq (hall q hq) hd]
      exact (range_slot h.t (by omega) (Nat.le_refl N) fun r h1 h2 => h.d_ne hq (by omega) (by omega) hd).symm
    · rw [hR.slotN t fun q hq _ e => hw ⟨q, hq, e⟩]
      exact (range_slot h.t (Nat.zero_le N) (Nat.le_refl N) fun r h1 h2 e => hw ⟨r, by omega, e⟩).symm
  · apply List.ext_getElem?
    intro li
    by_cases hal : ∃ q, q < its.length ∧ (its.getD q AItem.dummy).op.al? = some li
    · obtain ⟨q, hq, ha⟩ := hal
      rw [hR.locD q li hq ha (hall q hq)]
      exact (range_loc (by omega) fun r h1 h2 => keeps h (by omega) (not_store (nol r (by omega) h2)) (h.al_ne hq (by omega) (by omega) ha)).symm
    · rw [hR.locO li fun q hq e => hal ⟨q, hq, e⟩]
      exact (range_loc hmN fun r h1 h2 => keeps h (by omega) (not_store (nol r h1 h2)) (fun e => hal ⟨r, by omega, e⟩)).symm
  · rw [hR.ser, (range_ser h.t (Nat.zero_le N)).1, (range_ser h.t (Nat.le_refl N)).1]
end
end Go.Proofs.YtelpkgbghhpgaaaGreatDoor.Sx
end
section
namespace Go.Proofs.YtelpkgbghhpgaaaGreatDoor.Sx
open AV
section
variable {call : CallFn} {ops : Array Oper} {its : List AItem} {fr0 fr fr' frE : Fr} {st0' st st' stE : St} {ex : Ex} {T : Nat → Fr × St} {N m p nt : Nat} {P : Program}
variable {g0 g : Gh} {f : Fh} {st0 : St} {w0 w : World} {tmps : Array Value} {ds : List Deferred}
structure Chd (P : Program) (ops : Array Oper) (nt : Nat) (its : List AItem) : Prop where
  len : its.length = ops.size
  item : ∀ q, q < its.length → chkItem P ops nt (its.getD q AItem.dummy) = true
  sur : ∀ i, i < ops.size → ∃ q, q < its.length ∧ (its.getD q AItem.dummy).i = i
  edge : ∀ q, q < its.length → ∀ e ∈ edgesOf ops (its.getD q AItem.dummy).i, ∃ r, r < q ∧ (its.getD r AItem.dummy).i = e
theorem chd_of (h : chkDraw P ops nt its = true) : Chd P ops nt its ∧ pairsOk (befTable ops its []) its = true := by
  simp only [chkDraw, Bool.and_eq_true, beq_iff_eq] at h
  obtain ⟨⟨⟨⟨h1, h2⟩, h3⟩, h4⟩, h5⟩ := h
  refine ⟨⟨h1, fun q hq => ?_, fun i hi => ?_, fun q hq e he => ?_⟩, h5⟩
  · have := List.all_eq_true.1 h2 its[q] (List.getElem_mem hq)
    simpa [hq] using this
  · have := List.all_eq_true.1 h3 i (List.mem_range.2 hi)
    obtain ⟨it, h6, h7⟩ := List.any_eq_true.1 this
    obtain ⟨q, hq, rfl⟩ := List.getElem_of_mem h6
    exact ⟨q, hq, by simpa [hq] using h7⟩
  · rcases edges_get h4 q hq e he with h6 | h6
    · cases h6
    · exact h6
theorem draw_item (hcall : CallOk P g0 st0 w0 call) (hC : Chd P ops nt its) (h : Dr call ops its fr0 st0' ex frE stE T N) (hser0 : ∀ (li s : Nat) (cs : List AV), fr0.loc[li]? = some (s, cs) → s < fr0.ser) {Q : Exit → Act → World → Prop} (hQ : Ends ds Q g0 st0 w0 nt ex frE stE)
    {D : Nat → Prop} (hs : Shut ops its D) (hR : Rel its T D m fr st) (hn : Next ops its D N p) (hI : Inv g0 st0 w0 g f fr st w tmps) (hsz : tmps.size = nt) (K : Act → World → Prop)
    (hK : p < N → ∀ m' fr' st' g' f' w' tmps', Rel its T (fun q => D q ∨ q = p) m' fr' st' → Inv g0 st0 w0 g' f' fr' st' w' tmps' → tmps'.size = nt → K ⟨tmps', ds⟩ w') : wpOp P ops Q (its.getD p AItem.dummy).i K ⟨tmps, ds⟩ w := by
  have hpl := hn.lt
  have hit := hC.item p hpl
  unfold chkItem at hit
  split at hit
  case h_1 => cases hit
  rename_i o ho
  simp only [Bool.and_eq_true, beq_iff_eq] at hit
  obtain ⟨⟨⟨hd, hdl⟩, hg⟩, hop⟩ := hit
  have hdl' : ∀ t, (its.getD p AItem.dummy).d = some t → t < tmps.size := fun t e => by rw [e] at hdl; rw [hsz]; simpa using hdl
  have hNl : N < its.length → (its.getD N AItem.dummy).op.cls = .loud := fun hlt => by
    rcases h.t.fin with ⟨h1, _⟩ | ⟨_, v, _, h3⟩
    · omega
    · rw [run_one] at h3
      split at h3
      · cases h3
      · split at h3 <;> cases h3
      · split at h3
        · split at h3 <;> cases h3
        · rename_i hw
          by_cases hl : (its.getD N AItem.dummy).op.cls = .loud
          · exact hl
          · obtain ⟨v', hv'⟩ := wstep_ret hl hw; cases hv'
        · cases h3
  have hpN := hn.le h hNl
  have hag := agree h hn hR hpN
  have hagg : ∀ (t : Nat) (b : Bool), (its.getD p AItem.dummy).g = some (t, b) → slot t fr.regs = slot t (T p).1.regs := fun t b e => hag t (List.mem_append.2 (.inr (by rw [e]; exact List.mem_singleton.2 rfl)))
  have hlocp : ∀ lp, (its.getD p AItem.dummy).op.al? = some lp → fr.loc[lp]? = (T p).1.loc[lp]? := fun lp ha => by
    rw [hR.locN p lp hpl ha hn.new]
    exact (range_loc (Nat.min_le_right _ _) fun r h1 h2 => keeps h (by omega) (not_store (no_loud h hR hn (by omega) h2)) (h.al_ne hpl (by omega) (by omega) ha)).symm
  have hinv : ∀ x n a, (its.getD p AItem.dummy).op = .load x n a → ∀ li s off, x.ev fr = .lptr li s off → ∃ (s' : Nat) (cs : List AV), fr.loc[li]? = some (s', cs) ∧ s ≤ s' := fun x n a hopq li s off hx => by
    rw [hopq] at hop
    obtain ⟨dst, op, ty, pos, aft, gd⟩ := o
    simp only [chkOp] at hop
    cases op <;> first
      | (simp at hop; done)
      | skip
    simp only [Bool.and_eq_true] at hop
    have := opd_rep (ds := ds) hI hop.1
    rw [hx] at this
    obtain ⟨b, hb, _⟩ := this.lptr_inv
    exact hI.fi.locdom li s b hb
  have hmp : (its.getD p AItem.dummy).op.cls = .loud → m ≤ p := fun hl => Nat.le_of_not_lt fun hlt => hn.new ((hR.loud p hpl hl).2 hlt)
  unfold wpOp
  rw [ho]
  simp only
  have run : (∃ b cG, guardA (T p).1 (its.getD p AItem.dummy).g = some (b, cG) ∧ ((b = false ∧ p < N ∧ (T (p + 1)).1 = cG.put (its.getD p AItem.dummy).d (.tuple []) ∧ (T (p + 1)).2 = (T p).2) ∨
      (b = true ∧ ∃ r cW cS, wstep call cG (T p).2 (its.getD p AItem.dummy).op = some (r, cW, cS) ∧ ((∃ v, r = .ret v ∧ p < N ∧ (T (p + 1)).1 = cW.put (its.getD p AItem.dummy).d v ∧ (T (p + 1)).2 = cS) ∨ (∃ v, r = .panic v ∧ ex = .panic v ∧ stE = cS))))) := by
    rcases Nat.lt_or_ge p N with hlt | hge
    · have hst := h.t.step p hlt
      rw [run_one] at hst
      split at hst
      · cases hst
      · rename_i cG hcG
        split at hst
        case isFalse => cases hst
        simp only [Option.some.injEq, Prod.mk.injEq, true_and] at hst
        exact ⟨false, cG, hcG, .inl ⟨rfl, hlt, hst.1.symm, hst.2.symm⟩⟩
      · rename_i cG hcG
        split at hst
        case h_2 => cases hst
        case h_3 => cases hst
        rename_i v cW cS hw
        split at hst
        case isFalse => cases hst
        simp only [Option.some.injEq, Prod.mk.injEq, true_and] at hst
        exact ⟨true, cG, hcG, .inr ⟨rfl, _, cW, cS, hw, .inl ⟨v, rfl, hlt, hst.1.symm, hst.2.symm⟩⟩⟩
    · have hpe : p = N := by omega
      rcases h.t.fin with ⟨h1, _⟩ | ⟨_, v, h2, h3⟩
      · omega
      · rw [← hpe, run_one] at h3
        split at h3
        · cases h3
        · split at h3 <;> cases h3
        · rename_i cG hcG
          split at h3
          · split at h3 <;> cases h3
          · rename_i v' cW cS hw
            simp only [Option.some.injEq, Prod.mk.injEq, Ex.panic.injEq] at h3
            obtain ⟨rfl, rfl, rfl⟩ := h3
            exact ⟨true, cG, hcG, .inr ⟨rfl, _, _, _, hw, .inr ⟨_, rfl, h2, rfl⟩⟩⟩
          · cases h3
  obtain ⟨b, cG, hcG, hrun⟩ := run
  obtain ⟨frG, hfG⟩ := guard_agree hagg hcG
  obtain ⟨hw, hI1, hl1, hs1, ht1, hsl1⟩ := guard_ok hI hg hfG
  have sc := guard_same hcG
  have sf := guard_same hfG
  rcases hrun with ⟨rfl, hlt, hT1, hT2⟩ | ⟨rfl, r, cW, cS, hwst, hr⟩
  · simp only [hw, Bool.false_eq_true, if_false]
    have hput := hI1.put (ds := ds) (d := (its.getD p AItem.dummy).d) (v := .tuple []) (c := undef) undef_rep hdl'
    have hsz' : (Act.put ⟨tmps, ds⟩ (its.getD p AItem.dummy).d undef).tmps.size = nt := by rw [← hsz]; cases (its.getD p AItem.dummy).d <;> simp [Act.put]
    have heq : Act.put ⟨tmps, ds⟩ o.dst undef = ⟨(Act.put ⟨tmps, ds⟩ (its.getD p AItem.dummy).d undef).tmps, ds⟩ := by rw [hd]; cases (its.getD p AItem.dummy).d <;> rfl
    rw [heq]
    obtain ⟨q1, q2, q3⟩ := put_rest (fr := frG) (v := .tuple []) (its.getD p AItem.dummy).d
    obtain ⟨u1, u2, u3⟩ := put_rest (fr := cG) (v := .tuple []) (its.getD p AItem.dummy).d
    have hTl : ∀ li : Nat, (T (p + 1)).1.loc[li]? = (T p).1.loc[li]? := fun li => by rw [hT1, u1, sc.loc]
    refine hK hlt _ _ _ _ _ _ _ (hR.post h hs hn hlt (fr' := frG.put (its.getD p AItem.dummy).d (.tuple [])) (st' := st) (fun t ht => by rw [put_slot, if_neg ht, sf.slot]) (fun t ht => by rw [put_slot, if_pos ht, hT1, put_slot, if_pos ht]) (q3.trans sf.ser) (by rw [q1, sf.loc])
      (fun hl => ?_) (fun _ => ⟨rfl, q2.trans sf.ftoks⟩) ?_) hput hsz'
    · obtain ⟨e1, e2⟩ := range_st h.t (hmp hl) hpN fun q h1 h2 => no_loud h hR hn h1 h2
      exact ⟨by rw [hT2, e1, hR.st], by rw [q2, sf.ftoks, hT1, u2, sc.ftoks, e2, hR.tok]⟩
    · cases ha : (its.getD p AItem.dummy).op.al? with
      | none => exact .inl ⟨rfl, q1.trans sf.loc, hTl⟩
      | some lp => exact .inr (.inl ⟨lp, rfl, fun li _ => by rw [q1, sf.loc], by rw [q1, sf.loc, hTl, hlocp lp ha]⟩)
  · simp only [hw, if_true]
    refine .inl ?_
    obtain ⟨frW, stW, k1, k2, k3, k4, k5, k6, k7⟩ := item_run h hs hR hn hpN hser0 hinv hcG hfG hwst (fun v hv => by
      rcases hr with ⟨v', h1, h2, h3, h4⟩ | ⟨v', h1, _⟩
      · rw [h1] at hv; cases hv; exact ⟨h2, h3, h4⟩
      · rw [h1] at hv; cases hv) (fun hnl => by
      rcases hr with ⟨v', h1, h2, _⟩ | ⟨v', h1, _⟩
      · exact h2
      · rw [h1] at hwst; obtain ⟨v2, hv2⟩ := wstep_ret hnl hwst; cases hv2)
    refine wanted_wp hcall hI1 hop (fun li ha s cs hl => ?_) hd hdl' k1 (fun v hv g' f' w' tmps' hI' hs' => ?_) (fun v hv hth g' f' w' c hI' hrep => ?_)
    · rw [sf.ser, hR.ser, h.t.zero]
      rw [sf.loc, hlocp li ha] at hl
      obtain ⟨cs0, h6⟩ := range_serial h hpN (fun r hr => h.al_ne hpl (by omega) (by omega) ha) hl
      exact hser0 li s cs0 h6
    · rcases hr with ⟨v', h1, h2, h3, h4⟩ | ⟨v', h1, _⟩
      case inr => rw [h1] at hv; cases hv
      rw [h1] at hv; cases hv
      obtain ⟨q1, q2, q3⟩ := put_rest (fr := frW) (v := v) (its.getD p AItem.dummy).d
      obtain ⟨u1, u2, u3⟩ := put_rest (fr := cW) (v := v) (its.getD p AItem.dummy).d
      refine hK h2 _ _ _ _ _ _ _ (hR.post h hs hn h2 (fr' := frW.put (its.getD p AItem.dummy).d v) (st' := stW) (fun t ht => by rw [put_slot, if_neg ht, k2, sf.slot]) (fun t ht => by rw [put_slot, if_pos ht, h3, put_slot, if_pos ht]) (by rw [q3, k3, sf.ser]) (by rw [q1, k4, sf.loc])
        (fun hl => ⟨by rw [h4]; exact (k5 hl).1, by rw [q2, h3, u2]; exact (k5 hl).2⟩) (fun hl => ⟨(k6 hl).1, by rw [q2, (k6 hl).2, sf.ftoks]⟩) ?_) hI' (hs'.trans hsz)
      rcases k7 with ⟨l1, l2, l3⟩ | ⟨lp, l1, l2, l3⟩ | ⟨l1, l2⟩
      · exact .inl ⟨l1, by rw [q1, l2, sf.loc], fun li => by rw [h3, u1, l3, sc.loc]⟩
      · exact .inr (.inl ⟨lp, l1, fun li hne => by rw [q1, l2 li hne, sf.loc], by rw [q1, l3, h3, u1]⟩)
      · exact .inr (.inr ⟨l1, by rw [q1, l2, h3, u1]⟩)
    · rcases hr with ⟨v', h1, _⟩ | ⟨v', h1, h2, h3⟩
      · rw [h1] at hv; cases hv
      · rw [h1] at hv; cases hv
        rw [h2] at hQ
        have hlo : (its.getD p AItem.dummy).op.cls = .loud := by
          by_cases hl : (its.getD p AItem.dummy).op.cls = .loud
          · exact hl
          · obtain ⟨v2, hv2⟩ := wstep_ret hl hwst; rw [h1] at hv2; cases hv2
        have := (k5 hlo).1
        rw [this, ← h3] at hI' hrep
        exact hQ g' w' tmps c hI'.hst hI'.ext hth (thrown_rep hth hrep)
end
end Go.Proofs.YtelpkgbghhpgaaaGreatDoor.Sx
end
section
namespace Go.Proofs.YtelpkgbghhpgaaaGreatDoor.Sx
open AV
section
variable {call : CallFn} {ops : Array Oper} {its : List AItem} {fr0 fr fr' frE : Fr} {st0' st st' stE : St} {ex : Ex} {T : Nat → Fr × St} {N m p nt : Nat} {P : Program}
variable {g0 g : Gh} {f : Fh} {st0 : St} {w0 w : World} {tmps : Array Value} {ds : List Deferred}
def unl (n : Nat) (listed : Array Bool) : Nat := ((List.range n).filter fun i => !listed.getD i true).length
theorem getD_setb (l : Array Bool) (i j : Nat) (b : Bool) (h : i < l.size) : (l.setIfInBounds i true).getD j b = if i = j then true else l.getD j b := by
  simp only [Array.getD_eq_getD_getElem?, Array.getElem?_setIfInBounds]
  by_cases e : i = j
  · subst e; simp [h]
  · simp [e]
theorem unl_set {n i : Nat} {l : Array Bool} (hi : i < n) (hl : i < l.size) (hn : l.getD i true = false) : unl n (l.setIfInBounds i true) < unl n l := by
  unfold unl
  have e : ((List.range n).filter fun j => !(l.setIfInBounds i true).getD j true) = ((List.range n).filter fun j => !l.getD j true).filter fun j => j != i := by
    rw [List.filter_filter]
    apply List.filter_congr
    intro j _
    rw [getD_setb l i j true hl]
    by_cases h : i = j
    · subst h; simp
    · simp [h, Ne.symm h]
  rw [e]
  refine List.length_filter_lt_length_iff_exists.2 ⟨i, List.mem_filter.2 ⟨List.mem_range.2 hi, by simp [hn]⟩, by simp⟩
theorem getD_any {l : Array Bool} {i : Nat} (h : i < l.size) (a b : Bool) : l.getD i a = l.getD i b := by simp [Array.getD_eq_getD_getElem?, h]
theorem item_at (hC : Chd P ops nt its) {q : Nat} (hq : q < its.length) : ∃ o, ops[(its.getD q AItem.dummy).i]? = some o ∧ (its.getD q AItem.dummy).i < ops.size := by
  have hit := hC.item q hq
  unfold chkItem at hit
  split at hit
  · cases hit
  · rename_i o ho; exact ⟨o, ho, (Array.getElem?_eq_some_iff.1 ho).1⟩
theorem ready_iff {listed : Array Bool} {i : Nat} {o : Oper} (hls : listed.size = ops.size) (ho : ops[i]? = some o) : i ∈ Region.ready .any ops listed ↔ listed.getD i false = false ∧ ∀ e ∈ edgesOf ops i, listed.getD e false = true := by
  have hi : i < ops.size := (Array.getElem?_eq_some_iff.1 ho).1
  unfold Region.ready edgesOf
  rw [List.mem_filter, ho, getD_any (by omega) true false]
  simp only [List.mem_range, hi, true_and, Option.map_some, Option.getD_some, Bool.and_eq_true, Bool.not_eq_true', List.mem_map, List.mem_filter]
  refine and_congr Iff.rfl ⟨fun h e ⟨x, ⟨h1, h2⟩, h3⟩ => ?_, fun h => ?_⟩
  · have := Array.all_eq_true_iff_forall_mem.1 h x (by simpa using h1)
    subst h3
    simpa [h2] using this
  · refine Array.all_eq_true_iff_forall_mem.2 fun x hx => ?_
    cases hb : Region.binds .any x with
    | false => rfl
    | true => simpa using h x.on ⟨x, ⟨by simpa using hx, hb⟩, rfl⟩
theorem draw_any (hcall : CallOk P g0 st0 w0 call) (hC : Chd P ops nt its) (h : Dr call ops its fr0 st0' ex frE stE T N) (hser0 : ∀ (li s : Nat) (cs : List AV), fr0.loc[li]? = some (s, cs) → s < fr0.ser) {Q : Exit → Act → World → Prop} (hQ : Ends ds Q g0 st0 w0 nt ex frE stE) :
    ∀ (fuel : Nat) (listed : Array Bool) (m : Nat) (fr : Fr) (st : St) (tmps : Array Value) (g : Gh) (f : Fh) (w : World), listed.size = ops.size → unl ops.size listed ≤ fuel →
      (∀ i, listed.getD i false = true → ∀ e ∈ edgesOf ops i, listed.getD e false = true) → (∀ q, q < its.length → DL its listed q → q < N) → Rel its T (DL its listed) m fr st → Inv g0 st0 w0 g f fr st w tmps → tmps.size = nt →
      wpAny P .any ops Q fuel listed ⟨tmps, ds⟩ w := by
  have fin : ∀ (listed : Array Bool) (m : Nat) (fr : Fr) (st : St) (tmps : Array Value) (g : Gh) (f : Fh) (w : World), listed.size = ops.size → (∀ q, q < its.length → DL its listed q → q < N) → Rel its T (DL its listed) m fr st → Inv g0 st0 w0 g f fr st w tmps → tmps.size = nt →
      Region.ready .any ops listed = [] → Q .normal ⟨tmps, ds⟩ w := by
    intro listed m fr st tmps g f w hls hDN hR hI hsz hrd
    have hall : ∀ q, q < its.length → DL its listed q := by
      intro q
      induction q using Nat.strongRecOn with
      | ind q ih =>
        intro hq
        obtain ⟨o, ho, hi⟩ := item_at hC hq
        cases hb : listed.getD (its.getD q AItem.dummy).i false with
        | true => exact hb
        | false =>
          have : (its.getD q AItem.dummy).i ∈ Region.ready .any ops listed := (ready_iff hls ho).2 ⟨hb, fun e he => by
            obtain ⟨r, hr, rfl⟩ := hC.edge q hq e he
            exact ih r hr (by omega)⟩
          rw [hrd] at this; cases this
    have hN : N = its.length := by
      have := h.t.le
      rcases Nat.lt_or_ge N its.length with hlt | hge
      · have := hDN N hlt (hall N hlt); omega
      · omega
    have hmN : m ≤ N := by
      rcases hR.top with rfl | ⟨q, rfl, hq, _⟩
      · exact Nat.zero_le _
      · omega
    obtain ⟨s1, s2, s3, s4, s5⟩ := done_same h hR hall hN hmN
    rcases h.t.fin with ⟨_, rfl, rfl, rfl⟩ | ⟨h1, _⟩
    · subst s5
      exact hQ g f w tmps (hI.regs_of (fun t => by rw [← s1]; exact hI.fi.regs t) s2.symm s3.symm (by omega)) hsz
    · omega
  intro fuel
  induction fuel with
  | zero =>
    intro listed m fr st tmps g f w hls hun hcl hDN hR hI hsz
    have hrd : Region.ready .any ops listed = [] := by
      have h0 : ((List.range ops.size).filter fun i => !listed.getD i true) = [] := List.eq_nil_of_length_eq_zero (by unfold unl at hun; omega)
      unfold Region.ready
      rw [List.filter_eq_nil_iff] at h0 ⊢
      intro i hi hc
      simp only [Bool.and_eq_true] at hc
      exact h0 i hi hc.1
    exact ⟨hrd, fin listed m fr st tmps g f w hls hDN hR hI hsz hrd⟩
  | succ fuel ih =>
    intro listed m fr st tmps g f w hls hun hcl hDN hR hI hsz
    refine ⟨fin listed m fr st tmps g f w hls hDN hR hI hsz, fun i hi => ?_⟩
    have hio : i < ops.size := List.mem_range.1 (List.mem_filter.1 hi).1
    obtain ⟨p, hp, rfl⟩ := hC.sur i hio
    obtain ⟨o, ho, _⟩ := item_at hC hp
    obtain ⟨hnew, hedge⟩ := (ready_iff hls ho).1 hi
    have hs : Shut ops its (DL its listed) := fun q r hq hr hD hb => isBef_sound (D := fun i => listed.getD i false = true) hb hcl hD
    have hnD : ¬ DL its listed p := fun hD => by unfold DL at hD; rw [hnew] at hD; cases hD
    have hn : Next ops its (DL its listed) N p := ⟨hp, hnD, hDN, fun q hq hne hb => by
      have := isBef_sound (D := fun i => listed.getD i false = true ∨ i = (its.getD p AItem.dummy).i) hb (fun i hi e he => by
        rcases hi with hi | rfl
        · exact .inl (hcl i hi e he)
        · exact .inl (hedge e he)) (.inr rfl)
      rcases this with h1 | h1
      · exact h1
      · exact absurd h1 (h.idx_ne hq hp hne), fun q hq hD => by
      cases hb : isBef (befTable ops its []) (its.getD p AItem.dummy).i (its.getD q AItem.dummy).i with
      | false => rfl
      | true => exact absurd (hs q p hq hp hD hb) hnD⟩
    refine draw_item hcall hC h hser0 hQ hs hR hn hI hsz _ fun hpN m' fr' st' g' f' w' tmps' hR' hI' hs' => ?_
    have hDe : ∀ q, q < its.length → (DL its (listed.setIfInBounds (its.getD p AItem.dummy).i true) q ↔ DL its listed q ∨ q = p) := fun q hq => by
      unfold DL
      rw [getD_setb _ _ _ _ (by omega)]
      by_cases hqp : q = p
      · subst hqp; simp
      · rw [if_neg (h.idx_ne hp hq (Ne.symm hqp))]
        exact ⟨.inl, fun h => h.resolve_right hqp⟩
    refine ih _ m' fr' st' tmps' g' f' w' (by simp [hls]) ?_ (fun i hi e he => ?_) (fun q hq hD => ?_) ?_ hI' hs'
    · have := unl_set (n := ops.size) (l := listed) hio (by omega) (by rw [getD_any (by omega) true false]; exact hnew)
      omega
    · rw [getD_setb _ _ _ _ (by omega)] at hi ⊢
      split
      · rfl
      · split at hi
        · rename_i e2; subst e2; exact hedge e he
        · exact hcl i hi e he
    · rcases (hDe q hq).1 hD with hD | rfl
      · exact hDN q hq hD
      · exact hpN
    · exact ⟨fun q t hq hD => hR'.slotD q t hq ((hDe q hq).1 hD), fun t ht => hR'.slotN t fun q hq hD => ht q hq ((hDe q hq).2 hD), fun q hq hl => (hDe q hq).trans (hR'.loud q hq hl), hR'.top, hR'.st, hR'.tok,
        fun q li hq ha hD => hR'.locD q li hq ha ((hDe q hq).1 hD), fun q li hq ha hD => hR'.locN q li hq ha fun hD' => hD ((hDe q hq).2 hD'), hR'.locO, hR'.ser, hR'.len⟩
end
section
variable {g0 g g' : Gh} {st0 st : St} {w0 w w' : World} {f f' : Fh} {fr : Fr} {tmps : Array Value} {ds : List Deferred} {P : Program} {n n' m nt : Nat} {o : Oper} {I : Nat → Nat → Prop} {ops : Array Oper}
theorem draw_wp {call : CallFn} (hcall : CallOk P g0 st0 w0 call) (hm : P.follows .mixedOrders = true) {Q : Exit → Act → World → Prop} {ex : Ex} {fr' : Fr} {st' : St} (hQ : Ends ds Q g0 st0 w0 nt ex fr' st')
    {its : List AItem} (hI : Inv g0 st0 w0 g f fr st w tmps) (hsz : tmps.size = nt) (hck : chkDraw P ops nt its = true) (hlt : ∀ (li s : Nat) (cs : List AV), fr.loc[li]? = some (s, cs) → s < fr.ser)
    (hr : runItems call its fr st = some (ex, fr', st')) : wpAny P .any ops Q ops.size (Array.replicate ops.size false) ⟨tmps, ds⟩ w := by
  obtain ⟨hC, hp⟩ := chd_of hck
  obtain ⟨T, N, hT⟩ := trace_ex its fr st ex fr' st' hr
  have hD : Dr call ops its fr st ex fr' st' T N := ⟨hT, pairs_get hp⟩
  have hno : ∀ q, ¬ DL its (Array.replicate ops.size false) q := fun q hq => by
    unfold DL at hq
    rw [Array.getD_eq_getD_getElem?, Array.getElem?_replicate] at hq
    split at hq <;> cases hq
  refine draw_any hcall hC hD hlt hQ ops.size _ 0 fr st tmps g f w (by simp) ?_ (fun i hi => ?_) (fun q _ hq => absurd hq (hno q)) ⟨fun p t _ hDp => absurd hDp (hno p), fun t _ => by rw [hT.zero], fun q _ _ => ⟨fun hq => absurd hq (hno q), fun hq => by omega⟩, .inl rfl, by rw [hT.zero], by rw [hT.zero],
    fun q li _ _ hq => absurd hq (hno q), fun q li _ _ _ => by rw [show min 0 q = 0 by omega, hT.zero], fun li _ => by rw [hT.zero], by rw [hT.zero], by rw [hT.zero]⟩ hI hsz
  · unfold unl
    exact Nat.le_trans (List.length_filter_le _ _) (by simp)
  · rw [Array.getD_eq_getD_getElem?, Array.getElem?_replicate] at hi
    split at hi <;> cases hi
end
end Go.Proofs.YtelpkgbghhpgaaaGreatDoor.Sx
end
