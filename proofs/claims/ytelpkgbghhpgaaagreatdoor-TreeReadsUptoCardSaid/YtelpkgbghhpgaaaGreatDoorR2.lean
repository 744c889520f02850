/- TreeReads returns true for all texts whose data are not larger than a bound. The program's functions as plain code. -/
import Derived.Test.YtelpkgbghhpgaaaGreatDoorR1
set_option linter.all false
section
namespace Go.Proofs.YtelpkgbghhpgaaaGreatDoor.Sx
open AV
section
variable {g0 g : Gh} {st0 st : St} {w0 w w' : World} {f f' : Fh} {fr : Fr} {tmps : Array Value}
theorem FInv.mono {g' : Gh} {n n' : Nat} (h : FInv g f fr n w tmps) (hgr : Grow g n w g' n' w') (hb : ∀ o b, FClaim f fr o b → w'.heap[b]? = w.heap[b]?)
    (hi : ∀ o b, FClaim f fr o b → ∀ p, g'.imm b p → g.imm b p) : FInv g' f fr n' w' tmps where
  regs t := (h.regs t).mono hgr (FGrow.refl _)
  loc li ser cs h1 h2 := by
    obtain ⟨b, vs, e, h3, h4, h5, h6⟩ := h.loc li ser cs h1 h2
    exact ⟨b, vs, e, h3, (hb (.loc li) b ⟨ser, cs, h1, h2, h3⟩).trans h4, h5, fun i a a' => ⟨(h6 i a a').1.mono hgr (FGrow.refl _), (h6 i a a').2⟩⟩
  locdom := h.locdom
  locser := h.locser
  tok k L h1 h2 := by
    obtain ⟨c, sz, h3, h4⟩ := h.tok k L h1 h2
    have hcl : ∀ b, c.ownBlock = some b → FClaim f fr (.tok k) b := fun b hb => ⟨L, (c, sz), h1, h2, h3, hb⟩
    exact ⟨c, sz, h3, h4.mono (fun b hc => hb _ _ (hcl b hc)) fun b hc => hi _ _ (hcl b hc)⟩
  tokdom := h.tokdom
  noimm li b hc o hI := h.noimm li b hc o (hi _ _ hc o hI)
theorem Inv.heapStore (h : Inv g0 st0 w0 g f fr st w tmps) {id : Nat} {cs cs' : List AV} {vs vs' : Array Value} {e : TypeId} (hcs : st.cells id = some cs) (hw : w.heap[g.blk id]? = some (.cells vs e (0, 0)))
    (hn : cs'.length = vs'.size) (hv : ∀ i (h : i < cs'.length) (h' : i < vs'.size), Rep g Fh.none (id + 1) w cs'[i] vs'[i] ∧ vs'[i].oneCell' = true)
    (hrow : ∀ (off sz : Nat) (els : List (List AV)), cs'[off]? = some (.slice sz els (.cell id off)) → cs[off]? = some (.slice sz els (.cell id off)))
    (hdom : ∀ (off L : Nat) (v : AV), cs[off]? = some v → DomOk id off L v → ∃ v', cs'[off]? = some v' ∧ DomOk id off L v') :
    Inv g0 st0 w0 g f fr (st.setCells id cs') (w.setRow (g.blk id) vs') tmps := by
  have hid := St.cells_lt hcs
  have hc : Chg (· = g.blk id) w (w.setRow (g.blk id) vs') := Chg.setRow _ _ _
  have hcell : ∀ k o, g.imm k o → (w.setRow (g.blk id) vs').cell? ⟨k, o, none⟩ = w.cell? ⟨k, o, none⟩ := fun k o hk => cell_of_block (hc.block k (h.h.immlt k o hk) (fun e => h.h.noimm id hid o (e ▸ hk))) o
  have hgr : ∀ n, Grow g n w g n (w.setRow (g.blk id) vs') := fun n => Grow.wide (I := g.imm) (fun _ _ h => h) hcell
  have hX : ∀ o k, HClaim g st o k ∨ FClaim f fr o k → o ≠ .obj id → ¬ k = g.blk id := fun o k ho hne e => by subst e; exact hne (h.uniq _ _ _ ho (.inl ⟨hid, rfl⟩))
  have hcl : ∀ o k, HClaim g (st.setCells id cs') o k → HClaim g st o k := fun o k ho => by
    cases o with
    | loc => exact ho
    | tok => exact ho
    | obj j => exact ⟨by have := ho.1; rwa [size_setCells] at this, ho.2⟩
    | row j off =>
      obtain ⟨cs1, sz, els, c, h1, h2, h3⟩ := ho
      rcases setCells_get (St.cells_eq.1 h1) with ⟨rfl, e⟩ | ⟨_, e⟩
      · cases e; exact ⟨cs, sz, els, c, hcs, hrow off sz els h2, h3⟩
      · exact ⟨cs1, sz, els, c, St.cells_eq.2 e, h2, h3⟩
  refine ⟨⟨?_, ?_, ?_, ?_, ?_, ?_⟩, ?_, ?_, ?_, ?_⟩
  · intro j x hx
    rcases setCells_get hx with ⟨rfl, rfl⟩ | ⟨hj, hx⟩
    · exact ⟨vs', e, setRow_heap w _ vs vs' e _ hw, hn, fun i a a' => ⟨(hv i a a').1.mono (hgr _) (FGrow.refl _), (hv i a a').2⟩⟩
    · have hjs : j < st.size := (List.getElem?_eq_some_iff.1 hx).1
      have hb : (w.setRow (g.blk id) vs').heap[g.blk j]? = w.heap[g.blk j]? := hc.block _ (h.h.obj_lt hjs) (hX (.obj j) _ (.inl ⟨hjs, rfl⟩) (by simpa using hj))
      have := h.h.obj j x hx
      cases x with
      | cells c =>
        obtain ⟨v1, e1, h1, h2, h3⟩ := this
        exact ⟨v1, e1, hb.trans h1, h2, fun i a b => ⟨(h3 i a b).1.mono (hgr _) (FGrow.refl _), (h3 i a b).2⟩⟩
      | map es =>
        obtain ⟨entries, clock, h1, h2, h3⟩ := this
        refine ⟨entries, clock, hb.trans h1, h2, fun i a b => ?_⟩
        obtain ⟨k1, k2, k3, k4⟩ := h3 i a b
        exact ⟨k1, k2.mono (fun _ _ h => h) hcell, k3, k4.mono ⟨Nat.le_refl _, fun _ _ => rfl, fun _ _ _ _ _ h => h, fun _ _ h => h, hcell⟩ (FGrow.refl _)⟩
  · exact fun o k ho => by simpa using h.h.lt o k (hcl o k ho)
  · exact fun j hj o => h.h.noimm j (by rwa [size_setCells] at hj) o
  · exact fun b o hb => by simpa using h.h.immlt b o hb
  · intro j cs1 off sz els h1 h2
    have hold : ∃ cs0, st.cells j = some cs0 ∧ cs0[off]? = some (.slice sz els (.cell j off)) := by
      rcases setCells_get (St.cells_eq.1 h1) with ⟨rfl, e⟩ | ⟨_, e⟩
      · cases e; exact ⟨cs, hcs, hrow off sz els h2⟩
      · exact ⟨cs1, St.cells_eq.2 e, h2⟩
    obtain ⟨cs0, h3, h4⟩ := hold
    obtain ⟨c, h5, h6⟩ := h.h.row j cs0 off sz els h3 h4
    refine ⟨c, h5, h6.mono (fun b hb => ?_) fun _ _ _ h => h⟩
    have hk : HClaim g st (.row j off) b := ⟨cs0, sz, els, (c, sz), h3, h4, h5, hb⟩
    exact hc.block b (h.h.lt _ _ hk) (hX _ _ (.inl hk) (by simp))
  · intro j off L x hj hx
    rw [size_setCells] at hj
    obtain ⟨cs1, v, h1, h2, h3⟩ := h.h.dom j off L x hj hx
    by_cases e : j = id
    · subst e
      rw [hcs] at h1; cases h1
      obtain ⟨v', h4, h5⟩ := hdom off L v h2 h3
      exact ⟨cs', v', setCells_new hid, h4, h5⟩
    · exact ⟨cs1, v, St.cells_eq.2 ((setCells_old e).trans (St.cells_eq.1 h1)), h2, h3⟩
  · rw [size_setCells]
    exact h.fi.mono (hgr _) (fun o b ho => hc.block b (h.flt o b ho).1 (hX _ _ (.inr ho) (fun e => by subst e; exact ho))) fun _ _ _ _ h => h
  · exact fun o b ho => ⟨by simpa using (h.flt o b ho).1, (h.flt o b ho).2⟩
  · exact fun o o' b ho ho' => h.uniq o o' b (ho.imp (hcl _ _) _root_.id) (ho'.imp (hcl _ _) _root_.id)
  · refine h.ext.step hc (fun b hb => .inr ⟨.obj id, hid, hb.symm⟩) ?_ (fun _ _ h => .inl h) fun o b ho _ => .inr ⟨o, hcl o b ho⟩
    rw [size_setCells]; exact hgr _
theorem home_dom {id off L L' : Nat} {old : AV} (hh : homeOk id off L old = true) (hd : DomOk id off L' old) : L' < L := by
  cases old with
  | slice sz els own =>
    cases own with
    | cell i o =>
      simp only [homeOk, Bool.and_eq_true, beq_iff_eq, decide_eq_true_eq] at hh
      have := hd hh.1.1 hh.1.2
      omega
    | spent i o =>
      simp only [homeOk, Bool.and_eq_true, beq_iff_eq, decide_eq_true_eq] at hh
      have := hd hh.1.1 hh.1.2
      omega
    | _ => simp [homeOk] at hh
  | nilslice => exact hd.elim
  | _ => simp [homeOk] at hh
theorem Inv.heapTake (h : Inv g0 st0 w0 g f fr st w tmps) {id off k sz : Nat} {els : List (List AV)} {cs : List AV} {vs : Array Value} {e : TypeId} {old : AV} {c : Value} (hcs : st.cells id = some cs)
    (hw : w.heap[g.blk id]? = some (.cells vs e (0, 0))) (hold : cs[off]? = some old) (hk : fr.ftoks[k]? = some els.length) (hne : els.length ≠ 0)
    (hv : Rep g f st.size w (.slice sz els (.ftok k)) c) (hh : homeOk id off els.length old = true) :
    Inv g0 st0 w0 (g.head id off els.length (c, sz)) f { fr with ftoks := fr.ftoks.set k 0 } (st.setCells id (cs.set off (.slice sz els (.cell id off)))) (w.setRow (g.blk id) (vs.setIfInBounds off c)) tmps := by
  have hid := St.cells_lt hcs
  have hoff : off < cs.length := (List.getElem?_eq_some_iff.1 hold).1
  have hkl : k < fr.ftoks.length := (List.getElem?_eq_some_iff.1 hk).1
  obtain ⟨hpl, hown⟩ := hv.slice_inv
  have hfh : f.fh k els.length = some (c, sz) := hown
  have hc : Chg (· = g.blk id) w (w.setRow (g.blk id) (vs.setIfInBounds off c)) := Chg.setRow _ _ _
  have hcell : ∀ k o, g.imm k o → (w.setRow (g.blk id) (vs.setIfInBounds off c)).cell? ⟨k, o, none⟩ = w.cell? ⟨k, o, none⟩ := fun k o hk => cell_of_block (hc.block k (h.h.immlt k o hk) (fun e => h.h.noimm id hid o (e ▸ hk))) o
  have hfree : g.hdr id off els.length = none := by
    cases hx : g.hdr id off els.length with
    | none => rfl
    | some x =>
      obtain ⟨cs1, v, h1, h2, h3⟩ := h.h.dom id off _ x hid hx
      rw [hcs] at h1; cases h1
      rw [hold] at h2; cases h2
      exact absurd (home_dom hh h3) (Nat.lt_irrefl _)
  have hhd : ∀ i o l, (g.head id off els.length (c, sz)).hdr i o l = if i = id ∧ o = off ∧ l = els.length then some (c, sz) else g.hdr i o l := fun _ _ _ => rfl
  have hgr : ∀ n, Grow g n w (g.head id off els.length (c, sz)) n (w.setRow (g.blk id) (vs.setIfInBounds off c)) := fun n => ⟨Nat.le_refl _, fun _ _ => rfl, fun i o l x _ hx => by
    rw [hhd, if_neg]
    · exact hx
    · rintro ⟨rfl, rfl, rfl⟩; rw [hfree] at hx; exact absurd hx (by simp), fun _ _ h => h, hcell⟩
  have hX : ∀ o k, HClaim g st o k ∨ FClaim f fr o k → o ≠ .obj id → ¬ k = g.blk id := fun o k ho hne e => by subst e; exact hne (h.uniq _ _ _ ho (.inl ⟨hid, rfl⟩))
  obtain ⟨bk, hbk, hbkl⟩ : ∃ bk, c.ownBlock = some bk ∧ OwnRow w g.imm c sz els.length := by
    obtain ⟨c1, sz1, h1, h2⟩ := h.fi.tok k els.length hk hne
    rw [hfh] at h1; cases h1
    obtain ⟨b, hb, _⟩ := h2.block
    exact ⟨b, hb, h2⟩
  have htok : FClaim f fr (.tok k) bk := ⟨els.length, (c, sz), hk, hne, hfh, hbk⟩
  have hbne : ¬ bk = g.blk id := hX _ _ (.inr htok) (by simp)
  have hset : ∀ (o : Nat) (v : AV), (cs.set off (.slice sz els (.cell id off)))[o]? = some v → (o = off ∧ v = .slice sz els (.cell id off)) ∨ (o ≠ off ∧ cs[o]? = some v) := fun o v hx => by
    rw [List.getElem?_set] at hx
    by_cases e : off = o
    · subst e; simp [hoff] at hx; exact .inl ⟨rfl, hx.symm⟩
    · rw [if_neg e] at hx; exact .inr ⟨Ne.symm e, hx⟩
  have hcl : ∀ o b, HClaim (g.head id off els.length (c, sz)) (st.setCells id (cs.set off (.slice sz els (.cell id off)))) o b → (HClaim g st o b ∧ o ≠ .row id off) ∨ (o = .row id off ∧ b = bk) := fun o b ho => by
    cases o with
    | loc => exact ho.elim
    | tok => exact ho.elim
    | obj j => exact .inl ⟨⟨by have := ho.1; rwa [size_setCells] at this, ho.2⟩, by simp⟩
    | row j p =>
      obtain ⟨cs1, sz1, els1, c1, h1, h2, h3, h4⟩ := ho
      rcases setCells_get (St.cells_eq.1 h1) with ⟨rfl, e⟩ | ⟨hj, e⟩
      · cases e
        rcases hset _ _ h2 with ⟨rfl, e2⟩ | ⟨hp, e2⟩
        · cases e2
          rw [hhd, if_pos ⟨rfl, rfl, rfl⟩] at h3; cases h3
          rw [hbk] at h4; cases h4; exact .inr ⟨rfl, rfl⟩
        · rw [hhd, if_neg (fun x => hp x.2.1)] at h3
          exact .inl ⟨⟨cs, sz1, els1, c1, hcs, e2, h3, h4⟩, fun e1 => by cases e1; exact hp rfl⟩
      · rw [hhd, if_neg (fun x => hj x.1)] at h3
        exact .inl ⟨⟨cs1, sz1, els1, c1, St.cells_eq.2 e, h2, h3, h4⟩, by simp [hj]⟩
  have hfcl : ∀ o b, FClaim f { fr with ftoks := fr.ftoks.set k 0 } o b → FClaim f fr o b ∧ o ≠ .tok k := fun o b ho => by
    cases o with
    | obj => exact ho.elim
    | row => exact ho.elim
    | loc => exact ⟨ho, by simp⟩
    | tok j =>
      obtain ⟨L, c1, h1, h2, h3⟩ := ho
      have h1' : (fr.ftoks.set k 0)[j]? = some L := h1
      rw [List.getElem?_set] at h1'
      by_cases e : k = j
      · subst e; simp [hkl] at h1'; exact absurd h1'.symm h2
      · rw [if_neg e] at h1'; exact ⟨⟨L, c1, h1', h2, h3⟩, by simpa using Ne.symm e⟩
  refine ⟨⟨?_, ?_, ?_, ?_, ?_, ?_⟩, ?_, ?_, ?_, ?_⟩
  · intro j x hx
    rcases setCells_get hx with ⟨rfl, rfl⟩ | ⟨hj, hx⟩
    · obtain ⟨v1, e1, h1, h2, h3⟩ := h.h.obj j _ (St.cells_eq.1 hcs)
      rw [hw] at h1; cases h1
      refine ⟨_, e, setRow_heap w _ vs _ e _ hw, by simpa using h2, fun i a a' => ?_⟩
      have a2 : i < vs.size := by simpa using a'
      rw [List.getElem_set, Array.getElem_setIfInBounds a2]
      by_cases hi : off = i
      · subst hi
        simp only [if_true]
        exact ⟨.slice sz els _ c (hpl.mono (fun _ _ h => h) hcell) ⟨Nat.lt_succ_self _, by rw [hhd, if_pos ⟨rfl, rfl, rfl⟩]⟩, hpl.oneCell⟩
      · simp only [if_neg hi]
        have a1 : i < cs.length := by simpa using a
        exact ⟨(h3 i a1 (by rw [← h2]; exact a1)).1.mono (hgr _) (FGrow.refl _), (h3 i a1 (by rw [← h2]; exact a1)).2⟩
    · have hjs : j < st.size := (List.getElem?_eq_some_iff.1 hx).1
      have hb : (w.setRow (g.blk id) (vs.setIfInBounds off c)).heap[g.blk j]? = w.heap[g.blk j]? := hc.block _ (h.h.obj_lt hjs) (hX (.obj j) _ (.inl ⟨hjs, rfl⟩) (by simpa using hj))
      have := h.h.obj j x hx
      cases x with
      | cells c1 =>
        obtain ⟨v1, e1, h1, h2, h3⟩ := this
        exact ⟨v1, e1, hb.trans h1, h2, fun i a b => ⟨(h3 i a b).1.mono (hgr _) (FGrow.refl _), (h3 i a b).2⟩⟩
      | map es =>
        obtain ⟨entries, clock, h1, h2, h3⟩ := this
        refine ⟨entries, clock, hb.trans h1, h2, fun i a b => ?_⟩
        obtain ⟨k1, k2, k3, k4⟩ := h3 i a b
        exact ⟨k1, k2.mono (fun _ _ h => h) hcell, k3, k4.mono ⟨Nat.le_refl _, fun _ _ => rfl, fun _ _ _ _ _ h => h, fun _ _ h => h, hcell⟩ (FGrow.refl _)⟩
  · intro o b ho
    rcases hcl o b ho with ⟨h', _⟩ | ⟨_, rfl⟩
    · simpa using h.h.lt o b h'
    · simpa using (h.flt _ _ htok).1
  · exact fun j hj o => h.h.noimm j (by rwa [size_setCells] at hj) o
  · exact fun b o hb => by simpa using h.h.immlt b o hb
  · intro j cs1 p sz1 els1 h1 h2
    rcases setCells_get (St.cells_eq.1 h1) with ⟨rfl, e1⟩ | ⟨hj, e1⟩
    · cases e1
      rcases hset _ _ h2 with ⟨rfl, e2⟩ | ⟨hp, e2⟩
      · cases e2
        exact ⟨c, by rw [hhd, if_pos ⟨rfl, rfl, rfl⟩], hbkl.mono (fun b hb => by rw [hbk] at hb; cases hb; exact hc.block bk (h.flt _ _ htok).1 hbne) fun _ _ _ h => h⟩
      · obtain ⟨c1, h5, h6⟩ := h.h.row j cs p sz1 els1 hcs e2
        refine ⟨c1, by rw [hhd, if_neg (fun x => hp x.2.1)]; exact h5, h6.mono (fun b hb => ?_) fun _ _ _ h => h⟩
        have hk : HClaim g st (.row j p) b := ⟨cs, sz1, els1, (c1, sz1), hcs, e2, h5, hb⟩
        exact hc.block b (h.h.lt _ _ hk) (hX _ _ (.inl hk) (by simp))
    · obtain ⟨c1, h5, h6⟩ := h.h.row j cs1 p sz1 els1 (St.cells_eq.2 e1) h2
      refine ⟨c1, by rw [hhd, if_neg (fun x => hj x.1)]; exact h5, h6.mono (fun b hb => ?_) fun _ _ _ h => h⟩
      have hk : HClaim g st (.row j p) b := ⟨cs1, sz1, els1, (c1, sz1), St.cells_eq.2 e1, h2, h5, hb⟩
      exact hc.block b (h.h.lt _ _ hk) (hX _ _ (.inl hk) (by simp))
  · intro j p L x hj hx
    rw [size_setCells] at hj
    rw [hhd] at hx
    by_cases e1 : j = id ∧ p = off
    · obtain ⟨rfl, rfl⟩ := e1
      refine ⟨_, .slice sz els (.cell j p), setCells_new hid, by simp [hoff], fun _ _ => ?_⟩
      by_cases e2 : L = els.length
      · omega
      · rw [if_neg (fun x => e2 x.2.2)] at hx
        obtain ⟨cs1, v, h1, h2, h3⟩ := h.h.dom j p L x hid hx
        rw [hcs] at h1; cases h1
        rw [hold] at h2; cases h2
        exact Nat.le_of_lt (home_dom hh h3)
    · rw [if_neg (fun x => e1 ⟨x.1, x.2.1⟩)] at hx
      obtain ⟨cs1, v, h1, h2, h3⟩ := h.h.dom j p L x hj hx
      by_cases e2 : j = id
      · subst e2
        rw [hcs] at h1; cases h1
        have hp : off ≠ p := fun e3 => e1 ⟨rfl, e3.symm⟩
        exact ⟨_, v, setCells_new hid, by simp [hp, h2], h3⟩
      · exact ⟨cs1, v, St.cells_eq.2 ((setCells_old e2).trans (St.cells_eq.1 h1)), h2, h3⟩
  · rw [size_setCells]
    have hm := h.fi.mono (hgr st.size) (fun o b ho => hc.block b (h.flt o b ho).1 (hX _ _ (.inr ho) (fun e => by subst e; exact ho))) fun _ _ _ _ h => h
    refine ⟨hm.regs, hm.loc, hm.locdom, hm.locser, fun j L h1 h2 => ?_, fun j L x hx => ?_, fun li b hb => hm.noimm li b (hfcl _ _ hb).1⟩
    · have h1' : (fr.ftoks.set k 0)[j]? = some L := h1
      rw [List.getElem?_set] at h1'
      by_cases e1 : k = j
      · subst e1; simp [hkl] at h1'; exact absurd h1'.symm h2
      · rw [if_neg e1] at h1'; exact hm.tok j L h1' h2
    · obtain ⟨h1, cur, h2, h3⟩ := hm.tokdom j L x hx
      refine ⟨h1, ?_⟩
      by_cases e1 : k = j
      · subst e1; exact ⟨0, by simp [hkl], .inl rfl⟩
      · exact ⟨cur, by simp [e1, h2], h3⟩
  · exact fun o b ho => ⟨by simpa using (h.flt o b (hfcl o b ho).1).1, (h.flt o b (hfcl o b ho).1).2⟩
  ·
    have key : ∀ o b, HClaim (g.head id off els.length (c, sz)) (st.setCells id (cs.set off (.slice sz els (.cell id off)))) o b ∨ FClaim f { fr with ftoks := fr.ftoks.set k 0 } o b →
        ((HClaim g st o b ∨ FClaim f fr o b) ∧ o ≠ .row id off ∧ o ≠ .tok k) ∨ (o = .row id off ∧ b = bk) := fun o b ho => by
      rcases ho with ho | ho
      · rcases hcl o b ho with ⟨h1, h2⟩ | h1
        · exact .inl ⟨.inl h1, h2, fun e => by subst e; exact h1⟩
        · exact .inr h1
      · exact .inl ⟨.inr (hfcl o b ho).1, fun e => by subst e; exact ho, (hfcl o b ho).2⟩
    intro o o' b ho ho'
    rcases key _ _ ho with ⟨k1, k2, k3⟩ | ⟨rfl, rfl⟩ <;> rcases key _ _ ho' with ⟨k4, k5, k6⟩ | ⟨rfl, k7⟩
    · exact h.uniq o o' b k1 k4
    · subst k7; exact absurd (h.uniq _ _ _ k1 (.inr htok)) k3
    · exact absurd (h.uniq _ _ _ k4 (.inr htok)) k6
    · rfl
  · refine h.ext.step hc (fun b hb => .inr ⟨.obj id, hid, hb.symm⟩) ?_ (fun _ _ h => .inl h) fun o b ho hlt => ?_
    · rw [size_setCells]; exact hgr _
    · rcases hcl o b ho with ⟨h1, _⟩ | ⟨_, rfl⟩
      · exact .inr ⟨o, h1⟩
      · rcases (h.flt _ _ htok).2 with h2 | h2
        · omega
        · exact .inl h2
end
end Go.Proofs.YtelpkgbghhpgaaaGreatDoor.Sx
end
section
namespace Go.Proofs.YtelpkgbghhpgaaaGreatDoor.Sx
open AV
def Fh.head (f : Fh) (k L : Nat) (x : Value × Nat) : Fh := { f with fh := fun i l => if i = k ∧ l = L then some x else f.fh i l }
section
variable {g0 g : Gh} {st0 st : St} {w0 w w' : World} {f f' : Fh} {fr : Fr} {tmps : Array Value}
theorem Inv.tokRow (h : Inv g0 st0 w0 g f fr st w tmps) {w1 : World} {k need sz cap nb : Nat} {cur : Array Value} {e : TypeId} (hk : k < fr.ftoks.length) (hfree : f.fh k need = none) (hpos : 1 ≤ need)
    (hmono : ∀ L x, f.fh k L = some x → L ≤ need) (hc : Chg (FClaim f fr (.tok k)) w w1) (hb : w1.heap[nb]? = some (.cells cur e (0, 0))) (hcap : need ≤ cap) (hmax : cap ≤ maxLen) (hcur : cur.size = cap * sz)
    (hnb : w.heap.size ≤ nb ∨ FClaim f fr (.tok k) nb) (hroom : ∀ o, need * sz ≤ o → ¬ g.imm nb o)
    (hcell : ∀ b o, g.imm b o → w1.cell? ⟨b, o, none⟩ = w.cell? ⟨b, o, none⟩) :
    Inv g0 st0 w0 (g.wide fun b o => g.imm b o ∨ (b = nb ∧ o < need * sz)) (f.head k need (.slice (some ⟨nb, 0, none⟩) need cap, sz)) { fr with ftoks := fr.ftoks.set k need } st w1 tmps := by
  have hfg : FGrow f (f.head k need (.slice (some ⟨nb, 0, none⟩) need cap, sz)) := ⟨fun _ _ _ h => h, fun i L x hx => by
    show (if _ then _ else _) = _
    rw [if_neg]
    · exact hx
    · rintro ⟨rfl, rfl⟩; rw [hfree] at hx; exact absurd hx (by simp)⟩
  have hfhd : ∀ i l, (f.head k need (.slice (some ⟨nb, 0, none⟩) need cap, sz)).fh i l = if i = k ∧ l = need then some (.slice (some ⟨nb, 0, none⟩) need cap, sz) else f.fh i l := fun _ _ => rfl
  have hnblt : nb < w1.heap.size := (Array.getElem?_eq_some_iff.1 hb).1
  have hgr : ∀ n, Grow g n w (g.wide fun b o => g.imm b o ∨ (b = nb ∧ o < need * sz)) n w1 := fun n => Grow.wide (fun _ _ h => .inl h) hcell
  have hXF : ∀ o b, HClaim g st o b ∨ FClaim f fr o b → o ≠ .tok k → ¬ FClaim f fr (.tok k) b := fun o b ho hne hx => hne (h.uniq _ _ _ ho (.inr hx))
  have hnbne : ∀ o b, HClaim g st o b ∨ FClaim f fr o b → o ≠ .tok k → b ≠ nb := fun o b ho hne e => by
    subst e
    rcases hnb with h' | h'
    · have : b < w.heap.size := by
        rcases ho with ho | ho
        · exact h.h.lt _ _ ho
        · exact (h.flt _ _ ho).1
      omega
    · exact hXF o b ho hne h'
  have hbase : w0.heap.size ≤ nb ∨ ∃ o', HClaim g0 st0 o' nb := by
    rcases hnb with h' | h'
    · exact .inl (Nat.le_trans h.ext.size h')
    · exact (h.flt _ _ h').2
  have hcl : ∀ o b, FClaim (f.head k need (.slice (some ⟨nb, 0, none⟩) need cap, sz)) { fr with ftoks := fr.ftoks.set k need } o b → (FClaim f fr o b ∧ o ≠ .tok k) ∨ (o = .tok k ∧ b = nb) := fun o b ho => by
    cases o with
    | obj => exact ho.elim
    | row => exact ho.elim
    | loc => exact .inl ⟨ho, by simp⟩
    | tok j =>
      obtain ⟨L, c1, h1, h2, h3, h4⟩ := ho
      have h1' : (fr.ftoks.set k need)[j]? = some L := h1
      rw [List.getElem?_set] at h1'
      rw [hfhd] at h3
      by_cases ej : k = j
      · subst ej
        simp [hk] at h1'
        subst h1'
        rw [if_pos ⟨rfl, rfl⟩] at h3
        cases h3
        have h4' : some nb = some b := h4
        cases h4'; exact .inr ⟨rfl, rfl⟩
      · rw [if_neg ej] at h1'
        rw [if_neg (fun x => ej x.1.symm)] at h3
        exact .inl ⟨⟨L, c1, h1', h2, h3, h4⟩, by simpa using Ne.symm ej⟩
  have hhc : ∀ o b, HClaim (g.wide fun b o => g.imm b o ∨ (b = nb ∧ o < need * sz)) st o b → HClaim g st o b := fun o b ho => by cases o <;> exact ho
  refine ⟨h.h.trans hc (fun _ _ h => .inl h) (fun o b ho => hXF o b (.inl ho) (fun e => by subst e; exact ho)) hcell (fun b o hI => ?_) (fun b o hI => ?_), ⟨fun t => (h.fi.regs t).mono (hgr _) hfg, ?_, h.fi.locdom, h.fi.locser, ?_, ?_, ?_⟩, ?_, ?_, ?_⟩
  · rcases hI with h' | ⟨rfl, _⟩
    · exact .inl h'
    · exact .inr fun ow ho => hnbne ow b (.inl ho) (fun e => by subst e; exact ho) rfl
  · rcases hI with h' | ⟨rfl, _⟩
    · exact Nat.lt_of_lt_of_le (h.h.immlt b o h') hc.size
    · exact hnblt
  · intro li ser cs h1 h2
    obtain ⟨b, vs, e1, h3, h4, h5, h6⟩ := h.fi.loc li ser cs h1 h2
    have hl : FClaim f fr (.loc li) b := ⟨ser, cs, h1, h2, h3⟩
    exact ⟨b, vs, e1, h3, (hc.block b (h.flt _ _ hl).1 (hXF _ _ (.inr hl) (by simp))).trans h4, h5, fun i a a' => ⟨(h6 i a a').1.mono (hgr _) hfg, (h6 i a a').2⟩⟩
  · intro j L h1 h2
    have h1' : (fr.ftoks.set k need)[j]? = some L := h1
    rw [List.getElem?_set] at h1'
    by_cases ej : k = j
    · subst ej
      simp [hk] at h1'
      subst h1'
      exact ⟨.slice (some ⟨nb, 0, none⟩) need cap, sz, by rw [hfhd, if_pos ⟨rfl, rfl⟩], ⟨nb, cap, cur, e, rfl, hb, hcap, hmax, hcur, fun o ho hI => by
        rcases hI with h' | ⟨_, h'⟩
        · exact hroom o ho h'
        · omega⟩⟩
    · rw [if_neg ej] at h1'
      obtain ⟨c, sz1, h3, h4⟩ := h.fi.tok j L h1' h2
      have hjl : ∀ b, c.ownBlock = some b → FClaim f fr (.tok j) b := fun b hb => ⟨L, (c, sz1), h1', h2, h3, hb⟩
      refine ⟨c, sz1, by rw [hfhd, if_neg (fun x => ej x.1.symm)]; exact h3, h4.mono (fun b hb1 => hc.block b (h.flt _ _ (hjl b hb1)).1 (hXF _ _ (.inr (hjl b hb1)) (by simpa using Ne.symm ej))) fun b hb1 o hI => ?_⟩
      rcases hI with h' | ⟨rfl, _⟩
      · exact h'
      · exact absurd rfl (hnbne _ _ (.inr (hjl b hb1)) (by simpa using Ne.symm ej))
  · intro j L x hx
    rw [hfhd] at hx
    by_cases ej : j = k
    · subst ej
      refine ⟨?_, need, by simp [hk], .inr ?_⟩
      · by_cases eL : L = need
        · omega
        · rw [if_neg (fun x => eL x.2)] at hx; exact (h.fi.tokdom j L x hx).1
      · by_cases eL : L = need
        · omega
        · rw [if_neg (fun x => eL x.2)] at hx; exact hmono L x hx
    · rw [if_neg (fun x => ej x.1)] at hx
      obtain ⟨h1, c1, h2, h3⟩ := h.fi.tokdom j L x hx
      exact ⟨h1, c1, by simp [Ne.symm ej, h2], h3⟩
  · intro li b hb1 o hI
    rcases hcl _ _ hb1 with ⟨h', _⟩ | ⟨h', _⟩
    · rcases hI with h'' | ⟨rfl, _⟩
      · exact h.fi.noimm li b h' o h''
      · exact hnbne _ _ (.inr h') (by simp) rfl
    · cases h'
  · intro o b ho
    rcases hcl o b ho with ⟨h', _⟩ | ⟨_, rfl⟩
    · exact ⟨Nat.lt_of_lt_of_le (h.flt o b h').1 hc.size, (h.flt o b h').2⟩
    · exact ⟨hnblt, hbase⟩
  · have key : ∀ o b, HClaim (g.wide fun b o => g.imm b o ∨ (b = nb ∧ o < need * sz)) st o b ∨ FClaim (f.head k need (.slice (some ⟨nb, 0, none⟩) need cap, sz)) { fr with ftoks := fr.ftoks.set k need } o b →
        ((HClaim g st o b ∨ FClaim f fr o b) ∧ o ≠ .tok k) ∨ (o = .tok k ∧ b = nb) := fun o b ho => by
      rcases ho with ho | ho
      · exact .inl ⟨.inl (hhc _ _ ho), fun e => by subst e; exact ho⟩
      · rcases hcl o b ho with ⟨h1, h2⟩ | h1
        · exact .inl ⟨.inr h1, h2⟩
        · exact .inr h1
    intro o o' b ho ho'
    rcases key _ _ ho with ⟨k1, k2⟩ | ⟨rfl, rfl⟩ <;> rcases key _ _ ho' with ⟨k3, k4⟩ | ⟨rfl, k5⟩
    · exact h.uniq o o' b k1 k3
    · subst k5; exact absurd rfl (hnbne _ _ k1 k2)
    · exact absurd rfl (hnbne _ _ k3 k4)
    · rfl
  · refine h.ext.step hc (fun b hb1 => .inl (h.flt _ _ hb1).2) (hgr _) (fun b o hI => ?_) fun o b ho _ => .inr ⟨o, hhc o b ho⟩
    rcases hI with h' | ⟨rfl, _⟩
    · exact .inl h'
    · exact .inr (.inl hbase)
theorem Inv.tokDead (h : Inv g0 st0 w0 g f fr st w tmps) : Inv g0 st0 w0 g f { fr with ftoks := fr.ftoks ++ [0] } st w tmps ∧ (∀ L, f.fh fr.ftoks.length L = none) := by
  have hnone : ∀ L, f.fh fr.ftoks.length L = none := fun L => by
    cases hx : f.fh fr.ftoks.length L with
    | none => rfl
    | some x => obtain ⟨_, cur, h2, _⟩ := h.fi.tokdom _ L x hx; simp at h2
  have hget : ∀ j L, (fr.ftoks ++ [0])[j]? = some L → L ≠ 0 → fr.ftoks[j]? = some L := fun j L hj hL => by
    by_cases e : j < fr.ftoks.length
    · rwa [List.getElem?_append_left e] at hj
    · rw [List.getElem?_append_right (by omega)] at hj
      have : j - fr.ftoks.length = 0 := by
        have := (List.getElem?_eq_some_iff.1 hj).1; simp at this; omega
      rw [this] at hj; simp at hj; exact absurd hj.symm hL
  have hcl : ∀ o b, FClaim f { fr with ftoks := fr.ftoks ++ [0] } o b → FClaim f fr o b := fun o b ho => by
    cases o with
    | tok j => obtain ⟨L, c, h1, h2, h3⟩ := ho; exact ⟨L, c, hget j L h1 h2, h2, h3⟩
    | _ => exact ho
  exact ⟨⟨h.h, ⟨h.fi.regs, h.fi.loc, h.fi.locdom, h.fi.locser, fun j L h1 h2 => h.fi.tok j L (hget j L h1 h2) h2, fun j L x hx => by
    obtain ⟨h1, cur, h2, h3⟩ := h.fi.tokdom j L x hx
    exact ⟨h1, cur, by rw [List.getElem?_append_left (List.getElem?_eq_some_iff.1 h2).1]; exact h2, h3⟩, fun li b hb => h.fi.noimm li b (hcl _ _ hb)⟩,
    fun o b ho => h.flt o b (hcl o b ho), fun o o' b ho ho' => h.uniq o o' b (ho.imp _root_.id (hcl _ _)) (ho'.imp _root_.id (hcl _ _)), h.ext⟩, hnone⟩
theorem Inv.heapGive (h : Inv g0 st0 w0 g f fr st w tmps) {id off sz : Nat} {els : List (List AV)} {cs : List AV} {c : Value} (hcs : st.cells id = some cs) (hold : cs[off]? = some (.slice sz els (.cell id off)))
    (hpos : 1 ≤ els.length) (hh : g.hdr id off els.length = some (c, sz)) :
    Inv g0 st0 w0 g (f.head fr.ftoks.length els.length (c, sz)) { fr with ftoks := fr.ftoks ++ [els.length] } (st.setCells id (cs.set off (.slice sz els (.spent id off)))) w tmps := by
  obtain ⟨_, hnone⟩ := h.tokDead
  have hid := St.cells_lt hcs
  have hoff : off < cs.length := (List.getElem?_eq_some_iff.1 hold).1
  obtain ⟨c1, hc1, hown⟩ := h.h.row id cs off sz els hcs hold
  rw [hh] at hc1; cases hc1
  have hfhd : ∀ i l, (f.head fr.ftoks.length els.length (c, sz)).fh i l = if i = fr.ftoks.length ∧ l = els.length then some (c, sz) else f.fh i l := fun _ _ => rfl
  have hfg : FGrow f (f.head fr.ftoks.length els.length (c, sz)) := ⟨fun _ _ _ h => h, fun i L x hx => by
    rw [hfhd, if_neg]
    · exact hx
    · rintro ⟨rfl, rfl⟩; rw [hnone] at hx; exact absurd hx (by simp)⟩
  have hset : ∀ (o : Nat) (v : AV), (cs.set off (.slice sz els (.spent id off)))[o]? = some v → (o = off ∧ v = .slice sz els (.spent id off)) ∨ (o ≠ off ∧ cs[o]? = some v) := fun o v hx => by
    rw [List.getElem?_set] at hx
    by_cases e : off = o
    · subst e; simp [hoff] at hx; exact .inl ⟨rfl, hx.symm⟩
    · rw [if_neg e] at hx; exact .inr ⟨Ne.symm e, hx⟩
  obtain ⟨bk, hbk, _⟩ := hown.block
  have hrow : HClaim g st (.row id off) bk := ⟨cs, sz, els, (c, sz), hcs, hold, hh, hbk⟩
  have hcl : ∀ o b, HClaim g (st.setCells id (cs.set off (.slice sz els (.spent id off)))) o b → HClaim g st o b ∧ o ≠ .row id off := fun o b ho => by
    cases o with
    | loc => exact ho.elim
    | tok => exact ho.elim
    | obj j => exact ⟨⟨by have := ho.1; rwa [size_setCells] at this, ho.2⟩, by simp⟩
    | row j p =>
      obtain ⟨cs1, sz1, els1, c1, h1, h2, h3⟩ := ho
      rcases setCells_get (St.cells_eq.1 h1) with ⟨rfl, e⟩ | ⟨hj, e⟩
      · cases e
        rcases hset _ _ h2 with ⟨rfl, e2⟩ | ⟨hp, e2⟩
        · cases e2
        · exact ⟨⟨cs, sz1, els1, c1, hcs, e2, h3⟩, fun e1 => by cases e1; exact hp rfl⟩
      · exact ⟨⟨cs1, sz1, els1, c1, St.cells_eq.2 e, h2, h3⟩, by simp [hj]⟩
  have hget : ∀ j L, (fr.ftoks ++ [els.length])[j]? = some L → (j = fr.ftoks.length ∧ L = els.length) ∨ (j ≠ fr.ftoks.length ∧ fr.ftoks[j]? = some L) := fun j L hj => by
    by_cases e : j < fr.ftoks.length
    · rw [List.getElem?_append_left e] at hj; exact .inr ⟨by omega, hj⟩
    · rw [List.getElem?_append_right (by omega)] at hj
      have e0 : j - fr.ftoks.length = 0 := by
        have := (List.getElem?_eq_some_iff.1 hj).1; simp at this; omega
      rw [e0] at hj; simp at hj; exact .inl ⟨by omega, hj.symm⟩
  have hfcl : ∀ o b, FClaim (f.head fr.ftoks.length els.length (c, sz)) { fr with ftoks := fr.ftoks ++ [els.length] } o b → FClaim f fr o b ∨ (o = .tok fr.ftoks.length ∧ b = bk) := fun o b ho => by
    cases o with
    | obj => exact ho.elim
    | row => exact ho.elim
    | loc => exact .inl ho
    | tok j =>
      obtain ⟨L, c1, h1, h2, h3, h4⟩ := ho
      rw [hfhd] at h3
      rcases hget j L h1 with ⟨rfl, rfl⟩ | ⟨hj, h1'⟩
      · rw [if_pos ⟨rfl, rfl⟩] at h3; cases h3
        rw [hbk] at h4; cases h4; exact .inr ⟨rfl, rfl⟩
      · rw [if_neg (fun x => hj x.1)] at h3; exact .inl ⟨L, c1, h1', h2, h3, h4⟩
  refine ⟨⟨?_, ?_, ?_, ?_, ?_, ?_⟩, ?_, ?_, ?_, ?_⟩
  · intro j x hx
    rcases setCells_get hx with ⟨rfl, rfl⟩ | ⟨hj, hx⟩
    · obtain ⟨vs, e, h1, h2, h3⟩ := h.h.obj j _ (St.cells_eq.1 hcs)
      refine ⟨vs, e, h1, by simpa using h2, fun i a a' => ?_⟩
      rw [List.getElem_set]
      by_cases hi : off = i
      · subst hi
        simp only [if_true]
        have := h3 off hoff (by rw [← h2]; exact hoff)
        have e1 : cs[off] = .slice sz els (.cell j off) := (List.getElem?_eq_some_iff.1 hold).2
        rw [e1] at this
        exact ⟨.slice sz els _ _ this.1.slice_inv.1 trivial, this.2⟩
      · simp only [if_neg hi]
        have a1 : i < cs.length := by simpa using a
        exact h3 i a1 a'
    · exact h.h.obj j x hx
  · exact fun o b ho => h.h.lt o b (hcl o b ho).1
  · exact fun j hj o => h.h.noimm j (by rwa [size_setCells] at hj) o
  · exact h.h.immlt
  · intro j cs1 p sz1 els1 h1 h2
    rcases setCells_get (St.cells_eq.1 h1) with ⟨rfl, e⟩ | ⟨hj, e⟩
    · cases e
      rcases hset _ _ h2 with ⟨rfl, e2⟩ | ⟨hp, e2⟩
      · cases e2
      · exact h.h.row j cs p sz1 els1 hcs e2
    · exact h.h.row j cs1 p sz1 els1 (St.cells_eq.2 e) h2
  · intro j p L x hj hx
    rw [size_setCells] at hj
    obtain ⟨cs1, v, h1, h2, h3⟩ := h.h.dom j p L x hj hx
    by_cases e2 : j = id
    · subst e2
      rw [hcs] at h1; cases h1
      by_cases e3 : off = p
      · subst e3
        rw [hold] at h2; cases h2
        exact ⟨_, .slice sz els (.spent j off), setCells_new hid, by simp [hoff], h3⟩
      · exact ⟨_, v, setCells_new hid, by simp [e3, h2], h3⟩
    · exact ⟨cs1, v, St.cells_eq.2 ((setCells_old e2).trans (St.cells_eq.1 h1)), h2, h3⟩
  · rw [size_setCells]
    refine ⟨fun t => (h.fi.regs t).mono (Grow.refl _ _ _) hfg, ?_, h.fi.locdom, h.fi.locser, ?_, ?_, ?_⟩
    · intro li ser cs1 h1 h2
      obtain ⟨b, vs, e1, h3, h4, h5, h6⟩ := h.fi.loc li ser cs1 h1 h2
      exact ⟨b, vs, e1, h3, h4, h5, fun i a a' => ⟨(h6 i a a').1.mono (Grow.refl _ _ _) hfg, (h6 i a a').2⟩⟩
    · intro j L h1 h2
      rcases hget j L h1 with ⟨rfl, rfl⟩ | ⟨hj, h1'⟩
      · exact ⟨c, sz, by rw [hfhd, if_pos ⟨rfl, rfl⟩], hown⟩
      · obtain ⟨c1, sz1, h3, h4⟩ := h.fi.tok j L h1' h2
        exact ⟨c1, sz1, by rw [hfhd, if_neg (fun x => hj x.1)]; exact h3, h4⟩
    · intro j L x hx
      rw [hfhd] at hx
      by_cases ej : j = fr.ftoks.length
      · subst ej
        by_cases eL : L = els.length
        · subst eL; exact ⟨hpos, els.length, by simp, .inr (Nat.le_refl _)⟩
        · rw [if_neg (fun x => eL x.2), hnone] at hx; exact absurd hx (by simp)
      · rw [if_neg (fun x => ej x.1)] at hx
        obtain ⟨h1, cur, h2, h3⟩ := h.fi.tokdom j L x hx
        exact ⟨h1, cur, by rw [List.getElem?_append_left (List.getElem?_eq_some_iff.1 h2).1]; exact h2, h3⟩
    · intro li b hb o hI
      rcases hfcl _ _ hb with h' | ⟨h', _⟩
      · exact h.fi.noimm li b h' o hI
      · cases h'
  · intro o b ho
    rcases hfcl o b ho with h' | ⟨_, rfl⟩
    · exact h.flt o b h'
    · refine ⟨h.h.lt _ _ hrow, ?_⟩
      by_cases hlt : w0.heap.size ≤ b
      · exact .inl hlt
      · exact .inr (h.ext.claim _ _ hrow (by omega))
  · have key : ∀ o b, HClaim g (st.setCells id (cs.set off (.slice sz els (.spent id off)))) o b ∨ FClaim (f.head fr.ftoks.length els.length (c, sz)) { fr with ftoks := fr.ftoks ++ [els.length] } o b →
        ((HClaim g st o b ∨ FClaim f fr o b) ∧ o ≠ .row id off) ∨ (o = .tok fr.ftoks.length ∧ b = bk) := fun o b ho => by
      rcases ho with ho | ho
      · exact .inl ⟨.inl (hcl o b ho).1, (hcl o b ho).2⟩
      · rcases hfcl o b ho with h1 | h1
        · exact .inl ⟨.inr h1, fun e => by subst e; exact h1⟩
        · exact .inr h1
    intro o o' b ho ho'
    rcases key _ _ ho with ⟨k1, k2⟩ | ⟨rfl, rfl⟩ <;> rcases key _ _ ho' with ⟨k3, k4⟩ | ⟨rfl, k5⟩
    · exact h.uniq o o' b k1 k3
    · subst k5; exact absurd (h.uniq _ _ _ k1 (.inl hrow)) k2
    · exact absurd (h.uniq _ _ _ k3 (.inl hrow)) k4
    · rfl
  · refine h.ext.step (Chg.refl (fun _ => False) _) (fun _ => False.elim) ?_ (fun _ _ h => .inl h) fun o b ho _ => .inr ⟨o, (hcl o b ho).1⟩
    rw [size_setCells]; exact Grow.refl _ _ _
end
end Go.Proofs.YtelpkgbghhpgaaaGreatDoor.Sx
end
