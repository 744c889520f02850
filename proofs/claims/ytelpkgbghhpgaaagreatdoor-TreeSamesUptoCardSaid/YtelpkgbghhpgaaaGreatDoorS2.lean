/- TreeSames returns true for all programs whose data are not larger than a bound. The program's functions as plain code. -/
import Derived.Test.YtelpkgbghhpgaaaGreatDoorS1
set_option linter.all false
section
namespace Go.Proofs.YtelpkgbghhpgaaaGreatDoor.Sx
open AV

section
variable {g0 g : Gh} {st0 st : St} {w0 w w' : World} {f f' : Fh} {fr : Fr} {tmps : Array Value}

/-- A store into a variable of the frame's own. -/
theorem Inv.locStore (h : Inv g0 st0 w0 g f fr st w tmps) {li ser b : Nat} {cs cs' : List AV} {vs vs' : Array Value} {e : TypeId} (hl : fr.loc[li]? = some (ser, cs)) (hne : cs ≠ [])
    (hb : f.lblk li ser = some b) (hw : w.heap[b]? = some (.cells vs e (0, 0))) (hlen : cs'.length = cs.length)
    (hn : cs'.length = vs'.size) (hv : ∀ i (h : i < cs'.length) (h' : i < vs'.size), Rep g f st.size w cs'[i] vs'[i] ∧ vs'[i].oneCell' = true) :
    Inv g0 st0 w0 g f { fr with loc := fr.loc.set li (ser, cs') } st (w.setRow b vs') tmps := by
  have hne' : cs' ≠ [] := fun e => hne (List.eq_nil_of_length_eq_zero (by rw [← hlen, e]; rfl))
  have hcl0 : FClaim f fr (.loc li) b := ⟨ser, cs, hl, hne, hb⟩
  have hc : Chg (· = b) w (w.setRow b vs') := Chg.setRow _ _ _
  have hcell : ∀ k o, g.imm k o → (w.setRow b vs').cell? ⟨k, o, none⟩ = w.cell? ⟨k, o, none⟩ := fun k o hk => cell_of_block (hc.block k (h.h.immlt k o hk) (fun e => h.fi.noimm li b hcl0 o (e ▸ hk))) o
  have hgr : Grow g st.size w g st.size (w.setRow b vs') := Grow.wide (I := g.imm) (fun _ _ h => h) hcell
  have hXH : ∀ o k, HClaim g st o k → ¬ k = b := fun o k ho e => by subst e; have := h.uniq _ _ _ (.inl ho) (.inr hcl0); subst this; exact ho
  have hXF : ∀ o k, FClaim f fr o k → o ≠ .loc li → ¬ k = b := fun o k ho hne e => by subst e; exact hne (h.uniq _ _ _ (.inr ho) (.inr hcl0))
  have hlen' : li < fr.loc.length := (List.getElem?_eq_some_iff.1 hl).1
  have hloc : ∀ l x, (fr.loc.set li (ser, cs'))[l]? = some x → (l = li ∧ x = (ser, cs')) ∨ (l ≠ li ∧ fr.loc[l]? = some x) := fun l x hx => by
    rw [List.getElem?_set] at hx
    by_cases e : li = l
    · subst e; simp [hlen'] at hx; exact .inl ⟨rfl, hx.symm⟩
    · rw [if_neg e] at hx; exact .inr ⟨Ne.symm e, hx⟩
  have hcl : ∀ o k, FClaim f { fr with loc := fr.loc.set li (ser, cs') } o k → FClaim f fr o k := fun o k ho => by
    cases o with
    | obj => exact ho
    | row => exact ho
    | tok => exact ho
    | loc l =>
      obtain ⟨s, c, h1, h2, h3⟩ := ho
      rcases hloc l _ h1 with ⟨rfl, hx⟩ | ⟨_, hx⟩
      · cases hx; exact ⟨ser, cs, hl, hne, h3⟩
      · exact ⟨s, c, hx, h2, h3⟩
  refine ⟨h.h.trans (I := g.imm) hc (fun _ _ h => h) hXH hcell (fun _ _ h => .inl h) (fun k o hk => by simpa using h.h.immlt k o hk), ⟨fun t => (h.fi.regs t).mono hgr (FGrow.refl _), ?_, ?_, ?_, ?_, h.fi.tokdom, fun l k hk => h.fi.noimm l k (hcl _ _ hk)⟩, ?_, ?_, h.ext.step hc (fun k hk => .inl (by subst hk; exact (h.flt _ _ hcl0).2)) hgr (fun _ _ h => .inl h) (fun o k ho _ => .inr ⟨o, ho⟩)⟩
  · intro l s c h1 h2
    rcases hloc l _ h1 with ⟨rfl, hx⟩ | ⟨hnl, hx⟩
    · cases hx
      exact ⟨b, vs', e, hb, setRow_heap w b vs vs' e _ hw, hn, fun i a a' => ⟨(hv i a a').1.mono hgr (FGrow.refl _), (hv i a a').2⟩⟩
    · obtain ⟨k, vs1, e1, h3, h4, h5, h6⟩ := h.fi.loc l s c hx h2
      have hk : FClaim f fr (.loc l) k := ⟨s, c, hx, h2, h3⟩
      exact ⟨k, vs1, e1, h3, (hc.block k (h.flt _ _ hk).1 (hXF _ _ hk (by simpa using hnl))).trans h4, h5, fun i a a' => ⟨(h6 i a a').1.mono hgr (FGrow.refl _), (h6 i a a').2⟩⟩
  · intro l s k hk
    obtain ⟨s1, c1, h1, h2⟩ := h.fi.locdom l s k hk
    by_cases e : l = li
    · subst e; rw [hl] at h1; cases h1; exact ⟨ser, cs', by simp [hlen'], h2⟩
    · exact ⟨s1, c1, by simp [Ne.symm e, h1], h2⟩
  · intro l s c h1
    rcases hloc l _ h1 with ⟨rfl, hx⟩ | ⟨_, hx⟩
    · cases hx; exact h.fi.locser l ser cs hl
    · exact h.fi.locser l s c hx
  · intro k L h1 h2
    obtain ⟨c, sz, h3, h4⟩ := h.fi.tok k L h1 h2
    refine ⟨c, sz, h3, h4.mono (fun x hx => ?_) fun _ _ _ h => h⟩
    have hk : FClaim f fr (.tok k) x := ⟨L, (c, sz), h1, h2, h3, hx⟩
    exact hc.block x (h.flt _ _ hk).1 (hXF _ _ hk (by simp))
  · exact fun o k hk => ⟨by simpa using (h.flt _ _ (hcl _ _ hk)).1, (h.flt _ _ (hcl _ _ hk)).2⟩
  · exact fun o o' k ho ho' => h.uniq o o' k (ho.imp id (hcl _ _)) (ho'.imp id (hcl _ _))

end
end Go.Proofs.YtelpkgbghhpgaaaGreatDoor.Sx
end
section
namespace Go.Proofs.YtelpkgbghhpgaaaGreatDoor.Sx
open AV

section
variable {g0 g : Gh} {st0 st : St} {w0 w w' : World} {f f' : Fh} {fr : Fr} {tmps : Array Value}

theorem St.cells_eq {id : Nat} {cs : List AV} : st.cells id = some cs ↔ st.objs[id]? = some (.cells cs) := by
  unfold St.cells
  cases h : st.objs[id]? with
  | none => simp
  | some o => cases o <;> simp
theorem St.entries_eq {id : Nat} {es : List (AV × AV)} : st.entries id = some es ↔ st.objs[id]? = some (.map es) := by
  unfold St.entries
  cases h : st.objs[id]? with
  | none => simp
  | some o => cases o <;> simp
theorem St.cells_lt {id : Nat} {cs : List AV} (h : st.cells id = some cs) : id < st.size := (List.getElem?_eq_some_iff.1 (St.cells_eq.1 h)).1

theorem push_old {o x : HObj} {id : Nat} (h : (st.push o).objs[id]? = some x) : (id = st.size ∧ x = o) ∨ (id < st.size ∧ st.objs[id]? = some x) := by
  have h' : (st.objs ++ [o])[id]? = some x := h
  by_cases e : id < st.objs.length
  · rw [List.getElem?_append_left e] at h'; exact .inr ⟨e, h'⟩
  · rw [List.getElem?_append_right (by omega)] at h'
    have : id - st.objs.length < 1 := by
      have := (List.getElem?_eq_some_iff.1 h').1; simpa using this
    have e2 : id - st.objs.length = 0 := by omega
    rw [e2] at h'; simp at h'
    exact .inl ⟨show id = st.objs.length by omega, h'.symm⟩
theorem push_get {o x : HObj} {id : Nat} (h : st.objs[id]? = some x) : (st.push o).objs[id]? = some x := by
  have e : id < st.objs.length := (List.getElem?_eq_some_iff.1 h).1
  show (st.objs ++ [o])[id]? = _
  rw [List.getElem?_append_left e, h]
theorem push_new (o : HObj) : (st.push o).objs[st.size]? = some o := by
  show (st.objs ++ [o])[st.objs.length]? = _
  simp
theorem size_pushH (o : HObj) : (st.push o).size = st.size + 1 := by
  show (st.objs ++ [o]).length = _
  simp [St.size]

def Gh.push (g : Gh) (n b : Nat) : Gh := { g with blk := fun id => if id = n then b else g.blk id, hdr := fun id off L => if id = n then none else g.hdr id off L }

/-- A new object on the heap, none of whose cells owns a row. -/
theorem Inv.push (h : Inv g0 st0 w0 g f fr st w tmps) {o : HObj} {x : Obj}
    (hno : ∀ (cs : List AV), o = .cells cs → ∀ (off sz : Nat) (els : List (List AV)) (i p : Nat), cs[off]? ≠ some (AV.slice sz els (.cell i p)))
    (hok : ObjOk (g.push st.size w.heap.size) (w.alloc x) st.size o) :
    Inv g0 st0 w0 (g.push st.size w.heap.size) f fr (st.push o) (w.alloc x) tmps := by
  have hc : Chg (fun _ => False) w (w.alloc x) := Chg.alloc _ _ _
  have hcell : ∀ b o, g.imm b o → (w.alloc x).cell? ⟨b, o, none⟩ = w.cell? ⟨b, o, none⟩ := fun b o hb => cell_of_block (hc.block b (h.h.immlt b o hb) id) o
  have hgr : ∀ n, n ≤ st.size → Grow g n w (g.push st.size w.heap.size) n (w.alloc x) := fun n hn => ⟨Nat.le_refl _, fun id hi => by show (if _ then _ else _) = _; rw [if_neg (by omega)],
    fun id off L c hi hh => by show (if _ then _ else _) = _; rw [if_neg (by omega)]; exact hh, fun _ _ h => h, hcell⟩
  have hgr1 : Grow g st.size w (g.push st.size w.heap.size) (st.push o).size (w.alloc x) := ⟨by rw [size_pushH]; omega, (hgr _ (Nat.le_refl _)).blk, (hgr _ (Nat.le_refl _)).hdr, (hgr _ (Nat.le_refl _)).imm, hcell⟩
  have hblk : ∀ id, id < st.size → (g.push st.size w.heap.size).blk id = g.blk id := fun id hi => by show (if _ then _ else _) = _; rw [if_neg (by omega)]
  have hnew : (g.push st.size w.heap.size).blk st.size = w.heap.size := by show (if _ then _ else _) = _; simp
  have hhdr : ∀ id off L, id < st.size → (g.push st.size w.heap.size).hdr id off L = g.hdr id off L := fun id off L hi => by show (if _ then _ else _) = _; rw [if_neg (by omega)]
  have hcl : ∀ ow b, HClaim (g.push st.size w.heap.size) (st.push o) ow b → HClaim g st ow b ∨ (ow = .obj st.size ∧ b = w.heap.size) := fun ow b ho => by
    cases ow with
    | loc => exact ho.elim
    | tok => exact ho.elim
    | obj id =>
      obtain ⟨h1, h2⟩ := ho
      rw [size_pushH] at h1
      by_cases e : id = st.size
      · subst e; rw [hnew] at h2; exact .inr ⟨rfl, h2.symm⟩
      · rw [hblk id (by omega)] at h2; exact .inl ⟨by omega, h2⟩
    | row id off =>
      obtain ⟨cs, sz, els, c, h1, h2, h3, h4⟩ := ho
      rcases push_old (St.cells_eq.1 h1) with ⟨rfl, e⟩ | ⟨hi, e⟩
      · exact absurd h2 (hno cs e.symm off sz els _ _)
      · rw [hhdr id off _ hi] at h3; exact .inl ⟨cs, sz, els, c, St.cells_eq.2 e, h2, h3, h4⟩
  refine ⟨⟨?_, ?_, ?_, ?_, ?_, ?_⟩, ⟨fun t => (h.fi.regs t).mono hgr1 (FGrow.refl _), ?_, h.fi.locdom, h.fi.locser, ?_, h.fi.tokdom, h.fi.noimm⟩, ?_, ?_, ?_⟩
  · intro id x' hx'
    rcases push_old hx' with ⟨rfl, rfl⟩ | ⟨hi, e⟩
    · exact hok
    · have := h.h.obj id x' e
      cases x' with
      | cells cs =>
        obtain ⟨vs, e, h1, h2, h3⟩ := this
        refine ⟨vs, e, ?_, h2, fun i a b => ⟨(h3 i a b).1.mono (hgr _ hi) (FGrow.refl _), (h3 i a b).2⟩⟩
        rw [hblk id hi]; exact (hc.block _ (h.h.obj_lt hi) _root_.id).trans h1
      | map es =>
        obtain ⟨entries, clock, h1, h2, h3⟩ := this
        refine ⟨entries, clock, ?_, h2, fun i a b => ?_⟩
        · rw [hblk id hi]; exact (hc.block _ (h.h.obj_lt hi) _root_.id).trans h1
        · obtain ⟨k1, k2, k3, k4⟩ := h3 i a b
          exact ⟨k1, k2.mono (fun _ _ h => h) hcell, k3, k4.mono ⟨Nat.le_refl _, fun _ _ => rfl, fun _ _ _ _ _ h => h, fun _ _ h => h, hcell⟩ (FGrow.refl _)⟩
  · intro ow b ho
    rcases hcl ow b ho with h' | ⟨_, rfl⟩
    · have := h.h.lt ow b h'; simp; omega
    · simp
  · intro id hi o' hI
    rw [size_pushH] at hi
    by_cases e : id = st.size
    · subst e; rw [hnew] at hI; exact absurd (h.h.immlt _ _ hI) (Nat.lt_irrefl _)
    · rw [hblk id (by omega)] at hI; exact h.h.noimm id (by omega) o' hI
  · exact fun b o' hb => by have := h.h.immlt b o' hb; simp; omega
  · intro id cs off sz els h1 h2
    rcases push_old (St.cells_eq.1 h1) with ⟨rfl, e⟩ | ⟨hi, e⟩
    · exact absurd h2 (hno cs e.symm off sz els _ _)
    · obtain ⟨c, h3, h4⟩ := h.h.row id cs off sz els (St.cells_eq.2 e) h2
      refine ⟨c, by rw [hhdr id off _ hi]; exact h3, h4.mono (fun b hb => hc.block b ?_ _root_.id) fun _ _ _ h => h⟩
      exact h.h.lt (.row id off) b ⟨cs, sz, els, (c, sz), St.cells_eq.2 e, h2, h3, hb⟩
  · intro id off L y hi hy
    rw [size_pushH] at hi
    by_cases e : id = st.size
    · subst e
      have : (if st.size = st.size then none else g.hdr st.size off L) = some y := hy
      simp at this
    · rw [hhdr id off L (by omega)] at hy
      obtain ⟨cs, v, h1, h2, h3⟩ := h.h.dom id off L y (by omega) hy
      exact ⟨cs, v, St.cells_eq.2 (push_get (St.cells_eq.1 h1)), h2, h3⟩
  · intro li ser cs h1 h2
    obtain ⟨b, vs, e, h3, h4, h5, h6⟩ := h.fi.loc li ser cs h1 h2
    exact ⟨b, vs, e, h3, (hc.block b (h.flt _ _ (show FClaim f fr (.loc li) b from ⟨ser, cs, h1, h2, h3⟩)).1 id).trans h4, h5, fun i a a' => ⟨(h6 i a a').1.mono hgr1 (FGrow.refl _), (h6 i a a').2⟩⟩
  · exact h.fi.tok_chg h hc
  · exact fun ow b ho => ⟨by have := (h.flt ow b ho).1; simp; omega, (h.flt ow b ho).2⟩
  · have key : ∀ ow b, HClaim (g.push st.size w.heap.size) (st.push o) ow b ∨ FClaim f fr ow b → (HClaim g st ow b ∨ FClaim f fr ow b) ∧ b < w.heap.size ∨ (ow = .obj st.size ∧ b = w.heap.size) := fun ow b ho => by
      rcases ho with ho | ho
      · rcases hcl ow b ho with h' | h'
        · exact .inl ⟨.inl h', h.h.lt _ _ h'⟩
        · exact .inr h'
      · exact .inl ⟨.inr ho, (h.flt _ _ ho).1⟩
    intro o1 o2 b ho ho'
    rcases key _ _ ho with ⟨k1, k2⟩ | ⟨rfl, rfl⟩ <;> rcases key _ _ ho' with ⟨k3, k4⟩ | ⟨rfl, k5⟩
    · exact h.uniq o1 o2 b k1 k3
    · omega
    · omega
    · rfl
  · refine h.ext.step hc (fun _ => False.elim) hgr1 (fun _ _ h => .inl h) fun ow b ho hb => ?_
    rcases hcl ow b ho with h' | ⟨_, rfl⟩
    · exact .inr ⟨ow, h'⟩
    · have := h.ext.size; omega

theorem setCells_get {id j : Nat} {cs : List AV} {x : HObj} (h : (st.setCells id cs).objs[j]? = some x) : (j = id ∧ x = .cells cs) ∨ (j ≠ id ∧ st.objs[j]? = some x) := by
  have h' : (st.objs.set id (.cells cs))[j]? = some x := h
  rw [List.getElem?_set] at h'
  by_cases e : id = j
  · subst e
    rw [if_pos rfl] at h'
    split at h'
    · exact .inl ⟨rfl, (Option.some.inj h').symm⟩
    · cases h'
  · rw [if_neg e] at h'; exact .inr ⟨Ne.symm e, h'⟩
theorem setCells_new {id : Nat} {cs : List AV} (hi : id < st.size) : (st.setCells id cs).cells id = some cs := by
  apply St.cells_eq.2
  show (st.objs.set id (.cells cs))[id]? = _
  rw [List.getElem?_set_self hi]
theorem setCells_old {id j : Nat} {cs : List AV} (hj : j ≠ id) : (st.setCells id cs).objs[j]? = st.objs[j]? := by
  show (st.objs.set id (.cells cs))[j]? = _
  rw [List.getElem?_set_ne (Ne.symm hj)]
theorem size_setCells (id : Nat) (cs : List AV) : (st.setCells id cs).size = st.size := by
  show (st.objs.set id (.cells cs)).length = _
  simp [St.size]

def Gh.head (g : Gh) (id off L : Nat) (x : Value × Nat) : Gh := { g with hdr := fun i o l => if i = id ∧ o = off ∧ l = L then some x else g.hdr i o l }

end
end Go.Proofs.YtelpkgbghhpgaaaGreatDoor.Sx
end
section
namespace Go.Proofs.YtelpkgbghhpgaaaGreatDoor.Sx
open AV

section
variable {g0 g : Gh} {st0 st : St} {w0 w w' : World} {f f' : Fh} {fr : Fr} {tmps : Array Value}

theorem FInv.mono {g' : Gh} {n n' : Nat} (h : FInv g f fr n w tmps) (hgr : Grow g n w g' n' w') (hb : ∀ o b, FClaim f fr o b → w'.heap[b]? = w.heap[b]?)
    (hi : ∀ o b, FClaim f fr o b → ∀ p, g'.imm b p → g.imm b p) : FInv g' f fr n' w' tmps where
  regs t := (h.regs t).mono hgr (FGrow.refl _)
  loc li ser cs h1 h2 := by
    obtain ⟨b, vs, e, h3, h4, h5, h6⟩ := h.loc li ser cs h1 h2
    exact ⟨b, vs, e, h3, (hb (.loc li) b ⟨ser, cs, h1, h2, h3⟩).trans h4, h5, fun i a a' => ⟨(h6 i a a').1.mono hgr (FGrow.refl _), (h6 i a a').2⟩⟩
  locdom := h.locdom
  locser := h.locser
  tok k L h1 h2 := by
    obtain ⟨c, sz, h3, h4⟩ := h.tok k L h1 h2
    have hcl : ∀ b, c.ownBlock = some b → FClaim f fr (.tok k) b := fun b hb => ⟨L, (c, sz), h1, h2, h3, hb⟩
    exact ⟨c, sz, h3, h4.mono (fun b hc => hb _ _ (hcl b hc)) fun b hc => hi _ _ (hcl b hc)⟩
  tokdom := h.tokdom
  noimm li b hc o hI := h.noimm li b hc o (hi _ _ hc o hI)

theorem HInv.blk_inj (h : Inv g0 st0 w0 g f fr st w tmps) {i j : Nat} (hi : i < st.size) (hj : j < st.size) (e : g.blk i = g.blk j) : i = j := by
  have := h.uniq (.obj i) (.obj j) _ (.inl ⟨hi, rfl⟩) (.inl ⟨hj, e.symm⟩)
  cases this; rfl

/-- A store into an object of the heap that brings no room with it. -/
theorem Inv.heapStore (h : Inv g0 st0 w0 g f fr st w tmps) {id : Nat} {cs cs' : List AV} {vs vs' : Array Value} {e : TypeId} (hcs : st.cells id = some cs) (hw : w.heap[g.blk id]? = some (.cells vs e (0, 0)))
    (hn : cs'.length = vs'.size) (hv : ∀ i (h : i < cs'.length) (h' : i < vs'.size), Rep g Fh.none (id + 1) w cs'[i] vs'[i] ∧ vs'[i].oneCell' = true)
    (hrow : ∀ (off sz : Nat) (els : List (List AV)), cs'[off]? = some (.slice sz els (.cell id off)) → cs[off]? = some (.slice sz els (.cell id off)))
    (hdom : ∀ (off L : Nat) (v : AV), cs[off]? = some v → DomOk id off L v → ∃ v', cs'[off]? = some v' ∧ DomOk id off L v') :
    Inv g0 st0 w0 g f fr (st.setCells id cs') (w.setRow (g.blk id) vs') tmps := by
  have hid := St.cells_lt hcs
  have hc : Chg (· = g.blk id) w (w.setRow (g.blk id) vs') := Chg.setRow _ _ _
  have hcell : ∀ k o, g.imm k o → (w.setRow (g.blk id) vs').cell? ⟨k, o, none⟩ = w.cell? ⟨k, o, none⟩ := fun k o hk => cell_of_block (hc.block k (h.h.immlt k o hk) (fun e => h.h.noimm id hid o (e ▸ hk))) o
  have hgr : ∀ n, Grow g n w g n (w.setRow (g.blk id) vs') := fun n => Grow.wide (I := g.imm) (fun _ _ h => h) hcell
  have hX : ∀ o k, HClaim g st o k ∨ FClaim f fr o k → o ≠ .obj id → ¬ k = g.blk id := fun o k ho hne e => by subst e; exact hne (h.uniq _ _ _ ho (.inl ⟨hid, rfl⟩))
  have hcl : ∀ o k, HClaim g (st.setCells id cs') o k → HClaim g st o k := fun o k ho => by
    cases o with
    | loc => exact ho
    | tok => exact ho
    | obj j => exact ⟨by have := ho.1; rwa [size_setCells] at this, ho.2⟩
    | row j off =>
      obtain ⟨cs1, sz, els, c, h1, h2, h3⟩ := ho
      rcases setCells_get (St.cells_eq.1 h1) with ⟨rfl, e⟩ | ⟨_, e⟩
      · cases e; exact ⟨cs, sz, els, c, hcs, hrow off sz els h2, h3⟩
      · exact ⟨cs1, sz, els, c, St.cells_eq.2 e, h2, h3⟩
  refine ⟨⟨?_, ?_, ?_, ?_, ?_, ?_⟩, ?_, ?_, ?_, ?_⟩
  · intro j x hx
    rcases setCells_get hx with ⟨rfl, rfl⟩ | ⟨hj, hx⟩
    · exact ⟨vs', e, setRow_heap w _ vs vs' e _ hw, hn, fun i a a' => ⟨(hv i a a').1.mono (hgr _) (FGrow.refl _), (hv i a a').2⟩⟩
    · have hjs : j < st.size := (List.getElem?_eq_some_iff.1 hx).1
      have hb : (w.setRow (g.blk id) vs').heap[g.blk j]? = w.heap[g.blk j]? := hc.block _ (h.h.obj_lt hjs) (hX (.obj j) _ (.inl ⟨hjs, rfl⟩) (by simpa using hj))
      have := h.h.obj j x hx
      cases x with
      | cells c =>
        obtain ⟨v1, e1, h1, h2, h3⟩ := this
        exact ⟨v1, e1, hb.trans h1, h2, fun i a b => ⟨(h3 i a b).1.mono (hgr _) (FGrow.refl _), (h3 i a b).2⟩⟩
      | map es =>
        obtain ⟨entries, clock, h1, h2, h3⟩ := this
        refine ⟨entries, clock, hb.trans h1, h2, fun i a b => ?_⟩
        obtain ⟨k1, k2, k3, k4⟩ := h3 i a b
        exact ⟨k1, k2.mono (fun _ _ h => h) hcell, k3, k4.mono ⟨Nat.le_refl _, fun _ _ => rfl, fun _ _ _ _ _ h => h, fun _ _ h => h, hcell⟩ (FGrow.refl _)⟩
  · exact fun o k ho => by simpa using h.h.lt o k (hcl o k ho)
  · exact fun j hj o => h.h.noimm j (by rwa [size_setCells] at hj) o
  · exact fun b o hb => by simpa using h.h.immlt b o hb
  · intro j cs1 off sz els h1 h2
    have hold : ∃ cs0, st.cells j = some cs0 ∧ cs0[off]? = some (.slice sz els (.cell j off)) := by
      rcases setCells_get (St.cells_eq.1 h1) with ⟨rfl, e⟩ | ⟨_, e⟩
      · cases e; exact ⟨cs, hcs, hrow off sz els h2⟩
      · exact ⟨cs1, St.cells_eq.2 e, h2⟩
    obtain ⟨cs0, h3, h4⟩ := hold
    obtain ⟨c, h5, h6⟩ := h.h.row j cs0 off sz els h3 h4
    refine ⟨c, h5, h6.mono (fun b hb => ?_) fun _ _ _ h => h⟩
    have hk : HClaim g st (.row j off) b := ⟨cs0, sz, els, (c, sz), h3, h4, h5, hb⟩
    exact hc.block b (h.h.lt _ _ hk) (hX _ _ (.inl hk) (by simp))
  · intro j off L x hj hx
    rw [size_setCells] at hj
    obtain ⟨cs1, v, h1, h2, h3⟩ := h.h.dom j off L x hj hx
    by_cases e : j = id
    · subst e
      rw [hcs] at h1; cases h1
      obtain ⟨v', h4, h5⟩ := hdom off L v h2 h3
      exact ⟨cs', v', setCells_new hid, h4, h5⟩
    · exact ⟨cs1, v, St.cells_eq.2 ((setCells_old e).trans (St.cells_eq.1 h1)), h2, h3⟩
  · rw [size_setCells]
    exact h.fi.mono (hgr _) (fun o b ho => hc.block b (h.flt o b ho).1 (hX _ _ (.inr ho) (fun e => by subst e; exact ho))) fun _ _ _ _ h => h
  · exact fun o b ho => ⟨by simpa using (h.flt o b ho).1, (h.flt o b ho).2⟩
  · exact fun o o' b ho ho' => h.uniq o o' b (ho.imp (hcl _ _) _root_.id) (ho'.imp (hcl _ _) _root_.id)
  · refine h.ext.step hc (fun b hb => .inr ⟨.obj id, hid, hb.symm⟩) ?_ (fun _ _ h => .inl h) fun o b ho _ => .inr ⟨o, hcl o b ho⟩
    rw [size_setCells]; exact hgr _

theorem home_dom {id off L L' : Nat} {old : AV} (hh : homeOk id off L old = true) (hd : DomOk id off L' old) : L' < L := by
  cases old with
  | slice sz els own =>
    cases own with
    | cell i o =>
      simp only [homeOk, Bool.and_eq_true, beq_iff_eq, decide_eq_true_eq] at hh
      have := hd hh.1.1 hh.1.2
      omega
    | spent i o =>
      simp only [homeOk, Bool.and_eq_true, beq_iff_eq, decide_eq_true_eq] at hh
      have := hd hh.1.1 hh.1.2
      omega
    | _ => simp [homeOk] at hh
  | nilslice => exact hd.elim
  | _ => simp [homeOk] at hh

/-- A row of the frame's own goes into a heap cell, its room with it. -/
theorem Inv.heapTake (h : Inv g0 st0 w0 g f fr st w tmps) {id off k sz : Nat} {els : List (List AV)} {cs : List AV} {vs : Array Value} {e : TypeId} {old : AV} {c : Value} (hcs : st.cells id = some cs)
    (hw : w.heap[g.blk id]? = some (.cells vs e (0, 0))) (hold : cs[off]? = some old) (hk : fr.ftoks[k]? = some els.length) (hne : els.length ≠ 0)
    (hv : Rep g f st.size w (.slice sz els (.ftok k)) c) (hh : homeOk id off els.length old = true) :
    Inv g0 st0 w0 (g.head id off els.length (c, sz)) f { fr with ftoks := fr.ftoks.set k 0 } (st.setCells id (cs.set off (.slice sz els (.cell id off)))) (w.setRow (g.blk id) (vs.setIfInBounds off c)) tmps := by
  have hid := St.cells_lt hcs
  have hoff : off < cs.length := (List.getElem?_eq_some_iff.1 hold).1
  have hkl : k < fr.ftoks.length := (List.getElem?_eq_some_iff.1 hk).1
  obtain ⟨hpl, hown⟩ := hv.slice_inv
  have hfh : f.fh k els.length = some (c, sz) := hown
  have hc : Chg (· = g.blk id) w (w.setRow (g.blk id) (vs.setIfInBounds off c)) := Chg.setRow _ _ _
  have hcell : ∀ k o, g.imm k o → (w.setRow (g.blk id) (vs.setIfInBounds off c)).cell? ⟨k, o, none⟩ = w.cell? ⟨k, o, none⟩ := fun k o hk => cell_of_block (hc.block k (h.h.immlt k o hk) (fun e => h.h.noimm id hid o (e ▸ hk))) o
  have hfree : g.hdr id off els.length = none := by
    cases hx : g.hdr id off els.length with
    | none => rfl
    | some x =>
      obtain ⟨cs1, v, h1, h2, h3⟩ := h.h.dom id off _ x hid hx
      rw [hcs] at h1; cases h1
      rw [hold] at h2; cases h2
      exact absurd (home_dom hh h3) (Nat.lt_irrefl _)
  have hhd : ∀ i o l, (g.head id off els.length (c, sz)).hdr i o l = if i = id ∧ o = off ∧ l = els.length then some (c, sz) else g.hdr i o l := fun _ _ _ => rfl
  have hgr : ∀ n, Grow g n w (g.head id off els.length (c, sz)) n (w.setRow (g.blk id) (vs.setIfInBounds off c)) := fun n => ⟨Nat.le_refl _, fun _ _ => rfl, fun i o l x _ hx => by
    rw [hhd, if_neg]
    · exact hx
    · rintro ⟨rfl, rfl, rfl⟩; rw [hfree] at hx; exact absurd hx (by simp), fun _ _ h => h, hcell⟩
  have hX : ∀ o k, HClaim g st o k ∨ FClaim f fr o k → o ≠ .obj id → ¬ k = g.blk id := fun o k ho hne e => by subst e; exact hne (h.uniq _ _ _ ho (.inl ⟨hid, rfl⟩))
  obtain ⟨bk, hbk, hbkl⟩ : ∃ bk, c.ownBlock = some bk ∧ OwnRow w g.imm c sz els.length := by
    obtain ⟨c1, sz1, h1, h2⟩ := h.fi.tok k els.length hk hne
    rw [hfh] at h1; cases h1
    obtain ⟨b, hb, _⟩ := h2.block
    exact ⟨b, hb, h2⟩
  have htok : FClaim f fr (.tok k) bk := ⟨els.length, (c, sz), hk, hne, hfh, hbk⟩
  have hbne : ¬ bk = g.blk id := hX _ _ (.inr htok) (by simp)
  have hset : ∀ (o : Nat) (v : AV), (cs.set off (.slice sz els (.cell id off)))[o]? = some v → (o = off ∧ v = .slice sz els (.cell id off)) ∨ (o ≠ off ∧ cs[o]? = some v) := fun o v hx => by
    rw [List.getElem?_set] at hx
    by_cases e : off = o
    · subst e; simp [hoff] at hx; exact .inl ⟨rfl, hx.symm⟩
    · rw [if_neg e] at hx; exact .inr ⟨Ne.symm e, hx⟩
  -- who owns what now, and who did
  have hcl : ∀ o b, HClaim (g.head id off els.length (c, sz)) (st.setCells id (cs.set off (.slice sz els (.cell id off)))) o b → (HClaim g st o b ∧ o ≠ .row id off) ∨ (o = .row id off ∧ b = bk) := fun o b ho => by
    cases o with
    | loc => exact ho.elim
    | tok => exact ho.elim
    | obj j => exact .inl ⟨⟨by have := ho.1; rwa [size_setCells] at this, ho.2⟩, by simp⟩
    | row j p =>
      obtain ⟨cs1, sz1, els1, c1, h1, h2, h3, h4⟩ := ho
      rcases setCells_get (St.cells_eq.1 h1) with ⟨rfl, e⟩ | ⟨hj, e⟩
      · cases e
        rcases hset _ _ h2 with ⟨rfl, e2⟩ | ⟨hp, e2⟩
        · cases e2
          rw [hhd, if_pos ⟨rfl, rfl, rfl⟩] at h3; cases h3
          rw [hbk] at h4; cases h4; exact .inr ⟨rfl, rfl⟩
        · rw [hhd, if_neg (fun x => hp x.2.1)] at h3
          exact .inl ⟨⟨cs, sz1, els1, c1, hcs, e2, h3, h4⟩, fun e1 => by cases e1; exact hp rfl⟩
      · rw [hhd, if_neg (fun x => hj x.1)] at h3
        exact .inl ⟨⟨cs1, sz1, els1, c1, St.cells_eq.2 e, h2, h3, h4⟩, by simp [hj]⟩
  have hfcl : ∀ o b, FClaim f { fr with ftoks := fr.ftoks.set k 0 } o b → FClaim f fr o b ∧ o ≠ .tok k := fun o b ho => by
    cases o with
    | obj => exact ho.elim
    | row => exact ho.elim
    | loc => exact ⟨ho, by simp⟩
    | tok j =>
      obtain ⟨L, c1, h1, h2, h3⟩ := ho
      have h1' : (fr.ftoks.set k 0)[j]? = some L := h1
      rw [List.getElem?_set] at h1'
      by_cases e : k = j
      · subst e; simp [hkl] at h1'; exact absurd h1'.symm h2
      · rw [if_neg e] at h1'; exact ⟨⟨L, c1, h1', h2, h3⟩, by simpa using Ne.symm e⟩
  refine ⟨⟨?_, ?_, ?_, ?_, ?_, ?_⟩, ?_, ?_, ?_, ?_⟩
  · intro j x hx
    rcases setCells_get hx with ⟨rfl, rfl⟩ | ⟨hj, hx⟩
    · obtain ⟨v1, e1, h1, h2, h3⟩ := h.h.obj j _ (St.cells_eq.1 hcs)
      rw [hw] at h1; cases h1
      refine ⟨_, e, setRow_heap w _ vs _ e _ hw, by simpa using h2, fun i a a' => ?_⟩
      have a2 : i < vs.size := by simpa using a'
      rw [List.getElem_set, Array.getElem_setIfInBounds a2]
      by_cases hi : off = i
      · subst hi
        simp only [if_true]
        exact ⟨.slice sz els _ c (hpl.mono (fun _ _ h => h) hcell) ⟨Nat.lt_succ_self _, by rw [hhd, if_pos ⟨rfl, rfl, rfl⟩]⟩, hpl.oneCell⟩
      · simp only [if_neg hi]
        have a1 : i < cs.length := by simpa using a
        exact ⟨(h3 i a1 (by rw [← h2]; exact a1)).1.mono (hgr _) (FGrow.refl _), (h3 i a1 (by rw [← h2]; exact a1)).2⟩
    · have hjs : j < st.size := (List.getElem?_eq_some_iff.1 hx).1
      have hb : (w.setRow (g.blk id) (vs.setIfInBounds off c)).heap[g.blk j]? = w.heap[g.blk j]? := hc.block _ (h.h.obj_lt hjs) (hX (.obj j) _ (.inl ⟨hjs, rfl⟩) (by simpa using hj))
      have := h.h.obj j x hx
      cases x with
      | cells c1 =>
        obtain ⟨v1, e1, h1, h2, h3⟩ := this
        exact ⟨v1, e1, hb.trans h1, h2, fun i a b => ⟨(h3 i a b).1.mono (hgr _) (FGrow.refl _), (h3 i a b).2⟩⟩
      | map es =>
        obtain ⟨entries, clock, h1, h2, h3⟩ := this
        refine ⟨entries, clock, hb.trans h1, h2, fun i a b => ?_⟩
        obtain ⟨k1, k2, k3, k4⟩ := h3 i a b
        exact ⟨k1, k2.mono (fun _ _ h => h) hcell, k3, k4.mono ⟨Nat.le_refl _, fun _ _ => rfl, fun _ _ _ _ _ h => h, fun _ _ h => h, hcell⟩ (FGrow.refl _)⟩
  · intro o b ho
    rcases hcl o b ho with ⟨h', _⟩ | ⟨_, rfl⟩
    · simpa using h.h.lt o b h'
    · simpa using (h.flt _ _ htok).1
  · exact fun j hj o => h.h.noimm j (by rwa [size_setCells] at hj) o
  · exact fun b o hb => by simpa using h.h.immlt b o hb
  · intro j cs1 p sz1 els1 h1 h2
    rcases setCells_get (St.cells_eq.1 h1) with ⟨rfl, e1⟩ | ⟨hj, e1⟩
    · cases e1
      rcases hset _ _ h2 with ⟨rfl, e2⟩ | ⟨hp, e2⟩
      · cases e2
        exact ⟨c, by rw [hhd, if_pos ⟨rfl, rfl, rfl⟩], hbkl.mono (fun b hb => by rw [hbk] at hb; cases hb; exact hc.block bk (h.flt _ _ htok).1 hbne) fun _ _ _ h => h⟩
      · obtain ⟨c1, h5, h6⟩ := h.h.row j cs p sz1 els1 hcs e2
        refine ⟨c1, by rw [hhd, if_neg (fun x => hp x.2.1)]; exact h5, h6.mono (fun b hb => ?_) fun _ _ _ h => h⟩
        have hk : HClaim g st (.row j p) b := ⟨cs, sz1, els1, (c1, sz1), hcs, e2, h5, hb⟩
        exact hc.block b (h.h.lt _ _ hk) (hX _ _ (.inl hk) (by simp))
    · obtain ⟨c1, h5, h6⟩ := h.h.row j cs1 p sz1 els1 (St.cells_eq.2 e1) h2
      refine ⟨c1, by rw [hhd, if_neg (fun x => hj x.1)]; exact h5, h6.mono (fun b hb => ?_) fun _ _ _ h => h⟩
      have hk : HClaim g st (.row j p) b := ⟨cs1, sz1, els1, (c1, sz1), St.cells_eq.2 e1, h2, h5, hb⟩
      exact hc.block b (h.h.lt _ _ hk) (hX _ _ (.inl hk) (by simp))
  · intro j p L x hj hx
    rw [size_setCells] at hj
    rw [hhd] at hx
    by_cases e1 : j = id ∧ p = off
    · obtain ⟨rfl, rfl⟩ := e1
      refine ⟨_, .slice sz els (.cell j p), setCells_new hid, by simp [hoff], fun _ _ => ?_⟩
      by_cases e2 : L = els.length
      · omega
      · rw [if_neg (fun x => e2 x.2.2)] at hx
        obtain ⟨cs1, v, h1, h2, h3⟩ := h.h.dom j p L x hid hx
        rw [hcs] at h1; cases h1
        rw [hold] at h2; cases h2
        exact Nat.le_of_lt (home_dom hh h3)
    · rw [if_neg (fun x => e1 ⟨x.1, x.2.1⟩)] at hx
      obtain ⟨cs1, v, h1, h2, h3⟩ := h.h.dom j p L x hj hx
      by_cases e2 : j = id
      · subst e2
        rw [hcs] at h1; cases h1
        have hp : off ≠ p := fun e3 => e1 ⟨rfl, e3.symm⟩
        exact ⟨_, v, setCells_new hid, by simp [hp, h2], h3⟩
      · exact ⟨cs1, v, St.cells_eq.2 ((setCells_old e2).trans (St.cells_eq.1 h1)), h2, h3⟩
  · rw [size_setCells]
    have hm := h.fi.mono (hgr st.size) (fun o b ho => hc.block b (h.flt o b ho).1 (hX _ _ (.inr ho) (fun e => by subst e; exact ho))) fun _ _ _ _ h => h
    refine ⟨hm.regs, hm.loc, hm.locdom, hm.locser, fun j L h1 h2 => ?_, fun j L x hx => ?_, fun li b hb => hm.noimm li b (hfcl _ _ hb).1⟩
    · have h1' : (fr.ftoks.set k 0)[j]? = some L := h1
      rw [List.getElem?_set] at h1'
      by_cases e1 : k = j
      · subst e1; simp [hkl] at h1'; exact absurd h1'.symm h2
      · rw [if_neg e1] at h1'; exact hm.tok j L h1' h2
    · obtain ⟨h1, cur, h2, h3⟩ := hm.tokdom j L x hx
      refine ⟨h1, ?_⟩
      by_cases e1 : k = j
      · subst e1; exact ⟨0, by simp [hkl], .inl rfl⟩
      · exact ⟨cur, by simp [e1, h2], h3⟩
  · exact fun o b ho => ⟨by simpa using (h.flt o b (hfcl o b ho).1).1, (h.flt o b (hfcl o b ho).1).2⟩
  · -- the row's new owner stands where the token stood
    have key : ∀ o b, HClaim (g.head id off els.length (c, sz)) (st.setCells id (cs.set off (.slice sz els (.cell id off)))) o b ∨ FClaim f { fr with ftoks := fr.ftoks.set k 0 } o b →
        ((HClaim g st o b ∨ FClaim f fr o b) ∧ o ≠ .row id off ∧ o ≠ .tok k) ∨ (o = .row id off ∧ b = bk) := fun o b ho => by
      rcases ho with ho | ho
      · rcases hcl o b ho with ⟨h1, h2⟩ | h1
        · exact .inl ⟨.inl h1, h2, fun e => by subst e; exact h1⟩
        · exact .inr h1
      · exact .inl ⟨.inr (hfcl o b ho).1, fun e => by subst e; exact ho, (hfcl o b ho).2⟩
    intro o o' b ho ho'
    rcases key _ _ ho with ⟨k1, k2, k3⟩ | ⟨rfl, rfl⟩ <;> rcases key _ _ ho' with ⟨k4, k5, k6⟩ | ⟨rfl, k7⟩
    · exact h.uniq o o' b k1 k4
    · subst k7; exact absurd (h.uniq _ _ _ k1 (.inr htok)) k3
    · exact absurd (h.uniq _ _ _ k4 (.inr htok)) k6
    · rfl
  · refine h.ext.step hc (fun b hb => .inr ⟨.obj id, hid, hb.symm⟩) ?_ (fun _ _ h => .inl h) fun o b ho hlt => ?_
    · rw [size_setCells]; exact hgr _
    · rcases hcl o b ho with ⟨h1, _⟩ | ⟨_, rfl⟩
      · exact .inr ⟨o, h1⟩
      · rcases (h.flt _ _ htok).2 with h2 | h2
        · omega
        · exact .inl h2

end
end Go.Proofs.YtelpkgbghhpgaaaGreatDoor.Sx
end
