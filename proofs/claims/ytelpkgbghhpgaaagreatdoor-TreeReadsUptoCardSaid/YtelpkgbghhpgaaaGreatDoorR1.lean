/- TreeReads returns true for all texts whose data are not larger than a bound. The program's functions as plain code. -/
import Derived.Test.YtelpkgbghhpgaaaGreatDoorR0
set_option linter.all false
section
namespace Go.Proofs.YtelpkgbghhpgaaaGreatDoor.Sx
open AV
inductive Ow where
  | obj (id : Nat)
  | row (id off : Nat)
  | loc (li : Nat)
  | tok (k : Nat)
def HClaim (g : Gh) (st : St) : Ow → Nat → Prop
  | .obj id, b => id < st.size ∧ g.blk id = b
  | .row id off, b => ∃ cs sz els c, st.cells id = some cs ∧ cs[off]? = some (.slice sz els (.cell id off)) ∧ g.hdr id off els.length = some c ∧ c.1.ownBlock = some b
  | _, _ => False
def FClaim (f : Fh) (fr : Fr) : Ow → Nat → Prop
  | .loc li, b => ∃ ser cs, fr.loc[li]? = some (ser, cs) ∧ cs ≠ [] ∧ f.lblk li ser = some b
  | .tok k, b => ∃ L c, fr.ftoks[k]? = some L ∧ L ≠ 0 ∧ f.fh k L = some c ∧ c.1.ownBlock = some b
  | _, _ => False
structure OwnRow (w : World) (I : Nat → Nat → Prop) (c : Value) (sz L : Nat) : Prop where
  ex : ∃ b cap cur e, c = .slice (some ⟨b, 0, none⟩) L cap ∧ w.heap[b]? = some (.cells cur e (0, 0)) ∧ L ≤ cap ∧ cap ≤ maxLen ∧ cur.size = cap * sz ∧ ∀ o, L * sz ≤ o → ¬ I b o
def EntRep (w : World) (I : Nat → Nat → Prop) (x : AV × AV) (e : MapEntry) : Prop :=
  keyOk x.1 = true ∧ PRep w I x.1 e.key ∧ x.2.plain = true ∧ Rep ⟨fun _ => 0, I, fun _ _ _ => none⟩ Fh.none 0 w x.2 e.val
def ObjOk (g : Gh) (w : World) (id : Nat) : HObj → Prop
  | .cells cs => ∃ vs e, w.heap[g.blk id]? = some (.cells vs e (0, 0)) ∧ cs.length = vs.size ∧ ∀ i (h : i < cs.length) (h' : i < vs.size), Rep g Fh.none (id + 1) w cs[i] vs[i] ∧ vs[i].oneCell' = true
  | .map es => ∃ entries clock, w.heap[g.blk id]? = some (.map entries clock) ∧ es.length = entries.size ∧ ∀ i (h : i < es.length) (h' : i < entries.size), EntRep w g.imm es[i] entries[i]
def DomOk (id off L : Nat) : AV → Prop
  | .nilslice => False
  | .slice _ els (.cell i o) | .slice _ els (.spent i o) => i = id → o = off → L ≤ els.length
  | _ => True
structure HInv (g : Gh) (w : World) (st : St) : Prop where
  obj : ∀ id o, st.objs[id]? = some o → ObjOk g w id o
  lt : ∀ o b, HClaim g st o b → b < w.heap.size
  noimm : ∀ id, id < st.size → ∀ o, ¬ g.imm (g.blk id) o
  immlt : ∀ b o, g.imm b o → b < w.heap.size
  row : ∀ id cs off sz els, st.cells id = some cs → cs[off]? = some (.slice sz els (.cell id off)) → ∃ c, g.hdr id off els.length = some (c, sz) ∧ OwnRow w g.imm c sz els.length
  dom : ∀ id off L x, id < st.size → g.hdr id off L = some x → ∃ cs v, st.cells id = some cs ∧ cs[off]? = some v ∧ DomOk id off L v
structure FInv (g : Gh) (f : Fh) (fr : Fr) (n : Nat) (w : World) (tmps : Array Value) : Prop where
  regs : ∀ t, Rep g f n w (slot t fr.regs) (tmps.getD t undef)
  loc : ∀ (li ser : Nat) (cs : List AV), fr.loc[li]? = some (ser, cs) → cs ≠ [] → ∃ b vs e, f.lblk li ser = some b ∧ w.heap[b]? = some (.cells vs e (0, 0)) ∧ cs.length = vs.size ∧
    ∀ i (h : i < cs.length) (h' : i < vs.size), Rep g f n w cs[i] vs[i] ∧ vs[i].oneCell' = true
  locdom : ∀ (li ser b : Nat), f.lblk li ser = some b → ∃ (s : Nat) (cs : List AV), fr.loc[li]? = some (s, cs) ∧ ser ≤ s
  locser : ∀ (li s : Nat) (cs : List AV), fr.loc[li]? = some (s, cs) → s ≤ fr.ser
  tok : ∀ k L, fr.ftoks[k]? = some L → L ≠ 0 → ∃ c sz, f.fh k L = some (c, sz) ∧ OwnRow w g.imm c sz L
  tokdom : ∀ k L x, f.fh k L = some x → 1 ≤ L ∧ ∃ cur, fr.ftoks[k]? = some cur ∧ (cur = 0 ∨ L ≤ cur)
  noimm : ∀ li b, FClaim f fr (.loc li) b → ∀ o, ¬ g.imm b o
structure Ext (g0 : Gh) (st0 : St) (w0 : World) (g : Gh) (st : St) (w : World) : Prop where
  grow : Grow g0 st0.size w0 g st.size w
  os : w.os = w0.os
  tape : w.tape = w0.tape
  output : w.output = w0.output
  size : w0.heap.size ≤ w.heap.size
  block : ∀ b, b < w0.heap.size → (∀ o, ¬ HClaim g0 st0 o b) → w.heap[b]? = w0.heap[b]?
  newimm : ∀ b o, g.imm b o → b < w0.heap.size → (∀ ow, ¬ HClaim g0 st0 ow b) → g0.imm b o
  claim : ∀ o b, HClaim g st o b → b < w0.heap.size → ∃ o', HClaim g0 st0 o' b
theorem Ext.refl (g : Gh) (st : St) (w : World) : Ext g st w g st w :=
  ⟨Grow.refl _ _ _, rfl, rfl, rfl, Nat.le_refl _, fun _ _ _ => rfl, fun _ _ h _ _ => h, fun o _ h _ => ⟨o, h⟩⟩
theorem Ext.trans {g0 g1 g2 : Gh} {st0 st1 st2 : St} {w0 w1 w2 : World} (h : Ext g0 st0 w0 g1 st1 w1) (k : Ext g1 st1 w1 g2 st2 w2) : Ext g0 st0 w0 g2 st2 w2 where
  grow := h.grow.trans k.grow
  os := k.os.trans h.os
  tape := k.tape.trans h.tape
  output := k.output.trans h.output
  size := Nat.le_trans h.size k.size
  block b hb hn := by
    rw [← h.block b hb hn]
    refine k.block b (Nat.lt_of_lt_of_le hb h.size) fun o ho => ?_
    obtain ⟨o', ho'⟩ := h.claim o b ho hb
    exact hn o' ho'
  newimm b o hi hb hn := by
    refine h.newimm b o (k.newimm b o hi (Nat.lt_of_lt_of_le hb h.size) fun ow ho => ?_) hb hn
    obtain ⟨o', ho'⟩ := h.claim ow b ho hb
    exact hn o' ho'
  claim o b ho hb := by
    obtain ⟨o', ho'⟩ := k.claim o b ho (Nat.lt_of_lt_of_le hb h.size)
    exact h.claim o' b ho' hb
structure Inv (g0 : Gh) (st0 : St) (w0 : World) (g : Gh) (f : Fh) (fr : Fr) (st : St) (w : World) (tmps : Array Value) : Prop where
  h : HInv g w st
  fi : FInv g f fr st.size w tmps
  flt : ∀ o b, FClaim f fr o b → b < w.heap.size ∧ (w0.heap.size ≤ b ∨ ∃ o', HClaim g0 st0 o' b)
  uniq : ∀ o o' b, HClaim g st o b ∨ FClaim f fr o b → HClaim g st o' b ∨ FClaim f fr o' b → o = o'
  ext : Ext g0 st0 w0 g st w
structure Chg (X : Nat → Prop) (w w' : World) : Prop where
  os : w'.os = w.os
  tape : w'.tape = w.tape
  output : w'.output = w.output
  size : w.heap.size ≤ w'.heap.size
  block : ∀ b, b < w.heap.size → ¬ X b → w'.heap[b]? = w.heap[b]?
theorem Chg.refl (X : Nat → Prop) (w : World) : Chg X w w := ⟨rfl, rfl, rfl, Nat.le_refl _, fun _ _ _ => rfl⟩
theorem Chg.drew {X : Nat → Prop} {w w' : World} (h : Chg X w w') : Chg X w w'.drew := ⟨h.os, h.tape, h.output, h.size, h.block⟩
theorem Chg.alloc (X : Nat → Prop) (w : World) (o : Obj) : Chg X w (w.alloc o) := ⟨rfl, rfl, rfl, by simp, fun b hb _ => heap_alloc_old w o b hb⟩
theorem Chg.setRow (w : World) (b : Nat) (cs : Array Value) : Chg (· = b) w (w.setRow b cs) := ⟨rfl, rfl, rfl, by simp, fun k _ hk => setRow_other w b k cs hk⟩
theorem Chg.mono {X Y : Nat → Prop} {w w' : World} (h : Chg X w w') (hxy : ∀ b, X b → Y b) : Chg Y w w' := ⟨h.os, h.tape, h.output, h.size, fun b hb hn => h.block b hb fun hx => hn (hxy b hx)⟩
theorem Chg.trans {X : Nat → Prop} {w w1 w2 : World} (h : Chg X w w1) (k : Chg X w1 w2) : Chg X w w2 :=
  ⟨k.os.trans h.os, k.tape.trans h.tape, k.output.trans h.output, Nat.le_trans h.size k.size, fun b hb hn => (k.block b (Nat.lt_of_lt_of_le hb h.size) hn).trans (h.block b hb hn)⟩
theorem cell_of_block {w w' : World} {b : Nat} (h : w'.heap[b]? = w.heap[b]?) (o : Nat) : w'.cell? ⟨b, o, none⟩ = w.cell? ⟨b, o, none⟩ := by simp [World.cell?, h]
theorem OwnRow.mono {w w' : World} {I I' : Nat → Nat → Prop} {c : Value} {sz L : Nat} (h : OwnRow w I c sz L) (hb : ∀ b, c.ownBlock = some b → w'.heap[b]? = w.heap[b]?)
    (hi : ∀ b, c.ownBlock = some b → ∀ o, I' b o → I b o) : OwnRow w' I' c sz L := by
  obtain ⟨b, cap, cur, e, rfl, h1, h2, h3, h4, h5⟩ := h.ex
  exact ⟨b, cap, cur, e, rfl, (hb b rfl).trans h1, h2, h3, h4, fun o ho hi' => h5 o ho (hi b rfl o hi')⟩
theorem OwnRow.block {w : World} {I : Nat → Nat → Prop} {c : Value} {sz L : Nat} (h : OwnRow w I c sz L) : ∃ b, c.ownBlock = some b ∧ b < w.heap.size := by
  obtain ⟨b, cap, cur, e, rfl, h1, _⟩ := h.ex
  exact ⟨b, rfl, (Array.getElem?_eq_some_iff.1 h1).1⟩
end Go.Proofs.YtelpkgbghhpgaaaGreatDoor.Sx
end
section
namespace Go.Proofs.YtelpkgbghhpgaaaGreatDoor.Sx
open AV
def Gh.wide (g : Gh) (I : Nat → Nat → Prop) : Gh := { g with imm := I }
theorem Grow.wide {g : Gh} {n : Nat} {w w' : World} {I : Nat → Nat → Prop} (hi : ∀ b o, g.imm b o → I b o) (hc : ∀ b o, g.imm b o → w'.cell? ⟨b, o, none⟩ = w.cell? ⟨b, o, none⟩) : Grow g n w (g.wide I) n w' :=
  ⟨Nat.le_refl _, fun _ _ => rfl, fun _ _ _ _ _ h => h, hi, hc⟩
section
variable {g0 g : Gh} {st0 st : St} {w0 w w' : World} {f f' : Fh} {fr : Fr} {tmps : Array Value} {ds : List Deferred}
theorem Ext.step {g' : Gh} {st' : St} {X : Nat → Prop} (h : Ext g0 st0 w0 g st w) (hc : Chg X w w') (hX : ∀ b, X b → (w0.heap.size ≤ b ∨ ∃ o, HClaim g0 st0 o b) ∨ ∃ o, HClaim g st o b) (hgr : Grow g st.size w g' st'.size w')
    (hnew : ∀ b o, g'.imm b o → g.imm b o ∨ (w0.heap.size ≤ b ∨ ∃ ow, HClaim g0 st0 ow b) ∨ ∃ ow, HClaim g st ow b)
    (hcl : ∀ o b, HClaim g' st' o b → b < w0.heap.size → (∃ o', HClaim g0 st0 o' b) ∨ ∃ o', HClaim g st o' b) : Ext g0 st0 w0 g' st' w' where
  grow := h.grow.trans hgr
  os := hc.os.trans h.os
  tape := hc.tape.trans h.tape
  output := hc.output.trans h.output
  size := Nat.le_trans h.size hc.size
  block b hb hn := by
    rw [← h.block b hb hn]
    refine hc.block b (Nat.lt_of_lt_of_le hb h.size) fun hx => ?_
    rcases hX b hx with (h' | ⟨o, h'⟩) | ⟨o, h'⟩
    · omega
    · exact hn o h'
    · obtain ⟨o', ho'⟩ := h.claim o b h' hb
      exact hn o' ho'
  newimm b o hi hb hn := by
    rcases hnew b o hi with h' | (h' | ⟨ow, h'⟩) | ⟨ow, h'⟩
    · exact h.newimm b o h' hb hn
    · omega
    · exact absurd h' (hn ow)
    · obtain ⟨o', ho'⟩ := h.claim ow b h' hb
      exact absurd ho' (hn o')
  claim o b ho hb := by
    rcases hcl o b ho hb with h' | ⟨o', ho'⟩
    · exact h'
    · exact h.claim o' b ho' hb
theorem HInv.obj_lt (h : HInv g w st) {id : Nat} (hi : id < st.size) : g.blk id < w.heap.size := h.lt (.obj id) _ ⟨hi, rfl⟩
theorem HInv.trans {X : Nat → Prop} {I : Nat → Nat → Prop} (h : HInv g w st) (hc : Chg X w w') (hi : ∀ b o, g.imm b o → I b o) (hX : ∀ o b, HClaim g st o b → ¬ X b)
    (hcell : ∀ b o, g.imm b o → w'.cell? ⟨b, o, none⟩ = w.cell? ⟨b, o, none⟩)
    (hnew : ∀ b o, I b o → g.imm b o ∨ ∀ ow, ¬ HClaim g st ow b) (hlt : ∀ b o, I b o → b < w'.heap.size) : HInv (g.wide I) w' st where
  obj id o ho := by
    have hid : id < st.size := (List.getElem?_eq_some_iff.1 ho).1
    have hb : w'.heap[g.blk id]? = w.heap[g.blk id]? := hc.block _ (h.obj_lt hid) (hX _ _ (show HClaim g st (.obj id) _ from ⟨hid, rfl⟩))
    have := h.obj id o ho
    cases o with
    | cells cs =>
      obtain ⟨vs, e, h1, h2, h3⟩ := this
      exact ⟨vs, e, hb.trans h1, h2, fun i a b => ⟨(h3 i a b).1.mono (Grow.wide hi hcell) (FGrow.refl _), (h3 i a b).2⟩⟩
    | map es =>
      obtain ⟨entries, clock, h1, h2, h3⟩ := this
      refine ⟨entries, clock, hb.trans h1, h2, fun i a b => ?_⟩
      obtain ⟨k1, k2, k3, k4⟩ := h3 i a b
      exact ⟨k1, k2.mono hi hcell, k3, k4.mono ⟨Nat.le_refl _, fun _ _ => rfl, fun _ _ _ _ _ h => h, hi, hcell⟩ (FGrow.refl _)⟩
  lt o b ho := Nat.lt_of_lt_of_le (h.lt o b (by cases o <;> exact ho)) hc.size
  noimm id hid o hI := by
    rcases hnew _ _ hI with h' | h'
    · exact h.noimm id hid o h'
    · exact h' (.obj id) ⟨hid, rfl⟩
  immlt := hlt
  row id cs off sz els h1 h2 := by
    obtain ⟨c, h3, h4⟩ := h.row id cs off sz els h1 h2
    have hcl : ∀ b, c.ownBlock = some b → HClaim g st (.row id off) b := fun b hb => ⟨cs, sz, els, (c, sz), h1, h2, h3, hb⟩
    refine ⟨c, h3, h4.mono (fun b hb => hc.block b (h.lt _ _ (hcl b hb)) (hX _ _ (hcl b hb))) fun b hb o hI => ?_⟩
    rcases hnew _ _ hI with h' | h'
    · exact h'
    · exact absurd (hcl b hb) (h' _)
  dom := h.dom
theorem FInv.trans {X : Nat → Prop} {I : Nat → Nat → Prop} {n : Nat} (h : FInv g f fr n w tmps) (hlt0 : ∀ o b, FClaim f fr o b → b < w.heap.size) (hc : Chg X w w') (hi : ∀ b o, g.imm b o → I b o)
    (hX : ∀ o b, FClaim f fr o b → ¬ X b) (hcell : ∀ b o, g.imm b o → w'.cell? ⟨b, o, none⟩ = w.cell? ⟨b, o, none⟩)
    (hnew : ∀ b o, I b o → g.imm b o ∨ ∀ ow, ¬ FClaim f fr ow b) : FInv (g.wide I) f fr n w' tmps where
  regs t := (h.regs t).mono (Grow.wide hi hcell) (FGrow.refl _)
  loc li ser cs h1 h2 := by
    obtain ⟨b, vs, e, h3, h4, h5, h6⟩ := h.loc li ser cs h1 h2
    have hcl : FClaim f fr (.loc li) b := ⟨ser, cs, h1, h2, h3⟩
    exact ⟨b, vs, e, h3, (hc.block b (hlt0 _ _ hcl) (hX _ _ hcl)).trans h4, h5, fun i a a' => ⟨(h6 i a a').1.mono (Grow.wide hi hcell) (FGrow.refl _), (h6 i a a').2⟩⟩
  locdom := h.locdom
  locser := h.locser
  tok k L h1 h2 := by
    obtain ⟨c, sz, h3, h4⟩ := h.tok k L h1 h2
    have hcl : ∀ b, c.ownBlock = some b → FClaim f fr (.tok k) b := fun b hb => ⟨L, (c, sz), h1, h2, h3, hb⟩
    refine ⟨c, sz, h3, h4.mono (fun b hb => hc.block b (hlt0 _ _ (hcl b hb)) (hX _ _ (hcl b hb))) fun b hb o hI => ?_⟩
    rcases hnew _ _ hI with h' | h'
    · exact h'
    · exact absurd (hcl b hb) (h' _)
  tokdom := h.tokdom
  noimm li b hb o hI := by
    rcases hnew _ _ hI with h' | h'
    · exact h.noimm li b hb o h'
    · exact h' _ hb
theorem Inv.quiet {I : Nat → Nat → Prop} (h : Inv g0 st0 w0 g f fr st w tmps) (hc : Chg (fun _ => False) w w') (hi : ∀ b o, g.imm b o → I b o)
    (hnew : ∀ b o, I b o → g.imm b o ∨ (w.heap.size ≤ b ∧ b < w'.heap.size)) : Inv g0 st0 w0 (g.wide I) f fr st w' tmps := by
  have hcell : ∀ b o, g.imm b o → w'.cell? ⟨b, o, none⟩ = w.cell? ⟨b, o, none⟩ := fun b o hb => cell_of_block (hc.block b (h.h.immlt b o hb) id) o
  have hlt : ∀ b o, I b o → b < w'.heap.size := fun b o hb => by
    rcases hnew b o hb with h' | h'
    · exact Nat.lt_of_lt_of_le (h.h.immlt b o h') hc.size
    · exact h'.2
  refine ⟨h.h.trans hc hi (fun _ _ _ => id) hcell (fun b o hb => ?_) hlt, h.fi.trans (fun o b ho => (h.flt o b ho).1) hc hi (fun _ _ _ => id) hcell (fun b o hb => ?_), fun o b ho => ⟨Nat.lt_of_lt_of_le (h.flt o b ho).1 hc.size, (h.flt o b ho).2⟩, ?_, ?_⟩
  · rcases hnew b o hb with h' | h'
    · exact .inl h'
    · exact .inr fun ow ho => by have := h.h.lt _ _ ho; omega
  · rcases hnew b o hb with h' | h'
    · exact .inl h'
    · exact .inr fun ow ho => by have := (h.flt _ _ ho).1; omega
  · intro o o' b ho ho'
    refine h.uniq o o' b ?_ ?_
    · rcases ho with ho | ho
      · exact .inl (by cases o <;> exact ho)
      · exact .inr ho
    · rcases ho' with ho | ho
      · exact .inl (by cases o' <;> exact ho)
      · exact .inr ho
  · refine h.ext.trans ⟨Grow.wide hi hcell, hc.os, hc.tape, hc.output, hc.size, fun b hb _ => hc.block b hb id, fun b o hb hlt' _ => ?_, fun o b ho _ => ⟨o, by cases o <;> exact ho⟩⟩
    rcases hnew b o hb with h' | h'
    · exact h'
    · omega
theorem Inv.chg (h : Inv g0 st0 w0 g f fr st w tmps) (hc : Chg (fun _ => False) w w') : Inv g0 st0 w0 g f fr st w' tmps :=
  h.quiet (I := g.imm) hc (fun _ _ h => h) (fun _ _ h => .inl h)
theorem FInv.tok_chg {n : Nat} (h : FInv g f fr n w tmps) (hI : Inv g0 st0 w0 g f fr st w tmps) (hc : Chg (fun _ => False) w w') : ∀ k L, fr.ftoks[k]? = some L → L ≠ 0 → ∃ c sz, f.fh k L = some (c, sz) ∧ OwnRow w' g.imm c sz L := fun k L h1 h2 => by
  obtain ⟨c, sz, h3, h4⟩ := h.tok k L h1 h2
  exact ⟨c, sz, h3, h4.mono (fun b hb => hc.block b (hI.flt _ _ (show FClaim f fr (.tok k) b from ⟨L, (c, sz), h1, h2, h3, hb⟩)).1 id) fun _ _ _ h => h⟩
theorem slot_put (t d : Nat) (v : AV) (r : List (Nat × AV)) : slot t ((d, v) :: r) = if d = t then v else slot t r := rfl
theorem Inv.regs_of (h : Inv g0 st0 w0 g f fr st w tmps) {fr' : Fr} {tmps' : Array Value} (hr : ∀ t, Rep g f st.size w (slot t fr'.regs) (tmps'.getD t undef)) (hl : fr'.loc = fr.loc) (ht : fr'.ftoks = fr.ftoks) (hs : fr.ser ≤ fr'.ser) :
    Inv g0 st0 w0 g f fr' st w tmps' := by
  have hcl : ∀ o b, FClaim f fr' o b ↔ FClaim f fr o b := fun o b => by cases o <;> simp [FClaim, hl, ht]
  refine ⟨h.h, ⟨hr, ?_, ?_, ?_, ?_, ?_, ?_⟩, fun o b ho => h.flt o b ((hcl o b).1 ho), fun o o' b ho ho' => h.uniq o o' b (ho.imp id (hcl _ _).1) (ho'.imp id (hcl _ _).1), h.ext⟩
  · rw [hl]; exact h.fi.loc
  · rw [hl]; exact h.fi.locdom
  · rw [hl]; exact fun li s cs hh => Nat.le_trans (h.fi.locser li s cs hh) hs
  · rw [ht]; exact h.fi.tok
  · rw [ht]; exact h.fi.tokdom
  · exact fun li b hb => h.fi.noimm li b ((hcl _ _).1 hb)
theorem getD_set (tmps : Array Value) (d t : Nat) (c x : Value) (hd : d < tmps.size) : (tmps.setIfInBounds d c).getD t x = if d = t then c else tmps.getD t x := by
  simp only [Array.getD_eq_getD_getElem?, Array.getElem?_setIfInBounds]
  by_cases h : d = t
  · subst h; simp [hd]
  · simp [h]
theorem Inv.put (h : Inv g0 st0 w0 g f fr st w tmps) {d : Option Nat} {v : AV} {c : Value} (hv : Rep g f st.size w v c) (hd : ∀ t, d = some t → t < tmps.size) :
    Inv g0 st0 w0 g f (fr.put d v) st w (Act.put ⟨tmps, ds⟩ d c).tmps := by
  cases d with
  | none => exact h
  | some d =>
    refine h.regs_of (fun t => ?_) rfl rfl (Nat.le_refl _)
    show Rep g f st.size w (slot t ((d, v) :: fr.regs)) ((tmps.setIfInBounds d c).getD t undef)
    rw [slot_put, getD_set _ _ _ _ _ (hd d rfl)]
    split
    · exact hv
    · exact h.fi.regs t
theorem slot_keep (live : List Nat) (t : Nat) (r : List (Nat × AV)) : slot t (keepRegs live r) = slot t r ∨ slot t (keepRegs live r) = .junk := by
  induction live with
  | nil => exact .inr rfl
  | cons a l ih =>
    show (if a = t then slot a r else slot t (keepRegs l r)) = _ ∨ _
    split
    · rename_i e; subst e; exact .inl rfl
    · rename_i e
      have : slot t (keepRegs (a :: l) r) = slot t (keepRegs l r) := by show (if a = t then _ else _) = _; simp [e]; rfl
      rw [this]; exact ih
theorem Inv.keep (h : Inv g0 st0 w0 g f fr st w tmps) (live : List Nat) : Inv g0 st0 w0 g f { fr with regs := keepRegs live fr.regs } st w tmps := by
  refine h.regs_of (fun t => ?_) rfl rfl (Nat.le_refl _)
  rcases slot_keep live t fr.regs with e | e
  · simp only [e]; exact h.fi.regs t
  · simp only [e]; exact .junk _
end
end Go.Proofs.YtelpkgbghhpgaaaGreatDoor.Sx
end
section
namespace Go.Proofs.YtelpkgbghhpgaaaGreatDoor.Sx
open AV
section
variable {g0 g : Gh} {st0 st : St} {w0 w w' : World} {f f' : Fh} {fr : Fr} {tmps : Array Value}
theorem Inv.hinv_chg (h : HInv g w st) (hc : Chg (fun _ => False) w w') : HInv g w' st :=
  h.trans (I := g.imm) hc (fun _ _ h => h) (fun _ _ _ => id) (fun b o hb => cell_of_block (hc.block b (h.immlt b o hb) id) o) (fun _ _ h => .inl h) (fun b o hb => Nat.lt_of_lt_of_le (h.immlt b o hb) hc.size)
def Fh.live (f : Fh) (li ser b : Nat) : Fh := { f with lblk := fun l s => if l = li ∧ s = ser then some b else f.lblk l s }
theorem Inv.locAlloc (h : Inv g0 st0 w0 g f fr st w tmps) {li ser s0 : Nat} {cs0 cs : List AV} {vs : Array Value} {e : TypeId} (hl : fr.loc[li]? = some (s0, cs0)) (hs : s0 < ser) (hser : ser ≤ fr.ser)
    (hn : cs.length = vs.size) (hv : ∀ i (h : i < cs.length) (h' : i < vs.size), Rep g f st.size w cs[i] vs[i] ∧ vs[i].oneCell' = true) :
    Inv g0 st0 w0 g (f.live li ser w.heap.size) { fr with loc := fr.loc.set li (ser, cs) } st (w.alloc (.cells vs e)) tmps ∧
      Rep g (f.live li ser w.heap.size) st.size (w.alloc (.cells vs e)) (.lptr li ser 0) (.pointer (some ⟨w.heap.size, 0, none⟩)) := by
  have hc : Chg (fun _ => False) w (w.alloc (.cells vs e)) := Chg.alloc _ _ _
  have hfree : ∀ s, ser ≤ s → f.lblk li s = none := fun s hss => by
    cases hb : f.lblk li s with
    | none => rfl
    | some b =>
      obtain ⟨s1, cs1, h1, h2⟩ := h.fi.locdom li s b hb
      rw [hl] at h1; cases h1; omega
  have hfg : FGrow f (f.live li ser w.heap.size) := ⟨fun l s b hb => by
    show (if _ then _ else _) = _
    by_cases hh : l = li ∧ s = ser
    · obtain ⟨rfl, rfl⟩ := hh; rw [hfree s (Nat.le_refl _)] at hb; cases hb
    · rw [if_neg hh]; exact hb, fun _ _ _ h => h⟩
  have hgr : Grow g st.size w g st.size (w.alloc (.cells vs e)) := Grow.wide (I := g.imm) (fun _ _ h => h) (fun b o hb => cell_of_block (hc.block b (h.h.immlt b o hb) id) o)
  have hlen : li < fr.loc.length := (List.getElem?_eq_some_iff.1 hl).1
  have hloc : ∀ l x, (fr.loc.set li (ser, cs))[l]? = some x → (l = li ∧ x = (ser, cs)) ∨ (l ≠ li ∧ fr.loc[l]? = some x) := fun l x hx => by
    rw [List.getElem?_set] at hx
    by_cases e : li = l
    · subst e; simp [hlen] at hx; exact .inl ⟨rfl, hx.symm⟩
    · rw [if_neg e] at hx; exact .inr ⟨Ne.symm e, hx⟩
  have hcl : ∀ o b, FClaim (f.live li ser w.heap.size) { fr with loc := fr.loc.set li (ser, cs) } o b → FClaim f fr o b ∨ (o = .loc li ∧ b = w.heap.size) := fun o b ho => by
    cases o with
    | obj => exact .inl ho
    | row => exact .inl ho
    | tok => exact .inl ho
    | loc l =>
      obtain ⟨s, c, h1, h2, h3⟩ := ho
      rcases hloc l _ h1 with ⟨rfl, hx⟩ | ⟨hne, hx⟩
      · cases hx
        have h3' : (if l = l ∧ ser = ser then some w.heap.size else f.lblk l ser) = some b := h3
        simp at h3'
        exact .inr ⟨rfl, h3'.symm⟩
      · have h3' : (if l = li ∧ s = ser then some w.heap.size else f.lblk l s) = some b := h3
        rw [if_neg (fun x => hne x.1)] at h3'
        exact .inl ⟨s, c, hx, h2, h3'⟩
  refine ⟨⟨Inv.hinv_chg h.h hc, ⟨fun t => (h.fi.regs t).mono hgr hfg, ?_, ?_, ?_, h.fi.tok_chg h hc, h.fi.tokdom, ?_⟩, ?_, ?_, h.ext.trans ?_⟩, .lptr li ser 0 _ ?_⟩
  · intro l s c h1 h2
    rcases hloc l _ h1 with ⟨rfl, hx⟩ | ⟨hne, hx⟩
    · cases hx
      exact ⟨w.heap.size, vs, e, by show (if _ then _ else _) = _; simp, heap_alloc_new w _, hn, fun i a a' => ⟨(hv i a a').1.mono hgr hfg, (hv i a a').2⟩⟩
    · obtain ⟨b, vs', e', h3, h4, h5, h6⟩ := h.fi.loc l s c hx h2
      exact ⟨b, vs', e', hfg.lblk _ _ _ h3, (hc.block b (h.flt _ _ (show FClaim f fr (.loc l) b from ⟨s, c, hx, h2, h3⟩)).1 id).trans h4, h5, fun i a a' => ⟨(h6 i a a').1.mono hgr hfg, (h6 i a a').2⟩⟩
  · intro l s b hb
    have hb' : (if l = li ∧ s = ser then some w.heap.size else f.lblk l s) = some b := hb
    by_cases hh : l = li ∧ s = ser
    · obtain ⟨rfl, rfl⟩ := hh
      exact ⟨s, cs, by simp [hlen], Nat.le_refl _⟩
    · rw [if_neg hh] at hb'
      obtain ⟨s1, c1, h1, h2⟩ := h.fi.locdom l s b hb'
      by_cases e : l = li
      · subst e
        rw [hl] at h1; cases h1
        exact ⟨ser, cs, by simp [hlen], by omega⟩
      · exact ⟨s1, c1, by simp [Ne.symm e, h1], h2⟩
  · intro l s c h1
    rcases hloc l _ h1 with ⟨rfl, hx⟩ | ⟨hne, hx⟩
    · cases hx; exact hser
    · exact h.fi.locser l s c hx
  · intro l b hb o hI
    rcases hcl _ _ hb with hb' | ⟨_, rfl⟩
    · exact h.fi.noimm l b hb' o hI
    · exact absurd (h.h.immlt _ _ hI) (Nat.lt_irrefl _)
  · intro o b ho
    rcases hcl _ _ ho with hb' | ⟨_, rfl⟩
    · exact ⟨by have := (h.flt _ _ hb').1; simp; omega, (h.flt _ _ hb').2⟩
    · exact ⟨by simp, .inl h.ext.size⟩
  · have key : ∀ o b, (HClaim g st o b ∨ FClaim (f.live li ser w.heap.size) { fr with loc := fr.loc.set li (ser, cs) } o b) → (HClaim g st o b ∨ FClaim f fr o b) ∧ b < w.heap.size ∨ (o = .loc li ∧ b = w.heap.size) := fun o b ho => by
      rcases ho with ho | ho
      · exact .inl ⟨.inl ho, h.h.lt _ _ ho⟩
      · rcases hcl _ _ ho with hb' | hb'
        · exact .inl ⟨.inr hb', (h.flt _ _ hb').1⟩
        · exact .inr hb'
    intro o o' b ho ho'
    rcases key _ _ ho with ⟨k1, k2⟩ | ⟨rfl, rfl⟩ <;> rcases key _ _ ho' with ⟨k3, k4⟩ | ⟨rfl, k5⟩
    · exact h.uniq o o' b k1 k3
    · omega
    · omega
    · rfl
  · exact ⟨hgr, rfl, rfl, rfl, hc.size, fun b hb _ => hc.block b hb id, fun b o hb _ _ => hb, fun o b ho _ => ⟨o, ho⟩⟩
  · show (if _ then _ else _) = _; simp
end
end Go.Proofs.YtelpkgbghhpgaaaGreatDoor.Sx
end
section
namespace Go.Proofs.YtelpkgbghhpgaaaGreatDoor.Sx
open AV
section
variable {g0 g : Gh} {st0 st : St} {w0 w w' : World} {f f' : Fh} {fr : Fr} {tmps : Array Value}
theorem Inv.locStore (h : Inv g0 st0 w0 g f fr st w tmps) {li ser b : Nat} {cs cs' : List AV} {vs vs' : Array Value} {e : TypeId} (hl : fr.loc[li]? = some (ser, cs)) (hne : cs ≠ [])
    (hb : f.lblk li ser = some b) (hw : w.heap[b]? = some (.cells vs e (0, 0))) (hlen : cs'.length = cs.length)
    (hn : cs'.length = vs'.size) (hv : ∀ i (h : i < cs'.length) (h' : i < vs'.size), Rep g f st.size w cs'[i] vs'[i] ∧ vs'[i].oneCell' = true) :
    Inv g0 st0 w0 g f { fr with loc := fr.loc.set li (ser, cs') } st (w.setRow b vs') tmps := by
  have hne' : cs' ≠ [] := fun e => hne (List.eq_nil_of_length_eq_zero (by rw [← hlen, e]; rfl))
  have hcl0 : FClaim f fr (.loc li) b := ⟨ser, cs, hl, hne, hb⟩
  have hc : Chg (· = b) w (w.setRow b vs') := Chg.setRow _ _ _
  have hcell : ∀ k o, g.imm k o → (w.setRow b vs').cell? ⟨k, o, none⟩ = w.cell? ⟨k, o, none⟩ := fun k o hk => cell_of_block (hc.block k (h.h.immlt k o hk) (fun e => h.fi.noimm li b hcl0 o (e ▸ hk))) o
  have hgr : Grow g st.size w g st.size (w.setRow b vs') := Grow.wide (I := g.imm) (fun _ _ h => h) hcell
  have hXH : ∀ o k, HClaim g st o k → ¬ k = b := fun o k ho e => by subst e; have := h.uniq _ _ _ (.inl ho) (.inr hcl0); subst this; exact ho
  have hXF : ∀ o k, FClaim f fr o k → o ≠ .loc li → ¬ k = b := fun o k ho hne e => by subst e; exact hne (h.uniq _ _ _ (.inr ho) (.inr hcl0))
  have hlen' : li < fr.loc.length := (List.getElem?_eq_some_iff.1 hl).1
  have hloc : ∀ l x, (fr.loc.set li (ser, cs'))[l]? = some x → (l = li ∧ x = (ser, cs')) ∨ (l ≠ li ∧ fr.loc[l]? = some x) := fun l x hx => by
    rw [List.getElem?_set] at hx
    by_cases e : li = l
    · subst e; simp [hlen'] at hx; exact .inl ⟨rfl, hx.symm⟩
    · rw [if_neg e] at hx; exact .inr ⟨Ne.symm e, hx⟩
  have hcl : ∀ o k, FClaim f { fr with loc := fr.loc.set li (ser, cs') } o k → FClaim f fr o k := fun o k ho => by
    cases o with
    | obj => exact ho
    | row => exact ho
    | tok => exact ho
    | loc l =>
      obtain ⟨s, c, h1, h2, h3⟩ := ho
      rcases hloc l _ h1 with ⟨rfl, hx⟩ | ⟨_, hx⟩
      · cases hx; exact ⟨ser, cs, hl, hne, h3⟩
      · exact ⟨s, c, hx, h2, h3⟩
  refine ⟨h.h.trans (I := g.imm) hc (fun _ _ h => h) hXH hcell (fun _ _ h => .inl h) (fun k o hk => by simpa using h.h.immlt k o hk), ⟨fun t => (h.fi.regs t).mono hgr (FGrow.refl _), ?_, ?_, ?_, ?_, h.fi.tokdom, fun l k hk => h.fi.noimm l k (hcl _ _ hk)⟩, ?_, ?_, h.ext.step hc (fun k hk => .inl (by subst hk; exact (h.flt _ _ hcl0).2)) hgr (fun _ _ h => .inl h) (fun o k ho _ => .inr ⟨o, ho⟩)⟩
  · intro l s c h1 h2
    rcases hloc l _ h1 with ⟨rfl, hx⟩ | ⟨hnl, hx⟩
    · cases hx
      exact ⟨b, vs', e, hb, setRow_heap w b vs vs' e _ hw, hn, fun i a a' => ⟨(hv i a a').1.mono hgr (FGrow.refl _), (hv i a a').2⟩⟩
    · obtain ⟨k, vs1, e1, h3, h4, h5, h6⟩ := h.fi.loc l s c hx h2
      have hk : FClaim f fr (.loc l) k := ⟨s, c, hx, h2, h3⟩
      exact ⟨k, vs1, e1, h3, (hc.block k (h.flt _ _ hk).1 (hXF _ _ hk (by simpa using hnl))).trans h4, h5, fun i a a' => ⟨(h6 i a a').1.mono hgr (FGrow.refl _), (h6 i a a').2⟩⟩
  · intro l s k hk
    obtain ⟨s1, c1, h1, h2⟩ := h.fi.locdom l s k hk
    by_cases e : l = li
    · subst e; rw [hl] at h1; cases h1; exact ⟨ser, cs', by simp [hlen'], h2⟩
    · exact ⟨s1, c1, by simp [Ne.symm e, h1], h2⟩
  · intro l s c h1
    rcases hloc l _ h1 with ⟨rfl, hx⟩ | ⟨_, hx⟩
    · cases hx; exact h.fi.locser l ser cs hl
    · exact h.fi.locser l s c hx
  · intro k L h1 h2
    obtain ⟨c, sz, h3, h4⟩ := h.fi.tok k L h1 h2
    refine ⟨c, sz, h3, h4.mono (fun x hx => ?_) fun _ _ _ h => h⟩
    have hk : FClaim f fr (.tok k) x := ⟨L, (c, sz), h1, h2, h3, hx⟩
    exact hc.block x (h.flt _ _ hk).1 (hXF _ _ hk (by simp))
  · exact fun o k hk => ⟨by simpa using (h.flt _ _ (hcl _ _ hk)).1, (h.flt _ _ (hcl _ _ hk)).2⟩
  · exact fun o o' k ho ho' => h.uniq o o' k (ho.imp id (hcl _ _)) (ho'.imp id (hcl _ _))
end
end Go.Proofs.YtelpkgbghhpgaaaGreatDoor.Sx
end
section
namespace Go.Proofs.YtelpkgbghhpgaaaGreatDoor.Sx
open AV
section
variable {g0 g : Gh} {st0 st : St} {w0 w w' : World} {f f' : Fh} {fr : Fr} {tmps : Array Value}
theorem St.cells_eq {id : Nat} {cs : List AV} : st.cells id = some cs ↔ st.objs[id]? = some (.cells cs) := by
  unfold St.cells
  cases h : st.objs[id]? with
  | none => simp
  | some o => cases o <;> simp
theorem St.entries_eq {id : Nat} {es : List (AV × AV)} : st.entries id = some es ↔ st.objs[id]? = some (.map es) := by
  unfold St.entries
  cases h : st.objs[id]? with
  | none => simp
  | some o => cases o <;> simp
theorem St.cells_lt {id : Nat} {cs : List AV} (h : st.cells id = some cs) : id < st.size := (List.getElem?_eq_some_iff.1 (St.cells_eq.1 h)).1
theorem push_old {o x : HObj} {id : Nat} (h : (st.push o).objs[id]? = some x) : (id = st.size ∧ x = o) ∨ (id < st.size ∧ st.objs[id]? = some x) := by
  have h' : (st.objs ++ [o])[id]? = some x := h
  by_cases e : id < st.objs.length
  · rw [List.getElem?_append_left e] at h'; exact .inr ⟨e, h'⟩
  · rw [List.getElem?_append_right (by omega)] at h'
    have : id - st.objs.length < 1 := by
      have := (List.getElem?_eq_some_iff.1 h').1; simpa using this
    have e2 : id - st.objs.length = 0 := by omega
    rw [e2] at h'; simp at h'
    exact .inl ⟨show id = st.objs.length by omega, h'.symm⟩
theorem push_get {o x : HObj} {id : Nat} (h : st.objs[id]? = some x) : (st.push o).objs[id]? = some x := by
  have e : id < st.objs.length := (List.getElem?_eq_some_iff.1 h).1
  show (st.objs ++ [o])[id]? = _
  rw [List.getElem?_append_left e, h]
theorem size_pushH (o : HObj) : (st.push o).size = st.size + 1 := by
  show (st.objs ++ [o]).length = _
  simp [St.size]
def Gh.push (g : Gh) (n b : Nat) : Gh := { g with blk := fun id => if id = n then b else g.blk id, hdr := fun id off L => if id = n then none else g.hdr id off L }
theorem Inv.push (h : Inv g0 st0 w0 g f fr st w tmps) {o : HObj} {x : Obj}
    (hno : ∀ (cs : List AV), o = .cells cs → ∀ (off sz : Nat) (els : List (List AV)) (i p : Nat), cs[off]? ≠ some (AV.slice sz els (.cell i p)))
    (hok : ObjOk (g.push st.size w.heap.size) (w.alloc x) st.size o) :
    Inv g0 st0 w0 (g.push st.size w.heap.size) f fr (st.push o) (w.alloc x) tmps := by
  have hc : Chg (fun _ => False) w (w.alloc x) := Chg.alloc _ _ _
  have hcell : ∀ b o, g.imm b o → (w.alloc x).cell? ⟨b, o, none⟩ = w.cell? ⟨b, o, none⟩ := fun b o hb => cell_of_block (hc.block b (h.h.immlt b o hb) id) o
  have hgr : ∀ n, n ≤ st.size → Grow g n w (g.push st.size w.heap.size) n (w.alloc x) := fun n hn => ⟨Nat.le_refl _, fun id hi => by show (if _ then _ else _) = _; rw [if_neg (by omega)],
    fun id off L c hi hh => by show (if _ then _ else _) = _; rw [if_neg (by omega)]; exact hh, fun _ _ h => h, hcell⟩
  have hgr1 : Grow g st.size w (g.push st.size w.heap.size) (st.push o).size (w.alloc x) := ⟨by rw [size_pushH]; omega, (hgr _ (Nat.le_refl _)).blk, (hgr _ (Nat.le_refl _)).hdr, (hgr _ (Nat.le_refl _)).imm, hcell⟩
  have hblk : ∀ id, id < st.size → (g.push st.size w.heap.size).blk id = g.blk id := fun id hi => by show (if _ then _ else _) = _; rw [if_neg (by omega)]
  have hnew : (g.push st.size w.heap.size).blk st.size = w.heap.size := by show (if _ then _ else _) = _; simp
  have hhdr : ∀ id off L, id < st.size → (g.push st.size w.heap.size).hdr id off L = g.hdr id off L := fun id off L hi => by show (if _ then _ else _) = _; rw [if_neg (by omega)]
  have hcl : ∀ ow b, HClaim (g.push st.size w.heap.size) (st.push o) ow b → HClaim g st ow b ∨ (ow = .obj st.size ∧ b = w.heap.size) := fun ow b ho => by
    cases ow with
    | loc => exact ho.elim
    | tok => exact ho.elim
    | obj id =>
      obtain ⟨h1, h2⟩ := ho
      rw [size_pushH] at h1
      by_cases e : id = st.size
      · subst e; rw [hnew] at h2; exact .inr ⟨rfl, h2.symm⟩
      · rw [hblk id (by omega)] at h2; exact .inl ⟨by omega, h2⟩
    | row id off =>
      obtain ⟨cs, sz, els, c, h1, h2, h3, h4⟩ := ho
      rcases push_old (St.cells_eq.1 h1) with ⟨rfl, e⟩ | ⟨hi, e⟩
      · exact absurd h2 (hno cs e.symm off sz els _ _)
      · rw [hhdr id off _ hi] at h3; exact .inl ⟨cs, sz, els, c, St.cells_eq.2 e, h2, h3, h4⟩
  refine ⟨⟨?_, ?_, ?_, ?_, ?_, ?_⟩, ⟨fun t => (h.fi.regs t).mono hgr1 (FGrow.refl _), ?_, h.fi.locdom, h.fi.locser, ?_, h.fi.tokdom, h.fi.noimm⟩, ?_, ?_, ?_⟩
  · intro id x' hx'
    rcases push_old hx' with ⟨rfl, rfl⟩ | ⟨hi, e⟩
    · exact hok
    · have := h.h.obj id x' e
      cases x' with
      | cells cs =>
        obtain ⟨vs, e, h1, h2, h3⟩ := this
        refine ⟨vs, e, ?_, h2, fun i a b => ⟨(h3 i a b).1.mono (hgr _ hi) (FGrow.refl _), (h3 i a b).2⟩⟩
        rw [hblk id hi]; exact (hc.block _ (h.h.obj_lt hi) _root_.id).trans h1
      | map es =>
        obtain ⟨entries, clock, h1, h2, h3⟩ := this
        refine ⟨entries, clock, ?_, h2, fun i a b => ?_⟩
        · rw [hblk id hi]; exact (hc.block _ (h.h.obj_lt hi) _root_.id).trans h1
        · obtain ⟨k1, k2, k3, k4⟩ := h3 i a b
          exact ⟨k1, k2.mono (fun _ _ h => h) hcell, k3, k4.mono ⟨Nat.le_refl _, fun _ _ => rfl, fun _ _ _ _ _ h => h, fun _ _ h => h, hcell⟩ (FGrow.refl _)⟩
  · intro ow b ho
    rcases hcl ow b ho with h' | ⟨_, rfl⟩
    · have := h.h.lt ow b h'; simp; omega
    · simp
  · intro id hi o' hI
    rw [size_pushH] at hi
    by_cases e : id = st.size
    · subst e; rw [hnew] at hI; exact absurd (h.h.immlt _ _ hI) (Nat.lt_irrefl _)
    · rw [hblk id (by omega)] at hI; exact h.h.noimm id (by omega) o' hI
  · exact fun b o' hb => by have := h.h.immlt b o' hb; simp; omega
  · intro id cs off sz els h1 h2
    rcases push_old (St.cells_eq.1 h1) with ⟨rfl, e⟩ | ⟨hi, e⟩
    · exact absurd h2 (hno cs e.symm off sz els _ _)
    · obtain ⟨c, h3, h4⟩ := h.h.row id cs off sz els (St.cells_eq.2 e) h2
      refine ⟨c, by rw [hhdr id off _ hi]; exact h3, h4.mono (fun b hb => hc.block b ?_ _root_.id) fun _ _ _ h => h⟩
      exact h.h.lt (.row id off) b ⟨cs, sz, els, (c, sz), St.cells_eq.2 e, h2, h3, hb⟩
  · intro id off L y hi hy
    rw [size_pushH] at hi
    by_cases e : id = st.size
    · subst e
      have : (if st.size = st.size then none else g.hdr st.size off L) = some y := hy
      simp at this
    · rw [hhdr id off L (by omega)] at hy
      obtain ⟨cs, v, h1, h2, h3⟩ := h.h.dom id off L y (by omega) hy
      exact ⟨cs, v, St.cells_eq.2 (push_get (St.cells_eq.1 h1)), h2, h3⟩
  · intro li ser cs h1 h2
    obtain ⟨b, vs, e, h3, h4, h5, h6⟩ := h.fi.loc li ser cs h1 h2
    exact ⟨b, vs, e, h3, (hc.block b (h.flt _ _ (show FClaim f fr (.loc li) b from ⟨ser, cs, h1, h2, h3⟩)).1 id).trans h4, h5, fun i a a' => ⟨(h6 i a a').1.mono hgr1 (FGrow.refl _), (h6 i a a').2⟩⟩
  · exact h.fi.tok_chg h hc
  · exact fun ow b ho => ⟨by have := (h.flt ow b ho).1; simp; omega, (h.flt ow b ho).2⟩
  · have key : ∀ ow b, HClaim (g.push st.size w.heap.size) (st.push o) ow b ∨ FClaim f fr ow b → (HClaim g st ow b ∨ FClaim f fr ow b) ∧ b < w.heap.size ∨ (ow = .obj st.size ∧ b = w.heap.size) := fun ow b ho => by
      rcases ho with ho | ho
      · rcases hcl ow b ho with h' | h'
        · exact .inl ⟨.inl h', h.h.lt _ _ h'⟩
        · exact .inr h'
      · exact .inl ⟨.inr ho, (h.flt _ _ ho).1⟩
    intro o1 o2 b ho ho'
    rcases key _ _ ho with ⟨k1, k2⟩ | ⟨rfl, rfl⟩ <;> rcases key _ _ ho' with ⟨k3, k4⟩ | ⟨rfl, k5⟩
    · exact h.uniq o1 o2 b k1 k3
    · omega
    · omega
    · rfl
  · refine h.ext.step hc (fun _ => False.elim) hgr1 (fun _ _ h => .inl h) fun ow b ho hb => ?_
    rcases hcl ow b ho with h' | ⟨_, rfl⟩
    · exact .inr ⟨ow, h'⟩
    · have := h.ext.size; omega
theorem setCells_get {id j : Nat} {cs : List AV} {x : HObj} (h : (st.setCells id cs).objs[j]? = some x) : (j = id ∧ x = .cells cs) ∨ (j ≠ id ∧ st.objs[j]? = some x) := by
  have h' : (st.objs.set id (.cells cs))[j]? = some x := h
  rw [List.getElem?_set] at h'
  by_cases e : id = j
  · subst e
    rw [if_pos rfl] at h'
    split at h'
    · exact .inl ⟨rfl, (Option.some.inj h').symm⟩
    · cases h'
  · rw [if_neg e] at h'; exact .inr ⟨Ne.symm e, h'⟩
theorem setCells_new {id : Nat} {cs : List AV} (hi : id < st.size) : (st.setCells id cs).cells id = some cs := by
  apply St.cells_eq.2
  show (st.objs.set id (.cells cs))[id]? = _
  rw [List.getElem?_set_self hi]
theorem setCells_old {id j : Nat} {cs : List AV} (hj : j ≠ id) : (st.setCells id cs).objs[j]? = st.objs[j]? := by
  show (st.objs.set id (.cells cs))[j]? = _
  rw [List.getElem?_set_ne (Ne.symm hj)]
theorem size_setCells (id : Nat) (cs : List AV) : (st.setCells id cs).size = st.size := by
  show (st.objs.set id (.cells cs)).length = _
  simp [St.size]
def Gh.head (g : Gh) (id off L : Nat) (x : Value × Nat) : Gh := { g with hdr := fun i o l => if i = id ∧ o = off ∧ l = L then some x else g.hdr i o l }
end
end Go.Proofs.YtelpkgbghhpgaaaGreatDoor.Sx
end
