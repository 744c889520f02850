/- TreeSames returns true for all programs whose data are not larger than a bound. The program's functions as plain code. -/
import Derived.Test.YtelpkgbghhpgaaaGreatDoorS0
set_option linter.all false
section
namespace Go.Proofs.YtelpkgbghhpgaaaGreatDoor.Sx
open AV

/-! ### What a plain value stands for in memory -/

/-- Plain data: `I` are the cells that nobody writes any more. -/
inductive PRep (w : World) (I : Nat → Nat → Prop) : AV → Value → Prop
  | int (k : IntKind) (n : Int) : PRep w I (.int k n) (.int k n)
  | bool (b : Bool) : PRep w I (.bool b) (.bool b)
  | str (s : List UInt8) : PRep w I (.str s) (.string ⟨s.toArray⟩)
  | nilptr : PRep w I .nilptr (.pointer none)
  | nilslice : PRep w I .nilslice (.slice none 0 0)
  | nilmap : PRep w I .nilmap (.map none)
  | nilIface : PRep w I .nilIface .nilIface
  | nilFunc : PRep w I .nilFunc .nilFunc
  | slice (sz : Nat) (els : List (List AV)) (a : Addr) (cap : Nat) (vs : Nat → Value)
      (hu : ∀ e ∈ els, e.length = sz) (hc : els.length ≤ cap) (hsp : 0 < els.flatten.length → a.spot = none)
      (hrow : ∀ k, k < els.flatten.length → I a.block (a.off + k) ∧ w.cell? ⟨a.block, a.off + k, none⟩ = some (vs k))
      (hel : ∀ k (h : k < els.flatten.length), PRep w I els.flatten[k] (vs k)) : PRep w I (.slice sz els .no) (.slice (some a) els.length cap)

theorem PRep.mono {w w' : World} {I I' : Nat → Nat → Prop} {v : AV} {c : Value} (h : PRep w I v c) (hi : ∀ b o, I b o → I' b o)
    (hw : ∀ b o, I b o → w'.cell? ⟨b, o, none⟩ = w.cell? ⟨b, o, none⟩) : PRep w' I' v c := by
  induction h with
  | slice sz els a cap vs hu hc hsp hrow _ ih => exact .slice sz els a cap vs hu hc hsp (fun k hk => ⟨hi _ _ (hrow k hk).1, (hw _ _ (hrow k hk).1).trans (hrow k hk).2⟩) ih
  | _ => constructor

theorem PRep.oneCell {w : World} {I : Nat → Nat → Prop} {v : AV} {c : Value} (h : PRep w I v c) : c.oneCell' = true := by
  cases h <;> rfl

theorem PRep.plain1 {w : World} {I : Nat → Nat → Prop} {v : AV} {c : Value} (h : PRep w I v c) : v.plain1 = true := by
  cases h <;> rfl

/-- Cells that nobody writes, from an address on. -/
structure RowRep (w : World) (I : Nat → Nat → Prop) (cs : List AV) (a : Addr) (vs : Nat → Value) : Prop where
  spot : 0 < cs.length → a.spot = none
  row : ∀ k, k < cs.length → I a.block (a.off + k) ∧ w.cell? ⟨a.block, a.off + k, none⟩ = some (vs k)
  el : ∀ k (h : k < cs.length), PRep w I cs[k] (vs k)

theorem RowRep.mono {w w' : World} {I I' : Nat → Nat → Prop} {cs : List AV} {a : Addr} {vs : Nat → Value} (h : RowRep w I cs a vs) (hi : ∀ b o, I b o → I' b o)
    (hw : ∀ b o, I b o → w'.cell? ⟨b, o, none⟩ = w.cell? ⟨b, o, none⟩) : RowRep w' I' cs a vs :=
  ⟨h.spot, fun k hk => ⟨hi _ _ (h.row k hk).1, (hw _ _ (h.row k hk).1).trans (h.row k hk).2⟩, fun k hk => (h.el k hk).mono hi hw⟩

/-- The ghosts of the heap: the block of each object; the cells that nobody writes; the header that the row of a cell had at each length. -/
structure Gh where
  blk : Nat → Nat
  imm : Nat → Nat → Prop
  hdr : Nat → Nat → Nat → Option (Value × Nat)

/-- The ghosts of a frame: the block of each variable of its own at each of its lives; the header of each row that it owns at each length. -/
structure Fh where
  lblk : Nat → Nat → Option Nat
  fh : Nat → Nat → Option (Value × Nat)

def Fh.none : Fh := ⟨fun _ _ => .none, fun _ _ => .none⟩

def OwnRep (g : Gh) (f : Fh) (n sz L : Nat) (c : Value) : Own → Prop
  | .no => True
  | .tight => ∃ a, c = .slice a L L
  | .ftok k => f.fh k L = some (c, sz)
  | .cell id off => id < n ∧ g.hdr id off L = some (c, sz)
  | .spent .. => True

inductive Rep (g : Gh) (f : Fh) (n : Nat) (w : World) : AV → Value → Prop
  | plain {v : AV} {c : Value} : PRep w g.imm v c → Rep g f n w v c
  | junk (c : Value) : Rep g f n w .junk c
  | ptr (id off : Nat) : id < n → Rep g f n w (.ptr id off) (.pointer (some ⟨g.blk id, off, none⟩))
  | lptr (li ser off b : Nat) : f.lblk li ser = some b → Rep g f n w (.lptr li ser off) (.pointer (some ⟨b, off, none⟩))
  | vptr (cs : List AV) (a : Addr) (vs : Nat → Value) : RowRep w g.imm cs a vs → Rep g f n w (.vptr cs) (.pointer (some a))
  | slice (sz : Nat) (els : List (List AV)) (own : Own) (c : Value) : PRep w g.imm (.slice sz els .no) c → OwnRep g f n sz els.length c own → Rep g f n w (.slice sz els own) c
  | mapr (id : Nat) : id < n → Rep g f n w (.mapr id) (.map (some (g.blk id)))
  | agg (cs : List AV) (vs : List Value) : cs.length = vs.length → (∀ i (h : i < cs.length) (h' : i < vs.length), Rep g f n w cs[i] vs[i]) → (∀ c ∈ vs, c.oneCell' = true) → Rep g f n w (.agg cs) (.agg vs.toArray)
  | tuple (cs : List AV) (vs : List Value) : cs.length = vs.length → (∀ i (h : i < cs.length) (h' : i < vs.length), Rep g f n w cs[i] vs[i]) → Rep g f n w (.tuple cs) (.tuple vs.toArray)
  | iface (t : Nat) (v : AV) (c : Value) : v.plain = true → Rep g f n w v c → Rep g f n w (.iface t v) (.iface t c)
  | func (fn : Fn) (a b : List AV) (va vb : List Value) : a.length = va.length → b.length = vb.length → (∀ i (h : i < a.length) (h' : i < va.length), Rep g f n w a[i] va[i]) →
      (∀ i (h : i < b.length) (h' : i < vb.length), Rep g f n w b[i] vb[i]) → Rep g f n w (.func fn a b) (.func fn va.toArray vb.toArray)

/-- What a step may do to the ghosts and the world as values see them. -/
structure Grow (g : Gh) (n : Nat) (w : World) (g' : Gh) (n' : Nat) (w' : World) : Prop where
  le : n ≤ n'
  blk : ∀ id, id < n → g'.blk id = g.blk id
  hdr : ∀ id off L x, id < n → g.hdr id off L = some x → g'.hdr id off L = some x
  imm : ∀ b o, g.imm b o → g'.imm b o
  cell : ∀ b o, g.imm b o → w'.cell? ⟨b, o, none⟩ = w.cell? ⟨b, o, none⟩

theorem Grow.refl (g : Gh) (n : Nat) (w : World) : Grow g n w g n w := ⟨Nat.le_refl _, fun _ _ => rfl, fun _ _ _ _ _ h => h, fun _ _ h => h, fun _ _ _ => rfl⟩
theorem Grow.trans {g g1 g2 : Gh} {n n1 n2 : Nat} {w w1 w2 : World} (h : Grow g n w g1 n1 w1) (k : Grow g1 n1 w1 g2 n2 w2) : Grow g n w g2 n2 w2 :=
  ⟨Nat.le_trans h.le k.le, fun id hi => (k.blk id (Nat.lt_of_lt_of_le hi h.le)).trans (h.blk id hi), fun id off L c hi hh => k.hdr id off L c (Nat.lt_of_lt_of_le hi h.le) (h.hdr id off L c hi hh),
    fun b o hi => k.imm b o (h.imm b o hi), fun b o hi => (k.cell b o (h.imm b o hi)).trans (h.cell b o hi)⟩

structure FGrow (f f' : Fh) : Prop where
  lblk : ∀ li ser b, f.lblk li ser = some b → f'.lblk li ser = some b
  fh : ∀ k L x, f.fh k L = some x → f'.fh k L = some x

theorem FGrow.refl (f : Fh) : FGrow f f := ⟨fun _ _ _ h => h, fun _ _ _ h => h⟩
theorem FGrow.trans {f f1 f2 : Fh} (h : FGrow f f1) (k : FGrow f1 f2) : FGrow f f2 := ⟨fun a b c x => k.lblk a b c (h.lblk a b c x), fun a b c x => k.fh a b c (h.fh a b c x)⟩
theorem FGrow.none (f : Fh) : FGrow Fh.none f := ⟨fun _ _ _ h => by simp [Fh.none] at h, fun _ _ _ h => by simp [Fh.none] at h⟩

theorem OwnRep.mono {g g' : Gh} {f f' : Fh} {n n' sz L : Nat} {w w' : World} {c : Value} {o : Own} (h : OwnRep g f n sz L c o) (hg : Grow g n w g' n' w') (hf : FGrow f f') : OwnRep g' f' n' sz L c o := by
  cases o with
  | no => trivial
  | tight => exact h
  | ftok k => exact hf.fh _ _ _ h
  | cell id off => exact ⟨Nat.lt_of_lt_of_le h.1 hg.le, hg.hdr _ _ _ _ h.1 h.2⟩
  | spent => trivial

theorem Rep.mono {g g' : Gh} {f f' : Fh} {n n' : Nat} {w w' : World} {v : AV} {c : Value} (h : Rep g f n w v c) (hg : Grow g n w g' n' w') (hf : FGrow f f') : Rep g' f' n' w' v c := by
  induction h with
  | plain hp => exact .plain (hp.mono hg.imm hg.cell)
  | junk c => exact .junk c
  | ptr id off hi => rw [← hg.blk id hi]; exact .ptr id off (Nat.lt_of_lt_of_le hi hg.le)
  | lptr li ser off b hb => exact .lptr li ser off b (hf.lblk _ _ _ hb)
  | vptr cs a vs hr => exact .vptr cs a vs (hr.mono hg.imm hg.cell)
  | slice sz els own c hp ho => exact .slice sz els own c (hp.mono hg.imm hg.cell) (ho.mono hg hf)
  | mapr id hi => rw [← hg.blk id hi]; exact .mapr id (Nat.lt_of_lt_of_le hi hg.le)
  | agg cs vs hl _ h1 ih => exact .agg cs vs hl ih h1
  | tuple cs vs hl _ ih => exact .tuple cs vs hl ih
  | iface t v c hp _ ih => exact .iface t v c hp ih
  | func fn a b va vb ha hb _ _ iha ihb => exact .func fn a b va vb ha hb iha ihb

section
variable {g : Gh} {f : Fh} {n : Nat} {w : World} {c : Value}

theorem Rep.int_inv {k : IntKind} {m : Int} (h : Rep g f n w (.int k m) c) : c = .int k m := by
  cases h with | plain h => cases h; rfl
theorem Rep.bool_inv {b : Bool} (h : Rep g f n w (.bool b) c) : c = .bool b := by
  cases h with | plain h => cases h; rfl
theorem Rep.str_inv {s : List UInt8} (h : Rep g f n w (.str s) c) : c = .string ⟨s.toArray⟩ := by
  cases h with | plain h => cases h; rfl
theorem Rep.nilptr_inv (h : Rep g f n w .nilptr c) : c = .pointer none := by
  cases h with | plain h => cases h; rfl
theorem Rep.nilslice_inv (h : Rep g f n w .nilslice c) : c = .slice none 0 0 := by
  cases h with | plain h => cases h; rfl
theorem Rep.nilmap_inv (h : Rep g f n w .nilmap c) : c = .map none := by
  cases h with | plain h => cases h; rfl
theorem Rep.nilIface_inv (h : Rep g f n w .nilIface c) : c = .nilIface := by
  cases h with | plain h => cases h; rfl
theorem Rep.nilFunc_inv (h : Rep g f n w .nilFunc c) : c = .nilFunc := by
  cases h with | plain h => cases h; rfl
theorem Rep.ptr_inv {id off : Nat} (h : Rep g f n w (.ptr id off) c) : id < n ∧ c = .pointer (some ⟨g.blk id, off, none⟩) := by
  cases h with
  | plain h => cases h
  | ptr _ _ hi => exact ⟨hi, rfl⟩
theorem Rep.lptr_inv {li ser off : Nat} (h : Rep g f n w (.lptr li ser off) c) : ∃ b, f.lblk li ser = some b ∧ c = .pointer (some ⟨b, off, none⟩) := by
  cases h with
  | plain h => cases h
  | lptr _ _ _ b hb => exact ⟨b, hb, rfl⟩
theorem Rep.vptr_inv {cs : List AV} (h : Rep g f n w (.vptr cs) c) : ∃ a vs, RowRep w g.imm cs a vs ∧ c = .pointer (some a) := by
  cases h with
  | plain h => cases h
  | vptr _ a vs hr => exact ⟨a, vs, hr, rfl⟩
theorem Rep.mapr_inv {id : Nat} (h : Rep g f n w (.mapr id) c) : id < n ∧ c = .map (some (g.blk id)) := by
  cases h with
  | plain h => cases h
  | mapr _ hi => exact ⟨hi, rfl⟩
theorem Rep.slice_inv {sz : Nat} {els : List (List AV)} {own : Own} (h : Rep g f n w (.slice sz els own) c) : PRep w g.imm (.slice sz els .no) c ∧ OwnRep g f n sz els.length c own := by
  cases h with
  | plain h =>
    cases h with
    | slice _ _ a cap vs hu hc hsp hrow hel => exact ⟨.slice sz els a cap vs hu hc hsp hrow hel, trivial⟩
  | slice _ _ _ _ hp ho => exact ⟨hp, ho⟩
theorem Rep.agg_inv {cs : List AV} (h : Rep g f n w (.agg cs) c) : ∃ vs : List Value, c = .agg vs.toArray ∧ cs.length = vs.length ∧
    (∀ i (h : i < cs.length) (h' : i < vs.length), Rep g f n w cs[i] vs[i]) ∧ (∀ c ∈ vs, c.oneCell' = true) := by
  cases h with
  | plain h => cases h
  | agg _ vs hl hr h1 => exact ⟨vs, rfl, hl, hr, h1⟩
theorem Rep.tuple_inv {cs : List AV} (h : Rep g f n w (.tuple cs) c) : ∃ vs : List Value, c = .tuple vs.toArray ∧ cs.length = vs.length ∧
    (∀ i (h : i < cs.length) (h' : i < vs.length), Rep g f n w cs[i] vs[i]) := by
  cases h with
  | plain h => cases h
  | tuple _ vs hl hr => exact ⟨vs, rfl, hl, hr⟩
theorem Rep.iface_inv {t : Nat} {v : AV} (h : Rep g f n w (.iface t v) c) : ∃ x, c = .iface t x ∧ v.plain = true ∧ Rep g f n w v x := by
  cases h with
  | plain h => cases h
  | iface _ _ x hp hr => exact ⟨x, rfl, hp, hr⟩
theorem Rep.func_inv {fn : Fn} {a b : List AV} (h : Rep g f n w (.func fn a b) c) : ∃ va vb : List Value, c = .func fn va.toArray vb.toArray ∧ a.length = va.length ∧ b.length = vb.length ∧
    (∀ i (h : i < a.length) (h' : i < va.length), Rep g f n w a[i] va[i]) ∧ (∀ i (h : i < b.length) (h' : i < vb.length), Rep g f n w b[i] vb[i]) := by
  cases h with
  | plain h => cases h
  | func _ _ _ va vb ha hb h1 h2 => exact ⟨va, vb, rfl, ha, hb, h1, h2⟩

theorem PRep.slice_inv {I : Nat → Nat → Prop} {sz : Nat} {els : List (List AV)} {own : Own} (h : PRep w I (.slice sz els own) c) : own = .no ∧ ∃ a cap vs, c = .slice (some a) els.length cap ∧ (∀ e ∈ els, e.length = sz) ∧
    els.length ≤ cap ∧ RowRep w I els.flatten a vs := by
  cases h with
  | slice _ _ a cap vs hu hc hsp hrow hel => exact ⟨rfl, a, cap, vs, rfl, hu, hc, ⟨hsp, hrow, hel⟩⟩
theorem PRep.of_row {I : Nat → Nat → Prop} {sz : Nat} {els : List (List AV)} {a : Addr} {cap : Nat} {vs : Nat → Value} (hu : ∀ e ∈ els, e.length = sz) (hc : els.length ≤ cap) (h : RowRep w I els.flatten a vs) :
    PRep w I (.slice sz els .no) (.slice (some a) els.length cap) := .slice sz els a cap vs hu hc h.spot h.row h.el

end
end Go.Proofs.YtelpkgbghhpgaaaGreatDoor.Sx
end
section
namespace Go.Proofs.YtelpkgbghhpgaaaGreatDoor.Sx
open AV

/-! ### Who owns which block -/

inductive Ow where
  | obj (id : Nat)
  | row (id off : Nat)
  | loc (li : Nat)
  | tok (k : Nat)

def HClaim (g : Gh) (st : St) : Ow → Nat → Prop
  | .obj id, b => id < st.size ∧ g.blk id = b
  | .row id off, b => ∃ cs sz els c, st.cells id = some cs ∧ cs[off]? = some (.slice sz els (.cell id off)) ∧ g.hdr id off els.length = some c ∧ c.1.ownBlock = some b
  | _, _ => False

def FClaim (f : Fh) (fr : Fr) : Ow → Nat → Prop
  | .loc li, b => ∃ ser cs, fr.loc[li]? = some (ser, cs) ∧ cs ≠ [] ∧ f.lblk li ser = some b
  | .tok k, b => ∃ L c, fr.ftoks[k]? = some L ∧ L ≠ 0 ∧ f.fh k L = some c ∧ c.1.ownBlock = some b
  | _, _ => False

/-- A row with room behind its first `L` elements: the room is written by nobody but its owner. -/
structure OwnRow (w : World) (I : Nat → Nat → Prop) (c : Value) (sz L : Nat) : Prop where
  ex : ∃ b cap cur e, c = .slice (some ⟨b, 0, none⟩) L cap ∧ w.heap[b]? = some (.cells cur e (0, 0)) ∧ L ≤ cap ∧ cap ≤ maxLen ∧ cur.size = cap * sz ∧ ∀ o, L * sz ≤ o → ¬ I b o

def EntRep (w : World) (I : Nat → Nat → Prop) (x : AV × AV) (e : MapEntry) : Prop :=
  keyOk x.1 = true ∧ PRep w I x.1 e.key ∧ x.2.plain = true ∧ Rep ⟨fun _ => 0, I, fun _ _ _ => none⟩ Fh.none 0 w x.2 e.val

def ObjOk (g : Gh) (w : World) (id : Nat) : HObj → Prop
  | .cells cs => ∃ vs e, w.heap[g.blk id]? = some (.cells vs e (0, 0)) ∧ cs.length = vs.size ∧ ∀ i (h : i < cs.length) (h' : i < vs.size), Rep g Fh.none (id + 1) w cs[i] vs[i] ∧ vs[i].oneCell' = true
  | .map es => ∃ entries clock, w.heap[g.blk id]? = some (.map entries clock) ∧ es.length = entries.size ∧ ∀ i (h : i < es.length) (h' : i < entries.size), EntRep w g.imm es[i] entries[i]

def DomOk (id off L : Nat) : AV → Prop
  | .nilslice => False
  | .slice _ els (.cell i o) | .slice _ els (.spent i o) => i = id → o = off → L ≤ els.length
  | _ => True

structure HInv (g : Gh) (w : World) (st : St) : Prop where
  obj : ∀ id o, st.objs[id]? = some o → ObjOk g w id o
  lt : ∀ o b, HClaim g st o b → b < w.heap.size
  noimm : ∀ id, id < st.size → ∀ o, ¬ g.imm (g.blk id) o
  immlt : ∀ b o, g.imm b o → b < w.heap.size
  row : ∀ id cs off sz els, st.cells id = some cs → cs[off]? = some (.slice sz els (.cell id off)) → ∃ c, g.hdr id off els.length = some (c, sz) ∧ OwnRow w g.imm c sz els.length
  dom : ∀ id off L x, id < st.size → g.hdr id off L = some x → ∃ cs v, st.cells id = some cs ∧ cs[off]? = some v ∧ DomOk id off L v

structure FInv (g : Gh) (f : Fh) (fr : Fr) (n : Nat) (w : World) (tmps : Array Value) : Prop where
  regs : ∀ t, Rep g f n w (slot t fr.regs) (tmps.getD t undef)
  loc : ∀ (li ser : Nat) (cs : List AV), fr.loc[li]? = some (ser, cs) → cs ≠ [] → ∃ b vs e, f.lblk li ser = some b ∧ w.heap[b]? = some (.cells vs e (0, 0)) ∧ cs.length = vs.size ∧
    ∀ i (h : i < cs.length) (h' : i < vs.size), Rep g f n w cs[i] vs[i] ∧ vs[i].oneCell' = true
  locdom : ∀ (li ser b : Nat), f.lblk li ser = some b → ∃ (s : Nat) (cs : List AV), fr.loc[li]? = some (s, cs) ∧ ser ≤ s
  locser : ∀ (li s : Nat) (cs : List AV), fr.loc[li]? = some (s, cs) → s ≤ fr.ser
  tok : ∀ k L, fr.ftoks[k]? = some L → L ≠ 0 → ∃ c sz, f.fh k L = some (c, sz) ∧ OwnRow w g.imm c sz L
  tokdom : ∀ k L x, f.fh k L = some x → 1 ≤ L ∧ ∃ cur, fr.ftoks[k]? = some cur ∧ (cur = 0 ∨ L ≤ cur)
  noimm : ∀ li b, FClaim f fr (.loc li) b → ∀ o, ¬ g.imm b o

/-- What has become of memory between two points of a run. -/
structure Ext (g0 : Gh) (st0 : St) (w0 : World) (g : Gh) (st : St) (w : World) : Prop where
  grow : Grow g0 st0.size w0 g st.size w
  os : w.os = w0.os
  tape : w.tape = w0.tape
  output : w.output = w0.output
  size : w0.heap.size ≤ w.heap.size
  block : ∀ b, b < w0.heap.size → (∀ o, ¬ HClaim g0 st0 o b) → w.heap[b]? = w0.heap[b]?
  newimm : ∀ b o, g.imm b o → b < w0.heap.size → (∀ ow, ¬ HClaim g0 st0 ow b) → g0.imm b o
  claim : ∀ o b, HClaim g st o b → b < w0.heap.size → ∃ o', HClaim g0 st0 o' b

theorem Ext.refl (g : Gh) (st : St) (w : World) : Ext g st w g st w :=
  ⟨Grow.refl _ _ _, rfl, rfl, rfl, Nat.le_refl _, fun _ _ _ => rfl, fun _ _ h _ _ => h, fun o _ h _ => ⟨o, h⟩⟩

theorem Ext.trans {g0 g1 g2 : Gh} {st0 st1 st2 : St} {w0 w1 w2 : World} (h : Ext g0 st0 w0 g1 st1 w1) (k : Ext g1 st1 w1 g2 st2 w2) : Ext g0 st0 w0 g2 st2 w2 where
  grow := h.grow.trans k.grow
  os := k.os.trans h.os
  tape := k.tape.trans h.tape
  output := k.output.trans h.output
  size := Nat.le_trans h.size k.size
  block b hb hn := by
    rw [← h.block b hb hn]
    refine k.block b (Nat.lt_of_lt_of_le hb h.size) fun o ho => ?_
    obtain ⟨o', ho'⟩ := h.claim o b ho hb
    exact hn o' ho'
  newimm b o hi hb hn := by
    refine h.newimm b o (k.newimm b o hi (Nat.lt_of_lt_of_le hb h.size) fun ow ho => ?_) hb hn
    obtain ⟨o', ho'⟩ := h.claim ow b ho hb
    exact hn o' ho'
  claim o b ho hb := by
    obtain ⟨o', ho'⟩ := k.claim o b ho (Nat.lt_of_lt_of_le hb h.size)
    exact h.claim o' b ho' hb

/-- All that holds in the middle of a function: `g0 st0 w0`: as it was entered. -/
structure Inv (g0 : Gh) (st0 : St) (w0 : World) (g : Gh) (f : Fh) (fr : Fr) (st : St) (w : World) (tmps : Array Value) : Prop where
  h : HInv g w st
  fi : FInv g f fr st.size w tmps
  flt : ∀ o b, FClaim f fr o b → b < w.heap.size ∧ (w0.heap.size ≤ b ∨ ∃ o', HClaim g0 st0 o' b)
  uniq : ∀ o o' b, HClaim g st o b ∨ FClaim f fr o b → HClaim g st o' b ∨ FClaim f fr o' b → o = o'
  ext : Ext g0 st0 w0 g st w

/-- The world with at most one old block changed. -/
structure Chg (X : Nat → Prop) (w w' : World) : Prop where
  os : w'.os = w.os
  tape : w'.tape = w.tape
  output : w'.output = w.output
  size : w.heap.size ≤ w'.heap.size
  block : ∀ b, b < w.heap.size → ¬ X b → w'.heap[b]? = w.heap[b]?

theorem Chg.refl (X : Nat → Prop) (w : World) : Chg X w w := ⟨rfl, rfl, rfl, Nat.le_refl _, fun _ _ _ => rfl⟩
theorem Chg.drew {X : Nat → Prop} {w w' : World} (h : Chg X w w') : Chg X w w'.drew := ⟨h.os, h.tape, h.output, h.size, h.block⟩
theorem Chg.alloc (X : Nat → Prop) (w : World) (o : Obj) : Chg X w (w.alloc o) := ⟨rfl, rfl, rfl, by simp, fun b hb _ => heap_alloc_old w o b hb⟩
theorem Chg.setRow (w : World) (b : Nat) (cs : Array Value) : Chg (· = b) w (w.setRow b cs) := ⟨rfl, rfl, rfl, by simp, fun k _ hk => setRow_other w b k cs hk⟩
theorem Chg.mono {X Y : Nat → Prop} {w w' : World} (h : Chg X w w') (hxy : ∀ b, X b → Y b) : Chg Y w w' := ⟨h.os, h.tape, h.output, h.size, fun b hb hn => h.block b hb fun hx => hn (hxy b hx)⟩
theorem Chg.trans {X : Nat → Prop} {w w1 w2 : World} (h : Chg X w w1) (k : Chg X w1 w2) : Chg X w w2 :=
  ⟨k.os.trans h.os, k.tape.trans h.tape, k.output.trans h.output, Nat.le_trans h.size k.size, fun b hb hn => (k.block b (Nat.lt_of_lt_of_le hb h.size) hn).trans (h.block b hb hn)⟩

theorem cell_of_block {w w' : World} {b : Nat} (h : w'.heap[b]? = w.heap[b]?) (o : Nat) : w'.cell? ⟨b, o, none⟩ = w.cell? ⟨b, o, none⟩ := by simp [World.cell?, h]

theorem OwnRow.mono {w w' : World} {I I' : Nat → Nat → Prop} {c : Value} {sz L : Nat} (h : OwnRow w I c sz L) (hb : ∀ b, c.ownBlock = some b → w'.heap[b]? = w.heap[b]?)
    (hi : ∀ b, c.ownBlock = some b → ∀ o, I' b o → I b o) : OwnRow w' I' c sz L := by
  obtain ⟨b, cap, cur, e, rfl, h1, h2, h3, h4, h5⟩ := h.ex
  exact ⟨b, cap, cur, e, rfl, (hb b rfl).trans h1, h2, h3, h4, fun o ho hi' => h5 o ho (hi b rfl o hi')⟩

theorem OwnRow.block {w : World} {I : Nat → Nat → Prop} {c : Value} {sz L : Nat} (h : OwnRow w I c sz L) : ∃ b, c.ownBlock = some b ∧ b < w.heap.size := by
  obtain ⟨b, cap, cur, e, rfl, h1, _⟩ := h.ex
  exact ⟨b, rfl, (Array.getElem?_eq_some_iff.1 h1).1⟩

end Go.Proofs.YtelpkgbghhpgaaaGreatDoor.Sx
end
section
namespace Go.Proofs.YtelpkgbghhpgaaaGreatDoor.Sx
open AV

def Gh.wide (g : Gh) (I : Nat → Nat → Prop) : Gh := { g with imm := I }

theorem Grow.wide {g : Gh} {n : Nat} {w w' : World} {I : Nat → Nat → Prop} (hi : ∀ b o, g.imm b o → I b o) (hc : ∀ b o, g.imm b o → w'.cell? ⟨b, o, none⟩ = w.cell? ⟨b, o, none⟩) : Grow g n w (g.wide I) n w' :=
  ⟨Nat.le_refl _, fun _ _ => rfl, fun _ _ _ _ _ h => h, hi, hc⟩

section
variable {g0 g : Gh} {st0 st : St} {w0 w w' : World} {f f' : Fh} {fr : Fr} {tmps : Array Value} {ds : List Deferred}

theorem Ext.step {g' : Gh} {st' : St} {X : Nat → Prop} (h : Ext g0 st0 w0 g st w) (hc : Chg X w w') (hX : ∀ b, X b → (w0.heap.size ≤ b ∨ ∃ o, HClaim g0 st0 o b) ∨ ∃ o, HClaim g st o b) (hgr : Grow g st.size w g' st'.size w')
    (hnew : ∀ b o, g'.imm b o → g.imm b o ∨ (w0.heap.size ≤ b ∨ ∃ ow, HClaim g0 st0 ow b) ∨ ∃ ow, HClaim g st ow b)
    (hcl : ∀ o b, HClaim g' st' o b → b < w0.heap.size → (∃ o', HClaim g0 st0 o' b) ∨ ∃ o', HClaim g st o' b) : Ext g0 st0 w0 g' st' w' where
  grow := h.grow.trans hgr
  os := hc.os.trans h.os
  tape := hc.tape.trans h.tape
  output := hc.output.trans h.output
  size := Nat.le_trans h.size hc.size
  block b hb hn := by
    rw [← h.block b hb hn]
    refine hc.block b (Nat.lt_of_lt_of_le hb h.size) fun hx => ?_
    rcases hX b hx with (h' | ⟨o, h'⟩) | ⟨o, h'⟩
    · omega
    · exact hn o h'
    · obtain ⟨o', ho'⟩ := h.claim o b h' hb
      exact hn o' ho'
  newimm b o hi hb hn := by
    rcases hnew b o hi with h' | (h' | ⟨ow, h'⟩) | ⟨ow, h'⟩
    · exact h.newimm b o h' hb hn
    · omega
    · exact absurd h' (hn ow)
    · obtain ⟨o', ho'⟩ := h.claim ow b h' hb
      exact absurd ho' (hn o')
  claim o b ho hb := by
    rcases hcl o b ho hb with h' | ⟨o', ho'⟩
    · exact h'
    · exact h.claim o' b ho' hb

theorem HInv.obj_lt (h : HInv g w st) {id : Nat} (hi : id < st.size) : g.blk id < w.heap.size := h.lt (.obj id) _ ⟨hi, rfl⟩

theorem HInv.trans {X : Nat → Prop} {I : Nat → Nat → Prop} (h : HInv g w st) (hc : Chg X w w') (hi : ∀ b o, g.imm b o → I b o) (hX : ∀ o b, HClaim g st o b → ¬ X b)
    (hcell : ∀ b o, g.imm b o → w'.cell? ⟨b, o, none⟩ = w.cell? ⟨b, o, none⟩)
    (hnew : ∀ b o, I b o → g.imm b o ∨ ∀ ow, ¬ HClaim g st ow b) (hlt : ∀ b o, I b o → b < w'.heap.size) : HInv (g.wide I) w' st where
  obj id o ho := by
    have hid : id < st.size := (List.getElem?_eq_some_iff.1 ho).1
    have hb : w'.heap[g.blk id]? = w.heap[g.blk id]? := hc.block _ (h.obj_lt hid) (hX _ _ (show HClaim g st (.obj id) _ from ⟨hid, rfl⟩))
    have := h.obj id o ho
    cases o with
    | cells cs =>
      obtain ⟨vs, e, h1, h2, h3⟩ := this
      exact ⟨vs, e, hb.trans h1, h2, fun i a b => ⟨(h3 i a b).1.mono (Grow.wide hi hcell) (FGrow.refl _), (h3 i a b).2⟩⟩
    | map es =>
      obtain ⟨entries, clock, h1, h2, h3⟩ := this
      refine ⟨entries, clock, hb.trans h1, h2, fun i a b => ?_⟩
      obtain ⟨k1, k2, k3, k4⟩ := h3 i a b
      exact ⟨k1, k2.mono hi hcell, k3, k4.mono ⟨Nat.le_refl _, fun _ _ => rfl, fun _ _ _ _ _ h => h, hi, hcell⟩ (FGrow.refl _)⟩
  lt o b ho := Nat.lt_of_lt_of_le (h.lt o b (by cases o <;> exact ho)) hc.size
  noimm id hid o hI := by
    rcases hnew _ _ hI with h' | h'
    · exact h.noimm id hid o h'
    · exact h' (.obj id) ⟨hid, rfl⟩
  immlt := hlt
  row id cs off sz els h1 h2 := by
    obtain ⟨c, h3, h4⟩ := h.row id cs off sz els h1 h2
    have hcl : ∀ b, c.ownBlock = some b → HClaim g st (.row id off) b := fun b hb => ⟨cs, sz, els, (c, sz), h1, h2, h3, hb⟩
    refine ⟨c, h3, h4.mono (fun b hb => hc.block b (h.lt _ _ (hcl b hb)) (hX _ _ (hcl b hb))) fun b hb o hI => ?_⟩
    rcases hnew _ _ hI with h' | h'
    · exact h'
    · exact absurd (hcl b hb) (h' _)
  dom := h.dom

theorem FInv.trans {X : Nat → Prop} {I : Nat → Nat → Prop} {n : Nat} (h : FInv g f fr n w tmps) (hlt0 : ∀ o b, FClaim f fr o b → b < w.heap.size) (hc : Chg X w w') (hi : ∀ b o, g.imm b o → I b o)
    (hX : ∀ o b, FClaim f fr o b → ¬ X b) (hcell : ∀ b o, g.imm b o → w'.cell? ⟨b, o, none⟩ = w.cell? ⟨b, o, none⟩)
    (hnew : ∀ b o, I b o → g.imm b o ∨ ∀ ow, ¬ FClaim f fr ow b) : FInv (g.wide I) f fr n w' tmps where
  regs t := (h.regs t).mono (Grow.wide hi hcell) (FGrow.refl _)
  loc li ser cs h1 h2 := by
    obtain ⟨b, vs, e, h3, h4, h5, h6⟩ := h.loc li ser cs h1 h2
    have hcl : FClaim f fr (.loc li) b := ⟨ser, cs, h1, h2, h3⟩
    exact ⟨b, vs, e, h3, (hc.block b (hlt0 _ _ hcl) (hX _ _ hcl)).trans h4, h5, fun i a a' => ⟨(h6 i a a').1.mono (Grow.wide hi hcell) (FGrow.refl _), (h6 i a a').2⟩⟩
  locdom := h.locdom
  locser := h.locser
  tok k L h1 h2 := by
    obtain ⟨c, sz, h3, h4⟩ := h.tok k L h1 h2
    have hcl : ∀ b, c.ownBlock = some b → FClaim f fr (.tok k) b := fun b hb => ⟨L, (c, sz), h1, h2, h3, hb⟩
    refine ⟨c, sz, h3, h4.mono (fun b hb => hc.block b (hlt0 _ _ (hcl b hb)) (hX _ _ (hcl b hb))) fun b hb o hI => ?_⟩
    rcases hnew _ _ hI with h' | h'
    · exact h'
    · exact absurd (hcl b hb) (h' _)
  tokdom := h.tokdom
  noimm li b hb o hI := by
    rcases hnew _ _ hI with h' | h'
    · exact h.noimm li b hb o h'
    · exact h' _ hb

/-- New blocks that nobody owns, cells of which nobody writes: nothing else turns. -/
theorem Inv.quiet {I : Nat → Nat → Prop} (h : Inv g0 st0 w0 g f fr st w tmps) (hc : Chg (fun _ => False) w w') (hi : ∀ b o, g.imm b o → I b o)
    (hnew : ∀ b o, I b o → g.imm b o ∨ (w.heap.size ≤ b ∧ b < w'.heap.size)) : Inv g0 st0 w0 (g.wide I) f fr st w' tmps := by
  have hcell : ∀ b o, g.imm b o → w'.cell? ⟨b, o, none⟩ = w.cell? ⟨b, o, none⟩ := fun b o hb => cell_of_block (hc.block b (h.h.immlt b o hb) id) o
  have hlt : ∀ b o, I b o → b < w'.heap.size := fun b o hb => by
    rcases hnew b o hb with h' | h'
    · exact Nat.lt_of_lt_of_le (h.h.immlt b o h') hc.size
    · exact h'.2
  refine ⟨h.h.trans hc hi (fun _ _ _ => id) hcell (fun b o hb => ?_) hlt, h.fi.trans (fun o b ho => (h.flt o b ho).1) hc hi (fun _ _ _ => id) hcell (fun b o hb => ?_), fun o b ho => ⟨Nat.lt_of_lt_of_le (h.flt o b ho).1 hc.size, (h.flt o b ho).2⟩, ?_, ?_⟩
  · rcases hnew b o hb with h' | h'
    · exact .inl h'
    · exact .inr fun ow ho => by have := h.h.lt _ _ ho; omega
  · rcases hnew b o hb with h' | h'
    · exact .inl h'
    · exact .inr fun ow ho => by have := (h.flt _ _ ho).1; omega
  · intro o o' b ho ho'
    refine h.uniq o o' b ?_ ?_
    · rcases ho with ho | ho
      · exact .inl (by cases o <;> exact ho)
      · exact .inr ho
    · rcases ho' with ho | ho
      · exact .inl (by cases o' <;> exact ho)
      · exact .inr ho
  · refine h.ext.trans ⟨Grow.wide hi hcell, hc.os, hc.tape, hc.output, hc.size, fun b hb _ => hc.block b hb id, fun b o hb hlt' _ => ?_, fun o b ho _ => ⟨o, by cases o <;> exact ho⟩⟩
    rcases hnew b o hb with h' | h'
    · exact h'
    · omega

theorem Inv.chg (h : Inv g0 st0 w0 g f fr st w tmps) (hc : Chg (fun _ => False) w w') : Inv g0 st0 w0 g f fr st w' tmps :=
  h.quiet (I := g.imm) hc (fun _ _ h => h) (fun _ _ h => .inl h)

theorem FInv.tok_chg {n : Nat} (h : FInv g f fr n w tmps) (hI : Inv g0 st0 w0 g f fr st w tmps) (hc : Chg (fun _ => False) w w') : ∀ k L, fr.ftoks[k]? = some L → L ≠ 0 → ∃ c sz, f.fh k L = some (c, sz) ∧ OwnRow w' g.imm c sz L := fun k L h1 h2 => by
  obtain ⟨c, sz, h3, h4⟩ := h.tok k L h1 h2
  exact ⟨c, sz, h3, h4.mono (fun b hb => hc.block b (hI.flt _ _ (show FClaim f fr (.tok k) b from ⟨L, (c, sz), h1, h2, h3, hb⟩)).1 id) fun _ _ _ h => h⟩

theorem slot_put (t d : Nat) (v : AV) (r : List (Nat × AV)) : slot t ((d, v) :: r) = if d = t then v else slot t r := rfl

theorem Inv.regs_of (h : Inv g0 st0 w0 g f fr st w tmps) {fr' : Fr} {tmps' : Array Value} (hr : ∀ t, Rep g f st.size w (slot t fr'.regs) (tmps'.getD t undef)) (hl : fr'.loc = fr.loc) (ht : fr'.ftoks = fr.ftoks) (hs : fr.ser ≤ fr'.ser) :
    Inv g0 st0 w0 g f fr' st w tmps' := by
  have hcl : ∀ o b, FClaim f fr' o b ↔ FClaim f fr o b := fun o b => by cases o <;> simp [FClaim, hl, ht]
  refine ⟨h.h, ⟨hr, ?_, ?_, ?_, ?_, ?_, ?_⟩, fun o b ho => h.flt o b ((hcl o b).1 ho), fun o o' b ho ho' => h.uniq o o' b (ho.imp id (hcl _ _).1) (ho'.imp id (hcl _ _).1), h.ext⟩
  · rw [hl]; exact h.fi.loc
  · rw [hl]; exact h.fi.locdom
  · rw [hl]; exact fun li s cs hh => Nat.le_trans (h.fi.locser li s cs hh) hs
  · rw [ht]; exact h.fi.tok
  · rw [ht]; exact h.fi.tokdom
  · exact fun li b hb => h.fi.noimm li b ((hcl _ _).1 hb)

theorem getD_set (tmps : Array Value) (d t : Nat) (c x : Value) (hd : d < tmps.size) : (tmps.setIfInBounds d c).getD t x = if d = t then c else tmps.getD t x := by
  simp only [Array.getD_eq_getD_getElem?, Array.getElem?_setIfInBounds]
  by_cases h : d = t
  · subst h; simp [hd]
  · simp [h]

theorem Inv.put (h : Inv g0 st0 w0 g f fr st w tmps) {d : Option Nat} {v : AV} {c : Value} (hv : Rep g f st.size w v c) (hd : ∀ t, d = some t → t < tmps.size) :
    Inv g0 st0 w0 g f (fr.put d v) st w (Act.put ⟨tmps, ds⟩ d c).tmps := by
  cases d with
  | none => exact h
  | some d =>
    refine h.regs_of (fun t => ?_) rfl rfl (Nat.le_refl _)
    show Rep g f st.size w (slot t ((d, v) :: fr.regs)) ((tmps.setIfInBounds d c).getD t undef)
    rw [slot_put, getD_set _ _ _ _ _ (hd d rfl)]
    split
    · exact hv
    · exact h.fi.regs t

theorem slot_keep (live : List Nat) (t : Nat) (r : List (Nat × AV)) : slot t (keepRegs live r) = slot t r ∨ slot t (keepRegs live r) = .junk := by
  induction live with
  | nil => exact .inr rfl
  | cons a l ih =>
    show (if a = t then slot a r else slot t (keepRegs l r)) = _ ∨ _
    split
    · rename_i e; subst e; exact .inl rfl
    · rename_i e
      have : slot t (keepRegs (a :: l) r) = slot t (keepRegs l r) := by show (if a = t then _ else _) = _; simp [e]; rfl
      rw [this]; exact ih

theorem Inv.keep (h : Inv g0 st0 w0 g f fr st w tmps) (live : List Nat) : Inv g0 st0 w0 g f { fr with regs := keepRegs live fr.regs } st w tmps := by
  refine h.regs_of (fun t => ?_) rfl rfl (Nat.le_refl _)
  rcases slot_keep live t fr.regs with e | e
  · simp only [e]; exact h.fi.regs t
  · simp only [e]; exact .junk _

end
end Go.Proofs.YtelpkgbghhpgaaaGreatDoor.Sx
end
section
namespace Go.Proofs.YtelpkgbghhpgaaaGreatDoor.Sx
open AV

section
variable {g0 g : Gh} {st0 st : St} {w0 w w' : World} {f f' : Fh} {fr : Fr} {tmps : Array Value}

theorem Inv.hinv_chg (h : HInv g w st) (hc : Chg (fun _ => False) w w') : HInv g w' st :=
  h.trans (I := g.imm) hc (fun _ _ h => h) (fun _ _ _ => id) (fun b o hb => cell_of_block (hc.block b (h.immlt b o hb) id) o) (fun _ _ h => .inl h) (fun b o hb => Nat.lt_of_lt_of_le (h.immlt b o hb) hc.size)

def Fh.live (f : Fh) (li ser b : Nat) : Fh := { f with lblk := fun l s => if l = li ∧ s = ser then some b else f.lblk l s }

/-- A variable of the frame's own comes to life. -/
theorem Inv.locAlloc (h : Inv g0 st0 w0 g f fr st w tmps) {li ser s0 : Nat} {cs0 cs : List AV} {vs : Array Value} {e : TypeId} (hl : fr.loc[li]? = some (s0, cs0)) (hs : s0 < ser) (hser : ser ≤ fr.ser)
    (hn : cs.length = vs.size) (hv : ∀ i (h : i < cs.length) (h' : i < vs.size), Rep g f st.size w cs[i] vs[i] ∧ vs[i].oneCell' = true) :
    Inv g0 st0 w0 g (f.live li ser w.heap.size) { fr with loc := fr.loc.set li (ser, cs) } st (w.alloc (.cells vs e)) tmps ∧
      Rep g (f.live li ser w.heap.size) st.size (w.alloc (.cells vs e)) (.lptr li ser 0) (.pointer (some ⟨w.heap.size, 0, none⟩)) := by
  have hc : Chg (fun _ => False) w (w.alloc (.cells vs e)) := Chg.alloc _ _ _
  have hfree : ∀ s, ser ≤ s → f.lblk li s = none := fun s hss => by
    cases hb : f.lblk li s with
    | none => rfl
    | some b =>
      obtain ⟨s1, cs1, h1, h2⟩ := h.fi.locdom li s b hb
      rw [hl] at h1; cases h1; omega
  have hfg : FGrow f (f.live li ser w.heap.size) := ⟨fun l s b hb => by
    show (if _ then _ else _) = _
    by_cases hh : l = li ∧ s = ser
    · obtain ⟨rfl, rfl⟩ := hh; rw [hfree s (Nat.le_refl _)] at hb; cases hb
    · rw [if_neg hh]; exact hb, fun _ _ _ h => h⟩
  have hgr : Grow g st.size w g st.size (w.alloc (.cells vs e)) := Grow.wide (I := g.imm) (fun _ _ h => h) (fun b o hb => cell_of_block (hc.block b (h.h.immlt b o hb) id) o)
  have hlen : li < fr.loc.length := (List.getElem?_eq_some_iff.1 hl).1
  have hloc : ∀ l x, (fr.loc.set li (ser, cs))[l]? = some x → (l = li ∧ x = (ser, cs)) ∨ (l ≠ li ∧ fr.loc[l]? = some x) := fun l x hx => by
    rw [List.getElem?_set] at hx
    by_cases e : li = l
    · subst e; simp [hlen] at hx; exact .inl ⟨rfl, hx.symm⟩
    · rw [if_neg e] at hx; exact .inr ⟨Ne.symm e, hx⟩
  have hcl : ∀ o b, FClaim (f.live li ser w.heap.size) { fr with loc := fr.loc.set li (ser, cs) } o b → FClaim f fr o b ∨ (o = .loc li ∧ b = w.heap.size) := fun o b ho => by
    cases o with
    | obj => exact .inl ho
    | row => exact .inl ho
    | tok => exact .inl ho
    | loc l =>
      obtain ⟨s, c, h1, h2, h3⟩ := ho
      rcases hloc l _ h1 with ⟨rfl, hx⟩ | ⟨hne, hx⟩
      · cases hx
        have h3' : (if l = l ∧ ser = ser then some w.heap.size else f.lblk l ser) = some b := h3
        simp at h3'
        exact .inr ⟨rfl, h3'.symm⟩
      · have h3' : (if l = li ∧ s = ser then some w.heap.size else f.lblk l s) = some b := h3
        rw [if_neg (fun x => hne x.1)] at h3'
        exact .inl ⟨s, c, hx, h2, h3'⟩
  refine ⟨⟨Inv.hinv_chg h.h hc, ⟨fun t => (h.fi.regs t).mono hgr hfg, ?_, ?_, ?_, h.fi.tok_chg h hc, h.fi.tokdom, ?_⟩, ?_, ?_, h.ext.trans ?_⟩, .lptr li ser 0 _ ?_⟩
  · intro l s c h1 h2
    rcases hloc l _ h1 with ⟨rfl, hx⟩ | ⟨hne, hx⟩
    · cases hx
      exact ⟨w.heap.size, vs, e, by show (if _ then _ else _) = _; simp, heap_alloc_new w _, hn, fun i a a' => ⟨(hv i a a').1.mono hgr hfg, (hv i a a').2⟩⟩
    · obtain ⟨b, vs', e', h3, h4, h5, h6⟩ := h.fi.loc l s c hx h2
      exact ⟨b, vs', e', hfg.lblk _ _ _ h3, (hc.block b (h.flt _ _ (show FClaim f fr (.loc l) b from ⟨s, c, hx, h2, h3⟩)).1 id).trans h4, h5, fun i a a' => ⟨(h6 i a a').1.mono hgr hfg, (h6 i a a').2⟩⟩
  · intro l s b hb
    have hb' : (if l = li ∧ s = ser then some w.heap.size else f.lblk l s) = some b := hb
    by_cases hh : l = li ∧ s = ser
    · obtain ⟨rfl, rfl⟩ := hh
      exact ⟨s, cs, by simp [hlen], Nat.le_refl _⟩
    · rw [if_neg hh] at hb'
      obtain ⟨s1, c1, h1, h2⟩ := h.fi.locdom l s b hb'
      by_cases e : l = li
      · subst e
        rw [hl] at h1; cases h1
        exact ⟨ser, cs, by simp [hlen], by omega⟩
      · exact ⟨s1, c1, by simp [Ne.symm e, h1], h2⟩
  · intro l s c h1
    rcases hloc l _ h1 with ⟨rfl, hx⟩ | ⟨hne, hx⟩
    · cases hx; exact hser
    · exact h.fi.locser l s c hx
  · intro l b hb o hI
    rcases hcl _ _ hb with hb' | ⟨_, rfl⟩
    · exact h.fi.noimm l b hb' o hI
    · exact absurd (h.h.immlt _ _ hI) (Nat.lt_irrefl _)
  · intro o b ho
    rcases hcl _ _ ho with hb' | ⟨_, rfl⟩
    · exact ⟨by have := (h.flt _ _ hb').1; simp; omega, (h.flt _ _ hb').2⟩
    · exact ⟨by simp, .inl h.ext.size⟩
  · have key : ∀ o b, (HClaim g st o b ∨ FClaim (f.live li ser w.heap.size) { fr with loc := fr.loc.set li (ser, cs) } o b) → (HClaim g st o b ∨ FClaim f fr o b) ∧ b < w.heap.size ∨ (o = .loc li ∧ b = w.heap.size) := fun o b ho => by
      rcases ho with ho | ho
      · exact .inl ⟨.inl ho, h.h.lt _ _ ho⟩
      · rcases hcl _ _ ho with hb' | hb'
        · exact .inl ⟨.inr hb', (h.flt _ _ hb').1⟩
        · exact .inr hb'
    intro o o' b ho ho'
    rcases key _ _ ho with ⟨k1, k2⟩ | ⟨rfl, rfl⟩ <;> rcases key _ _ ho' with ⟨k3, k4⟩ | ⟨rfl, k5⟩
    · exact h.uniq o o' b k1 k3
    · omega
    · omega
    · rfl
  · exact ⟨hgr, rfl, rfl, rfl, hc.size, fun b hb _ => hc.block b hb id, fun b o hb _ _ => hb, fun o b ho _ => ⟨o, ho⟩⟩
  · show (if _ then _ else _) = _; simp

end
end Go.Proofs.YtelpkgbghhpgaaaGreatDoor.Sx
end
