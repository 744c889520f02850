/- TreeReads returns true for all texts whose data are not larger than a bound. The plain machine: a run of Go code over trees in place of memory. Definitions alone; nothing is claimed here. -/
import Derived.Attr
import Derived.Below
import Derived.Great.BuildSlice
import Derived.KernelRfl
import Derived.Laws.AppendOwn
import Derived.Laws.IdiomStrings
import Derived.Laws.Slices
import Derived.Laws.StructEq
import Derived.Laws.Tables
import Derived.Orders
set_option linter.all false
section
namespace Go.Proofs.YtelpkgbghhpgaaaGreatDoor.Sx
inductive Own where
  | no | tight
  | ftok (n : Nat)
  | cell (id off : Nat)
  | spent (id off : Nat)
  deriving DecidableEq
inductive AV where
  | int (k : IntKind) (n : Int)
  | bool (b : Bool)
  | str (s : List UInt8)
  | ptr (id off : Nat)
  | lptr (li ser off : Nat)
  | vptr (cs : List AV)
  | nilptr
  | slice (sz : Nat) (els : List (List AV)) (own : Own)
  | nilslice
  | mapr (id : Nat)
  | nilmap
  | agg (cs : List AV)
  | tuple (vs : List AV)
  | iface (t : Nat) (v : AV)
  | nilIface
  | func (f : Fn) (first captured : List AV)
  | nilFunc
  | junk
namespace AV
def cells : AV → List AV
  | .agg cs => cs
  | v => [v]
def strip1 : AV → AV
  | .slice sz els _ => .slice sz els .no
  | v => v
def stripC : AV → AV
  | .slice sz els .tight => .slice sz els .tight
  | v => strip1 v
def strip2 : AV → AV
  | .agg cs => .agg (cs.map strip1)
  | v => strip1 v
def strip : AV → AV
  | .tuple vs => .tuple (vs.map strip2)
  | v => strip2 v
def plain1 : AV → Bool
  | .int .. | .bool _ | .str _ | .nilptr | .slice _ _ .no | .nilslice | .nilmap | .nilIface | .nilFunc => true
  | _ => false
def plain : AV → Bool
  | .agg cs => cs.all plain1
  | v => plain1 v
def refs0 : AV → Nat
  | .ptr id _ => id + 1
  | .mapr id => id + 1
  | _ => 0
def refsL : List AV → Nat
  | [] => 0
  | v :: r => max (refs0 v) (refsL r)
def refs1 : AV → Nat
  | .func _ fs cs => max (refsL fs) (refsL cs)
  | v => refs0 v
def refs1L : List AV → Nat
  | [] => 0
  | v :: r => max (refs1 v) (refs1L r)
def refs2 : AV → Nat
  | .agg cs => refs1L cs
  | v => refs1 v
def refs2L : List AV → Nat
  | [] => 0
  | v :: r => max (refs2 v) (refs2L r)
def refs : AV → Nat
  | .tuple vs => refs2L vs
  | v => refs2 v
def out0 : AV → Bool
  | .int .. | .bool _ | .str _ | .ptr .. | .nilptr | .slice _ _ .no | .nilslice | .mapr _ | .nilmap | .nilIface | .nilFunc => true
  | .iface _ v => v.plain
  | _ => false
def out1 : AV → Bool
  | .func _ fs cs => fs.all out0 && cs.all out0
  | v => out0 v
def okC : AV → Bool
  | .slice _ _ .tight => true
  | v => out1 v
def okIn : AV → Bool
  | .slice .. => true
  | v => out1 v
def out2 : AV → Bool
  | .agg cs => cs.all out1
  | .vptr _ => true
  | v => out1 v
def out : AV → Bool
  | .tuple vs => vs.all out2
  | v => out2 v
mutual
def beq : AV → AV → Bool
  | .int k n, .int k' n' => k == k' && n == n'
  | .bool a, .bool b => a == b
  | .str a, .str b => a == b
  | .ptr i o, .ptr i' o' => i == i' && o == o'
  | .lptr i s o, .lptr i' s' o' => i == i' && s == s' && o == o'
  | .vptr a, .vptr b => beqL a b
  | .nilptr, .nilptr => true
  | .slice s e o, .slice s' e' o' => s == s' && beqLL e e' && decide (o = o')
  | .nilslice, .nilslice => true
  | .mapr a, .mapr b => a == b
  | .nilmap, .nilmap => true
  | .agg a, .agg b => beqL a b
  | .tuple a, .tuple b => beqL a b
  | .iface t v, .iface t' v' => t == t' && beq v v'
  | .nilIface, .nilIface => true
  | .func f a b, .func f' a' b' => decide (f = f') && beqL a a' && beqL b b'
  | .nilFunc, .nilFunc => true
  | .junk, .junk => true
  | _, _ => false
def beqL : List AV → List AV → Bool
  | [], [] => true
  | a :: l, b :: m => beq a b && beqL l m
  | _, _ => false
def beqLL : List (List AV) → List (List AV) → Bool
  | [], [] => true
  | a :: l, b :: m => beqL a b && beqLL l m
  | _, _ => false
end
end AV
inductive HObj where
  | cells (cs : List AV)
  | map (es : List (AV × AV))
structure St where
  objs : List HObj
structure Fr where
  regs : List (Nat × AV)
  loc : List (Nat × List AV)
  ftoks : List Nat
  ser : Nat
def slot (t : Nat) : List (Nat × AV) → AV
  | [] => .junk
  | (k, v) :: r => if k = t then v else slot t r
inductive Opd where
  | r (t : Nat)
  | c (v : AV)
  | f (i : Nat)
def Opd.ev (fr : Fr) : Opd → AV
  | .r t => slot t fr.regs
  | .c v => v
  | .f i => .func (.func i) [] []
inductive EqK where
  | int | str | bool | ptr | slice | map | func | iface
  deriving DecidableEq
inductive AOp where
  | mv (x : Opd)
  | pick (c a b : Opd)
  | alloc (li : Nat) (zs : List AV)
  | box (li : Nat) (x : Opd)
  | halloc (zs : List AV)
  | hbox (x : Opd)
  | build (zs : List AV) (parts : List (Nat × Nat × Opd))
  | bslice (sz : Nat) (zs : List AV) (len : Nat) (parts : List (Nat × Opd))
  | load (x : Opd) (n : Nat) (isAgg : Bool)
  | store (x y : Opd) (n : Nat)
  | nchk (x : Opd)
  | bin (op : BinOp) (x y : Opd)
  | eqk (k : EqK) (neg : Bool) (x y : Opd)
  | eqs (ks : List EqK) (neg : Bool) (x y : Opd)
  | un (op : UnOp) (x : Opd)
  | conv (k : IntKind) (x : Opd)
  | b2s (x : Opd)
  | s2b (x : Opd)
  | iface (t : Nat) (x : Opd)
  | mkf (fn : Fn) (first captured : List Opd)
  | mkmap
  | mset (kk : EqK) (m k v : Opd)
  | look (kk : EqK) (zs : AV) (m k : Opd) (ok : Bool)
  | slc (sz : Nat) (x : Opd) (lo hi mx : Option Opd)
  | addr (x : Opd) (off : Nat)
  | part (x : Opd) (off n : Nat) (isAgg : Bool)
  | ixa (x i : Opd) (sz : Nat)
  | ixp (x i : Opd) (len sz : Nat)
  | ixs (x i : Opd)
  | ixv (x i : Opd) (len sz : Nat) (isAgg : Bool)
  | ext (x : Opd) (i : Nat)
  | len (k : EqK) (x : Opd)
  | alen (n : Nat)
  | minmax (mx : Bool) (xs : List Opd)
  | append (x y : Opd) (sz bytes : Nat)
  | call (f : Nat) (xs : List Opd)
  | callv (x : Opd) (xs : List Opd)
  | panic (x : Opd)
structure Chk where
  d : Nat
  x : Opd
  n : Nat
  isAgg : Bool
  g : Option (Nat × Bool)
structure AItem where
  i : Nat
  d : Option Nat
  g : Option (Nat × Bool)
  op : AOp
  chk : List Chk
inductive ACode where
  | skip
  | region (draw : Bool) (its : List AItem) (keep : List Nat)
  | seq (a b : ACode)
  | cond (c : Opd) (a b : ACode)
  | block (id : Nat) (b : ACode)
  | loop (b : ACode)
  | exit (id : Nat)
  | ret
inductive ARes where
  | reg (t : Nat)
  | cell (t n : Nat) (isAgg : Bool)
structure AFunc where
  nargs : Nat
  nloc : Nat
  res : List ARes
  body : ACode
inductive Res where
  | ret (v : AV)
  | panic (v : AV)
def rd (cs : List AV) (off n : Nat) (isAgg : Bool) : Option AV :=
  match isAgg with
  | true => if off + n ≤ cs.length then some (.agg ((cs.drop off).take n)) else none
  | false => cs[off]?
def splice (cs : List AV) (off : Nat) (new : List AV) : List AV := cs.take off ++ new ++ cs.drop (off + new.length)
def locGet (fr : Fr) (li ser : Nat) : Option (List AV) :=
  match fr.loc[li]? with
  | some (s, cs) => if s = ser then some cs else none
  | none => none
def St.cells (st : St) (id : Nat) : Option (List AV) :=
  match st.objs[id]? with
  | some (.cells cs) => some cs
  | _ => none
def ld (fr : Fr) (st : St) (x : AV) (n : Nat) (isAgg : Bool) : Option AV :=
  match x with
  | .lptr li ser off => match locGet fr li ser with | some cs => rd cs off n isAgg | none => none
  | .ptr id off => match st.cells id with | some cs => rd cs off n isAgg | none => none
  | .vptr cs => rd cs 0 n isAgg
  | _ => none
def Fr.put (fr : Fr) (d : Option Nat) (v : AV) : Fr :=
  match d with
  | some t => { fr with regs := (t, v) :: fr.regs }
  | none => fr
def homeOk (id off L : Nat) : AV → Bool
  | .nilslice => true
  | .slice _ els (.cell i o) | .slice _ els (.spent i o) => i == id && o == off && decide (els.length < L)
  | _ => false
def inCell (id off : Nat) (old new : AV) (ft : List Nat) : Option (AV × List Nat) :=
  match new with
  | .slice sz els (.ftok k) =>
    if ft[k]? = some els.length ∧ homeOk id off els.length old = true then some (.slice sz els (.cell id off), ft.set k 0)
    else some (.slice sz els .no, ft)
  | .nilslice => match old with | .nilslice => some (.nilslice, ft) | _ => none
  | v => if v.stripC.okC then some (v.stripC, ft) else none
def inCells : List AV → List AV → Option (List AV)
  | _, [] => some []
  | o :: os, v :: vs =>
    match (match v with
      | .nilslice => (match o with | .nilslice => some .nilslice | _ => none)
      | v => if v.stripC.okC then some v.stripC else none : Option AV), inCells os vs with
    | some v', some vs' => some (v' :: vs')
    | _, _ => none
  | [], _ :: _ => none
def St.size (st : St) : Nat := st.objs.length
def St.setCells (st : St) (id : Nat) (cs : List AV) : St := ⟨st.objs.set id (.cells cs)⟩
def St.push (st : St) (o : HObj) : St := ⟨st.objs ++ [o]⟩
def St.entries (st : St) (id : Nat) : Option (List (AV × AV)) :=
  match st.objs[id]? with
  | some (.map es) => some es
  | _ => none
def St.setMap (st : St) (id : Nat) (es : List (AV × AV)) : St := ⟨st.objs.set id (.map es)⟩
def St.trunc (st : St) (n : Nat) : St := ⟨st.objs.take n⟩
def stw (fr : Fr) (st : St) (x y : AV) (n : Nat) : Option (Fr × St) :=
  if y.cells.length = n then
    match x with
    | .lptr li ser off =>
      match locGet fr li ser with
      | some cs => if off + n ≤ cs.length && y.cells.all AV.okIn then some ({ fr with loc := fr.loc.set li (ser, splice cs off y.cells) }, st) else none
      | none => none
    | .ptr id off =>
      match st.cells id with
      | some cs =>
        if off + n ≤ cs.length ∧ AV.refs1L y.cells ≤ id + 1 then
          match y with
          | .agg ys => (match inCells ((cs.drop off).take n) ys with
            | some vs => some (fr, st.setCells id (splice cs off vs))
            | none => none)
          | y => (match cs[off]? with
            | some old => (match inCell id off old y fr.ftoks with
              | some (v, ft) => some ({ fr with ftoks := ft }, st.setCells id (cs.set off v))
              | none => none)
            | none => none)
        else none
      | none => none
    | _ => none
  else none
def ibin (op : BinOp) (k : IntKind) (x y : Int) : Option AV :=
  match op with
  | .add => some (.int k (k.wrap (x + y)))
  | .sub => some (.int k (k.wrap (x - y)))
  | .mul => some (.int k (k.wrap (x * y)))
  | .quo => if y = 0 then none else some (.int k (k.wrap (x.tdiv y)))
  | .rem => if y = 0 then none else some (.int k (x.tmod y))
  | .and => some (.int k (k.wrap (BitVec.ofInt k.bits x &&& BitVec.ofInt k.bits y).toNat))
  | .or => some (.int k (k.wrap (BitVec.ofInt k.bits x ||| BitVec.ofInt k.bits y).toNat))
  | .xor => some (.int k (k.wrap (BitVec.ofInt k.bits x ^^^ BitVec.ofInt k.bits y).toNat))
  | .andNot => some (.int k (k.wrap (BitVec.ofInt k.bits x &&& ~~~ BitVec.ofInt k.bits y).toNat))
  | .eql => some (.bool (x == y))
  | .neq => some (.bool (x != y))
  | .lss => some (.bool (decide (x < y)))
  | .leq => some (.bool (decide (x ≤ y)))
  | .gtr => some (.bool (decide (x > y)))
  | .geq => some (.bool (decide (x ≥ y)))
  | .shl => if y < 0 then none else some (.int k (k.wrap (x * 2 ^ (min y.toNat k.bits))))
  | .shr => if y < 0 then none else some (.int k (x.fdiv (2 ^ (min y.toNat k.bits))))
def sbin (op : BinOp) (x y : List UInt8) : Option AV :=
  match op with
  | .add => if x.length + y.length ≤ 1099511627776 then some (.str (x ++ y)) else none
  | .eql => some (.bool (x == y))
  | .neq => some (.bool (!(x == y)))
  | .lss => some (.bool (Op.bytesLess x y))
  | .leq => some (.bool (Op.bytesLess x y || x == y))
  | .gtr => some (.bool (!(Op.bytesLess x y || x == y)))
  | .geq => some (.bool (!(Op.bytesLess x y)))
  | _ => none
def eqv : EqK → AV → AV → Option Bool
  | .int, .int k a, .int k' b => if k = k' then some (a == b) else none
  | .bool, .bool a, .bool b => some (a == b)
  | .str, .str a, .str b => some (a == b)
  | .ptr, .nilptr, .nilptr => some true
  | .ptr, .ptr .., .nilptr | .ptr, .nilptr, .ptr .. => some false
  | .slice, .nilslice, .nilslice => some true
  | .slice, .slice .., .nilslice | .slice, .nilslice, .slice .. => some false
  | .map, .nilmap, .nilmap => some true
  | .map, .mapr _, .nilmap | .map, .nilmap, .mapr _ => some false
  | .func, .nilFunc, .nilFunc => some true
  | .func, .func .., .nilFunc | .func, .nilFunc, .func .. => some false
  | .iface, .nilIface, .nilIface => some true
  | .iface, .iface .., .nilIface | .iface, .nilIface, .iface .. => some false
  | _, _, _ => none
def eqvL : List EqK → List AV → List AV → Option Bool
  | [], [], [] => some true
  | k :: ks, a :: l, b :: m => match eqv k a b with | some true => eqvL ks l m | some false => some false | none => none
  | _, _, _ => none
def abin (op : BinOp) (x y : AV) : Option AV :=
  match x, y with
  | .int k a, .int k' b => if k = k' then ibin op k a b else (match op with | .shl | .shr => ibin op k a b | _ => none)
  | .str a, .str b => sbin op a b
  | _, _ => none
def aun (op : UnOp) (x : AV) : Option AV :=
  match op, x with
  | .not, .bool b => some (.bool !b)
  | .neg, .int k n => some (.int k (k.wrap (0 - n)))
  | _, _ => none
def intOf? : AV → Option Int
  | .int _ n => some n
  | _ => none
def lowOf (fr : Fr) : Option Opd → Option Int
  | none => some 0
  | some x => intOf? (x.ev fr)
def highOf (fr : Fr) (n : Nat) : Option Opd → Option Int
  | none => some n
  | some x => intOf? (x.ev fr)
def aslice (fr : Fr) (z : Nat) (x : AV) (lo hi mx : Option Opd) : Option AV :=
  match x with
  | .str s =>
    match mx, lowOf fr lo, highOf fr s.length hi with
    | none, some l, some h => if z = 0 ∧ 0 ≤ l ∧ l ≤ h ∧ h ≤ s.length then some (.str ((s.take h.toNat).drop l.toNat)) else none
    | _, _, _ => none
  | .slice sz els _ =>
    match lowOf fr lo, highOf fr els.length hi, mx with
    | some l, some h, none => if z = sz ∧ z ≠ 0 ∧ 0 ≤ l ∧ l ≤ h ∧ h ≤ els.length then some (.slice sz ((els.take h.toNat).drop l.toNat) .no) else none
    | some l, some h, some m =>
      match intOf? (m.ev fr) with
      | some m => if z = sz ∧ z ≠ 0 ∧ 0 ≤ l ∧ l ≤ h ∧ h = m ∧ h ≤ els.length then some (.slice sz ((els.take h.toNat).drop l.toNat) .tight) else none
      | none => none
    | _, _, _ => none
  | .nilslice =>
    match lowOf fr lo, highOf fr 0 hi, mx with
    | some 0, some 0, none => if z ≠ 0 then some .nilslice else none
    | some 0, some 0, some m => if z ≠ 0 ∧ intOf? (m.ev fr) = some 0 then some .nilslice else none
    | _, _, _ => none
  | _ => none
def lenA : EqK → AV → Option Int
  | .str, .str s => some s.length
  | .slice, .slice _ els _ => some els.length
  | .slice, .nilslice => some 0
  | .map, .nilmap => some 0
  | _, _ => none
def elA (sz : Nat) (i : Int) : AV → Option (List AV)
  | .slice s els _ => if s = sz ∧ 0 ≤ i then els[i.toNat]? else none
  | _ => none
def bytesOf : List (List AV) → Option (List UInt8)
  | [] => some []
  | [.int .u8 n] :: r => if 0 ≤ n ∧ n < 256 then (match bytesOf r with | some l => some (UInt8.ofNat n.toNat :: l) | none => none) else none
  | _ => none
def foldMM (mx : Bool) (k : IntKind) (x : Int) : List AV → Option AV
  | [] => some (.int k x)
  | .int k' y :: r => if k = k' then foldMM mx k (if mx then (if y > x then y else x) else (if y < x then y else x)) r else none
  | _ => none
def fillP (fr : Fr) (cs : List AV) : List (Nat × Nat × Opd) → Option (List AV)
  | [] => some cs
  | (off, n, x) :: r =>
    let v := (x.ev fr).cells
    if v.length = n && decide (off + n ≤ cs.length) && v.all AV.okIn then fillP fr (splice cs off v) r else none
def fillS (fr : Fr) (sz : Nat) (els : List (List AV)) : List (Nat × Opd) → Option (List (List AV))
  | [] => some els
  | (i, x) :: r =>
    let v := (x.ev fr).strip2.cells
    if v.length = sz && decide (i < els.length) && v.all AV.plain1 then fillS fr sz (els.set i v) r else none
def keyEq : AV → AV → Option Bool
  | .int k a, .int k' b => if k = k' then some (a == b) else none
  | .str a, .str b => some (a == b)
  | .bool a, .bool b => some (a == b)
  | _, _ => none
def lookE (k : AV) : List (AV × AV) → Option (Option AV)
  | [] => some none
  | (k', v) :: r => match keyEq k k' with | some true => some (some v) | some false => lookE k r | none => none
def setE (k v : AV) : List (AV × AV) → Option (List (AV × AV))
  | [] => some [(k, v)]
  | (k', v') :: r => match keyEq k k' with | some true => some ((k, v) :: r) | some false => (match setE k v r with | some l => some ((k', v') :: l) | none => none) | none => none
def keyOk : AV → Bool
  | .int .. | .str _ | .bool _ => true
  | _ => false
def keyIs : EqK → AV → Bool
  | .int, .int .. | .str, .str _ | .bool, .bool _ => true
  | _, _ => false
def grow (fr : Fr) (st : St) (need : Nat) : AV → Option (Own × Fr × St)
  | .nilslice | .slice _ _ .tight => some (.ftok fr.ftoks.length, { fr with ftoks := fr.ftoks ++ [need] }, st)
  | .slice _ els (.ftok k) => if fr.ftoks[k]? = some els.length ∧ els ≠ [] then some (.ftok k, { fr with ftoks := fr.ftoks.set k need }, st) else none
  | .slice _ els (.cell id off) =>
    match st.cells id with
    | some cs => match cs[off]? with
      | some (.slice sz' els' (.cell id' off')) =>
        if id' = id ∧ off' = off ∧ els'.length = els.length ∧ els ≠ [] then
          some (.ftok fr.ftoks.length, { fr with ftoks := fr.ftoks ++ [need] }, st.setCells id (cs.set off (.slice sz' els' (.spent id off))))
        else none
      | _ => none
    | none => none
  | _ => none
def elsOf (sz : Nat) : AV → Option (List (List AV))
  | .nilslice => some []
  | .slice s els _ => if s = sz then some els else none
  | _ => none
def aappend (fr : Fr) (st : St) (x y : AV) (sz bytes : Nat) : Option (AV × Fr × St) :=
  match elsOf sz x, elsOf sz y with
  | some els, some ys =>
    if (els.length + ys.length) * bytes ≤ 1099511627776 then
      (if ys.isEmpty then some (x, fr, st) else
        match grow fr st (els.length + ys.length) x with
        | some (o, fr', st') => some (.slice sz (els ++ ys) o, fr', st')
        | none => none)
    else none
  | _, _ => none
def step (fr : Fr) (st : St) : AOp → Option (AV × Fr × St)
  | .mv x => some (x.ev fr, fr, st)
  | .pick c a b => match c.ev fr with | .bool t => some (match t with | true => a.ev fr | false => b.ev fr, fr, st) | _ => none
  | .alloc li zs => if li < fr.loc.length then some (.lptr li fr.ser 0, { fr with loc := fr.loc.set li (fr.ser, zs) }, st) else none
  | .box li x => if li < fr.loc.length && (x.ev fr).cells.all AV.okIn then some (.lptr li fr.ser 0, { fr with loc := fr.loc.set li (fr.ser, (x.ev fr).cells) }, st) else none
  | .halloc zs => some (.ptr st.size 0, fr, st.push (.cells zs))
  | .hbox x =>
    if ((x.ev fr).cells.map AV.stripC).all AV.okC && decide (AV.refs1L (x.ev fr).cells ≤ st.size) then some (.ptr st.size 0, fr, st.push (.cells ((x.ev fr).cells.map AV.stripC))) else none
  | .build zs parts => match fillP fr zs parts with | some cs => some (.agg cs, fr, st) | none => none
  | .bslice sz zs len parts => match fillS fr sz (List.replicate len zs) parts with | some els => some (.slice sz els .tight, fr, st) | none => none
  | .load x n a => match ld fr st (x.ev fr) n a with | some v => some (v, fr, st) | none => none
  | .store x y n => match stw fr st (x.ev fr) (y.ev fr) n with | some (fr', st') => some (.junk, fr', st') | none => none
  | .nchk x => match x.ev fr with | .ptr id o => some (.ptr id o, fr, st) | .lptr l s o => some (.lptr l s o, fr, st) | .vptr cs => some (.vptr cs, fr, st) | _ => none
  | .bin op x y => match abin op (x.ev fr) (y.ev fr) with | some v => some (v, fr, st) | none => none
  | .eqk k neg x y => match eqv k (x.ev fr) (y.ev fr) with | some r => some (.bool (match neg with | true => !r | false => r), fr, st) | none => none
  | .eqs ks neg x y => match x.ev fr, y.ev fr with
    | .agg a, .agg b => (match eqvL ks a b with | some r => some (.bool (match neg with | true => !r | false => r), fr, st) | none => none)
    | _, _ => none
  | .un op x => match aun op (x.ev fr) with | some v => some (v, fr, st) | none => none
  | .conv k x => match x.ev fr with | .int _ n => some (.int k (k.wrap n), fr, st) | _ => none
  | .b2s x => match elsOf 1 (x.ev fr) with | some els => (match bytesOf els with | some l => some (.str l, fr, st) | none => none) | none => none
  | .s2b x => match x.ev fr with | .str s => if s.length ≤ 1099511627776 then some (.slice 1 (s.map fun b => [.int .u8 b.toNat]) .no, fr, st) else none | _ => none
  | .iface t x => if (x.ev fr).plain then some (.iface t (x.ev fr), fr, st) else none
  | .mkf fn first captured => if (first.map (Opd.ev fr)).all AV.out0 && (captured.map (Opd.ev fr)).all AV.out0 then some (.func fn (first.map (Opd.ev fr)) (captured.map (Opd.ev fr)), fr, st) else none
  | .mkmap => some (.mapr st.size, fr, st.push (.map []))
  | .mset kk m k v => match m.ev fr with
    | .mapr id => match st.entries id with
      | some es => if keyIs kk (k.ev fr) && (v.ev fr).strip2.plain then
          (match setE (k.ev fr) (v.ev fr).strip2 es with | some es' => some (.junk, fr, st.setMap id es') | none => none) else none
      | none => none
    | _ => none
  | .look kk zs m k ok =>
    if keyIs kk (k.ev fr) then
      match (match m.ev fr with
        | .mapr id => (match st.entries id with | some es => lookE (k.ev fr) es | none => none)
        | .nilmap => some none
        | _ => none) with
      | some (some v) => some (if ok then .tuple [v, .bool true] else v, fr, st)
      | some none => some (if ok then .tuple [zs, .bool false] else zs, fr, st)
      | none => none
    else none
  | .slc sz x lo hi mx => match aslice fr sz (x.ev fr) lo hi mx with | some v => some (v, fr, st) | none => none
  | .addr x off => match x.ev fr with
    | .ptr id o => some (.ptr id (o + off), fr, st)
    | .lptr l s o => some (.lptr l s (o + off), fr, st)
    | .vptr cs => some (.vptr (cs.drop off), fr, st)
    | _ => none
  | .part x off n a => match x.ev fr with | .agg cs => (match rd cs off n a with | some v => some (v, fr, st) | none => none) | _ => none
  | .ixa x i sz => match intOf? (i.ev fr) with
    | some k => (match elA sz k (x.ev fr) with | some e => some (.vptr e, fr, st) | none => none)
    | none => none
  | .ixp x i len sz => match intOf? (i.ev fr) with
    | some k => if 0 ≤ k ∧ k < len then
        (match x.ev fr with
        | .ptr id o => some (.ptr id (o + k.toNat * sz), fr, st)
        | .lptr l s o => some (.lptr l s (o + k.toNat * sz), fr, st)
        | .vptr cs => some (.vptr (cs.drop (k.toNat * sz)), fr, st)
        | _ => none) else none
    | none => none
  | .ixs x i => match x.ev fr, intOf? (i.ev fr) with
    | .str s, some k => if 0 ≤ k then (match s[k.toNat]? with | some b => some (.int .u8 b.toNat, fr, st) | none => none) else none
    | _, _ => none
  | .ixv x i len sz a => match x.ev fr, intOf? (i.ev fr) with
    | .agg cs, some k => if 0 ≤ k ∧ k < len then (match rd cs (k.toNat * sz) sz a with | some v => some (v, fr, st) | none => none) else none
    | _, _ => none
  | .ext x i => match x.ev fr with | .tuple vs => (match vs[i]? with | some v => some (v, fr, st) | none => none) | _ => none
  | .len k x => match lenA k (x.ev fr) with
    | some n => some (.int .i64 n, fr, st)
    | none => (match k, x.ev fr with
      | .map, .mapr id => (match st.entries id with | some es => some (.int .i64 es.length, fr, st) | none => none)
      | _, _ => none)
  | .alen n => some (.int .i64 n, fr, st)
  | .minmax mx xs => match xs.map (Opd.ev fr) with
    | .int k x :: r => (match foldMM mx k x r with | some v => some (v, fr, st) | none => none)
    | _ => none
  | .append x y sz bytes => aappend fr st (x.ev fr) (y.ev fr) sz bytes
  | .call .. | .callv .. | .panic _ => none
abbrev CallFn := Nat → List AV → St → Option (Res × St)
def CallLe (c c' : CallFn) : Prop := ∀ f vs st r, c f vs st = some r → c' f vs st = some r
structure Sim where
  code : Nat → Option AFunc
  intr : Nat → Option (CallFn → List AV → St → Option (Res × St))
  mono : ∀ f k, intr f = some k → ∀ c c', CallLe c c' → ∀ vs st r, k c vs st = some r → k c' vs st = some r
inductive Ex where
  | normal
  | exit (id : Nat)
  | ret
  | panic (v : AV)
def chkGo (fr : Fr) (st : St) (c : Chk) : Bool := match ld fr st (c.x.ev fr) c.n c.isAgg with | some v => v.beq (slot c.d fr.regs) | none => false
def chkOk (fr : Fr) (st : St) (c : Chk) : Bool :=
  match c.g with
  | none => chkGo fr st c
  | some (t, w) => match slot t fr.regs with
    | .bool b => (match b, w with | true, true | false, false => chkGo fr st c | _, _ => true)
    | .tuple [] => true
    | _ => false
def argsOf (fr : Fr) (xs : List Opd) : Option (List AV) :=
  if xs.all (fun x => (x.ev fr).strip.out) then some (xs.map fun x => (x.ev fr).strip) else none
def guardA (fr : Fr) : Option (Nat × Bool) → Option (Bool × Fr)
  | none => some (true, fr)
  | some (t, w) => match slot t fr.regs with
    | .bool c => some (c == w, fr.put (some t) (.bool c))
    | .tuple [] => some (false, fr)
    | _ => none
def isThrown : AV → Bool
  | .iface _ v => v.plain
  | _ => false
def runItems (call : CallFn) : List AItem → Fr → St → Option (Ex × Fr × St)
  | [], fr, st => some (.normal, fr, st)
  | it :: r, fr0, st =>
    match guardA fr0 it.g with
    | none => none
    | some (false, fr) => if it.chk.all (chkOk fr st) then runItems call r (fr.put it.d (.tuple [])) st else none
    | some (true, fr) =>
      let done (v : AV) (fr' : Fr) (st' : St) := if it.chk.all (chkOk fr' st') then runItems call r (fr'.put it.d v) st' else none
      let back (o : Option (Res × St)) := match o with
        | some (.ret v, st') => done v fr st'
        | some (.panic v, st') => some (.panic v, fr, st')
        | none => none
      match it.op with
      | .call f xs => match argsOf fr xs with | some vs => back (call f vs st) | none => none
      | .callv x xs => match x.ev fr, argsOf fr xs with
        | .func (.func f) first captured, some vs => if first.all AV.out0 && captured.all AV.out0 then back (call f (first ++ vs ++ captured) st) else none
        | _, _ => none
      | .panic x => if isThrown (x.ev fr) then some (.panic (x.ev fr), fr, st) else none
      | op => match step fr st op with | some (v, fr', st') => done v fr' st' | none => none
def keepRegs (live : List Nat) (regs : List (Nat × AV)) : List (Nat × AV) := live.map fun t => (t, slot t regs)
def iter (body : Fr → St → Option (Ex × Fr × St)) : Nat → Fr → St → Option (Ex × Fr × St)
  | 0, _, _ => none
  | n + 1, fr, st => match body fr st with
    | some (.normal, fr', st') => iter body n fr' st'
    | o => o
def eval (call : CallFn) (n : Nat) : ACode → Fr → St → Option (Ex × Fr × St)
  | .skip, fr, st => some (.normal, fr, st)
  | .ret, fr, st => some (.ret, fr, st)
  | .exit id, fr, st => some (.exit id, fr, st)
  | .region _ its live, fr, st => match runItems call its { fr with ser := fr.ser + 1 } st with
    | some (.normal, fr', st') => some (.normal, { fr' with regs := keepRegs live fr'.regs }, st')
    | o => o
  | .seq a b, fr, st => match eval call n a fr st with
    | some (.normal, fr', st') => eval call n b fr' st'
    | o => o
  | .cond c a b, fr, st => match c.ev fr with | .bool true => eval call n a fr st | .bool false => eval call n b fr st | _ => none
  | .block id b, fr, st => match eval call n b fr st with
    | some (.exit i, fr', st') => if i = id then some (.normal, fr', st') else some (.exit i, fr', st')
    | o => o
  | .loop b, fr, st => iter (eval call n b) n fr st
def resOf (fr : Fr) (st : St) : ARes → Option AV
  | .reg t => some (slot t fr.regs)
  | .cell t n a => ld fr st (slot t fr.regs) n a
def resAll (fr : Fr) (st : St) : List ARes → Option (List AV)
  | [] => some []
  | r :: rs => match resOf fr st r, resAll fr st rs with | some v, some vs => some (v.strip2 :: vs) | _, _ => none
def one : List AV → AV
  | [v] => v
  | vs => .tuple vs
def startRegs : Nat → List AV → List (Nat × AV)
  | _, [] => []
  | i, v :: r => (i, v) :: startRegs (i + 1) r
def Sim.call (S : Sim) : Nat → CallFn
  | 0, _, _, _ => none
  | n + 1, f, args, st =>
    match S.intr f with
    | some g => g (S.call n) args st
    | none => match S.code f with
      | none => none
      | some af =>
        if args.length = af.nargs then
          match eval (S.call n) n af.body ⟨startRegs 0 args, List.replicate af.nloc (0, []), [], 0⟩ st with
          | some (.normal, fr, st') | some (.ret, fr, st') =>
            match resAll fr st' af.res with
            | some vs => if vs.all AV.out2 then some (.ret (one vs), st'.trunc (max st.size (AV.refs2L vs))) else none
            | none => none
          | some (.panic v, _, st') => some (.panic v, st'.trunc st.size)
          | _ => none
        else none
end Go.Proofs.YtelpkgbghhpgaaaGreatDoor.Sx
end
section
namespace Go.Proofs.YtelpkgbghhpgaaaGreatDoor.Sx
open AV
inductive PRep (w : World) (I : Nat → Nat → Prop) : AV → Value → Prop
  | int (k : IntKind) (n : Int) : PRep w I (.int k n) (.int k n)
  | bool (b : Bool) : PRep w I (.bool b) (.bool b)
  | str (s : List UInt8) : PRep w I (.str s) (.string ⟨s.toArray⟩)
  | nilptr : PRep w I .nilptr (.pointer none)
  | nilslice : PRep w I .nilslice (.slice none 0 0)
  | nilmap : PRep w I .nilmap (.map none)
  | nilIface : PRep w I .nilIface .nilIface
  | nilFunc : PRep w I .nilFunc .nilFunc
  | slice (sz : Nat) (els : List (List AV)) (a : Addr) (cap : Nat) (vs : Nat → Value)
      (hu : ∀ e ∈ els, e.length = sz) (hc : els.length ≤ cap) (hsp : 0 < els.flatten.length → a.spot = none)
      (hrow : ∀ k, k < els.flatten.length → I a.block (a.off + k) ∧ w.cell? ⟨a.block, a.off + k, none⟩ = some (vs k))
      (hel : ∀ k (h : k < els.flatten.length), PRep w I els.flatten[k] (vs k)) : PRep w I (.slice sz els .no) (.slice (some a) els.length cap)
theorem PRep.mono {w w' : World} {I I' : Nat → Nat → Prop} {v : AV} {c : Value} (h : PRep w I v c) (hi : ∀ b o, I b o → I' b o)
    (hw : ∀ b o, I b o → w'.cell? ⟨b, o, none⟩ = w.cell? ⟨b, o, none⟩) : PRep w' I' v c := by
  induction h with
  | slice sz els a cap vs hu hc hsp hrow _ ih => exact .slice sz els a cap vs hu hc hsp (fun k hk => ⟨hi _ _ (hrow k hk).1, (hw _ _ (hrow k hk).1).trans (hrow k hk).2⟩) ih
  | _ => constructor
theorem PRep.oneCell {w : World} {I : Nat → Nat → Prop} {v : AV} {c : Value} (h : PRep w I v c) : c.oneCell' = true := by
  cases h <;> rfl
theorem PRep.plain1 {w : World} {I : Nat → Nat → Prop} {v : AV} {c : Value} (h : PRep w I v c) : v.plain1 = true := by
  cases h <;> rfl
structure RowRep (w : World) (I : Nat → Nat → Prop) (cs : List AV) (a : Addr) (vs : Nat → Value) : Prop where
  spot : 0 < cs.length → a.spot = none
  row : ∀ k, k < cs.length → I a.block (a.off + k) ∧ w.cell? ⟨a.block, a.off + k, none⟩ = some (vs k)
  el : ∀ k (h : k < cs.length), PRep w I cs[k] (vs k)
theorem RowRep.mono {w w' : World} {I I' : Nat → Nat → Prop} {cs : List AV} {a : Addr} {vs : Nat → Value} (h : RowRep w I cs a vs) (hi : ∀ b o, I b o → I' b o)
    (hw : ∀ b o, I b o → w'.cell? ⟨b, o, none⟩ = w.cell? ⟨b, o, none⟩) : RowRep w' I' cs a vs :=
  ⟨h.spot, fun k hk => ⟨hi _ _ (h.row k hk).1, (hw _ _ (h.row k hk).1).trans (h.row k hk).2⟩, fun k hk => (h.el k hk).mono hi hw⟩
structure Gh where
  blk : Nat → Nat
  imm : Nat → Nat → Prop
  hdr : Nat → Nat → Nat → Option (Value × Nat)
structure Fh where
  lblk : Nat → Nat → Option Nat
  fh : Nat → Nat → Option (Value × Nat)
def Fh.none : Fh := ⟨fun _ _ => .none, fun _ _ => .none⟩
def OwnRep (g : Gh) (f : Fh) (n sz L : Nat) (c : Value) : Own → Prop
  | .no => True
  | .tight => ∃ a, c = .slice a L L
  | .ftok k => f.fh k L = some (c, sz)
  | .cell id off => id < n ∧ g.hdr id off L = some (c, sz)
  | .spent .. => True
inductive Rep (g : Gh) (f : Fh) (n : Nat) (w : World) : AV → Value → Prop
  | plain {v : AV} {c : Value} : PRep w g.imm v c → Rep g f n w v c
  | junk (c : Value) : Rep g f n w .junk c
  | ptr (id off : Nat) : id < n → Rep g f n w (.ptr id off) (.pointer (some ⟨g.blk id, off, none⟩))
  | lptr (li ser off b : Nat) : f.lblk li ser = some b → Rep g f n w (.lptr li ser off) (.pointer (some ⟨b, off, none⟩))
  | vptr (cs : List AV) (a : Addr) (vs : Nat → Value) : RowRep w g.imm cs a vs → Rep g f n w (.vptr cs) (.pointer (some a))
  | slice (sz : Nat) (els : List (List AV)) (own : Own) (c : Value) : PRep w g.imm (.slice sz els .no) c → OwnRep g f n sz els.length c own → Rep g f n w (.slice sz els own) c
  | mapr (id : Nat) : id < n → Rep g f n w (.mapr id) (.map (some (g.blk id)))
  | agg (cs : List AV) (vs : List Value) : cs.length = vs.length → (∀ i (h : i < cs.length) (h' : i < vs.length), Rep g f n w cs[i] vs[i]) → (∀ c ∈ vs, c.oneCell' = true) → Rep g f n w (.agg cs) (.agg vs.toArray)
  | tuple (cs : List AV) (vs : List Value) : cs.length = vs.length → (∀ i (h : i < cs.length) (h' : i < vs.length), Rep g f n w cs[i] vs[i]) → Rep g f n w (.tuple cs) (.tuple vs.toArray)
  | iface (t : Nat) (v : AV) (c : Value) : v.plain = true → Rep g f n w v c → Rep g f n w (.iface t v) (.iface t c)
  | func (fn : Fn) (a b : List AV) (va vb : List Value) : a.length = va.length → b.length = vb.length → (∀ i (h : i < a.length) (h' : i < va.length), Rep g f n w a[i] va[i]) →
      (∀ i (h : i < b.length) (h' : i < vb.length), Rep g f n w b[i] vb[i]) → Rep g f n w (.func fn a b) (.func fn va.toArray vb.toArray)
structure Grow (g : Gh) (n : Nat) (w : World) (g' : Gh) (n' : Nat) (w' : World) : Prop where
  le : n ≤ n'
  blk : ∀ id, id < n → g'.blk id = g.blk id
  hdr : ∀ id off L x, id < n → g.hdr id off L = some x → g'.hdr id off L = some x
  imm : ∀ b o, g.imm b o → g'.imm b o
  cell : ∀ b o, g.imm b o → w'.cell? ⟨b, o, none⟩ = w.cell? ⟨b, o, none⟩
theorem Grow.refl (g : Gh) (n : Nat) (w : World) : Grow g n w g n w := ⟨Nat.le_refl _, fun _ _ => rfl, fun _ _ _ _ _ h => h, fun _ _ h => h, fun _ _ _ => rfl⟩
theorem Grow.trans {g g1 g2 : Gh} {n n1 n2 : Nat} {w w1 w2 : World} (h : Grow g n w g1 n1 w1) (k : Grow g1 n1 w1 g2 n2 w2) : Grow g n w g2 n2 w2 :=
  ⟨Nat.le_trans h.le k.le, fun id hi => (k.blk id (Nat.lt_of_lt_of_le hi h.le)).trans (h.blk id hi), fun id off L c hi hh => k.hdr id off L c (Nat.lt_of_lt_of_le hi h.le) (h.hdr id off L c hi hh),
    fun b o hi => k.imm b o (h.imm b o hi), fun b o hi => (k.cell b o (h.imm b o hi)).trans (h.cell b o hi)⟩
structure FGrow (f f' : Fh) : Prop where
  lblk : ∀ li ser b, f.lblk li ser = some b → f'.lblk li ser = some b
  fh : ∀ k L x, f.fh k L = some x → f'.fh k L = some x
theorem FGrow.refl (f : Fh) : FGrow f f := ⟨fun _ _ _ h => h, fun _ _ _ h => h⟩
theorem FGrow.trans {f f1 f2 : Fh} (h : FGrow f f1) (k : FGrow f1 f2) : FGrow f f2 := ⟨fun a b c x => k.lblk a b c (h.lblk a b c x), fun a b c x => k.fh a b c (h.fh a b c x)⟩
theorem FGrow.none (f : Fh) : FGrow Fh.none f := ⟨fun _ _ _ h => by simp [Fh.none] at h, fun _ _ _ h => by simp [Fh.none] at h⟩
theorem OwnRep.mono {g g' : Gh} {f f' : Fh} {n n' sz L : Nat} {w w' : World} {c : Value} {o : Own} (h : OwnRep g f n sz L c o) (hg : Grow g n w g' n' w') (hf : FGrow f f') : OwnRep g' f' n' sz L c o := by
  cases o with
  | no => trivial
  | tight => exact h
  | ftok k => exact hf.fh _ _ _ h
  | cell id off => exact ⟨Nat.lt_of_lt_of_le h.1 hg.le, hg.hdr _ _ _ _ h.1 h.2⟩
  | spent => trivial
theorem Rep.mono {g g' : Gh} {f f' : Fh} {n n' : Nat} {w w' : World} {v : AV} {c : Value} (h : Rep g f n w v c) (hg : Grow g n w g' n' w') (hf : FGrow f f') : Rep g' f' n' w' v c := by
  induction h with
  | plain hp => exact .plain (hp.mono hg.imm hg.cell)
  | junk c => exact .junk c
  | ptr id off hi => rw [← hg.blk id hi]; exact .ptr id off (Nat.lt_of_lt_of_le hi hg.le)
  | lptr li ser off b hb => exact .lptr li ser off b (hf.lblk _ _ _ hb)
  | vptr cs a vs hr => exact .vptr cs a vs (hr.mono hg.imm hg.cell)
  | slice sz els own c hp ho => exact .slice sz els own c (hp.mono hg.imm hg.cell) (ho.mono hg hf)
  | mapr id hi => rw [← hg.blk id hi]; exact .mapr id (Nat.lt_of_lt_of_le hi hg.le)
  | agg cs vs hl _ h1 ih => exact .agg cs vs hl ih h1
  | tuple cs vs hl _ ih => exact .tuple cs vs hl ih
  | iface t v c hp _ ih => exact .iface t v c hp ih
  | func fn a b va vb ha hb _ _ iha ihb => exact .func fn a b va vb ha hb iha ihb
section
variable {g : Gh} {f : Fh} {n : Nat} {w : World} {c : Value}
theorem Rep.int_inv {k : IntKind} {m : Int} (h : Rep g f n w (.int k m) c) : c = .int k m := by
  cases h with | plain h => cases h; rfl
theorem Rep.bool_inv {b : Bool} (h : Rep g f n w (.bool b) c) : c = .bool b := by
  cases h with | plain h => cases h; rfl
theorem Rep.str_inv {s : List UInt8} (h : Rep g f n w (.str s) c) : c = .string ⟨s.toArray⟩ := by
  cases h with | plain h => cases h; rfl
theorem Rep.nilptr_inv (h : Rep g f n w .nilptr c) : c = .pointer none := by
  cases h with | plain h => cases h; rfl
theorem Rep.nilslice_inv (h : Rep g f n w .nilslice c) : c = .slice none 0 0 := by
  cases h with | plain h => cases h; rfl
theorem Rep.nilmap_inv (h : Rep g f n w .nilmap c) : c = .map none := by
  cases h with | plain h => cases h; rfl
theorem Rep.nilIface_inv (h : Rep g f n w .nilIface c) : c = .nilIface := by
  cases h with | plain h => cases h; rfl
theorem Rep.nilFunc_inv (h : Rep g f n w .nilFunc c) : c = .nilFunc := by
  cases h with | plain h => cases h; rfl
theorem Rep.ptr_inv {id off : Nat} (h : Rep g f n w (.ptr id off) c) : id < n ∧ c = .pointer (some ⟨g.blk id, off, none⟩) := by
  cases h with
  | plain h => cases h
  | ptr _ _ hi => exact ⟨hi, rfl⟩
theorem Rep.lptr_inv {li ser off : Nat} (h : Rep g f n w (.lptr li ser off) c) : ∃ b, f.lblk li ser = some b ∧ c = .pointer (some ⟨b, off, none⟩) := by
  cases h with
  | plain h => cases h
  | lptr _ _ _ b hb => exact ⟨b, hb, rfl⟩
theorem Rep.vptr_inv {cs : List AV} (h : Rep g f n w (.vptr cs) c) : ∃ a vs, RowRep w g.imm cs a vs ∧ c = .pointer (some a) := by
  cases h with
  | plain h => cases h
  | vptr _ a vs hr => exact ⟨a, vs, hr, rfl⟩
theorem Rep.mapr_inv {id : Nat} (h : Rep g f n w (.mapr id) c) : id < n ∧ c = .map (some (g.blk id)) := by
  cases h with
  | plain h => cases h
  | mapr _ hi => exact ⟨hi, rfl⟩
theorem Rep.slice_inv {sz : Nat} {els : List (List AV)} {own : Own} (h : Rep g f n w (.slice sz els own) c) : PRep w g.imm (.slice sz els .no) c ∧ OwnRep g f n sz els.length c own := by
  cases h with
  | plain h =>
    cases h with
    | slice _ _ a cap vs hu hc hsp hrow hel => exact ⟨.slice sz els a cap vs hu hc hsp hrow hel, trivial⟩
  | slice _ _ _ _ hp ho => exact ⟨hp, ho⟩
theorem Rep.agg_inv {cs : List AV} (h : Rep g f n w (.agg cs) c) : ∃ vs : List Value, c = .agg vs.toArray ∧ cs.length = vs.length ∧
    (∀ i (h : i < cs.length) (h' : i < vs.length), Rep g f n w cs[i] vs[i]) ∧ (∀ c ∈ vs, c.oneCell' = true) := by
  cases h with
  | plain h => cases h
  | agg _ vs hl hr h1 => exact ⟨vs, rfl, hl, hr, h1⟩
theorem Rep.tuple_inv {cs : List AV} (h : Rep g f n w (.tuple cs) c) : ∃ vs : List Value, c = .tuple vs.toArray ∧ cs.length = vs.length ∧
    (∀ i (h : i < cs.length) (h' : i < vs.length), Rep g f n w cs[i] vs[i]) := by
  cases h with
  | plain h => cases h
  | tuple _ vs hl hr => exact ⟨vs, rfl, hl, hr⟩
theorem Rep.iface_inv {t : Nat} {v : AV} (h : Rep g f n w (.iface t v) c) : ∃ x, c = .iface t x ∧ v.plain = true ∧ Rep g f n w v x := by
  cases h with
  | plain h => cases h
  | iface _ _ x hp hr => exact ⟨x, rfl, hp, hr⟩
theorem Rep.func_inv {fn : Fn} {a b : List AV} (h : Rep g f n w (.func fn a b) c) : ∃ va vb : List Value, c = .func fn va.toArray vb.toArray ∧ a.length = va.length ∧ b.length = vb.length ∧
    (∀ i (h : i < a.length) (h' : i < va.length), Rep g f n w a[i] va[i]) ∧ (∀ i (h : i < b.length) (h' : i < vb.length), Rep g f n w b[i] vb[i]) := by
  cases h with
  | plain h => cases h
  | func _ _ _ va vb ha hb h1 h2 => exact ⟨va, vb, rfl, ha, hb, h1, h2⟩
theorem PRep.slice_inv {I : Nat → Nat → Prop} {sz : Nat} {els : List (List AV)} {own : Own} (h : PRep w I (.slice sz els own) c) : own = .no ∧ ∃ a cap vs, c = .slice (some a) els.length cap ∧ (∀ e ∈ els, e.length = sz) ∧
    els.length ≤ cap ∧ RowRep w I els.flatten a vs := by
  cases h with
  | slice _ _ a cap vs hu hc hsp hrow hel => exact ⟨rfl, a, cap, vs, rfl, hu, hc, ⟨hsp, hrow, hel⟩⟩
theorem PRep.of_row {I : Nat → Nat → Prop} {sz : Nat} {els : List (List AV)} {a : Addr} {cap : Nat} {vs : Nat → Value} (hu : ∀ e ∈ els, e.length = sz) (hc : els.length ≤ cap) (h : RowRep w I els.flatten a vs) :
    PRep w I (.slice sz els .no) (.slice (some a) els.length cap) := .slice sz els a cap vs hu hc h.spot h.row h.el
end
end Go.Proofs.YtelpkgbghhpgaaaGreatDoor.Sx
end
