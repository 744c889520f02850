/- TreeReads returns true for all texts whose data are not larger than a bound. The program's functions as plain code. -/
import Derived.Test.YtelpkgbghhpgaaaGreatDoorR2
set_option linter.all false
section
namespace Go.Proofs.YtelpkgbghhpgaaaGreatDoor.Sx
open AV
def cOk1 : AV → Value → Bool
  | .int k n, .int k' n' => k == k' && n == n'
  | .bool a, .bool b => a == b
  | .str s, .string b => b.data.toList == s
  | .nilptr, .pointer none => true
  | .nilslice, .slice none 0 0 => true
  | .nilmap, .map none => true
  | .nilIface, .nilIface => true
  | .nilFunc, .nilFunc => true
  | _, _ => false
def cOkL : List AV → List Value → Bool
  | [], [] => true
  | a :: l, b :: m => cOk1 a b && cOkL l m
  | _, _ => false
def cOk : AV → Value → Bool
  | .agg cs, .agg vs => cOkL cs vs.toList
  | v, c => cOk1 v c
def chkOpd : Operand → Opd → Bool
  | .tmp t, .r t' => t == t'
  | .const v, .c a => cOk a v
  | .func f, .f i => f == i
  | _, _ => false
def chkOpds : List Operand → List Opd → Bool
  | [], [] => true
  | a :: l, b :: m => chkOpd a b && chkOpds l m
  | _, _ => false
def chkOpt : Option Operand → Option Opd → Bool
  | none, none => true
  | some a, some b => chkOpd a b
  | _, _ => false
theorem cOk1_rep {w : World} {I : Nat → Nat → Prop} {v : AV} {c : Value} (h : cOk1 v c = true) : PRep w I v c := by
  unfold cOk1 at h
  split at h <;> first
    | (simp only [Bool.and_eq_true, beq_iff_eq] at h; obtain ⟨rfl, rfl⟩ := h; exact .int _ _)
    | (simp only [beq_iff_eq] at h; subst h; exact .bool _)
    | (rename_i s b; simp only [beq_iff_eq] at h; subst h; obtain ⟨⟨l⟩⟩ := b; exact .str l)
    | exact .nilptr
    | exact .nilslice
    | exact .nilmap
    | exact .nilIface
    | exact .nilFunc
    | exact absurd h (by simp)
theorem cOkL_len : ∀ {cs : List AV} {vs : List Value}, cOkL cs vs = true → cs.length = vs.length
  | [], [], _ => rfl
  | a :: l, b :: m, h => by simp [cOkL] at h; simp [cOkL_len h.2]
  | [], _ :: _, h => by simp [cOkL] at h
  | _ :: _, [], h => by simp [cOkL] at h
theorem cOkL_get : ∀ {cs : List AV} {vs : List Value}, cOkL cs vs = true → ∀ i (h : i < cs.length) (h' : i < vs.length), cOk1 cs[i] vs[i] = true
  | a :: l, b :: m, h, 0, _, _ => by simp [cOkL] at h; exact h.1
  | a :: l, b :: m, h, i + 1, h1, h2 => by simp [cOkL] at h; exact cOkL_get h.2 i (by simpa using h1) (by simpa using h2)
  | [], [], _, i, h1, _ => by simp at h1
  | [], _ :: _, _, i, h1, _ => by simp at h1
  | _ :: _, [], _, i, _, h2 => by simp at h2
section
variable {g0 g : Gh} {st0 st : St} {w0 w w' : World} {f f' : Fh} {fr : Fr} {tmps : Array Value} {ds : List Deferred} {P : Program} {n : Nat}
theorem cOk_rep {v : AV} {c : Value} (h : cOk v c = true) : Rep g f n w v c := by
  unfold cOk at h
  split at h
  · rename_i cs vs
    obtain ⟨l⟩ := vs
    have h : cOkL cs l = true := h
    refine .agg cs l (cOkL_len h) (fun i h1 h2 => .plain (cOk1_rep (cOkL_get h i h1 h2))) fun c hc => ?_
    obtain ⟨i, hi, rfl⟩ := List.getElem_of_mem hc
    exact (cOk1_rep (w := w) (I := fun _ _ => False) (cOkL_get h i (by rw [cOkL_len h]; exact hi) hi)).oneCell
  · exact .plain (cOk1_rep h)
theorem opd_rep (hI : Inv g0 st0 w0 g f fr st w tmps) {x : Operand} {y : Opd} (h : chkOpd x y = true) : Rep g f st.size w (y.ev fr) (Act.eval ⟨tmps, ds⟩ x) := by
  unfold chkOpd at h
  split at h
  · simp only [beq_iff_eq] at h; subst h; exact hI.fi.regs _
  · exact cOk_rep h
  · simp only [beq_iff_eq] at h; subst h
    exact .func _ [] [] [] [] rfl rfl (fun _ h => by simp at h) (fun _ h => by simp at h)
  · exact absurd h (by simp)
theorem opds_rep (hI : Inv g0 st0 w0 g f fr st w tmps) : ∀ {xs : List Operand} {ys : List Opd}, chkOpds xs ys = true → xs.length = ys.length ∧ ∀ i (h : i < ys.length) (h' : i < xs.length), Rep g f st.size w (ys[i].ev fr) (Act.eval ⟨tmps, ds⟩ xs[i])
  | [], [], _ => ⟨rfl, fun _ h => by simp at h⟩
  | a :: l, b :: m, h => by
    simp only [chkOpds, Bool.and_eq_true] at h
    obtain ⟨h1, h2⟩ := opds_rep hI h.2
    refine ⟨by simp [h1], fun i hi hi' => ?_⟩
    cases i with
    | zero => exact opd_rep hI h.1
    | succ i => exact h2 i (by simpa using hi) (by simpa using hi')
  | [], _ :: _, h => by simp [chkOpds] at h
  | _ :: _, [], h => by simp [chkOpds] at h
theorem rd_rep {cs : List AV} {vs : Array Value} {off k : Nat} {a : Bool} {v : AV} (hl : cs.length = vs.size) (hr : ∀ i (h : i < cs.length) (h' : i < vs.size), Rep g f n w cs[i] vs[i] ∧ vs[i].oneCell' = true) (h : rd cs off k a = some v) :
    (a = true → Rep g f n w v (.agg (vs.extract off (off + k))) ∧ off + k ≤ vs.size) ∧ (a = false → ∃ c, vs[off]? = some c ∧ Rep g f n w v c) := by
  unfold rd at h
  cases a with
  | true =>
    simp only at h
    split at h
    · rename_i hk
      cases h
      refine ⟨fun _ => ⟨?_, by omega⟩, fun h => (by cases h)⟩
      have e : vs.extract off (off + k) = ((vs.toList.drop off).take k).toArray := by
        apply Array.ext'
        simp [List.take_drop]
      rw [e]
      refine .agg _ _ (by simp; omega) (fun i h1 h2 => ?_) fun c hc => ?_
      · simp only [List.getElem_take, List.getElem_drop]
        have hi : off + i < cs.length := by simp at h1; omega
        simpa using (hr (off + i) hi (by omega)).1
      · obtain ⟨i, hi, rfl⟩ := List.getElem_of_mem hc
        simp only [List.getElem_take, List.getElem_drop]
        have hi' : off + i < vs.size := by simp at hi; omega
        simpa using (hr (off + i) (by omega) hi').2
    · cases h
  | false =>
    refine ⟨fun h => (by cases h), fun _ => ?_⟩
    have hlt := (List.getElem?_eq_some_iff.1 h).1
    have hv := (List.getElem?_eq_some_iff.1 h).2
    exact ⟨vs[off]'(by omega), by simp [show off < vs.size by omega], hv ▸ (hr off hlt (by omega)).1⟩
def chkTy (P : Program) (t n : Nat) (a : Bool) : Bool :=
  match P.info? t, P.underlying t with
  | some i, some d => i.size == n && (match d with | .struct _ | .array _ _ => a | _ => !a && n == 1)
  | _, _ => false
theorem chkTy_ok {t k : Nat} {a : Bool} (h : chkTy P t k a = true) (w : World) : (sizeOf t).run P w = .ok k w ∧ (isAgg t).run P w = .ok a w ∧ (a = false → k = 1) := by
  unfold chkTy at h
  split at h
  · rename_i i d hi hd
    simp only [Bool.and_eq_true, beq_iff_eq] at h
    refine ⟨by simp [sizeOf, typeInfo, hi, h.1], ?_, ?_⟩
    · have h2 := h.2
      simp only [isAgg, Sem.run_bind, run_underlying hd, Result.andThen_ok]
      cases d <;> simp_all
    · intro ha
      have h2 := h.2
      subst ha
      cases d <;> simp_all
  · cases h
theorem add_lit (b o i : Nat) : (⟨b, o, none⟩ : Addr).add i = ⟨b, o + i, none⟩ := by
  unfold Addr.add
  split
  · rename_i h; subst h; rfl
  · rfl
theorem add_row {a : Addr} {k : Nat} (h : a.spot = none) : a.add k = ⟨a.block, a.off + k, none⟩ := by
  obtain ⟨b, o, s⟩ := a
  cases h
  exact add_lit b o k
theorem run_loadVar_cells {t k b off : Nat} {a : Bool} {vs : Array Value} {e : TypeId} {fz : Nat × Nat} (ht : chkTy P t k a = true) (hw : w.heap[b]? = some (.cells vs e fz)) :
    (a = true → off + k ≤ vs.size → (loadVar t ⟨b, off, none⟩).run P w = .ok (.agg (vs.extract off (off + k))) w) ∧
    (a = false → ∀ c, vs[off]? = some c → (loadVar t ⟨b, off, none⟩).run P w = .ok c w) := by
  obtain ⟨h1, h2, h3⟩ := chkTy_ok ht w
  constructor
  · rintro rfl hk
    simp only [loadVar, Sem.run_bind, h2, Result.andThen_ok, if_true, h1]
    rw [run_loadCells w _ k (fun j => vs.getD (off + j) undef) (fun j hj => by
      rw [add_lit]
      simp [World.cell?, hw, show off + j < vs.size by omega])]
    simp only [Result.andThen_ok, Sem.run_pure]
    congr 2
    apply Array.ext
    · simp; omega
    · intro i h4 h5
      simp at h4 h5 ⊢
      simp [show off + i < vs.size by omega]
  · rintro rfl c hc
    simp [loadVar, h2, run_load, World.cell?, hw, hc]
theorem ld_ok (hI : Inv g0 st0 w0 g f fr st w tmps) {t k : Nat} {a : Bool} {x v : AV} {cx : Value} (ht : chkTy P t k a = true) (hx : Rep g f st.size w x cx) (h : ld fr st x k a = some v) :
    ∃ c, (Instr.loadAt t cx).run P w = .ok c w ∧ Rep g f st.size w v c := by
  unfold ld at h
  have fin : ∀ (b off : Nat) (cs : List AV) (vs : Array Value) (e : TypeId), w.heap[b]? = some (.cells vs e (0, 0)) → cs.length = vs.size → (∀ i (h : i < cs.length) (h' : i < vs.size), Rep g f st.size w cs[i] vs[i] ∧ vs[i].oneCell' = true) →
      rd cs off k a = some v → ∃ c, (Instr.loadAt t (.pointer (some ⟨b, off, none⟩))).run P w = .ok c w ∧ Rep g f st.size w v c := fun b off cs vs e hw hl hr hrd => by
    obtain ⟨h1, h2⟩ := rd_rep hl hr hrd
    obtain ⟨k1, k2⟩ := run_loadVar_cells (P := P) (off := off) ht hw
    cases a with
    | true => exact ⟨_, by simpa [Instr.loadAt, Instr.sureAddr] using k1 rfl (h1 rfl).2, (h1 rfl).1⟩
    | false =>
      obtain ⟨c, hc, hrep⟩ := h2 rfl
      exact ⟨c, by simpa [Instr.loadAt, Instr.sureAddr] using k2 rfl c hc, hrep⟩
  split at h
  ·
    rename_i li ser off
    obtain ⟨b, hb, rfl⟩ := hx.lptr_inv
    split at h
    · rename_i cs hcs
      unfold locGet at hcs
      split at hcs
      · rename_i s cs' hloc
        split at hcs
        · rename_i hs
          cases hcs; subst hs
          by_cases hne : cs = []
          · subst hne
            obtain ⟨k1, k2, k3⟩ := chkTy_ok ht w
            unfold rd at h
            cases a with
            | true =>
              simp only at h
              split at h
              · rename_i hk
                have : off = 0 ∧ k = 0 := by simp at hk; omega
                obtain ⟨rfl, rfl⟩ := this
                cases h
                exact ⟨.agg #[], by simp [Instr.loadAt, Instr.sureAddr, loadVar, k1, k2, loadCells, loadCellsFrom], .agg [] [] rfl (fun _ h => by simp at h) (fun _ h => by simp at h)⟩
              · cases h
            | false => simp at h
          · obtain ⟨b', vs, e, h3, h4, h5, h6⟩ := hI.fi.loc li s cs hloc hne
            rw [hb] at h3; cases h3
            exact fin b off cs vs e h4 h5 h6 h
        · cases hcs
      · cases hcs
    · cases h
  ·
    rename_i id off
    obtain ⟨hid, rfl⟩ := hx.ptr_inv
    split at h
    · rename_i cs hcs
      obtain ⟨vs, e, h1, h2, h3⟩ := hI.h.obj id _ (St.cells_eq.1 hcs)
      exact fin _ off cs vs e h1 h2 (fun i a a' => ⟨(h3 i a a').1.mono ⟨hid, fun _ _ => rfl, fun _ _ _ _ _ h => h, fun _ _ h => h, fun _ _ _ => rfl⟩ (FGrow.none f), (h3 i a a').2⟩) h
    · cases h
  ·
    rename_i cs
    obtain ⟨ad, vs, hrow, rfl⟩ := hx.vptr_inv
    obtain ⟨h1, h2, h3⟩ := chkTy_ok ht w
    unfold rd at h
    cases a with
    | true =>
      simp only at h
      split at h
      · rename_i hk
        cases h
        have hk' : k ≤ cs.length := by omega
        refine ⟨.agg ((List.range k).map vs).toArray, ?_, .agg _ _ (by simp; omega) (fun i a a' => ?_) fun c hc => ?_⟩
        · simp only [Instr.loadAt, Instr.sureAddr, Sem.run_bind, Sem.run_pure, Result.andThen_ok, loadVar, h2, if_true, h1]
          rw [run_loadCells w ad k vs (fun j hj => by
            rw [add_row (hrow.spot (by omega))]; exact (hrow.row j (by omega)).2)]
          simp
        · simp only [List.getElem_take, List.getElem_drop, List.getElem_map, List.getElem_range, Nat.zero_add]
          exact .plain (hrow.el i (by simp at a; omega))
        · simp at hc
          obtain ⟨j, hj, rfl⟩ := hc
          exact (hrow.el j (by omega)).oneCell
      · cases h
    | false =>
      have hlt := (List.getElem?_eq_some_iff.1 h).1
      have hv := (List.getElem?_eq_some_iff.1 h).2
      refine ⟨vs 0, ?_, .plain (hv ▸ hrow.el 0 hlt)⟩
      have hc := (hrow.row 0 hlt).2
      have hs := hrow.spot hlt
      have e : ad = ⟨ad.block, ad.off + 0, none⟩ := by obtain ⟨b, o, s⟩ := ad; cases hs; rfl
      rw [← e] at hc
      simp [Instr.loadAt, Instr.sureAddr, loadVar, h2, run_load, hc]
  · cases h
end
end Go.Proofs.YtelpkgbghhpgaaaGreatDoor.Sx
end
section
namespace Go.Proofs.YtelpkgbghhpgaaaGreatDoor.Sx
open AV
def chkZero (P : Program) (t : Nat) (zs : List AV) : Bool :=
  match P.info? t with
  | some i => (match i.zero with | some z => cOkL zs z.cells.toList && i.size == zs.length | none => false)
  | none => false
def chkPart (places : Nat → Option (Nat × Nat)) : List (Nat × Operand) → List (Nat × Nat × Opd) → Bool
  | [], [] => true
  | (i, x) :: l, (off, n, y) :: m => (match places i with | some (o, s) => o == off && s == n | none => false) && chkOpd x y && chkPart places l m
  | _, _ => false
def chkPartS : List (Nat × Operand) → List (Nat × Opd) → Bool
  | [], [] => true
  | (i, x) :: l, (j, y) :: m => i == j && chkOpd x y && chkPartS l m
  | _, _ => false
def placesOf (P : Program) (t : Nat) : Option (List (Nat × Nat)) :=
  match P.underlying t with
  | some (.struct fields) => fields.toList.mapM fun f => (P.info? f.type).map fun i => (f.offset, i.size)
  | some (.array n e) => (P.info? e).map fun i => (List.range n).map fun j => (j * i.size, i.size)
  | _ => none
def chkLeaf (P : Program) : EqK → Nat → Bool
  | .int, t => (match P.underlying t with | some (.int _) => true | _ => false)
  | .str, t => (match P.underlying t with | some .string => true | _ => false)
  | .bool, t => (match P.underlying t with | some .bool => true | _ => false)
  | _, _ => false
def chkLeaves (P : Program) : Nat → Nat → List Field → List EqK → Option (Nat × List EqK)
  | _, off, [], ks => some (off, ks)
  | d, off, f :: fs, k :: ks => if f.name ≠ "_" ∧ f.offset = off ∧ chkLeaf P k f.type = true then chkLeaves P d (off + 1) fs ks else none
  | _, _, _ :: _, [] => none
def chkEqs (P : Program) (t : Nat) (ks : List EqK) : Bool :=
  match P.underlying t with
  | some (.struct fs) => chkLeaves P 0 0 fs.toList ks == some (ks.length, []) && !P.stoodInHeld t && !P.eqGuardType P.depth t
  | _ => false
def kindOk (P : Program) (k : EqK) (t : Nat) : Bool :=
  match k, P.underlying t with
  | .int, some (.int _) | .str, some .string | .bool, some .bool | .ptr, some (.pointer _) | .slice, some (.slice _) | .map, some (.map _ _) | .func, some (.func _ _ _) | .iface, some (.interface _) => true
  | _, _ => false
def isCst : Operand → Bool
  | .const _ => true
  | _ => false
def chkEqk (P : Program) (k : EqK) (t : Nat) (x y : Operand) : Bool :=
  kindOk P k t && (match k with
    | .int | .str => false
    | .iface => isCst x || isCst y
    | _ => true)
def chkFieldAddr (P : Program) (s i off : Nat) : Bool :=
  match P.underlying s with
  | some (.struct fields) => (match fields[i]? with
    | some f => f.offset == off && (match P.info? f.type with | some i => i.size != 0 | none => false)
    | none => false)
  | _ => false
def chkField (P : Program) (s i off n : Nat) (a : Bool) : Bool :=
  match P.underlying s with
  | some (.struct fields) => (match fields[i]? with
    | some f => f.offset == off && chkTy P f.type n a
    | none => false)
  | _ => false
def chkSz (P : Program) (t n : Nat) : Bool := match P.info? t with | some i => i.size == n | none => false
def chkKey (P : Program) (kk : EqK) (k : Nat) : Bool :=
  match kk, P.underlying k with
  | .int, some (.int _) | .str, some .string | .bool, some .bool => true
  | _, _ => false
def chkCall (P : Program) (c : Call) : AOp → Bool
  | .len k y => (match c.callee, c.args.toList, c.argTypes[0]? with
    | .builtin .len, [x], some t => chkOpd x y && (match k, P.underlying t with | .str, some .string | .slice, some (.slice _) | .map, some (.map _ _) => true | _, _ => false)
    | _, _, _ => false)
  | .alen n => (match c.callee, c.args.toList, c.argTypes[0]? with
    | .builtin .len, [_], some t => (match P.underlying t with | some (.array m _) => m == n | _ => false)
    | _, _, _ => false)
  | .minmax mx ys => (match c.callee with
    | .builtin .max => mx && chkOpds c.args.toList ys
    | .builtin .min => !mx && chkOpds c.args.toList ys
    | _ => false)
  | .append x y sz bytes => (match c.callee, c.args.toList, c.argTypes.toList with
    | .builtin .append, [a, b], [t, u] => t == u && chkOpd a x && chkOpd b y && (match P.underlying t with
      | some (.slice e) => (match P.info? e with
        | some i => i.size == sz && decide (i.bytes ≤ bytes) && decide (0 < sz) && decide (0 < bytes) && (match i.zero with | some z => z.cells.size == sz | none => false)
        | none => false)
      | _ => false)
    | _, _, _ => false)
  | .call f ys => (match c.callee with
    | .value (.func i) => i == f && chkOpds c.args.toList ys && (match P.funcs[f]? with | some fn => fn.body.isSome && fn.name != "runtime.NumGoroutine" | none => false)
    | _ => false)
  | .callv x ys => (match c.callee with
    | .value y => chkOpd y x && chkOpds c.args.toList ys
    | _ => false)
  | _ => false
def chkOp (P : Program) (o : Oper) (a : AOp) : Bool :=
  match a with
  | .mv y => (match o.op with | .move x | .assign x => chkOpd x y | _ => false)
  | .pick c' a' b' => (match o.op with | .pick c a b => chkOpd c c' && chkOpd a a' && chkOpd b b' | _ => false)
  | .alloc _ zs | .halloc zs => (match o.op with | .alloc t => chkZero P t zs | _ => false)
  | .box _ y | .hbox y => (match o.op with | .box _ x => chkOpd x y | _ => false)
  | .build zs parts => (match o.op with | .build t ps => chkZero P t zs && (match placesOf P t with | some pl => chkPart (pl[·]?) ps.toList parts | none => false) | _ => false)
  | .bslice sz zs len parts => (match o.op with
    | .buildSlice t n ps => n == len && (match P.underlying t with | some (.slice e) => chkZero P e zs && zs.length == sz && decide (len * sz ≤ 16777216) && decide (0 < sz) | _ => false) && chkPartS ps.toList parts
    | _ => false)
  | .load y n ag => (match o.op with | .load t x => chkOpd x y && chkTy P t n ag | _ => false)
  | .store x' y' n => (match o.op with | .store t x y => chkOpd x x' && chkOpd y y' && chkSz P t n && decide (0 < n) | _ => false)
  | .nchk y => (match o.op with | .nilCheck x => chkOpd x y | _ => false)
  | .bin b x' y' => (match o.op with | .binOp c _ x y _ => decide (b = c) && chkOpd x x' && chkOpd y y' | _ => false)
  | .eqk k neg x' y' => (match o.op with | .binOp c t x y _ => decide (c = if neg then .neq else .eql) && chkOpd x x' && chkOpd y y' && chkEqk P k t x y | _ => false)
  | .eqs ks neg x' y' => (match o.op with | .binOp c t x y _ => decide (c = if neg then .neq else .eql) && chkOpd x x' && chkOpd y y' && chkEqs P t ks | _ => false)
  | .un u y => (match o.op with | .unOp v _ x => decide (u = v) && chkOpd x y | _ => false)
  | .conv k y => (match o.op with | .convert s d x => chkOpd x y && (P.underlying s).isSome && (match P.underlying d with | some (.int j) => j == k | _ => false) | _ => false)
  | .b2s y => (match o.op with
    | .convert s d x => chkOpd x y && (match P.underlying s, P.underlying d with | some (.slice e), some .string => (match P.underlying e with | some (.int .u8) => true | _ => false) | _, _ => false)
    | _ => false)
  | .s2b y => (match o.op with
    | .convert s d x => chkOpd x y && (match P.underlying s, P.underlying d with | some .string, some (.slice e) => (match P.underlying e with | some (.int .u8) => true | _ => false) | _, _ => false)
    | _ => false)
  | .iface t' y => (match o.op with | .makeInterface t x => t == t' && chkOpd x y && (match P.underlying t with | some (.interface _) => false | some _ => true | none => false) | _ => false)
  | .mkf fn first captured => (match o.op with | .makeFunc fn' a b => decide (fn = fn') && chkOpds a.toList first && chkOpds b.toList captured | _ => false)
  | .mkmap => (match o.op with | .makeMap _ none => true | _ => false)
  | .mset kk m k v => (match o.op with
    | .mapUpdate t a b c | .insert t a b c => chkOpd a m && chkOpd b k && chkOpd c v && (match P.underlying t with | some (.map kt _) => chkKey P kk kt | _ => false)
    | _ => false)
  | .look kk zs m k ok => (match o.op with
    | .lookup t a b ok' => chkOpd a m && chkOpd b k && (ok == ok') && (match P.underlying t with | some (.map kt e) => chkKey P kk kt && (match P.info? e with | some i => (match i.zero with | some z => cOk zs z | none => false) | none => false) | _ => false)
    | _ => false)
  | .slc sz y lo' hi' mx' => (match o.op with
    | .slice t x lo hi mx => chkOpd x y && chkOpt lo lo' && chkOpt hi hi' && chkOpt mx mx' && (mx.isNone || hi.isSome) && (match P.underlying t with | some .string => sz == 0 | some (.slice e) => decide (0 < sz) && chkSz P e sz | _ => false)
    | _ => false)
  | .addr y off => (match o.op with | .fieldAddr s x i => chkOpd x y && chkFieldAddr P s i off | _ => false)
  | .part y off n ag => (match o.op with | .field s x i => chkOpd x y && chkField P s i off n ag | _ => false)
  | .ixa x' i' sz => (match o.op with | .indexAddr t x i => chkOpd x x' && chkOpd i i' && (match P.underlying t with | some (.slice e) => chkSz P e sz | _ => false) | _ => false)
  | .ixp x' i' len sz => (match o.op with | .indexAddr t x i => chkOpd x x' && chkOpd i i' && (match P.underlying t with | some (.array n e) => n == len && chkSz P e sz | _ => false) | _ => false)
  | .ixs x' i' => (match o.op with | .index t x i => chkOpd x x' && chkOpd i i' && (match P.underlying t with | some .string => true | _ => false) | _ => false)
  | .ixv x' i' len sz ag => (match o.op with | .index t x i => chkOpd x x' && chkOpd i i' && (match P.underlying t with | some (.array n e) => n == len && chkTy P e sz ag | _ => false) | _ => false)
  | .ext y i => (match o.op with | .extract x j => chkOpd x y && i == j | _ => false)
  | .panic y => (match o.op with | .panic x => chkOpd x y | _ => false)
  | a => (match o.op with | .call c => chkCall P c a | _ => false)
end Go.Proofs.YtelpkgbghhpgaaaGreatDoor.Sx
end
section
namespace Go.Proofs.YtelpkgbghhpgaaaGreatDoor.Sx
open AV
def OpGoal (P : Program) (o : Oper) (tmps : Array Value) (ds : List Deferred) (g0 : Gh) (st0 : St) (w0 : World) (w : World) (v : AV) (fr' : Fr) (st' : St) : Prop :=
  ∃ nx c g' f' w', (execOp (Act.eval ⟨tmps, ds⟩) o).run P w = .ok nx w' ∧ (nx = .value c ∨ nx = .skip ∧ c = undef) ∧ Rep g' f' st'.size w' v c ∧ Inv g0 st0 w0 g' f' fr' st' w' tmps
section
variable {g0 g : Gh} {st0 st : St} {w0 w w' : World} {f f' : Fh} {fr : Fr} {tmps : Array Value} {ds : List Deferred} {P : Program} {n : Nat} {o : Oper}
theorem OpGoal.value {v : AV} {c : Value} (hI : Inv g0 st0 w0 g f fr st w tmps) (hr : (execOp (Act.eval ⟨tmps, ds⟩) o).run P w = .ok (.value c) w) (hv : Rep g f st.size w v c) : OpGoal P o tmps ds g0 st0 w0 w v fr st :=
  ⟨.value c, c, g, f, w, hr, .inl rfl, hv, hI⟩
theorem run_v {s : Sem Value} {c : Value} (h : s.run P w = .ok c w') : (do pure (Next.value (← s)) : Sem Next).run P w = .ok (.value c) w' := by simp [h]
theorem ok_mv {y : Opd} (hI : Inv g0 st0 w0 g f fr st w tmps) (hc : chkOp P o (.mv y) = true) : OpGoal P o tmps ds g0 st0 w0 w (y.ev fr) fr st := by
  obtain ⟨dst, op, ty, pos, aft, gd⟩ := o
  simp only [chkOp] at hc
  cases op <;> first
    | (simp at hc; done)
    | exact .value hI rfl (opd_rep hI hc)
theorem ok_pick {c' a' b' : Opd} {t : Bool} (hI : Inv g0 st0 w0 g f fr st w tmps) (hc : chkOp P o (.pick c' a' b') = true) (ht : c'.ev fr = .bool t) :
    OpGoal P o tmps ds g0 st0 w0 w (match t with | true => a'.ev fr | false => b'.ev fr) fr st := by
  obtain ⟨dst, op, ty, pos, aft, gd⟩ := o
  simp only [chkOp] at hc
  cases op <;> first
    | (simp at hc; done)
    | (simp only [Bool.and_eq_true] at hc
       have h1 := opd_rep (ds := ds) hI hc.1.1
       rw [ht] at h1
       have h1 := h1.bool_inv
       cases t
       · exact .value hI (by simp [execOp, h1, asBool]) (opd_rep (ds := ds) hI hc.2)
       · exact .value hI (by simp [execOp, h1, asBool]) (opd_rep (ds := ds) hI hc.1.2))
theorem ok_nchk {y : Opd} {v : AV} {fr' : Fr} {st' : St} (hI : Inv g0 st0 w0 g f fr st w tmps) (hc : chkOp P o (.nchk y) = true) (hs : step fr st (.nchk y) = some (v, fr', st')) : OpGoal P o tmps ds g0 st0 w0 w v fr' st' := by
  obtain ⟨dst, op, ty, pos, aft, gd⟩ := o
  simp only [chkOp] at hc
  cases op <;> first
    | (simp at hc; done)
    | (have h1 := opd_rep (ds := ds) hI hc
       simp only [step] at hs
       split at hs <;> first
         | (rename_i e
            cases hs
            rw [e] at h1
            first
              | (obtain ⟨_, h2⟩ := h1.ptr_inv; refine OpGoal.value hI ?_ h1; simp [execOp, h2])
              | (obtain ⟨_, _, h2⟩ := h1.lptr_inv; refine OpGoal.value hI ?_ h1; simp [execOp, h2])
              | (obtain ⟨_, _, _, h2⟩ := h1.vptr_inv; refine OpGoal.value hI ?_ h1; simp [execOp, h2]))
         | (simp at hs; done))
theorem toList_mk (l : List UInt8) : (⟨l.toArray⟩ : ByteArray).toList = l := by rw [show (⟨l.toArray⟩ : ByteArray).toList = (⟨l.toArray⟩ : ByteArray).data.toList from ByteArray.toList_eq _]
theorem size_mk (l : List UInt8) : (⟨l.toArray⟩ : ByteArray).size = l.length := rfl
def valS : AV → Value
  | .int k n => .int k n
  | .bool b => .bool b
  | .str s => .string ⟨s.toArray⟩
  | _ => undef
theorem run_ibin {op : BinOp} {k : IntKind} {x y : Int} {v : AV} (h : ibin op k x y = some v) (I : Nat → Nat → Prop) :
    (binOp op n (.int k x) (.int k y)).run P w = .ok (valS v) w ∧ PRep w I v (valS v) := by
  cases op <;> simp only [ibin] at h
  case quo => split at h
              · simp at h
              · rename_i hy; cases h; exact ⟨by simp [binOp, Op.intDiv, hy, valS], .int _ _⟩
  case rem => split at h
              · simp at h
              · rename_i hy; cases h; exact ⟨by simp [binOp, Op.intDiv, hy, valS], .int _ _⟩
  case shl => split at h
              · simp at h
              · rename_i hy; cases h; exact ⟨by simp [binOp, Op.shift, hy, valS], .int _ _⟩
  case shr => split at h
              · simp at h
              · rename_i hy; cases h; exact ⟨by simp [binOp, Op.shift, hy, valS], .int _ _⟩
  all_goals cases h
  all_goals first
    | exact ⟨by simp [binOp, Op.intArith, Op.intBits, Op.intCmp, valS], .int _ _⟩
    | exact ⟨by simp [binOp, Op.intArith, Op.intBits, Op.intCmp, valS], .bool _⟩
theorem run_ishift {op : BinOp} {k k' : IntKind} {x y : Int} {v : AV} (h : ibin op k x y = some v) (ho : op = .shl ∨ op = .shr) (I : Nat → Nat → Prop) :
    (binOp op n (.int k x) (.int k' y)).run P w = .ok (valS v) w ∧ PRep w I v (valS v) := by
  rcases ho with rfl | rfl
  · simp only [ibin] at h
    split at h
    · simp at h
    · rename_i hy; cases h; exact ⟨by simp [binOp, Op.shift, hy, valS], .int _ _⟩
  · simp only [ibin] at h
    split at h
    · simp at h
    · rename_i hy; cases h; exact ⟨by simp [binOp, Op.shift, hy, valS], .int _ _⟩
theorem mk_append (x y : List UInt8) : (⟨x.toArray⟩ : ByteArray) ++ ⟨y.toArray⟩ = ⟨(x ++ y).toArray⟩ := by
  apply ByteArray.ext
  simp [ByteArray.data_append]
theorem run_sbin {op : BinOp} {x y : List UInt8} {v : AV} (h : sbin op x y = some v) (I : Nat → Nat → Prop) :
    (binOp op n (.string ⟨x.toArray⟩) (.string ⟨y.toArray⟩)).run P w = .ok (valS v) w ∧ PRep w I v (valS v) := by
  cases op <;> simp only [sbin] at h
  case add =>
    split at h
    · rename_i hl
      cases h
      refine ⟨?_, .str _⟩
      have h1 : ¬ (9223372036854775807 < ((x.length : Int) + (y.length : Int))) := by omega
      simp only [binOp, Op.stringOp, size_mk, valS]
      rw [if_neg (by show ¬ (((x.length + y.length : Nat) : Int) > IntKind.i64.max); have : IntKind.i64.max = 9223372036854775807 := by decide
                     omega), mk_append]
      rfl
    · simp at h
  all_goals first
    | (simp at h; done)
    | (cases h; exact ⟨by simp [binOp, Op.stringOp, toList_mk, valS], .bool _⟩)
theorem guard_scalar {op : BinOp} {t : Nat} {x y : Operand} {a b : Value} (h : ∀ u v, ¬ (a = .agg u ∧ b = .agg v)) (h' : ¬ (a = .nilIface ∧ b = .nilIface)) : (eqGuard op t x y a b).run P w = .ok () w := by
  have key : (match a, b with
      | .nilIface, .nilIface =>
        if (match x with | .const _ => true | _ => false) || (match y with | .const _ => true | _ => false) then (pure () : Sem Unit) else do
          if ← Op.eqGuardIn Op.maxDepth t a b then unsupported (.noEntry "binop/eql: two nil values of an interface type with methods, neither of them the literal nil")
      | .agg _, .agg _ => do
        if !(← program).eqGuardType (← program).depth t then return
        if ← Op.eqGuardIn Op.maxDepth t a b then unsupported (.noEntry "binop/eql: two nil values of an interface type with methods, in a part of a struct or an array")
      | _, _ => pure ()) = pure () := by
    split
    · exact absurd ⟨rfl, rfl⟩ h'
    · exact absurd ⟨rfl, rfl⟩ (h _ _)
    · rfl
  cases op
  case eql => exact congrArg (fun s : Sem Unit => s.run P w) key
  case neq => exact congrArg (fun s : Sem Unit => s.run P w) key
  all_goals rfl
theorem ok_bin {b : BinOp} {x' y' : Opd} {v : AV} (hI : Inv g0 st0 w0 g f fr st w tmps) (hc : chkOp P o (.bin b x' y') = true) (hs : abin b (x'.ev fr) (y'.ev fr) = some v) : OpGoal P o tmps ds g0 st0 w0 w v fr st := by
  obtain ⟨dst, op, ty, pos, aft, gd⟩ := o
  simp only [chkOp] at hc
  cases op <;> first
    | (simp at hc; done)
    | skip
  rename_i op t x y t2
  simp only [Bool.and_eq_true, decide_eq_true_eq] at hc
  obtain ⟨⟨rfl, h1⟩, h2⟩ := hc
  have h1 := opd_rep (ds := ds) hI h1
  have h2 := opd_rep (ds := ds) hI h2
  have fin : ∀ a c, Act.eval ⟨tmps, ds⟩ x = a → Act.eval ⟨tmps, ds⟩ y = c → (∀ u v, ¬ (a = .agg u ∧ c = .agg v)) → ¬ (a = .nilIface ∧ c = .nilIface) → (binOp b t a c).run P w = .ok (valS v) w ∧ PRep w g.imm v (valS v) →
      OpGoal P ⟨dst, .binOp b t x y t2, ty, pos, aft, gd⟩ tmps ds g0 st0 w0 w v fr st := fun a c ha hc n1 n2 hr => by
    refine .value hI ?_ (.plain hr.2)
    simp only [execOp, ha, hc]
    exact run_v (by simp [guard_scalar n1 n2, hr.1])
  unfold abin at hs
  split at hs
  · rename_i e1 e2
    rw [e1] at h1; rw [e2] at h2
    split at hs
    · rename_i hk; subst hk
      exact fin _ _ h1.int_inv h2.int_inv (by simp) (by simp) (run_ibin hs _)
    · split at hs
      · exact fin _ _ h1.int_inv h2.int_inv (by simp) (by simp) (run_ishift hs (.inl rfl) _)
      · exact fin _ _ h1.int_inv h2.int_inv (by simp) (by simp) (run_ishift hs (.inr rfl) _)
      · simp at hs
  · rename_i e1 e2
    rw [e1] at h1; rw [e2] at h2
    exact fin _ _ h1.str_inv h2.str_inv (by simp) (by simp) (run_sbin hs _)
  · simp at hs
end
end Go.Proofs.YtelpkgbghhpgaaaGreatDoor.Sx
end
section
namespace Go.Proofs.YtelpkgbghhpgaaaGreatDoor.Sx
open AV
section
variable {g0 g : Gh} {st0 st : St} {w0 w w' : World} {f f' : Fh} {fr : Fr} {tmps : Array Value} {ds : List Deferred} {P : Program} {n : Nat} {o : Oper}
theorem ok_un {u : UnOp} {y : Opd} {v : AV} (hI : Inv g0 st0 w0 g f fr st w tmps) (hc : chkOp P o (.un u y) = true) (hs : aun u (y.ev fr) = some v) : OpGoal P o tmps ds g0 st0 w0 w v fr st := by
  obtain ⟨dst, op, ty, pos, aft, gd⟩ := o
  simp only [chkOp] at hc
  cases op <;> first
    | (simp at hc; done)
    | skip
  simp only [Bool.and_eq_true, decide_eq_true_eq] at hc
  obtain ⟨rfl, h1⟩ := hc
  have h1 := opd_rep (ds := ds) hI h1
  unfold aun at hs
  split at hs
  · rename_i e; rw [e] at h1; cases hs
    exact .value hI (by simp only [execOp, h1.bool_inv]; exact run_v rfl) (.plain (.bool _))
  · rename_i e; rw [e] at h1; cases hs
    exact .value hI (by simp only [execOp, h1.int_inv]; exact run_v rfl) (.plain (.int _ _))
  · simp at hs
theorem ok_conv {k : IntKind} {y : Opd} {v : AV} {fr' : Fr} {st' : St} (hI : Inv g0 st0 w0 g f fr st w tmps) (hc : chkOp P o (.conv k y) = true) (hs : step fr st (.conv k y) = some (v, fr', st')) : OpGoal P o tmps ds g0 st0 w0 w v fr' st' := by
  obtain ⟨dst, op, ty, pos, aft, gd⟩ := o
  simp only [chkOp] at hc
  cases op <;> first
    | (simp at hc; done)
    | skip
  rename_i s d x
  simp only [Bool.and_eq_true] at hc
  obtain ⟨⟨h1, h2⟩, h3⟩ := hc
  have h1 := opd_rep (ds := ds) hI h1
  obtain ⟨sd, hsd⟩ := Option.isSome_iff_exists.1 h2
  simp only [step] at hs
  split at hs
  · rename_i e; rw [e] at h1; cases hs
    split at h3
    · rename_i j hd
      simp only [beq_iff_eq] at h3; subst h3
      refine .value hI ?_ (.plain (.int _ _))
      simp only [execOp, h1.int_inv]
      exact run_v (by simp [convert, run_underlying hsd, run_underlying hd, Conv.intToInt])
    · simp at h3
  · simp at hs
theorem ok_iface {t : Nat} {y : Opd} {v : AV} {fr' : Fr} {st' : St} (hI : Inv g0 st0 w0 g f fr st w tmps) (hc : chkOp P o (.iface t y) = true) (hs : step fr st (.iface t y) = some (v, fr', st')) : OpGoal P o tmps ds g0 st0 w0 w v fr' st' := by
  obtain ⟨dst, op, ty, pos, aft, gd⟩ := o
  simp only [chkOp] at hc
  cases op <;> first
    | (simp at hc; done)
    | skip
  rename_i xt x
  simp only [Bool.and_eq_true, beq_iff_eq] at hc
  obtain ⟨⟨rfl, h1⟩, h3⟩ := hc
  have h1 := opd_rep (ds := ds) hI h1
  simp only [step] at hs
  split at hs
  · rename_i hp; cases hs
    refine .value hI ?_ (.iface _ _ _ hp h1)
    split at h3
    · simp at h3
    · rename_i d hd hne
      simp only [execOp]
      refine run_v ?_
      simp only [Instr.makeInterface, Sem.run_bind, run_underlying hne, Result.andThen_ok]
      cases d <;> simp_all
    · simp at h3
  · simp at hs
theorem map_rep (hI : Inv g0 st0 w0 g f fr st w tmps) {xs : Array Operand} {ys : List Opd} (h : chkOpds xs.toList ys = true) :
    (ys.map (Opd.ev fr)).length = (xs.toList.map (Act.eval ⟨tmps, ds⟩)).length ∧ ∀ i (h : i < (ys.map (Opd.ev fr)).length) (h' : i < (xs.toList.map (Act.eval ⟨tmps, ds⟩)).length), Rep g f st.size w (ys.map (Opd.ev fr))[i] (xs.toList.map (Act.eval ⟨tmps, ds⟩))[i] := by
  obtain ⟨h1, h2⟩ := opds_rep (ds := ds) hI h
  refine ⟨by simpa using h1.symm, fun i a b => ?_⟩
  simp only [List.getElem_map]
  exact h2 i (by simpa using a) (by simpa using b)
theorem map_arr (xs : Array Operand) (ρ : Operand → Value) : xs.map ρ = (xs.toList.map ρ).toArray := by
  apply Array.ext'
  simp
theorem ok_mkf {fn : Fn} {first captured : List Opd} {v : AV} {fr' : Fr} {st' : St} (hI : Inv g0 st0 w0 g f fr st w tmps) (hc : chkOp P o (.mkf fn first captured) = true) (hs : step fr st (.mkf fn first captured) = some (v, fr', st')) :
    OpGoal P o tmps ds g0 st0 w0 w v fr' st' := by
  obtain ⟨dst, op, ty, pos, aft, gd⟩ := o
  simp only [chkOp] at hc
  cases op <;> first
    | (simp at hc; done)
    | skip
  simp only [Bool.and_eq_true, decide_eq_true_eq] at hc
  obtain ⟨⟨rfl, h1⟩, h2⟩ := hc
  obtain ⟨a1, a2⟩ := map_rep (ds := ds) hI h1
  obtain ⟨b1, b2⟩ := map_rep (ds := ds) hI h2
  simp only [step] at hs
  split at hs
  · cases hs
    refine .value hI ?_ (.func _ _ _ _ _ a1 b1 a2 b2)
    simp only [execOp]
    refine run_v ?_
    simp only [Instr.makeFunc, map_arr]
    rfl
  · simp at hs
theorem ok_ext {y : Opd} {i : Nat} {v : AV} {fr' : Fr} {st' : St} (hI : Inv g0 st0 w0 g f fr st w tmps) (hc : chkOp P o (.ext y i) = true) (hs : step fr st (.ext y i) = some (v, fr', st')) : OpGoal P o tmps ds g0 st0 w0 w v fr' st' := by
  obtain ⟨dst, op, ty, pos, aft, gd⟩ := o
  simp only [chkOp] at hc
  cases op <;> first
    | (simp at hc; done)
    | skip
  rename_i x i'
  simp only [Bool.and_eq_true, beq_iff_eq] at hc
  obtain ⟨h1, hii⟩ := hc
  subst hii
  have h1 := opd_rep (ds := ds) hI h1
  simp only [step] at hs
  split at hs
  · rename_i vs e; rw [e] at h1
    obtain ⟨cs, h2, h3, h4⟩ := h1.tuple_inv
    split at hs
    · rename_i v' hv; cases hs
      have hlt := (List.getElem?_eq_some_iff.1 hv).1
      have hve := (List.getElem?_eq_some_iff.1 hv).2
      have hlt' : i < cs.length := by omega
      refine .value hI ?_ (hve ▸ h4 i hlt hlt')
      simp only [execOp, h2]
      refine run_v ?_
      simp [Instr.extract, List.getElem?_eq_getElem hlt']
    · simp at hs
  · simp at hs
theorem gobj_map {r : Nat} {es : Array MapEntry} {clock : Nat} (hb : w.heap[r]? = some (.map es clock)) : (getObj r).run P w = .ok (.map es clock) w := by simp [getObj, Sem.run, hb]
theorem ok_alen {m : Nat} (hI : Inv g0 st0 w0 g f fr st w tmps) (hc : chkOp P o (.alen m) = true) : OpGoal P o tmps ds g0 st0 w0 w (.int .i64 m) fr st := by
  obtain ⟨dst, op, ty, pos, aft, gd⟩ := o
  simp only [chkOp] at hc
  cases op <;> first
    | (simp at hc; done)
    | skip
  rename_i c
  obtain ⟨cal, ⟨args⟩, ats⟩ := c
  simp only [chkCall] at hc
  split at hc <;> first
    | (simp at hc; done)
    | skip
  rename_i x t e3
  split at hc
  · rename_i m' el hu
    simp only [beq_iff_eq] at hc; subst hc
    refine .value hI ?_ (.plain (.int _ _))
    simp [execOp, resolve, invoke, builtin, Builtin.len_, e3, run_underlying hu, goInt]
  · simp at hc
theorem ok_len {k : EqK} {y : Opd} {v : AV} {fr' : Fr} {st' : St} (hI : Inv g0 st0 w0 g f fr st w tmps) (hc : chkOp P o (.len k y) = true) (hs : step fr st (.len k y) = some (v, fr', st')) : OpGoal P o tmps ds g0 st0 w0 w v fr' st' := by
  obtain ⟨dst, op, ty, pos, aft, gd⟩ := o
  simp only [chkOp] at hc
  cases op <;> first
    | (simp at hc; done)
    | skip
  rename_i c
  obtain ⟨cal, ⟨args⟩, ats⟩ := c
  simp only [chkCall] at hc
  split at hc <;> first
    | (simp at hc; done)
    | skip
  rename_i x t e3
  simp only [Bool.and_eq_true] at hc
  obtain ⟨h1, h2⟩ := hc
  have h1 := opd_rep (ds := ds) hI h1
  simp only [step] at hs
  generalize y.ev fr = yv at h1 hs
  split at hs
  · rename_i m hm
    cases hs
    unfold lenA at hm
    split at hm <;> cases hm <;> split at h2 <;> first
      | (simp at h2; done)
      | contradiction
      | (rename_i hu; have h1 := h1.str_inv; refine .value hI ?_ (.plain (.int _ _)); simp [execOp, resolve, invoke, builtin, Builtin.len_, e3, run_underlying hu, goInt, h1, size_mk]; done)
      | (rename_i hu; obtain ⟨_, a, cap, vs, h1, _⟩ := h1.slice_inv.1.slice_inv; refine .value hI ?_ (.plain (.int _ _)); simp [execOp, resolve, invoke, builtin, Builtin.len_, e3, run_underlying hu, goInt, h1]; done)
      | (rename_i hu; have h1 := h1.nilslice_inv; refine .value hI ?_ (.plain (.int _ _)); simp [execOp, resolve, invoke, builtin, Builtin.len_, e3, run_underlying hu, goInt, h1]; done)
      | (rename_i hu; have h1 := h1.nilmap_inv; refine .value hI ?_ (.plain (.int _ _)); simp [execOp, resolve, invoke, builtin, Builtin.len_, e3, run_underlying hu, goInt, h1]; done)
      | skip
  · split at hs
    · rename_i id _
      split at hs
      · rename_i es he
        cases hs
        obtain ⟨hid, h1⟩ := h1.mapr_inv
        split at h2 <;> first
          | (simp at h2; done)
          | contradiction
          | skip
        rename_i hk hu
        unfold St.entries at he
        split at he
        · rename_i es' hes; cases he
          obtain ⟨ents, clock, h3, h4, _⟩ := hI.h.obj id _ hes
          refine .value hI ?_ (.plain (.int _ _))
          simp [execOp, resolve, invoke, builtin, Builtin.len_, e3, run_underlying hu, goInt, h1, gobj_map h3, h4]
        · cases he
      · simp at hs
    · simp at hs
end
end Go.Proofs.YtelpkgbghhpgaaaGreatDoor.Sx
end
