/- TreeReads returns true for all texts whose data are not larger than a bound. The program's functions as plain code. -/
import Derived.Test.YtelpkgbghhpgaaaGreatDoorR5
set_option linter.all false
section
namespace Go.Proofs.YtelpkgbghhpgaaaGreatDoor.Sx
open AV
structure Over (g : Gh) (n : Nat) (w : World) (g' : Gh) (m : Nat) (w' : World) : Prop where
  imm : ∀ b o, g.imm b o → g'.imm b o
  cell : ∀ b o, g.imm b o → w'.cell? ⟨b, o, none⟩ = w.cell? ⟨b, o, none⟩
  blk : ∀ id, id < m → id < n → g'.blk id = g.blk id
section
variable {g0 g g' : Gh} {st0 st : St} {w0 w w' : World} {f f' : Fh} {fr : Fr} {tmps : Array Value} {ds : List Deferred} {P : Program} {n n' m : Nat} {o : Oper} {I : Nat → Nat → Prop}
theorem Rep.world {v : AV} {c : Value} (h : Rep g f n w v c) (hc : ∀ b o, g.imm b o → w'.cell? ⟨b, o, none⟩ = w.cell? ⟨b, o, none⟩) : Rep g f n w' v c :=
  h.mono ⟨Nat.le_refl _, fun _ _ => rfl, fun _ _ _ _ _ h => h, fun _ _ h => h, hc⟩ (FGrow.refl _)
theorem plain_over {v : AV} {c : Value} (hp : v.plain = true) (h : Rep g f n w v c) (ho : Over g n w g' m w') : Rep g' f' n' w' v c :=
  plain_rep hp (h.world ho.cell) ho.imm
theorem plain1_over {v : AV} {c : Value} (hp : v.plain1 = true) (h : Rep g f n w v c) (ho : Over g n w g' m w') : Rep g' f' n' w' v c :=
  .plain ((plain1_rep hp h).mono ho.imm ho.cell)
theorem out0_over {v : AV} {c : Value} (hp : v.out0 = true) (hr : v.refs0 ≤ m) (h : Rep g f n w v c) (ho : Over g n w g' m w') : Rep g' f' m w' v c := by
  cases v <;> first
    | (simp [out0] at hp; done)
    | exact plain1_over rfl h ho
    | skip
  case ptr id off =>
    obtain ⟨h1, rfl⟩ := h.ptr_inv
    have hm : id < m := hr
    rw [← ho.blk id hm h1]
    exact .ptr id off hm
  case mapr id =>
    obtain ⟨h1, rfl⟩ := h.mapr_inv
    have hm : id < m := hr
    rw [← ho.blk id hm h1]
    exact .mapr id hm
  case slice sz els own =>
    cases own <;> first
      | (simp [out0] at hp; done)
      | exact plain1_over rfl h ho
  case iface t x =>
    obtain ⟨y, rfl, h1, h2⟩ := h.iface_inv
    exact .iface t x y h1 (plain_over h1 h2 ho)
theorem refsL_le {vs : List AV} {v : AV} (h : v ∈ vs) : v.refs0 ≤ refsL vs := by
  induction vs with
  | nil => simp at h
  | cons a l ih =>
    simp only [refsL]
    rcases List.mem_cons.1 h with rfl | h
    · omega
    · have := ih h; omega
theorem refs1L_le {vs : List AV} {v : AV} (h : v ∈ vs) : v.refs1 ≤ refs1L vs := by
  induction vs with
  | nil => simp at h
  | cons a l ih =>
    simp only [refs1L]
    rcases List.mem_cons.1 h with rfl | h
    · omega
    · have := ih h; omega
theorem refs2L_le {vs : List AV} {v : AV} (h : v ∈ vs) : v.refs2 ≤ refs2L vs := by
  induction vs with
  | nil => simp at h
  | cons a l ih =>
    simp only [refs2L]
    rcases List.mem_cons.1 h with rfl | h
    · omega
    · have := ih h; omega
theorem out1_over {v : AV} {c : Value} (hp : v.out1 = true) (hr : v.refs1 ≤ m) (h : Rep g f n w v c) (ho : Over g n w g' m w') : Rep g' f' m w' v c := by
  by_cases hf : ∃ fn a b, v = .func fn a b
  · obtain ⟨fn, a, b, rfl⟩ := hf
    obtain ⟨va, vb, rfl, ha, hb, h1, h2⟩ := h.func_inv
    simp only [out1, Bool.and_eq_true] at hp
    simp only [refs1] at hr
    exact .func fn a b va vb ha hb
      (fun i x y => out0_over (List.all_eq_true.1 hp.1 _ (List.getElem_mem x)) (by have := refsL_le (List.getElem_mem x); omega) (h1 i x y) ho)
      (fun i x y => out0_over (List.all_eq_true.1 hp.2 _ (List.getElem_mem x)) (by have := refsL_le (List.getElem_mem x); omega) (h2 i x y) ho)
  · have e1 : v.out1 = v.out0 := by cases v <;> first | rfl | exact absurd ⟨_, _, _, rfl⟩ hf
    have e2 : v.refs1 = v.refs0 := by cases v <;> first | rfl | exact absurd ⟨_, _, _, rfl⟩ hf
    exact out0_over (e1 ▸ hp) (e2 ▸ hr) h ho
theorem okC_over {v : AV} {c : Value} (hp : v.okC = true) (hr : v.refs1 ≤ m) (h : Rep g f n w v c) (ho : Over g n w g' m w') : Rep g' f' m w' v c := by
  by_cases hf : ∃ sz els, v = .slice sz els .tight
  · obtain ⟨sz, els, rfl⟩ := hf
    obtain ⟨h1, h2⟩ := h.slice_inv
    exact .slice _ _ _ _ (h1.mono ho.imm ho.cell) h2
  · have e1 : v.okC = v.out1 := by
      cases v <;> first
        | rfl
        | skip
      rename_i sz els own
      cases own <;> first
        | rfl
        | exact absurd ⟨_, _, rfl⟩ hf
    exact out1_over (e1 ▸ hp) hr h ho
theorem out2_over {v : AV} {c : Value} (hp : v.out2 = true) (hr : v.refs2 ≤ m) (h : Rep g f n w v c) (ho : Over g n w g' m w') : Rep g' f' m w' v c := by
  by_cases ha : ∃ cs, v = .agg cs
  · obtain ⟨cs, rfl⟩ := ha
    obtain ⟨vs, rfl, h2, h3, h4⟩ := h.agg_inv
    exact .agg cs vs h2 (fun i a b => out1_over (List.all_eq_true.1 hp _ (List.getElem_mem a)) (Nat.le_trans (refs1L_le (List.getElem_mem a)) hr) (h3 i a b) ho) h4
  · by_cases hv : ∃ cs, v = .vptr cs
    · obtain ⟨cs, rfl⟩ := hv
      obtain ⟨a, vs, hrow, rfl⟩ := h.vptr_inv
      exact .vptr cs a vs (hrow.mono ho.imm ho.cell)
    · have e1 : v.out2 = v.out1 := by cases v <;> first | rfl | exact absurd ⟨_, rfl⟩ ha | exact absurd ⟨_, rfl⟩ hv
      have e2 : v.refs2 = v.refs1 := by cases v <;> first | rfl | exact absurd ⟨_, rfl⟩ ha
      exact out1_over (e1 ▸ hp) (e2 ▸ hr) h ho
theorem out_over {v : AV} {c : Value} (hp : v.out = true) (hr : v.refs ≤ m) (h : Rep g f n w v c) (ho : Over g n w g' m w') : Rep g' f' m w' v c := by
  by_cases ha : ∃ cs, v = .tuple cs
  · obtain ⟨cs, rfl⟩ := ha
    obtain ⟨vs, rfl, h2, h3⟩ := h.tuple_inv
    exact .tuple cs vs h2 (fun i a b => out2_over (List.all_eq_true.1 hp _ (List.getElem_mem a)) (Nat.le_trans (refs2L_le (List.getElem_mem a)) hr) (h3 i a b) ho)
  · have e1 : v.out = v.out2 := by cases v <;> first | rfl | exact absurd ⟨_, rfl⟩ ha
    have e2 : v.refs = v.refs2 := by cases v <;> first | rfl | exact absurd ⟨_, rfl⟩ ha
    exact out2_over (e1 ▸ hp) (e2 ▸ hr) h ho
theorem okC_one {v : AV} {c : Value} (hp : v.okC = true) (h : Rep g f n w v c) : c.oneCell' = true := by
  cases h with
  | plain h => exact h.oneCell
  | slice _ _ _ _ h _ => obtain ⟨_, _, _, _, e, _⟩ := h.slice_inv; rw [e]; rfl
  | junk | agg | tuple => simp [okC, out1, out0] at hp
  | _ => rfl
theorem cells_of {v : AV} {c : Value} (hp : (v.cells.map stripC).all okC = true) (h : Rep g f n w v c) : ∃ vs : List Value, c.cells = vs.toArray ∧ v.cells.length = vs.length ∧
    (∀ i (h : i < v.cells.length) (h' : i < vs.length), Rep g f n w v.cells[i].stripC vs[i]) ∧ (∀ c ∈ vs, c.oneCell' = true) := by
  by_cases ha : ∃ cs, v = .agg cs
  · obtain ⟨cs, rfl⟩ := ha
    obtain ⟨vs, rfl, h2, h3, h4⟩ := h.agg_inv
    exact ⟨vs, rfl, h2, fun i a b => stripC_rep (h3 i a b), h4⟩
  · have hv : v.cells = [v] := by cases v <;> first | rfl | exact absurd ⟨_, rfl⟩ ha
    rw [hv] at hp ⊢
    have h1 := okC_one (by simpa using hp) (stripC_rep h)
    refine ⟨[c], by cases c <;> first | rfl | (cases h1; done), rfl, fun i a a' => ?_, fun c' hc => ?_⟩
    · have : i = 0 := by simp at a; omega
      subst this; exact stripC_rep h
    · simp at hc; subst hc; exact h1
theorem ok_load {y : Opd} {k : Nat} {a : Bool} {v : AV} {fr' : Fr} {st' : St} (hI : Inv g0 st0 w0 g f fr st w tmps) (hc : chkOp P o (.load y k a) = true) (hs : step fr st (.load y k a) = some (v, fr', st')) : OpGoal P o tmps ds g0 st0 w0 w v fr' st' := by
  obtain ⟨dst, op, ty, pos, aft, gd⟩ := o
  simp only [chkOp] at hc
  cases op <;> first
    | (simp at hc; done)
    | skip
  simp only [Bool.and_eq_true] at hc
  obtain ⟨h1, h2⟩ := hc
  simp only [step] at hs
  split at hs
  case h_2 => cases hs
  rename_i v' hv
  cases hs
  obtain ⟨c, hr, hrep⟩ := ld_ok hI h2 (opd_rep (ds := ds) hI h1) hv
  exact .value hI (by simp only [execOp]; exact run_v hr) hrep
theorem zero_cells {zs : List AV} {vs : Array Value} (h : CellsRep (fun a c => cOk1 a c = true) zs vs) : ∀ i (h : i < zs.length) (h' : i < vs.size), Rep g f n w zs[i] vs[i] ∧ vs[i].oneCell' = true := fun i a b => by
  have := cOk1_rep (w := w) (I := g.imm) (h.2 i zs[i] vs[i] (List.getElem?_eq_getElem a) (Array.getElem?_eq_getElem b))
  exact ⟨.plain this, this.oneCell⟩
theorem ok_alloc {li : Nat} {zs : List AV} {v : AV} {fr' : Fr} {st' : St} (hI : Inv g0 st0 w0 g f fr st w tmps) (hlt : ∀ s cs, fr.loc[li]? = some (s, cs) → s < fr.ser) (hc : chkOp P o (.alloc li zs) = true)
    (hs : step fr st (.alloc li zs) = some (v, fr', st')) : OpGoal P o tmps ds g0 st0 w0 w v fr' st' := by
  obtain ⟨dst, op, ty, pos, aft, gd⟩ := o
  simp only [chkOp] at hc
  cases op <;> first
    | (simp at hc; done)
    | skip
  rename_i t
  obtain ⟨i, z, hi, hz, hsz, hzr⟩ := zero_ok hc
  simp only [step] at hs
  split at hs
  case isFalse => cases hs
  rename_i hl
  cases hs
  obtain ⟨⟨s, cs⟩, hl'⟩ : ∃ x, fr.loc[li]? = some x := ⟨_, List.getElem?_eq_getElem hl⟩
  obtain ⟨k1, k2⟩ := hI.locAlloc (e := t) hl' (hlt s cs hl') (Nat.le_refl _) hzr.1 (zero_cells hzr)
  exact ⟨.value _, _, _, _, _, by simp only [execOp]; exact run_v (by simp [Instr.alloc, zeroValue, typeInfo, hi, hz, newVar, newRow]), .inl rfl, k2, k1⟩
theorem ok_box {li : Nat} {y : Opd} {v : AV} {fr' : Fr} {st' : St} (hI : Inv g0 st0 w0 g f fr st w tmps) (hlt : ∀ s cs, fr.loc[li]? = some (s, cs) → s < fr.ser) (hc : chkOp P o (.box li y) = true)
    (hs : step fr st (.box li y) = some (v, fr', st')) : OpGoal P o tmps ds g0 st0 w0 w v fr' st' := by
  obtain ⟨dst, op, ty, pos, aft, gd⟩ := o
  simp only [chkOp] at hc
  cases op <;> first
    | (simp at hc; done)
    | skip
  rename_i t x
  have hx := opd_rep (ds := ds) hI hc
  simp only [step] at hs
  split at hs
  case isFalse => cases hs
  rename_i hl
  simp only [Bool.and_eq_true, decide_eq_true_eq] at hl
  cases hs
  obtain ⟨vs, e1, e2, e3, e4⟩ := cells_rep hl.2 hx
  obtain ⟨⟨s, cs⟩, hl'⟩ : ∃ x, fr.loc[li]? = some x := ⟨_, List.getElem?_eq_getElem hl.1⟩
  obtain ⟨k1, k2⟩ := hI.locAlloc (e := t) (cs := (y.ev fr).cells) (vs := vs.toArray) hl' (hlt s cs hl') (Nat.le_refl _) (by simpa using e2) (fun i a b => ⟨by simpa using e3 i a (by simpa using b), e4 _ (by simp)⟩)
  exact ⟨.value _, _, _, _, _, by simp only [execOp]; exact run_v (by simp [Instr.box, newVar, newRow, e1]), .inl rfl, k2, k1⟩
theorem Gh.push_blk {k b : Nat} {id : Nat} (h : id < k) : (g.push k b).blk id = g.blk id := by
  show (if _ then _ else _) = _
  rw [if_neg (by omega)]
theorem Inv.pushCells (hI : Inv g0 st0 w0 g f fr st w tmps) {cs : List AV} {vs : List Value} {e : TypeId} (hok : cs.all okC = true) (hrf : refs1L cs ≤ st.size + 1) (hl : cs.length = vs.length)
    (hv : ∀ i (h : i < cs.length) (h' : i < vs.length), Rep g f st.size w cs[i] vs[i]) (h1 : ∀ c ∈ vs, c.oneCell' = true) (hrf' : refs1L cs ≤ st.size) :
    Inv g0 st0 w0 (g.push st.size w.heap.size) f fr (st.push (.cells cs)) (w.alloc (.cells vs.toArray e)) tmps ∧
    Rep (g.push st.size w.heap.size) f (st.push (.cells cs)).size (w.alloc (.cells vs.toArray e)) (.ptr st.size 0) (.pointer (some ⟨w.heap.size, 0, none⟩)) := by
  have hcell : ∀ b o, g.imm b o → (w.alloc (.cells vs.toArray e)).cell? ⟨b, o, none⟩ = w.cell? ⟨b, o, none⟩ := fun b o hb => cell_of_block (heap_alloc_old w _ b (hI.h.immlt b o hb)) o
  have hov : Over g st.size w (g.push st.size w.heap.size) st.size (w.alloc (.cells vs.toArray e)) := ⟨fun _ _ h => h, hcell, fun id h _ => Gh.push_blk h⟩
  refine ⟨hI.push (fun cs' hcs' off sz els i p hh => ?_) ⟨vs.toArray, e, ?_, by simpa using hl, fun i a b => ⟨?_, ?_⟩⟩, ?_⟩
  · cases hcs'
    have := List.all_eq_true.1 hok _ (List.mem_of_getElem? hh)
    simp [okC, out1, out0] at this
  · show (w.heap.push _)[(if _ then _ else _ : Nat)]? = _
    simp
  · have hi : i < vs.length := by simpa using b
    have h2 := okC_over (f' := Fh.none) (List.all_eq_true.1 hok _ (List.getElem_mem a)) (Nat.le_trans (refs1L_le (List.getElem_mem a)) hrf') (hv i a hi) hov
    simpa using h2.mono (w' := w.alloc (.cells vs.toArray e)) ⟨Nat.le_succ _, fun _ _ => rfl, fun _ _ _ _ _ h => h, fun _ _ h => h, fun _ _ _ => rfl⟩ (FGrow.refl _)
  · have hi : i < vs.length := by simpa using b
    simpa using h1 _ (List.getElem_mem hi)
  · have : (g.push st.size w.heap.size).blk st.size = w.heap.size := by show (if _ then _ else _) = _; simp
    have hp := Rep.ptr (g := g.push st.size w.heap.size) (f := f) (n := (st.push (.cells cs)).size) (w := w.alloc (.cells vs.toArray e)) st.size 0 (by rw [size_pushH]; omega)
    rw [this] at hp
    exact hp
theorem ok_halloc {zs : List AV} {v : AV} {fr' : Fr} {st' : St} (hI : Inv g0 st0 w0 g f fr st w tmps) (hc : chkOp P o (.halloc zs) = true) (hs : step fr st (.halloc zs) = some (v, fr', st')) : OpGoal P o tmps ds g0 st0 w0 w v fr' st' := by
  obtain ⟨dst, op, ty, pos, aft, gd⟩ := o
  simp only [chkOp] at hc
  cases op <;> first
    | (simp at hc; done)
    | skip
  rename_i t
  obtain ⟨i, z, hi, hz, hsz, hzr⟩ := zero_ok hc
  simp only [step] at hs
  cases hs
  have hz1 : ∀ a ∈ zs, a.okC = true ∧ a.refs1 = 0 := fun a ha => by
    obtain ⟨j, hj, rfl⟩ := List.getElem_of_mem ha
    have h0 := hzr.1
    have := hzr.2 j _ (z.cells[j]'(by omega)) (List.getElem?_eq_getElem hj) (by simp [show j < z.cells.size by omega])
    generalize zs[j] = a at this
    unfold cOk1 at this
    split at this <;> first
      | exact ⟨rfl, rfl⟩
      | (cases this; done)
  have hr0 : refs1L zs = 0 := by
    clear hzr hsz hc hi hz
    induction zs with
    | nil => rfl
    | cons a l ih => simp only [refs1L, (hz1 a (by simp)).2, ih (fun x hx => hz1 x (by simp [hx]))]; rfl
  obtain ⟨k1, k2⟩ := hI.pushCells (cs := zs) (vs := z.cells.toList) (e := t) (List.all_eq_true.2 fun a ha => (hz1 a ha).1) (by omega) (by simpa using hzr.1)
    (fun i a b => by simpa using (zero_cells (g := g) (f := f) (n := st.size) (w := w) hzr i a (by simpa using b)).1)
    (fun c hc => by
      obtain ⟨j, hj, rfl⟩ := List.getElem_of_mem hc
      have h0 := hzr.1
      have := (zero_cells (g := g) (f := f) (n := st.size) (w := w) hzr j (by simp at hj; omega) (by simpa using hj)).2
      simpa using this) (by omega)
  rw [Array.toArray_toList] at k1 k2
  exact ⟨.value _, _, _, _, _, by simp only [execOp]; exact run_v (by simp [Instr.alloc, zeroValue, typeInfo, hi, hz, newVar, newRow]), .inl rfl, k2, k1⟩
theorem strip1_refs (v : AV) : v.strip1.refs1 = v.refs1 := by cases v <;> rfl
theorem stripC_refs (v : AV) : v.stripC.refs1 = v.refs1 := by
  cases v <;> first
    | rfl
    | skip
  rename_i own
  cases own <;> rfl
theorem stripC_refsL : ∀ l : List AV, refs1L (l.map stripC) = refs1L l
  | [] => rfl
  | a :: l => by simp only [List.map_cons, refs1L, stripC_refs, stripC_refsL l]
theorem ok_hbox {y : Opd} {v : AV} {fr' : Fr} {st' : St} (hI : Inv g0 st0 w0 g f fr st w tmps) (hc : chkOp P o (.hbox y) = true) (hs : step fr st (.hbox y) = some (v, fr', st')) : OpGoal P o tmps ds g0 st0 w0 w v fr' st' := by
  obtain ⟨dst, op, ty, pos, aft, gd⟩ := o
  simp only [chkOp] at hc
  cases op <;> first
    | (simp at hc; done)
    | skip
  rename_i t x
  have hx := opd_rep (ds := ds) hI hc
  simp only [step] at hs
  split at hs
  case isFalse => cases hs
  rename_i hl
  simp only [Bool.and_eq_true, decide_eq_true_eq] at hl
  cases hs
  obtain ⟨vs, e1, e2, e3, e4⟩ := cells_of hl.1 hx
  obtain ⟨k1, k2⟩ := hI.pushCells (e := t) hl.1 (by rw [stripC_refsL]; omega) (by simpa using e2) (fun i a b => by simpa using e3 i (by simpa using a) b) e4 (by rw [stripC_refsL]; omega)
  exact ⟨.value _, _, _, _, _, by simp only [execOp]; exact run_v (by simp [Instr.box, newVar, newRow, e1]), .inl rfl, k2, k1⟩
end
end Go.Proofs.YtelpkgbghhpgaaaGreatDoor.Sx
end
section
namespace Go.Proofs.YtelpkgbghhpgaaaGreatDoor.Sx
open AV
section
variable {g0 g g' : Gh} {st0 st : St} {w0 w w' : World} {f f' : Fh} {fr : Fr} {tmps : Array Value} {ds : List Deferred} {P : Program} {n n' m : Nat} {o : Oper} {I : Nat → Nat → Prop}
theorem app_get {l new : List Value} {off : Nat} (h : off + new.length ≤ l.length) (i : Nat) : (l.take off ++ new ++ l.drop (off + new.length))[i]? = if off ≤ i ∧ i < off + new.length then new[i - off]? else l[i]? := by
  have hl : (l.take off).length = off := by simp; omega
  by_cases h1 : i < off
  · rw [if_neg (by omega), List.append_assoc, List.getElem?_append_left (by omega), List.getElem?_take_of_lt h1]
  · by_cases h2 : i < off + new.length
    · rw [if_pos (by omega), List.append_assoc, List.getElem?_append_right (by omega), hl, List.getElem?_append_left (by omega)]
    · rw [if_neg (by omega), List.getElem?_append_right (by simp; omega), List.getElem?_drop]
      congr 1
      simp; omega
theorem CellsRep.splice {R : AV → Value → Prop} {cs new : List AV} {arr : Array Value} {vs : List Value} {off : Nat} (h : CellsRep R cs arr) (hl : new.length = vs.length) (hn : ∀ i (h : i < new.length) (h' : i < vs.length), R new[i] vs[i])
    (hb : off + new.length ≤ cs.length) : CellsRep R (splice cs off new) (arr.toList.take off ++ vs ++ arr.toList.drop (off + vs.length)).toArray := by
  have hs := h.1
  refine ⟨by rw [splice_len hb]; simp; omega, fun i a c ha hc => ?_⟩
  rw [splice_get hb] at ha
  rw [List.getElem?_toArray, app_get (by simp; omega), ← hl] at hc
  split at ha
  · rename_i hi
    rw [if_pos hi] at hc
    obtain ⟨l1, rfl⟩ := List.getElem?_eq_some_iff.1 ha
    obtain ⟨l2, rfl⟩ := List.getElem?_eq_some_iff.1 hc
    exact hn _ l1 l2
  · rename_i hi
    rw [if_neg hi] at hc
    exact h.2 i a c ha (by simpa using hc)
theorem CellsRep.of {R : AV → Value → Prop} {cs : List AV} {vs : Array Value} (hl : cs.length = vs.size) (h : ∀ i (h : i < cs.length) (h' : i < vs.size), R cs[i] vs[i]) : CellsRep R cs vs :=
  ⟨hl, fun i a c ha hc => by
    obtain ⟨l1, rfl⟩ := List.getElem?_eq_some_iff.1 ha
    obtain ⟨l2, rfl⟩ := Array.getElem?_eq_some_iff.1 hc
    exact h i l1 l2⟩
theorem CellsRep.get {R : AV → Value → Prop} {cs : List AV} {vs : Array Value} (h : CellsRep R cs vs) (i : Nat) (a : i < cs.length) (b : i < vs.size) : R cs[i] vs[i] :=
  h.2 i _ _ (List.getElem?_eq_getElem a) (Array.getElem?_eq_getElem b)
theorem run_storeAt {t k b off : Nat} {cur : Array Value} {e : TypeId} {c : Value} {vs : List Value} (hsz : chkSz P t k = true) (hc : c.cells = vs.toArray) (hk : vs.length = k) (hw : w.heap[b]? = some (.cells cur e (0, 0))) (hb : off + k ≤ cur.size)
    (h1 : ∀ v ∈ vs, v.oneCell' = true) : (Instr.storeAt t (.pointer (some ⟨b, off, none⟩)) c).run P w = .ok () (w.setRow b (cur.toList.take off ++ vs ++ cur.toList.drop (off + vs.length)).toArray) := by
  have := run_storeCells_at P b off e vs 0 cur w hw (by omega) h1
  simp only [Nat.add_zero] at this
  simp [Instr.storeAt, Instr.sureAddr, storeVar, chkSz_ok hsz, hc, hk, this]
theorem locGet_eq {li ser : Nat} {cs : List AV} (h : locGet fr li ser = some cs) : fr.loc[li]? = some (ser, cs) := by
  unfold locGet at h
  split at h
  · rename_i s cs' hl
    split at h
    · rename_i e; cases h; subst e; exact hl
    · cases h
  · cases h
theorem Inv.heapPut (hI : Inv g0 st0 w0 g f fr st w tmps) {id off : Nat} {cs new : List AV} {arr : Array Value} {e : TypeId} {vs : List Value} (hcs : st.cells id = some cs) (hw : w.heap[g.blk id]? = some (.cells arr e (0, 0)))
    (hb : off + new.length ≤ cs.length) (hl : new.length = vs.length) (hn : ∀ i (h : i < new.length) (h' : i < vs.length), Rep g Fh.none (id + 1) w new[i] vs[i]) (h1 : ∀ v ∈ vs, v.oneCell' = true)
    (hok : ∀ i v, new[i]? = some v → v.okC = true ∧ (v = .nilslice → cs[off + i]? = some .nilslice)) :
    Inv g0 st0 w0 g f fr (st.setCells id (splice cs off new)) (w.setRow (g.blk id) (arr.toList.take off ++ vs ++ arr.toList.drop (off + vs.length)).toArray) tmps := by
  obtain ⟨arr', e', w1, w2, w3⟩ := hI.h.obj id _ (St.cells_eq.1 hcs)
  rw [hw] at w1; cases w1
  have hR : CellsRep (fun a c => Rep g Fh.none (id + 1) w a c ∧ c.oneCell' = true) cs arr := CellsRep.of w2 w3
  have hR' := hR.splice (off := off) hl (fun i a b => ⟨hn i a b, h1 _ (List.getElem_mem b)⟩) hb
  refine hI.heapStore hcs hw hR'.1 (fun i a b => hR'.get i a b) (fun o sz els ho => ?_) (fun o L v hv hd => ?_)
  · rw [splice_get hb] at ho
    split at ho
    · have := (hok _ _ ho).1
      simp [okC, out1, out0] at this
    · exact ho
  · rw [splice_get hb]
    split
    · rename_i hi
      have hlt : o - off < new.length := by omega
      refine ⟨_, List.getElem?_eq_getElem hlt, ?_⟩
      obtain ⟨k1, k2⟩ := hok (o - off) _ (List.getElem?_eq_getElem hlt)
      generalize new[o - off] = x at k1 k2
      cases x <;> first
        | trivial
        | skip
      case nilslice =>
        have := k2 rfl
        rw [show off + (o - off) = o by omega, hv] at this
        cases this
        exact hd.elim
      case slice sz els own =>
        cases own <;> first
          | trivial
          | (simp [okC, out1, out0] at k1; done)
    · exact ⟨v, hv, hd⟩
theorem inCells_ok : ∀ {os vs new : List AV} {k : Nat}, inCells os vs = some new → new.length = vs.length ∧ ∀ (i : Nat) (v : AV), new[i]? = some v → v.okC = true ∧ (v = .nilslice → os[i]? = some AV.nilslice) ∧ ∃ u : AV, vs[i]? = some u ∧ v = u.stripC
  | os, [], new, _, h => by
    have : new = [] := by cases os <;> simpa [inCells] using h.symm
    subst this
    exact ⟨rfl, fun i v hv => by simp at hv⟩
  | [], _ :: _, new, _, h => by simp [inCells] at h
  | o :: os, v :: vs, new, k, h => by
    simp only [inCells] at h
    split at h
    case h_2 => cases h
    rename_i v' vs' hv hvs
    cases h
    obtain ⟨h1, h2⟩ := inCells_ok (k := k) hvs
    refine ⟨by simp [h1], fun i x hx => ?_⟩
    cases i with
    | succ i => simpa using h2 i x (by simpa using hx)
    | zero =>
      simp only [List.getElem?_cons_zero, Option.some.injEq] at hx
      subst hx
      split at hv
      · split at hv
        · cases hv; exact ⟨rfl, fun _ => rfl, _, rfl, rfl⟩
        · cases hv
      · rename_i hne
        split at hv
        · rename_i hok; cases hv
          refine ⟨hok, fun e => ?_, _, rfl, rfl⟩
          exfalso
          cases v <;> first
            | exact hne rfl
            | (cases e; done)
            | skip
          rename_i own
          cases own <;> cases e
        · cases hv
theorem set_splice {cs : List AV} {off : Nat} {v : AV} (h : off < cs.length) : cs.set off v = splice cs off [v] := by
  unfold splice
  rw [List.set_eq_take_append_cons_drop]
  simp [h]
theorem ok_store {x' y' : Opd} {k : Nat} {v : AV} {fr' : Fr} {st' : St} (hI : Inv g0 st0 w0 g f fr st w tmps) (hc : chkOp P o (.store x' y' k) = true) (hs : step fr st (.store x' y' k) = some (v, fr', st')) : OpGoal P o tmps ds g0 st0 w0 w v fr' st' := by
  obtain ⟨dst, op, ty, pos, aft, gd⟩ := o
  simp only [chkOp] at hc
  cases op <;> first
    | (simp at hc; done)
    | skip
  rename_i t x y
  simp only [Bool.and_eq_true, decide_eq_true_eq] at hc
  obtain ⟨⟨⟨hx, hy⟩, hsz⟩, hk0⟩ := hc
  have hx := opd_rep (ds := ds) hI hx
  have hy := opd_rep (ds := ds) hI hy
  simp only [step] at hs
  split at hs
  case h_2 => cases hs
  rename_i fr1 st1 hst
  cases hs
  generalize x'.ev fr = xv at hx hst
  generalize y'.ev fr = yv at hy hst
  have fin : ∀ {g' f' w'}, (Instr.storeAt t (Act.eval ⟨tmps, ds⟩ x) (Act.eval ⟨tmps, ds⟩ y)).run P w = .ok () w' → Inv g0 st0 w0 g' f' fr' st' w' tmps → OpGoal P ⟨dst, .store t x y, ty, pos, aft, gd⟩ tmps ds g0 st0 w0 w .junk fr' st' := fun hr hi =>
    ⟨.skip, undef, _, _, _, by simp only [execOp]; simp [hr], .inr ⟨rfl, rfl⟩, .junk _, hi⟩
  unfold stw at hst
  split at hst
  case isFalse => cases hst
  rename_i hlen
  split at hst
  case h_3 => cases hst
  case h_1 li ser off =>
    split at hst
    case h_2 => cases hst
    rename_i cs hcs
    split at hst
    case isFalse => cases hst
    rename_i hk
    simp only [Bool.and_eq_true, decide_eq_true_eq] at hk
    cases hst
    have hloc := locGet_eq hcs
    obtain ⟨b, hb, hxe⟩ := hx.lptr_inv
    have hne : cs ≠ [] := fun e => by subst e; simp at hk; omega
    obtain ⟨b', arr, e, h1, h2, h3, h4⟩ := hI.fi.loc li ser cs hloc hne
    rw [hb] at h1; cases h1
    obtain ⟨vs, e1, e2, e3, e4⟩ := cells_rep hk.2 hy
    have hR : CellsRep (fun a c => Rep g f st.size w a c ∧ c.oneCell' = true) cs arr := CellsRep.of h3 h4
    have hR' := hR.splice (off := off) e2 (fun i a b => ⟨e3 i a b, e4 _ (List.getElem_mem b)⟩) (by omega)
    refine fin (g' := g) (f' := f) (by rw [hxe]; exact run_storeAt hsz e1 (by omega) h2 (by omega) e4) ?_
    exact hI.locStore hloc hne hb h2 (splice_len (by omega)) hR'.1 (fun i a b => hR'.get i a b)
  case h_2 id off =>
    split at hst
    case h_2 => cases hst
    rename_i cs hcs
    split at hst
    case isFalse => cases hst
    rename_i hk
    obtain ⟨hk, hrf⟩ := hk
    obtain ⟨hid, hxe⟩ := hx.ptr_inv
    obtain ⟨arr, e, w1, w2, w3⟩ := hI.h.obj id _ (St.cells_eq.1 hcs)
    have hov : Over g st.size w g (id + 1) w := ⟨fun _ _ h => h, fun _ _ _ => rfl, fun _ _ _ => rfl⟩
    split at hst
    · rename_i ys
      split at hst
      case h_2 => cases hst
      rename_i new hnew
      cases hst
      obtain ⟨h1, h2⟩ := inCells_ok (k := 0) hnew
      obtain ⟨vs, hye, e2, e3, e4⟩ := hy.agg_inv
      have hlen' : ys.length = k := hlen
      refine fin (g' := g) (f' := f) (by rw [hxe]; exact run_storeAt hsz (by rw [hye]; rfl) (by omega) w1 (by omega) e4) ?_
      refine hI.heapPut hcs w1 (by omega) (by omega) (fun i a b => ?_) e4 (fun i u hu => ?_)
      · obtain ⟨k1, k2, u, k3, k4⟩ := h2 i _ (List.getElem?_eq_getElem a)
        have hu : u = ys[i]'(by omega) := by
          rw [List.getElem?_eq_getElem (by omega)] at k3; exact (Option.some.inj k3).symm
        have hr1 : (ys[i]'(by omega)).refs1 ≤ id + 1 := Nat.le_trans (refs1L_le (List.getElem_mem _)) hrf
        have := stripC_rep (e3 i (by omega) b)
        rw [k4] at k1 ⊢
        subst hu
        exact okC_over k1 (by rw [stripC_refs]; exact hr1) this hov
      · obtain ⟨k1, k2, _⟩ := h2 i u hu
        refine ⟨k1, fun e => ?_⟩
        have := k2 e
        rw [List.getElem?_take, List.getElem?_drop] at this
        split at this
        · exact this
        · cases this
    · rename_i hnagg
      have hcells : yv.cells = [yv] := by cases yv <;> first | rfl | exact absurd rfl (hnagg _)
      rw [hcells] at hlen hrf
      have hk1 : k = 1 := by simpa using hlen.symm
      subst hk1
      have hrf1 : yv.refs1 ≤ id + 1 := by simpa [refs1L] using hrf
      split at hst
      case h_2 => cases hst
      rename_i old hold
      split at hst
      case h_2 => cases hst
      rename_i nv ft hin
      cases hst
      have hoff : off < cs.length := (List.getElem?_eq_some_iff.1 hold).1
      have plainly : nv.okC = true → nv = yv.stripC ∨ nv.strip1 = nv ∧ nv = yv.strip1 → (nv = .nilslice → old = .nilslice) → ft = fr.ftoks →
          OpGoal P ⟨dst, .store t x y, ty, pos, aft, gd⟩ tmps ds g0 st0 w0 w .junk { fr with ftoks := ft } (st.setCells id (cs.set off nv)) := by
        rintro hok hnv hnil rfl
        have hrep : Rep g f st.size w nv (Act.eval ⟨tmps, ds⟩ y) := by
          rcases hnv with rfl | ⟨_, rfl⟩
          · exact stripC_rep hy
          · exact strip1_rep hy
        have hr1 : nv.refs1 ≤ id + 1 := by
          rcases hnv with rfl | ⟨_, rfl⟩
          · rw [stripC_refs]; exact hrf1
          · rw [strip1_refs]; exact hrf1
        have hone := okC_one hok hrep
        have hcell : (Act.eval ⟨tmps, ds⟩ y).cells = [Act.eval ⟨tmps, ds⟩ y].toArray := by
          generalize Act.eval ⟨tmps, ds⟩ y = c at hone
          cases c <;> first | rfl | (cases hone; done)
        refine fin (g' := g) (f' := f) (by rw [hxe]; exact run_storeAt hsz hcell rfl w1 (by omega) (fun v hv => by simp at hv; subst hv; exact hone)) ?_
        rw [set_splice hoff]
        exact hI.heapPut (new := [nv]) (vs := [Act.eval ⟨tmps, ds⟩ y]) hcs w1 (by simp; omega) rfl (fun i a b => by
          have : i = 0 := by simp at a; omega
          subst this
          exact okC_over hok hr1 hrep hov) (fun v hv => by simp at hv; subst hv; exact hone) (fun i u hu => by
          cases i with
          | zero => simp at hu; subst hu; exact ⟨hok, fun e => by rw [Nat.add_zero, hold, hnil e]⟩
          | succ i => simp at hu)
      unfold inCell at hin
      split at hin
      · rename_i sz els tk
        split at hin
        · rename_i hh
          cases hin
          have hown := hy.slice_inv.2
          have hpos := (hI.fi.tokdom _ _ _ hown).1
          have hone : (Act.eval ⟨tmps, ds⟩ y).oneCell' = true := okIn_one (by rfl) hy
          have hcell : (Act.eval ⟨tmps, ds⟩ y).cells = [Act.eval ⟨tmps, ds⟩ y].toArray := by
            generalize Act.eval ⟨tmps, ds⟩ y = c at hone
            cases c <;> first | rfl | (cases hone; done)
          have := hI.heapTake hcs w1 hold hh.1 (by omega) hy hh.2
          refine fin (w' := w.setRow (g.blk id) (arr.setIfInBounds off (Act.eval ⟨tmps, ds⟩ y))) ?_ this
          rw [hxe, run_storeAt hsz hcell rfl w1 (by omega) (fun v hv => by simp at hv; subst hv; exact hone)]
          congr 2
          apply Array.ext'
          rw [Array.toList_setIfInBounds, List.set_eq_take_append_cons_drop]
          simp [show off < arr.size by omega]
        · cases hin
          exact plainly rfl (.inr ⟨rfl, rfl⟩) (fun e => by cases e) rfl
      · split at hin
        · cases hin
          exact plainly rfl (.inl rfl) (fun _ => rfl) rfl
        · cases hin
      · rename_i hn1 hn2
        split at hin
        · rename_i hok
          cases hin
          refine plainly hok (.inl rfl) (fun e => ?_) rfl
          exfalso
          cases yv <;> first
            | exact hn2 rfl
            | (cases e; done)
            | skip
          rename_i own
          cases own <;> cases e
        · cases hin
end
end Go.Proofs.YtelpkgbghhpgaaaGreatDoor.Sx
end
