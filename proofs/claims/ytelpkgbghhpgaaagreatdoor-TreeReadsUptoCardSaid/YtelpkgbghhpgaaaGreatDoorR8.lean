/- TreeReads returns true for all texts whose data are not larger than a bound. The program's functions as plain code. -/
import Derived.Test.YtelpkgbghhpgaaaGreatDoorR7
import Derived.MapKept
set_option linter.all false
section
namespace Go.Proofs.YtelpkgbghhpgaaaGreatDoor.Sx
open AV
section
variable {g0 g g' : Gh} {st0 st : St} {w0 w w' : World} {f f' : Fh} {fr : Fr} {tmps : Array Value} {ds : List Deferred} {P : Program} {n n' m : Nat} {o : Oper} {I : Nat → Nat → Prop}
def putMap (w : World) (b : Nat) (es : Array MapEntry) (c : Nat) : World := { w with heap := w.heap.setIfInBounds b (.map es c) }
theorem Chg.putMap (w : World) (b : Nat) (es : Array MapEntry) (c : Nat) : Chg (· = b) w (putMap w b es c) :=
  ⟨rfl, rfl, rfl, by simp [YtelpkgbghhpgaaaGreatDoor.Sx.putMap], fun k _ hk => by simp [YtelpkgbghhpgaaaGreatDoor.Sx.putMap, Array.getElem?_setIfInBounds_ne (Ne.symm hk)]⟩
theorem setMap_get {id j : Nat} {es : List (AV × AV)} {x : HObj} (h : (st.setMap id es).objs[j]? = some x) : (j = id ∧ x = .map es) ∨ (j ≠ id ∧ st.objs[j]? = some x) := by
  have h' : (st.objs.set id (.map es))[j]? = some x := h
  rw [List.getElem?_set] at h'
  by_cases e : id = j
  · subst e
    rw [if_pos rfl] at h'
    split at h'
    · exact .inl ⟨rfl, (Option.some.inj h').symm⟩
    · cases h'
  · rw [if_neg e] at h'; exact .inr ⟨Ne.symm e, h'⟩
theorem setMap_old {id j : Nat} {es : List (AV × AV)} (hj : j ≠ id) : (st.setMap id es).objs[j]? = st.objs[j]? := by
  show (st.objs.set id (.map es))[j]? = _
  rw [List.getElem?_set_ne (Ne.symm hj)]
theorem size_setMap (id : Nat) (es : List (AV × AV)) : (st.setMap id es).size = st.size := by
  show (st.objs.set id (.map es)).length = _
  simp [St.size]
theorem EntRep.mono {x : AV × AV} {e : MapEntry} {I' : Nat → Nat → Prop} (h : EntRep w I x e) (hi : ∀ b o, I b o → I' b o) (hc : ∀ b o, I b o → w'.cell? ⟨b, o, none⟩ = w.cell? ⟨b, o, none⟩) : EntRep w' I' x e :=
  ⟨h.1, h.2.1.mono hi hc, h.2.2.1, h.2.2.2.mono ⟨Nat.le_refl _, fun _ _ => rfl, fun _ _ _ _ _ h => h, hi, hc⟩ (FGrow.refl _)⟩
theorem Inv.mapStore (h : Inv g0 st0 w0 g f fr st w tmps) {id : Nat} {es es' : List (AV × AV)} {ents ents' : Array MapEntry} {c c' : Nat} (hes : st.entries id = some es) (hw : w.heap[g.blk id]? = some (.map ents c))
    (hn : es'.length = ents'.size) (hv : ∀ i (h : i < es'.length) (h' : i < ents'.size), EntRep w g.imm es'[i] ents'[i]) :
    Inv g0 st0 w0 g f fr (st.setMap id es') (putMap w (g.blk id) ents' c') tmps := by
  have hid : id < st.size := (List.getElem?_eq_some_iff.1 (St.entries_eq.1 hes)).1
  have hc : Chg (· = g.blk id) w (putMap w (g.blk id) ents' c') := Chg.putMap _ _ _ _
  have hbl : g.blk id < w.heap.size := (Array.getElem?_eq_some_iff.1 hw).1
  have hnew : (putMap w (g.blk id) ents' c').heap[g.blk id]? = some (.map ents' c') := by simp [YtelpkgbghhpgaaaGreatDoor.Sx.putMap, hbl]
  have hsize : (putMap w (g.blk id) ents' c').heap.size = w.heap.size := by simp [YtelpkgbghhpgaaaGreatDoor.Sx.putMap]
  have hcell : ∀ k o, g.imm k o → (putMap w (g.blk id) ents' c').cell? ⟨k, o, none⟩ = w.cell? ⟨k, o, none⟩ := fun k o hk => cell_of_block (hc.block k (h.h.immlt k o hk) (fun e => h.h.noimm id hid o (e ▸ hk))) o
  have hgr : ∀ n, Grow g n w g n (putMap w (g.blk id) ents' c') := fun n => Grow.wide (I := g.imm) (fun _ _ h => h) hcell
  have hX : ∀ o k, HClaim g st o k ∨ FClaim f fr o k → o ≠ .obj id → ¬ k = g.blk id := fun o k ho hne e => by subst e; exact hne (h.uniq _ _ _ ho (.inl ⟨hid, rfl⟩))
  have hcells : ∀ j cs, (st.setMap id es').cells j = some cs → st.cells j = some cs := fun j cs hj => by
    rcases setMap_get (St.cells_eq.1 hj) with ⟨_, e⟩ | ⟨_, e⟩
    · cases e
    · exact St.cells_eq.2 e
  have hcl : ∀ o k, HClaim g (st.setMap id es') o k → HClaim g st o k := fun o k ho => by
    cases o with
    | loc => exact ho
    | tok => exact ho
    | obj j => exact ⟨by have := ho.1; rwa [size_setMap] at this, ho.2⟩
    | row j off =>
      obtain ⟨cs1, sz, els, c, h1, h2, h3⟩ := ho
      exact ⟨cs1, sz, els, c, hcells _ _ h1, h2, h3⟩
  refine ⟨⟨?_, ?_, ?_, ?_, ?_, ?_⟩, ?_, ?_, ?_, ?_⟩
  · intro j x hx
    rcases setMap_get hx with ⟨rfl, rfl⟩ | ⟨hj, hx⟩
    · exact ⟨ents', c', hnew, hn, fun i a a' => (hv i a a').mono (fun _ _ h => h) hcell⟩
    · have hjs : j < st.size := (List.getElem?_eq_some_iff.1 hx).1
      have hb : (putMap w (g.blk id) ents' c').heap[g.blk j]? = w.heap[g.blk j]? := hc.block _ (h.h.obj_lt hjs) (hX (.obj j) _ (.inl ⟨hjs, rfl⟩) (by simpa using hj))
      have := h.h.obj j x hx
      cases x with
      | cells c =>
        obtain ⟨v1, e1, h1, h2, h3⟩ := this
        exact ⟨v1, e1, hb.trans h1, h2, fun i a b => ⟨(h3 i a b).1.mono (hgr _) (FGrow.refl _), (h3 i a b).2⟩⟩
      | map es =>
        obtain ⟨entries, clock, h1, h2, h3⟩ := this
        exact ⟨entries, clock, hb.trans h1, h2, fun i a b => (h3 i a b).mono (fun _ _ h => h) hcell⟩
  · exact fun o k ho => by rw [hsize]; exact h.h.lt o k (hcl o k ho)
  · exact fun j hj o => h.h.noimm j (by rwa [size_setMap] at hj) o
  · exact fun b o hb => by rw [hsize]; exact h.h.immlt b o hb
  · intro j cs1 off sz els h1 h2
    obtain ⟨c, h5, h6⟩ := h.h.row j cs1 off sz els (hcells _ _ h1) h2
    refine ⟨c, h5, h6.mono (fun b hb => ?_) fun _ _ _ h => h⟩
    have hk : HClaim g st (.row j off) b := ⟨cs1, sz, els, (c, sz), hcells _ _ h1, h2, h5, hb⟩
    exact hc.block b (h.h.lt _ _ hk) (hX _ _ (.inl hk) (by simp))
  · intro j off L x hj hx
    rw [size_setMap] at hj
    obtain ⟨cs1, v, h1, h2, h3⟩ := h.h.dom j off L x hj hx
    by_cases e : j = id
    · subst e
      rw [St.cells_eq, St.entries_eq.1 hes] at h1; cases h1
    · exact ⟨cs1, v, St.cells_eq.2 ((setMap_old e).trans (St.cells_eq.1 h1)), h2, h3⟩
  · rw [size_setMap]
    exact h.fi.mono (hgr _) (fun o b ho => hc.block b (h.flt o b ho).1 (hX _ _ (.inr ho) (fun e => by subst e; exact ho))) fun _ _ _ _ h => h
  · exact fun o b ho => ⟨by rw [hsize]; exact (h.flt o b ho).1, (h.flt o b ho).2⟩
  · exact fun o o' b ho ho' => h.uniq o o' b (ho.imp (hcl _ _) _root_.id) (ho'.imp (hcl _ _) _root_.id)
  · refine h.ext.step hc (fun b hb => .inr ⟨.obj id, hid, hb.symm⟩) ?_ (fun _ _ h => .inl h) fun o b ho _ => .inr ⟨o, hcl o b ho⟩
    rw [size_setMap]; exact hgr _
theorem keyIs_ok {kk : EqK} {v : AV} (h : keyIs kk v = true) : keyOk v = true := by
  unfold keyIs at h
  split at h <;> first
    | rfl
    | (cases h; done)
theorem keyEq_now {kk : EqK} {t : Nat} {d : TypeDesc} {k k' : AV} {a b : Value} {r : Bool} (hd : P.underlying t = some d) (hc : chkKey P kk t = true) (hk : keyIs kk k = true) (ha : PRep w I k a) (hb : PRep w I k' b) (h : keyEq k k' = some r) : Instr.sameNow d a b = some r := by
  unfold chkKey at hc
  rw [hd] at hc
  unfold keyEq at h
  split at h <;> first | (cases h; done) | skip
  · rename_i q x q' y
    cases ha; cases hb
    split at hc <;> first
      | (cases hc; done)
      | (cases hk; done)
      | skip
    rename_i e
    cases e
    by_cases hq : q = q'
    · subst hq; simpa [Instr.sameNow] using h
    · simp [hq] at h
  · cases ha; cases hb
    split at hc <;> first
      | (cases hc; done)
      | (cases hk; done)
      | skip
    rename_i e
    cases e
    cases h
    simp [Instr.sameNow, beq_toListBytes, toList_mk]
  · cases ha; cases hb
    split at hc <;> first
      | (cases hc; done)
      | (cases hk; done)
      | skip
    rename_i e
    cases e
    cases h
    simp [Instr.sameNow]
theorem look_rel {kk : EqK} {t : Nat} {d : TypeDesc} {k : AV} {a : Value} (hd : P.underlying t = some d) (hc : chkKey P kk t = true) (hk : keyIs kk k = true) (ha : PRep w I k a) :
    ∀ (es : List (AV × AV)) (ents : List MapEntry) (i : Nat) (r : Option AV), es.length = ents.length → (∀ j (h : j < es.length) (h' : j < ents.length), EntRep w I es[j] ents[j]) → lookE k es = some r →
      (r = none ∧ Instr.findNow d a ents i = some none) ∨ ∃ v j c, r = some v ∧ Instr.findNow d a ents i = some (some (j, c)) ∧ v.plain = true ∧ Rep ⟨fun _ => 0, I, fun _ _ _ => none⟩ Fh.none 0 w v c
  | [], [], i, r, _, _, h => by simp only [lookE, Option.some.injEq] at h; exact .inl ⟨h.symm, rfl⟩
  | (k', v) :: es, e :: ents, i, r, hl, hr, h => by
    have h0 := hr 0 (by simp) (by simp)
    simp only [List.getElem_cons_zero] at h0
    simp only [lookE] at h
    split at h
    · rename_i hq
      cases h
      have := keyEq_now hd hc hk ha h0.2.1 hq
      exact .inr ⟨v, i, e.val, rfl, by simp [Instr.findNow, this], h0.2.2.1, h0.2.2.2⟩
    · rename_i hq
      have := keyEq_now hd hc hk ha h0.2.1 hq
      rcases look_rel hd hc hk ha es ents (i + 1) r (by simpa using hl) (fun j x y => hr (j + 1) (Nat.succ_lt_succ x) (Nat.succ_lt_succ y)) h with h' | h'
      · exact .inl ⟨h'.1, by simp [Instr.findNow, this, h'.2]⟩
      · obtain ⟨v, j, c, q1, q2, q3⟩ := h'
        exact .inr ⟨v, j, c, q1, by simp [Instr.findNow, this, q2], q3⟩
    · cases h
  | [], _ :: _, _, _, hl, _, _ => by simp at hl
  | _ :: _, [], _, _, hl, _, _ => by simp at hl
theorem set_rel {kk : EqK} {t : Nat} {d : TypeDesc} {k v : AV} {a : Value} (hd : P.underlying t = some d) (hc : chkKey P kk t = true) (hk : keyIs kk k = true) (ha : PRep w I k a) :
    ∀ (es es' : List (AV × AV)) (ents : List MapEntry) (i : Nat), es.length = ents.length → (∀ j (h : j < es.length) (h' : j < ents.length), EntRep w I es[j] ents[j]) → setE k v es = some es' →
      (es' = es ++ [(k, v)] ∧ Instr.findNow d a ents i = some none) ∨ ∃ j k' c, es' = es.set j (k, v) ∧ j < es.length ∧ (es[j]?).map (·.1) = some k' ∧ keyEq k k' = some true ∧ Instr.findNow d a ents i = some (some (i + j, c))
  | [], es', [], i, _, _, h => by simp only [setE, Option.some.injEq] at h; exact .inl ⟨h.symm, rfl⟩
  | (k', v') :: es, es', e :: ents, i, hl, hr, h => by
    have h0 := hr 0 (by simp) (by simp)
    simp only [List.getElem_cons_zero] at h0
    simp only [setE] at h
    split at h
    · rename_i hq
      cases h
      have := keyEq_now hd hc hk ha h0.2.1 hq
      exact .inr ⟨0, k', e.val, rfl, by simp, rfl, hq, by simp [Instr.findNow, this]⟩
    · rename_i hq
      have := keyEq_now hd hc hk ha h0.2.1 hq
      split at h
      case h_2 => cases h
      rename_i l hl'
      cases h
      rcases set_rel hd hc hk ha es l ents (i + 1) (by simpa using hl) (fun j x y => hr (j + 1) (Nat.succ_lt_succ x) (Nat.succ_lt_succ y)) hl' with h' | h'
      · exact .inl ⟨by rw [h'.1]; rfl, by simp [Instr.findNow, this, h'.2]⟩
      · obtain ⟨j, k2, c, q1, q2, q3, q4, q5⟩ := h'
        refine .inr ⟨j + 1, k2, c, by rw [q1]; rfl, by simpa using q2, by simpa using q3, q4, ?_⟩
        simp [Instr.findNow, this, q5]; omega
    · cases h
  | [], _, _ :: _, _, hl, _, _ => by simp at hl
  | _ :: _, _, [], _, hl, _, _ => by simp at hl
theorem run_chkKey {kk : EqK} {t : Nat} {k : AV} {a : Value} (hc : chkKey P kk t = true) (hk : keyIs kk k = true) (ha : PRep w I k a) (b : Bool) : (Instr.checkKey b 10000 t a).run P w = .ok () w := by
  show (Instr.checkKey b (9999 + 1) t a).run P w = .ok () w
  unfold chkKey at hc
  split at hc <;> first
    | (cases hc; done)
    | skip
  all_goals
    rename_i hu
    unfold Instr.checkKey
    simp only [Sem.run_bind, run_underlying hu, Result.andThen_ok]
    cases k <;> first
      | (cases hk; done)
      | (cases ha; rfl)
theorem chkKey_desc {kk : EqK} {t : Nat} (hc : chkKey P kk t = true) : ∃ d, P.underlying t = some d := by
  unfold chkKey at hc
  split at hc <;> first
    | (cases hc; done)
    | (rename_i hu; exact ⟨_, hu⟩)
theorem key_rep {kk : EqK} {k : AV} {a : Value} (hk : keyIs kk k = true) (h : Rep g f n w k a) : PRep w g.imm k a := by
  cases k <;> first
    | exact plain1_rep rfl h
    | (cases kk <;> cases hk)
theorem ok_look {kk : EqK} {zs : AV} {m' k' : Opd} {ok : Bool} {v : AV} {fr' : Fr} {st' : St} (hI : Inv g0 st0 w0 g f fr st w tmps) (hc : chkOp P o (.look kk zs m' k' ok) = true) (hs : step fr st (.look kk zs m' k' ok) = some (v, fr', st')) :
    OpGoal P o tmps ds g0 st0 w0 w v fr' st' := by
  obtain ⟨dst, op, ty, pos, aft, gd⟩ := o
  simp only [chkOp] at hc
  cases op <;> first
    | (simp at hc; done)
    | skip
  rename_i t x ix ok'
  simp only [Bool.and_eq_true, beq_iff_eq] at hc
  obtain ⟨⟨⟨h1, h2⟩, rfl⟩, h3⟩ := hc
  have h1 := opd_rep (ds := ds) hI h1
  have h2 := opd_rep (ds := ds) hI h2
  split at h3
  case h_2 => cases h3
  rename_i kt e hu
  simp only [Bool.and_eq_true] at h3
  obtain ⟨hkt, h3⟩ := h3
  split at h3
  case h_2 => cases h3
  rename_i i hi
  split at h3
  case h_2 => cases h3
  rename_i z hz
  obtain ⟨d, hd⟩ := chkKey_desc hkt
  simp only [step] at hs
  split at hs
  case isFalse => cases hs
  rename_i hk
  have hkr := key_rep hk h2
  have hzr : (zeroValue e).run P w = .ok z w := by simp [zeroValue, typeInfo, hi, hz]
  have fin : ∀ (ents : Array MapEntry) (r : Option AV), ((Act.eval ⟨tmps, ds⟩ x = .map none ∧ ents = #[]) ∨ ∃ r clock, Act.eval ⟨tmps, ds⟩ x = .map (some r) ∧ w.heap[r]? = some (.map ents clock)) →
      ((r = none ∧ Instr.findNow d (Act.eval ⟨tmps, ds⟩ ix) ents.toList 0 = some none) ∨ ∃ v j c, r = some v ∧ Instr.findNow d (Act.eval ⟨tmps, ds⟩ ix) ents.toList 0 = some (some (j, c)) ∧ v.plain = true ∧ Rep ⟨fun _ => 0, g.imm, fun _ _ _ => none⟩ Fh.none 0 w v c) →
      (match r with
        | some v => v = v ∧ OpGoal P ⟨dst, .lookup t x ix ok, ty, pos, aft, gd⟩ tmps ds g0 st0 w0 w (if ok then .tuple [v, .bool true] else v) fr st
        | none => OpGoal P ⟨dst, .lookup t x ix ok, ty, pos, aft, gd⟩ tmps ds g0 st0 w0 w (if ok then .tuple [zs, .bool false] else zs) fr st) := by
    intro ents r hload hrel
    have tup : ∀ (v : AV) (c : Value) (b : Bool), Rep g f st.size w v c → Rep g f st.size w (if ok then .tuple [v, .bool b] else v) (if ok then .tuple #[c, .bool b] else c) := fun v c b hr => by
      cases ok
      · exact hr
      · refine .tuple [v, .bool b] [c, .bool b] rfl fun i a a' => ?_
        match i, a with
        | 0, _ => exact hr
        | 1, _ => exact .plain (.bool b)
    rcases hrel with ⟨rfl, hf⟩ | ⟨v, j, c, rfl, hf, hp, hr⟩
    · refine .value hI ?_ (tup zs z false (cOk_rep h3))
      simp only [execOp]
      refine run_v ?_
      rcases hload with ⟨hl, rfl⟩ | ⟨r, clock, hl, hb⟩
      · rw [hl]; simp only [Instr.lookup, Sem.run_bind, run_underlying hu, Result.andThen_ok, run_chkKey hkt hk hkr, MapKept.run_findKey hd hf, hzr, Sem.run_pure]
      · rw [hl]; simp only [Instr.lookup, Sem.run_bind, run_underlying hu, Result.andThen_ok, MapKept.run_getObj_map hb, run_chkKey hkt hk hkr, MapKept.run_findKey hd hf, hzr, Sem.run_pure]
    · refine ⟨rfl, .value hI ?_ (tup v c true (plain_rep hp hr fun _ _ h => h))⟩
      simp only [execOp]
      refine run_v ?_
      rcases hload with ⟨hl, rfl⟩ | ⟨r, clock, hl, hb⟩
      · rw [hl]; simp only [Instr.lookup, Sem.run_bind, run_underlying hu, Result.andThen_ok, run_chkKey hkt hk hkr, MapKept.run_findKey hd hf, Sem.run_pure]
      · rw [hl]; simp only [Instr.lookup, Sem.run_bind, run_underlying hu, Result.andThen_ok, MapKept.run_getObj_map hb, run_chkKey hkt hk hkr, MapKept.run_findKey hd hf, Sem.run_pure]
  have load : ∀ r, (match m'.ev fr with
        | .mapr id => (match st.entries id with | some es => lookE (k'.ev fr) es | none => none)
        | .nilmap => some none
        | _ => none) = some r → ∃ ents, ((Act.eval ⟨tmps, ds⟩ x = .map none ∧ ents = #[]) ∨ ∃ r clock, Act.eval ⟨tmps, ds⟩ x = .map (some r) ∧ w.heap[r]? = some (.map ents clock)) ∧
      ((r = none ∧ Instr.findNow d (Act.eval ⟨tmps, ds⟩ ix) ents.toList 0 = some none) ∨ ∃ v j c, r = some v ∧ Instr.findNow d (Act.eval ⟨tmps, ds⟩ ix) ents.toList 0 = some (some (j, c)) ∧ v.plain = true ∧ Rep ⟨fun _ => 0, g.imm, fun _ _ _ => none⟩ Fh.none 0 w v c) := by
    intro r hr
    generalize m'.ev fr = mv at h1 hr
    cases mv <;> first
      | (cases hr; done)
      | skip
    case nilmap =>
      cases hr
      rw [h1.nilmap_inv]
      exact ⟨#[], .inl ⟨rfl, rfl⟩, .inl ⟨rfl, rfl⟩⟩
    case mapr id =>
      obtain ⟨hid, hx⟩ := h1.mapr_inv
      simp only at hr
      split at hr
      case h_2 => cases hr
      rename_i es hes
      obtain ⟨ents, clock, q1, q2, q3⟩ := hI.h.obj id _ (St.entries_eq.1 hes)
      refine ⟨ents, .inr ⟨_, clock, hx, q1⟩, ?_⟩
      exact look_rel hd hkt hk hkr es ents.toList 0 r (by simpa using q2) (fun j a b => by simpa using q3 j a (by simpa using b)) hr
  split at hs
  · rename_i v0 hv
    cases hs
    obtain ⟨ents, q1, q2⟩ := load _ hv
    exact (fin ents _ q1 q2).2
  · rename_i hv
    cases hs
    obtain ⟨ents, q1, q2⟩ := load _ hv
    exact fin ents _ q1 q2
  · cases hs
theorem ok_mkmap {v : AV} {fr' : Fr} {st' : St} (hI : Inv g0 st0 w0 g f fr st w tmps) (hc : chkOp P o .mkmap = true) (hs : step fr st .mkmap = some (v, fr', st')) : OpGoal P o tmps ds g0 st0 w0 w v fr' st' := by
  obtain ⟨dst, op, ty, pos, aft, gd⟩ := o
  simp only [chkOp] at hc
  cases op <;> first
    | (simp at hc; done)
    | skip
  rename_i t r
  cases r <;> first
    | (simp at hc; done)
    | skip
  simp only [step] at hs
  cases hs
  have hblk : (g.push st.size w.heap.size).blk st.size = w.heap.size := by show (if _ then _ else _) = _; simp
  have hI' := hI.push (o := .map []) (x := .map #[] 0) (fun cs h => by cases h) ⟨#[], 0, by rw [hblk]; show (w.heap.push _)[w.heap.size]? = _; simp, rfl, fun i a => by simp at a⟩
  have hp := Rep.mapr (g := g.push st.size w.heap.size) (f := f) (n := (st.push (.map [])).size) (w := w.alloc (.map #[] 0)) st.size (by rw [size_pushH]; omega)
  rw [hblk] at hp
  exact ⟨.value _, _, _, _, _, by simp only [execOp]; exact run_v (by simp [Instr.makeMap]), .inl rfl, hp, hI'⟩
theorem keyEq_eq {k k' : AV} {a b : Value} (h : keyEq k k' = some true) (ha : PRep w I k a) (hb : PRep w I k' b) : a = b ∧ Instr.sameBits 10000 a b = true := by
  unfold keyEq at h
  split at h <;> first | (cases h; done) | skip
  · rename_i q x q' y
    cases ha; cases hb
    by_cases hq : q = q'
    · subst hq
      simp only [if_true, Option.some.injEq, beq_iff_eq] at h
      subst h
      exact ⟨rfl, by simp [Instr.sameBits, beq_toListBytes]⟩
    · simp [hq] at h
  · cases ha; cases hb
    simp only [Option.some.injEq, beq_iff_eq] at h
    subst h
    exact ⟨rfl, by simp [Instr.sameBits, beq_toListBytes]⟩
  · cases ha; cases hb
    simp only [Option.some.injEq, beq_iff_eq] at h
    subst h
    exact ⟨rfl, by simp [Instr.sameBits, beq_toListBytes]⟩
theorem ok_mset {kk : EqK} {m' k' x' : Opd} {v : AV} {fr' : Fr} {st' : St} (hI : Inv g0 st0 w0 g f fr st w tmps) (hc : chkOp P o (.mset kk m' k' x') = true) (hs : step fr st (.mset kk m' k' x') = some (v, fr', st')) : OpGoal P o tmps ds g0 st0 w0 w v fr' st' := by
  obtain ⟨dst, op, ty, pos, aft, gd⟩ := o
  simp only [chkOp] at hc
  have main : ∀ (t : TypeId) (mo ko xo : Operand), (chkOpd mo m' && chkOpd ko k' && chkOpd xo x' && (match P.underlying t with | some (.map kt _) => chkKey P kk kt | _ => false)) = true →
      (execOp (Act.eval ⟨tmps, ds⟩) ⟨dst, op, ty, pos, aft, gd⟩ = (do Instr.mapUpdate t (Act.eval ⟨tmps, ds⟩ mo) (Act.eval ⟨tmps, ds⟩ ko) (Act.eval ⟨tmps, ds⟩ xo); pure .skip)) → OpGoal P ⟨dst, op, ty, pos, aft, gd⟩ tmps ds g0 st0 w0 w v fr' st' := by
    intro t mo ko xo hc hex
    simp only [Bool.and_eq_true] at hc
    obtain ⟨⟨⟨h1, h2⟩, h3⟩, h4⟩ := hc
    have h1 := opd_rep (ds := ds) hI h1
    have h2 := opd_rep (ds := ds) hI h2
    have h3 := strip2_rep (opd_rep (ds := ds) hI h3)
    split at h4
    case h_2 => cases h4
    rename_i kt et hu
    obtain ⟨d, hd⟩ := chkKey_desc h4
    simp only [step] at hs
    split at hs
    case h_2 => cases hs
    rename_i id hm
    rw [hm] at h1
    obtain ⟨hid, hme⟩ := h1.mapr_inv
    split at hs
    case h_2 => cases hs
    rename_i es hes
    split at hs
    case isFalse => cases hs
    rename_i hkv
    simp only [Bool.and_eq_true] at hkv
    obtain ⟨hk, hp⟩ := hkv
    split at hs
    case h_2 => cases hs
    rename_i es' hset
    cases hs
    have hkr := key_rep hk h2
    obtain ⟨ents, clock, q1, q2, q3⟩ := hI.h.obj id _ (St.entries_eq.1 hes)
    have hval : Rep ⟨fun _ => 0, g.imm, fun _ _ _ => none⟩ Fh.none 0 w (x'.ev fr).strip2 (Act.eval ⟨tmps, ds⟩ xo) := plain_rep hp h3 fun _ _ h => h
    rcases set_rel (I := g.imm) (w := w) hd h4 hk hkr es es' ents.toList 0 (by simpa using q2) (fun j a b => by simpa using q3 j a (by simpa using b)) hset with ⟨rfl, hf⟩ | ⟨j, k2, c, rfl, hj, hk2, hkeq, hf⟩
    · refine ⟨.skip, undef, g, f, putMap w (g.blk id) (ents.push { key := Act.eval ⟨tmps, ds⟩ ko, val := Act.eval ⟨tmps, ds⟩ xo, born := clock }) (clock + 1), ?_, .inr ⟨rfl, rfl⟩, .junk _, hI.mapStore hes q1 (by simp [q2]) fun i a b => ?_⟩
      · rw [hex, hme]
        simp [Instr.mapUpdate, run_underlying hu, MapKept.run_getObj_map q1, run_chkKey h4 hk hkr, MapKept.run_findKey hd hf, MapKept.run_setObj_map _ q1, YtelpkgbghhpgaaaGreatDoor.Sx.putMap]
      · by_cases hi : i < es.length
        · have e1 : (es ++ [(k'.ev fr, (x'.ev fr).strip2)])[i] = es[i] := List.getElem_append_left hi
          have e2 : (ents.push { key := Act.eval ⟨tmps, ds⟩ ko, val := Act.eval ⟨tmps, ds⟩ xo, born := clock })[i] = ents[i]'(by omega) := Array.getElem_push_lt (by omega)
          rw [e1, e2]
          exact q3 i hi (by omega)
        · have hi' : i = es.length := by simp at a; omega
          subst hi'
          have e1 : (es ++ [(k'.ev fr, (x'.ev fr).strip2)])[es.length] = (k'.ev fr, (x'.ev fr).strip2) := by simp
          have e2 : (ents.push { key := Act.eval ⟨tmps, ds⟩ ko, val := Act.eval ⟨tmps, ds⟩ xo, born := clock })[es.length] = { key := Act.eval ⟨tmps, ds⟩ ko, val := Act.eval ⟨tmps, ds⟩ xo, born := clock } := by simp [q2]
          rw [e1, e2]
          exact ⟨keyIs_ok hk, hkr, hp, hval⟩
    · have hje : j < ents.size := by omega
      have hr2 := q3 j hj hje
      have hke : es[j].1 = k2 := by rw [List.getElem?_eq_getElem hj] at hk2; simpa using hk2
      obtain ⟨hq1, hq2⟩ := keyEq_eq hkeq hkr (hke ▸ hr2.2.1)
      rw [Nat.zero_add] at hf
      refine ⟨.skip, undef, g, f, putMap w (g.blk id) (ents.modify j fun e => { e with key := Act.eval ⟨tmps, ds⟩ ko, val := Act.eval ⟨tmps, ds⟩ xo }) clock, ?_, .inr ⟨rfl, rfl⟩, .junk _, hI.mapStore hes q1 (by simp [q2]) fun i a b => ?_⟩
      · rw [hex, hme]
        have hst : Instr.keyThatStays (((ents[j]?).map (·.key)).getD (Act.eval ⟨tmps, ds⟩ ko)) (Act.eval ⟨tmps, ds⟩ ko) = pure (Act.eval ⟨tmps, ds⟩ ko) := by
          have e : ((ents[j]?).map (·.key)).getD (Act.eval ⟨tmps, ds⟩ ko) = Act.eval ⟨tmps, ds⟩ ko := by simp [hje, hq1]
          rw [e]
          unfold Instr.keyThatStays
          have : Instr.sameBits 10000 (Act.eval ⟨tmps, ds⟩ ko) (Act.eval ⟨tmps, ds⟩ ko) = true := by rw [← hq1] at hq2; exact hq2
          rw [if_pos this]
        simp only [Instr.mapUpdate, Sem.run_bind, run_underlying hu, Result.andThen_ok, MapKept.run_getObj_map q1, run_chkKey h4 hk hkr, MapKept.run_findKey hd hf, hst, Sem.run_pure, MapKept.run_setObj_map _ q1]
        rfl
      · simp only [Array.getElem_modify, List.getElem_set]
        split
        · exact ⟨keyIs_ok hk, hkr, hp, hval⟩
        · exact q3 i (by simpa using a) (by simpa using b)
  cases op <;> first
    | (simp at hc; done)
    | exact main _ _ _ _ hc rfl
end
end Go.Proofs.YtelpkgbghhpgaaaGreatDoor.Sx
end
section
namespace Go.Proofs.YtelpkgbghhpgaaaGreatDoor.Sx
open AV
def AOp.al? : AOp → Option Nat
  | .alloc li _ | .box li _ => some li
  | _ => none
section
variable {g0 g g' : Gh} {st0 st : St} {w0 w w' : World} {f f' : Fh} {fr : Fr} {tmps : Array Value} {ds : List Deferred} {P : Program} {n n' m : Nat} {o : Oper} {I : Nat → Nat → Prop}
theorem op_ok {a : AOp} {v : AV} {fr' : Fr} {st' : St} (hI : Inv g0 st0 w0 g f fr st w tmps) (hc : chkOp P o a = true) (hal : ∀ li, a.al? = some li → ∀ s cs, fr.loc[li]? = some (s, cs) → s < fr.ser)
    (hs : step fr st a = some (v, fr', st')) : OpGoal P o tmps ds g0 st0 w0 w v fr' st' := by
  cases a with
  | mv x => simp only [step, Option.some.injEq, Prod.mk.injEq] at hs; obtain ⟨rfl, rfl, rfl⟩ := hs; exact ok_mv hI hc
  | pick c x y =>
    simp only [step] at hs
    split at hs
    · rename_i t ht
      cases hs
      have := ok_pick (ds := ds) hI hc ht
      cases t <;> exact this
    · cases hs
  | alloc li zs => exact ok_alloc hI (hal li rfl) hc hs
  | box li x => exact ok_box hI (hal li rfl) hc hs
  | halloc zs => exact ok_halloc hI hc hs
  | hbox x => exact ok_hbox hI hc hs
  | build zs parts => exact ok_build hI hc hs
  | bslice sz zs len parts => exact ok_bslice hI hc hs
  | load x k b => exact ok_load hI hc hs
  | store x y k => exact ok_store hI hc hs
  | nchk x => exact ok_nchk hI hc hs
  | bin op x y =>
    simp only [step] at hs
    split at hs
    · rename_i v' hv; cases hs; exact ok_bin hI hc hv
    · cases hs
  | eqk k neg x y => exact ok_eqk hI hc hs
  | eqs ks neg x y => exact ok_eqs hI hc hs
  | un op x =>
    simp only [step] at hs
    split at hs
    · rename_i v' hv; cases hs; exact ok_un hI hc hv
    · cases hs
  | conv k x => exact ok_conv hI hc hs
  | b2s x => exact ok_b2s hI hc hs
  | s2b x => exact ok_s2b hI hc hs
  | iface t x => exact ok_iface hI hc hs
  | mkf fn first captured => exact ok_mkf hI hc hs
  | mkmap => exact ok_mkmap hI hc hs
  | mset kk m k v => exact ok_mset hI hc hs
  | look kk zs m k ok => exact ok_look hI hc hs
  | slc sz x lo hi mx => exact ok_slc hI hc hs
  | addr x off => exact ok_addr hI hc hs
  | part x off k b => exact ok_part hI hc hs
  | ixa x i sz => exact ok_ixa hI hc hs
  | ixp x i len sz => exact ok_ixp hI hc hs
  | ixs x i => exact ok_ixs hI hc hs
  | ixv x i len sz b => exact ok_ixv hI hc hs
  | ext x i => exact ok_ext hI hc hs
  | len k x => exact ok_len hI hc hs
  | alen k => simp only [step, Option.some.injEq, Prod.mk.injEq] at hs; obtain ⟨rfl, rfl, rfl⟩ := hs; exact ok_alen hI hc
  | minmax mx xs => exact ok_minmax hI hc hs
  | append x y sz bytes => exact ok_append hI hc hs
  | call f xs => simp [step] at hs
  | callv x xs => simp [step] at hs
  | panic x => simp [step] at hs
theorem op_wp {a : AOp} {v : AV} {fr' : Fr} {st' : St} {d : Option Nat} {next : Act → World → Prop} {Q : Exit → Act → World → Prop} (hI : Inv g0 st0 w0 g f fr st w tmps) (hc : chkOp P o a = true)
    (hal : ∀ li, a.al? = some li → ∀ s cs, fr.loc[li]? = some (s, cs) → s < fr.ser) (hs : step fr st a = some (v, fr', st')) (hd : o.dst = d) (hdl : ∀ t, d = some t → t < tmps.size)
    (hK : ∀ g' f' w' tmps', Inv g0 st0 w0 g' f' (fr'.put d v) st' w' tmps' → tmps'.size = tmps.size → next ⟨tmps', ds⟩ w') : o.wp P ⟨tmps, ds⟩ w next Q := by
  obtain ⟨nx, c, g', f', w', hr, hn, hv, hi⟩ := op_ok (ds := ds) hI hc hal hs
  have hput := hi.put (ds := ds) (d := d) hv hdl
  have hsz : (Act.put ⟨tmps, ds⟩ d c).tmps.size = tmps.size := by cases d <;> simp [Act.put]
  have heq : Act.put ⟨tmps, ds⟩ d c = ⟨(Act.put ⟨tmps, ds⟩ d c).tmps, ds⟩ := by cases d <;> rfl
  have := hK g' f' w' _ hput hsz
  unfold Oper.wp
  rw [hr]
  rcases hn with rfl | ⟨rfl, rfl⟩
  · rw [Oper.upon_value, hd, heq]; exact this
  · rw [Oper.upon_skip, hd, heq]; exact this
def Enters (P : Program) (f : Nat) : Prop := ∃ fn c, P.funcs[f]? = some fn ∧ fn.body = some c ∧ (fn.name == "runtime.NumGoroutine") = false
def HSt (g : Gh) (st : St) (w : World) : Prop := HInv g w st ∧ ∀ o o' b, HClaim g st o b → HClaim g st o' b → o = o'
def CallPost (g : Gh) (st : St) (w : World) (r : Res) (st' : St) : Ending → World → Prop
  | .returned c, w' => ∃ g' v, r = .ret v ∧ HSt g' st' w' ∧ Ext g st w g' st' w' ∧ Rep g' Fh.none st'.size w' v c
  | .panicked chain, w' => ∃ g' v c, r = .panic v ∧ isThrown v = true ∧ chain = [{ v := c, recovered := false }] ∧ HSt g' st' w' ∧ Ext g st w g' st' w' ∧ Rep g' Fh.none st'.size w' v c
  | .outgrown, _ => False
def CallOk (P : Program) (g0 : Gh) (st0 : St) (w0 : World) (call : CallFn) : Prop :=
  ∀ f vs st r st', call f vs st = some (r, st') → Enters P f ∧ ∀ g w (args : List Value), Grow g0 st0.size w0 g st.size w → HSt g st w → vs.length = args.length → (∀ i (h : i < vs.length) (h' : i < args.length), Rep g Fh.none st.size w vs[i] args[i]) →
    Calls P f args.toArray w (CallPost g st w r st')
theorem Inv.hst (hI : Inv g0 st0 w0 g f fr st w tmps) : HSt g st w := ⟨hI.h, fun o o' b h h' => hI.uniq o o' b (.inl h) (.inl h')⟩
theorem ow_kinds {o o' : Ow} {b b' : Nat} (h : HClaim g st o b) (h' : FClaim f fr o' b') : o ≠ o' := by
  rintro rfl
  cases o <;> first | exact h | exact h'
theorem Inv.after (hI : Inv g0 st0 w0 g f fr st w tmps) {st' : St} (hs : HSt g' st' w') (he : Ext g st w g' st' w') : Inv g0 st0 w0 g' f fr st' w' tmps := by
  have hb : ∀ o b, FClaim f fr o b → ∀ o', ¬ HClaim g st o' b := fun o b ho o' ho' => ow_kinds ho' ho (hI.uniq _ _ _ (.inl ho') (.inr ho))
  refine ⟨hs.1, hI.fi.mono he.grow (fun o b ho => he.block b (hI.flt o b ho).1 (hb o b ho)) (fun o b ho p hp => he.newimm b p hp (hI.flt o b ho).1 (hb o b ho)), fun o b ho => ⟨Nat.lt_of_lt_of_le (hI.flt o b ho).1 he.size, (hI.flt o b ho).2⟩, ?_, hI.ext.trans he⟩
  rintro o o' b (h1 | h1) (h2 | h2)
  · exact hs.2 o o' b h1 h2
  · obtain ⟨o2, h3⟩ := he.claim o b h1 (hI.flt _ _ h2).1
    exact absurd h3 (hb _ _ h2 o2)
  · obtain ⟨o2, h3⟩ := he.claim o' b h2 (hI.flt _ _ h1).1
    exact absurd h3 (hb _ _ h1 o2)
  · exact hI.uniq o o' b (.inr h1) (.inr h2)
theorem Rep.refs0_le {v : AV} {c : Value} (h : Rep g f n w v c) : v.refs0 ≤ n := by
  cases v <;> first
    | exact Nat.zero_le _
    | exact h.ptr_inv.1
    | exact h.mapr_inv.1
theorem refsL_bound {vs : List AV} {k : Nat} (h : ∀ v ∈ vs, v.refs0 ≤ k) : refsL vs ≤ k := by
  induction vs with
  | nil => exact Nat.zero_le _
  | cons a l ih => simp only [refsL]; have := h a (by simp); have := ih fun v hv => h v (by simp [hv]); omega
theorem refs1L_bound {vs : List AV} {k : Nat} (h : ∀ v ∈ vs, v.refs1 ≤ k) : refs1L vs ≤ k := by
  induction vs with
  | nil => exact Nat.zero_le _
  | cons a l ih => simp only [refs1L]; have := h a (by simp); have := ih fun v hv => h v (by simp [hv]); omega
theorem refs2L_bound {vs : List AV} {k : Nat} (h : ∀ v ∈ vs, v.refs2 ≤ k) : refs2L vs ≤ k := by
  induction vs with
  | nil => exact Nat.zero_le _
  | cons a l ih => simp only [refs2L]; have := h a (by simp); have := ih fun v hv => h v (by simp [hv]); omega
theorem Rep.refs1_le {v : AV} {c : Value} (h : Rep g f n w v c) : v.refs1 ≤ n := by
  by_cases hf : ∃ fn a b, v = .func fn a b
  · obtain ⟨fn, a, b, rfl⟩ := hf
    obtain ⟨va, vb, rfl, ha, hb, h1, h2⟩ := h.func_inv
    have k1 : refsL a ≤ n := refsL_bound fun v hv => by
      obtain ⟨i, hi, rfl⟩ := List.getElem_of_mem hv
      exact (h1 i hi (by omega)).refs0_le
    have k2 : refsL b ≤ n := refsL_bound fun v hv => by
      obtain ⟨i, hi, rfl⟩ := List.getElem_of_mem hv
      exact (h2 i hi (by omega)).refs0_le
    simp only [refs1]; omega
  · have e2 : v.refs1 = v.refs0 := by cases v <;> first | rfl | exact absurd ⟨_, _, _, rfl⟩ hf
    rw [e2]; exact h.refs0_le
theorem Rep.refs2_le {v : AV} {c : Value} (h : Rep g f n w v c) : v.refs2 ≤ n := by
  by_cases ha : ∃ cs, v = .agg cs
  · obtain ⟨cs, rfl⟩ := ha
    obtain ⟨vs, rfl, h2, h3, h4⟩ := h.agg_inv
    exact refs1L_bound fun v hv => by
      obtain ⟨i, hi, rfl⟩ := List.getElem_of_mem hv
      exact (h3 i hi (by omega)).refs1_le
  · have e2 : v.refs2 = v.refs1 := by cases v <;> first | rfl | exact absurd ⟨_, rfl⟩ ha
    rw [e2]; exact h.refs1_le
theorem Rep.refs_le {v : AV} {c : Value} (h : Rep g f n w v c) : v.refs ≤ n := by
  by_cases ha : ∃ cs, v = .tuple cs
  · obtain ⟨cs, rfl⟩ := ha
    obtain ⟨vs, rfl, h2, h3⟩ := h.tuple_inv
    exact refs2L_bound fun v hv => by
      obtain ⟨i, hi, rfl⟩ := List.getElem_of_mem hv
      exact (h3 i hi (by omega)).refs2_le
  · have e2 : v.refs = v.refs2 := by cases v <;> first | rfl | exact absurd ⟨_, rfl⟩ ha
    rw [e2]; exact h.refs2_le
theorem out_bare {v : AV} {c : Value} (hp : v.out = true) (h : Rep g f n w v c) : Rep g f' n w v c :=
  out_over hp h.refs_le h ⟨fun _ _ h => h, fun _ _ _ => rfl, fun _ _ _ => rfl⟩
theorem out0_bare {v : AV} {c : Value} (hp : v.out0 = true) (h : Rep g f n w v c) : Rep g f' n w v c :=
  out0_over hp h.refs0_le h ⟨fun _ _ h => h, fun _ _ _ => rfl, fun _ _ _ => rfl⟩
theorem args_ok (hI : Inv g0 st0 w0 g f fr st w tmps) {xs : Array Operand} {ys : List Opd} {vs : List AV} (hc : chkOpds xs.toList ys = true) (h : argsOf fr ys = some vs) :
    vs.length = (xs.toList.map (Act.eval ⟨tmps, ds⟩)).length ∧ ∀ i (h : i < vs.length) (h' : i < (xs.toList.map (Act.eval ⟨tmps, ds⟩)).length), Rep g Fh.none st.size w vs[i] (xs.toList.map (Act.eval ⟨tmps, ds⟩))[i] := by
  unfold argsOf at h
  split at h
  case isFalse => cases h
  rename_i hall
  cases h
  obtain ⟨h1, h2⟩ := opds_rep (ds := ds) hI hc
  refine ⟨by simp [h1], fun i a b => ?_⟩
  simp only [List.getElem_map]
  have hi : i < ys.length := by simpa using a
  exact out_bare (List.all_eq_true.1 hall _ (List.getElem_mem hi)) (strip_rep (h2 i hi (by simpa using b)))
theorem run_enter {f : Nat} (h : Enters P f) (args : Array Value) : (callFunc f args).run P w = .ok (.enter f args) w := by
  obtain ⟨fn, c, h1, h2, h3⟩ := h
  simp only [beq_eq_false_iff_ne] at h3
  simp [callFunc, h1, h2, h3]
theorem call_upon {call : CallFn} (hcall : CallOk P g0 st0 w0 call) (hI : Inv g0 st0 w0 g f fr st w tmps) {i : Nat} {vs : List AV} {args : List Value} {r : Res} {st' : St} (hr : call i vs st = some (r, st'))
    (hl : vs.length = args.length) (ha : ∀ j (h : j < vs.length) (h' : j < args.length), Rep g Fh.none st.size w vs[j] args[j]) {d : Option Nat} (hd : o.dst = d) (hdl : ∀ t, d = some t → t < tmps.size)
    {next : Act → World → Prop} {Q : Exit → Act → World → Prop} (hex : (execOp (Act.eval ⟨tmps, ds⟩) o).run P w = (callFunc i args.toArray).run P w)
    (hK : ∀ v, r = .ret v → ∀ g' w' tmps', Inv g0 st0 w0 g' f (fr.put d v) st' w' tmps' → tmps'.size = tmps.size → next ⟨tmps', ds⟩ w')
    (hP : ∀ v, r = .panic v → isThrown v = true → ∀ g' w' c, Inv g0 st0 w0 g' f fr st' w' tmps → Rep g' Fh.none st'.size w' v c → Q (.panic [{ v := c, recovered := false }]) ⟨tmps, ds⟩ w') : o.wp P ⟨tmps, ds⟩ w next Q := by
  obtain ⟨hent, hc⟩ := hcall i vs st r st' hr
  unfold Oper.wp
  rw [hex, run_enter hent, Oper.upon_enter]
  refine (hc g w args hI.ext.grow hI.hst hl ha).mono fun e w' he => ?_
  cases e with
  | returned c =>
    obtain ⟨g', v, rfl, h1, h2, h3⟩ := he
    have hI' := hI.after h1 h2
    have hput := hI'.put (ds := ds) (d := d) (h3.mono (Grow.refl _ _ _) (FGrow.none f)) hdl
    have hsz : (Act.put ⟨tmps, ds⟩ d c).tmps.size = tmps.size := by cases d <;> simp [Act.put]
    have heq : Act.put ⟨tmps, ds⟩ d c = ⟨(Act.put ⟨tmps, ds⟩ d c).tmps, ds⟩ := by cases d <;> rfl
    show next (Act.put ⟨tmps, ds⟩ o.dst c) w'
    rw [hd, heq]
    exact hK v rfl g' w' _ hput hsz
  | panicked chain =>
    obtain ⟨g', v, c, rfl, ht, rfl, h1, h2, h3⟩ := he
    exact hP v rfl ht g' w' c (hI.after h1 h2) h3
  | outgrown => exact he.elim
theorem exec_call {i : Nat} {ys : List Opd} (hc : chkOp P o (.call i ys) = true) : ∃ xs : Array Operand, chkOpds xs.toList ys = true ∧ ∀ w, (execOp (Act.eval ⟨tmps, ds⟩) o).run P w = (callFunc i (xs.toList.map (Act.eval ⟨tmps, ds⟩)).toArray).run P w := by
  obtain ⟨dst, op, ty, pos, aft, gd⟩ := o
  simp only [chkOp] at hc
  cases op <;> first
    | (simp at hc; done)
    | skip
  rename_i c
  obtain ⟨cal, args, ats⟩ := c
  simp only [chkCall] at hc
  split at hc
  case h_2 => cases hc
  rename_i j
  simp only [Bool.and_eq_true, beq_iff_eq] at hc
  obtain ⟨⟨rfl, h1⟩, _⟩ := hc
  refine ⟨args, h1, fun w => ?_⟩
  simp [execOp, resolve, Act.eval, Deferred.ofValue, invoke, map_arr]
theorem exec_callv (hI : Inv g0 st0 w0 g f fr st w tmps) {x : Opd} {ys : List Opd} {i : Nat} {first captured vs : List AV} (hc : chkOp P o (.callv x ys) = true) (hx : x.ev fr = .func (.func i) first captured) (hv : argsOf fr ys = some vs)
    (hf : first.all out0 = true) (hcp : captured.all out0 = true) :
    ∃ args : List Value, (first ++ vs ++ captured).length = args.length ∧ (∀ j (h : j < (first ++ vs ++ captured).length) (h' : j < args.length), Rep g Fh.none st.size w (first ++ vs ++ captured)[j] args[j]) ∧
      (execOp (Act.eval ⟨tmps, ds⟩) o).run P w = (callFunc i args.toArray).run P w := by
  obtain ⟨dst, op, ty, pos, aft, gd⟩ := o
  simp only [chkOp] at hc
  cases op <;> first
    | (simp at hc; done)
    | skip
  rename_i c
  obtain ⟨cal, args, ats⟩ := c
  simp only [chkCall] at hc
  split at hc
  case h_2 => cases hc
  rename_i y
  simp only [Bool.and_eq_true] at hc
  have hy := opd_rep (ds := ds) hI hc.1
  rw [hx] at hy
  obtain ⟨va, vb, e, la, lb, ra, rb⟩ := hy.func_inv
  obtain ⟨l1, r1⟩ := args_ok (ds := ds) hI hc.2 hv
  refine ⟨va ++ args.toList.map (Act.eval ⟨tmps, ds⟩) ++ vb, by simp only [List.length_append]; omega, fun j a b => ?_, ?_⟩
  · by_cases h1 : j < first.length
    · rw [List.getElem_append_left (by simp; omega), List.getElem_append_left h1, List.getElem_append_left (by simp; omega), List.getElem_append_left (by omega)]
      exact out0_bare (List.all_eq_true.1 hf _ (List.getElem_mem h1)) (ra j h1 (by omega))
    · by_cases h2 : j < first.length + vs.length
      · rw [List.getElem_append_left (by simp; omega), List.getElem_append_right (by omega), List.getElem_append_left (by simp at l1 ⊢; omega), List.getElem_append_right (by omega)]
        have := r1 (j - first.length) (by omega) (by omega)
        simpa [la] using this
      · have h3 : j - (first.length + vs.length) < captured.length := by simp at a; omega
        rw [List.getElem_append_right (by simp; omega), List.getElem_append_right (by simp at l1 ⊢; omega)]
        have := out0_bare (f' := Fh.none) (List.all_eq_true.1 hcp _ (List.getElem_mem h3)) (rb _ h3 (by omega))
        have e1 : (va ++ List.map (Act.eval ⟨tmps, ds⟩) args.toList).length = (first ++ vs).length := by simp only [List.length_append]; omega
        simp only [e1, List.length_append]
        exact this
  · simp [execOp, resolve, e, Deferred.ofValue, invoke, map_arr]
end
end Go.Proofs.YtelpkgbghhpgaaaGreatDoor.Sx
end
