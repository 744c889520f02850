/- TreeReads returns true for all texts whose data are not larger than a bound. The program's functions as plain code. -/
import Derived.Test.YtelpkgbghhpgaaaGreatDoorR4
set_option linter.all false
section
namespace Go.Proofs.YtelpkgbghhpgaaaGreatDoor.Sx
open AV
section
variable {g0 g : Gh} {st0 st : St} {w0 w w' : World} {f f' : Fh} {fr : Fr} {tmps : Array Value} {ds : List Deferred} {P : Program} {n : Nat} {o : Oper} {I : Nat → Nat → Prop}
theorem run_bounds {isSlice : Bool} {len cap l h m : Nat} {lo hi mx : Option Value} (hlo : (lo = none ∧ l = 0) ∨ ∃ k, lo = some (.int k l)) (hhi : (hi = none ∧ h = len ∧ mx = none) ∨ ∃ k, hi = some (.int k h))
    (hmx : (mx = none ∧ m = cap) ∨ ∃ k, mx = some (.int k m)) (h1 : l ≤ h) (h2 : h ≤ m) (h3 : m ≤ cap) : (Instr.sliceBounds isSlice len cap lo hi mx).run P w = .ok (l, h, m) w := by
  have hb : ∀ (k : IntKind) (x y : Nat) (c : BoundsCode), x ≤ y → (Instr.sliceBound (.int k x) y c).run P w = .ok x w := fun k x y c hxy => by
    simpa using run_sliceBound w k (x : Int) y c (by omega) (by omega)
  rcases hmx with ⟨rfl, rfl⟩ | ⟨km, rfl⟩ <;> rcases hhi with ⟨rfl, rfl, hm⟩ | ⟨kh, rfl⟩ <;> rcases hlo with ⟨rfl, rfl⟩ | ⟨kl, rfl⟩ <;> first
    | (cases hm; done)
    | simp [Instr.sliceBounds, hb _ _ _ _ h1, hb _ _ _ _ h2, hb _ _ _ _ h3]
theorem low_run (hI : Inv g0 st0 w0 g f fr st w tmps) {lo : Option Operand} {lo' : Option Opd} {l : Int} (hc : chkOpt lo lo' = true) (h : lowOf fr lo' = some l) (h0 : 0 ≤ l) :
    (lo.map (Act.eval ⟨tmps, ds⟩) = none ∧ l.toNat = 0) ∨ ∃ k, lo.map (Act.eval ⟨tmps, ds⟩) = some (.int k l.toNat) := by
  cases lo <;> cases lo' <;> simp only [chkOpt] at hc
  · simp only [lowOf, Option.some.injEq] at h; exact .inl ⟨rfl, by omega⟩
  · cases hc
  · cases hc
  · obtain ⟨k, hk⟩ := intOf_inv (f := f) (g := g) (n := st.size) (w := w) h (opd_rep (ds := ds) hI hc)
    exact .inr ⟨k, by simp [hk, Int.toNat_of_nonneg h0]⟩
theorem high_run (hI : Inv g0 st0 w0 g f fr st w tmps) {lo : Option Operand} {lo' : Option Opd} {l : Int} {m : Nat} (hc : chkOpt lo lo' = true) (h : highOf fr m lo' = some l) (h0 : 0 ≤ l) :
    (lo.map (Act.eval ⟨tmps, ds⟩) = none ∧ l.toNat = m ∧ lo = none) ∨ ∃ k, lo.map (Act.eval ⟨tmps, ds⟩) = some (.int k l.toNat) := by
  cases lo <;> cases lo' <;> simp only [chkOpt] at hc
  · simp only [highOf, Option.some.injEq] at h; exact .inl ⟨rfl, by omega, rfl⟩
  · cases hc
  · cases hc
  · obtain ⟨k, hk⟩ := intOf_inv (f := f) (g := g) (n := st.size) (w := w) h (opd_rep (ds := ds) hI hc)
    exact .inr ⟨k, by simp [hk, Int.toNat_of_nonneg h0]⟩
theorem sub_row {els : List (List AV)} {sz l h : Nat} {a : Addr} {vs : Nat → Value} (hu : ∀ e ∈ els, e.length = sz) (hr : RowRep w I els.flatten a vs) (m : Nat) (hm : m = l → h ≤ m) (hlh : l ≤ h) :
    ∃ vs', RowRep w I ((els.take h).drop l).flatten (if m = l then a else a.add (l * sz)) vs' := by
  have hu' : ∀ e ∈ els.take h, e.length = sz := fun e he => hu e (List.mem_of_mem_take he)
  split
  · rename_i e
    have : (els.take h).drop l = [] := List.drop_eq_nil_of_le (by simp; have := hm e; omega)
    rw [this]
    exact ⟨vs, RowRep.nil⟩
  · rw [flat_drop l hu', flat_take h hu]
    exact ⟨_, (hr.take _).drop _⟩
theorem ok_slc {z : Nat} {y : Opd} {lo' hi' mx' : Option Opd} {v : AV} {fr' : Fr} {st' : St} (hI : Inv g0 st0 w0 g f fr st w tmps) (hc : chkOp P o (.slc z y lo' hi' mx') = true) (hs : step fr st (.slc z y lo' hi' mx') = some (v, fr', st')) :
    OpGoal P o tmps ds g0 st0 w0 w v fr' st' := by
  obtain ⟨dst, op, ty, pos, aft, gd⟩ := o
  simp only [chkOp] at hc
  cases op <;> first
    | (simp at hc; done)
    | skip
  rename_i t x lo hi mx
  simp only [Bool.and_eq_true] at hc
  obtain ⟨⟨⟨⟨⟨h1, hlo⟩, hhi⟩, hmx⟩, hmh⟩, ht⟩ := hc
  have h1 := opd_rep (ds := ds) hI h1
  simp only [step] at hs
  split at hs
  case h_2 => cases hs
  rename_i v' hv
  cases hs
  generalize y.ev fr = yv at h1 hv
  unfold aslice at hv
  split at hv
  case h_1 s =>
    split at hv
    case h_2 => cases hv
    rename_i l h e1 e2
    split at hv
    case isFalse => cases hv
    rename_i hh; obtain ⟨rfl, hl, hlh, hhs⟩ := hh
    cases hv
    have hmn : mx = none := by cases mx with | none => rfl | some m => simp [chkOpt] at hmx
    subst hmn
    split at ht
    · rename_i hu
      refine .value hI ?_ (.plain (.str _))
      simp only [execOp, h1.str_inv]
      refine run_v ?_
      have hb := run_bounds (P := P) (w := w) (isSlice := false) (len := s.length) (cap := s.length) (m := s.length) (mx := none) (low_run (ds := ds) hI hlo e1 hl)
        ((high_run (ds := ds) hI hhi e2 (by omega)).imp (fun h => ⟨h.1, h.2.1, rfl⟩) id) (.inl ⟨rfl, rfl⟩) (by omega) (by omega) (Nat.le_refl _)
      have hx : (⟨s.toArray⟩ : ByteArray).extract l.toNat h.toNat = ⟨((s.take h.toNat).drop l.toNat).toArray⟩ := by
        apply ByteArray.ext
        rw [ByteArray.data_extract]
        apply Array.ext'
        simp only [Array.toList_extract, List.extract_eq_take_drop, List.drop_take]
      simp [Instr.sliceAt, Instr.slice, run_underlying hu, size_mk, hb, hx]
    · simp at ht
    · cases ht
  case h_2 sz els own =>
    obtain ⟨_, a, cap, vs, h4, h5, h6, h7⟩ := h1.slice_inv.1.slice_inv
    split at ht
    · rename_i hu
      simp only [beq_iff_eq] at ht
      exfalso
      split at hv
      · split at hv
        · rename_i hh; exact hh.2.1 ht
        · cases hv
      · split at hv
        · split at hv
          · rename_i hh; exact hh.2.1 ht
          · cases hv
        · cases hv
      · cases hv
    · rename_i el hu
      simp only [Bool.and_eq_true, decide_eq_true_eq] at ht
      obtain ⟨hz, ht⟩ := ht
      have main : ∀ (l h : Int) (m : Nat) , lowOf fr lo' = some l → highOf fr els.length hi' = some h → 0 ≤ l → l ≤ h → h ≤ els.length → h.toNat ≤ m → m ≤ cap → ((mx.map (Act.eval ⟨tmps, ds⟩) = none ∧ m = cap) ∨ ∃ k, mx.map (Act.eval ⟨tmps, ds⟩) = some (.int k m)) →
          (mx = none ∨ hi ≠ none) → z = sz →
          ∃ a' vs', (execOp (Act.eval ⟨tmps, ds⟩) ⟨dst, .slice t x lo hi mx, ty, pos, aft, gd⟩).run P w = .ok (.value (.slice (some a') (h.toNat - l.toNat) (m - l.toNat))) w ∧ RowRep w g.imm ((els.take h.toNat).drop l.toNat).flatten a' vs' := by
        rintro l h m e1 e2 h0 hlh hhe hhm hmc hmx hmm rfl
        obtain ⟨vs', hr⟩ := sub_row (l := l.toNat) (h := h.toNat) h5 h7 m (fun e => by omega) (by omega)
        refine ⟨_, vs', ?_, hr⟩
        simp only [execOp, h4]
        refine run_v ?_
        have hb := run_bounds (P := P) (w := w) (isSlice := true) (len := els.length) (cap := cap) (m := m) (low_run (ds := ds) hI hlo e1 h0)
          ((high_run (ds := ds) hI hhi e2 (by omega)).imp (fun h => ⟨h.1, h.2.1, hmm.elim (fun e => by rw [e]; rfl) (fun e => absurd h.2.2 e)⟩) id) hmx (by omega) hhm hmc
        simp only [Instr.sliceAt, Instr.slice, Sem.run_bind, run_underlying hu, Result.andThen_ok, hb, chkSz_ok ht, Sem.run_pure]
        split <;> rfl
      have hul : ∀ l h : Nat, ∀ e ∈ (els.take h).drop l, e.length = sz := fun l h e he => h5 e (List.mem_of_mem_take (List.mem_of_mem_drop he))
      split at hv
      · rename_i l h e1 e2
        split at hv
        case isFalse => cases hv
        rename_i hh; obtain ⟨hzz, _, hl, hlh, hhs⟩ := hh
        cases hv
        have hmn : mx = none := by cases mx with | none => rfl | some m => simp [chkOpt] at hmx
        subst hmn
        obtain ⟨a', vs', hr, hrow⟩ := main l h cap e1 e2 hl hlh hhs (by omega) (Nat.le_refl _) (.inl ⟨rfl, rfl⟩) (.inl rfl) hzz
        refine .value hI hr (.plain ?_)
        have hle : h.toNat - l.toNat = ((els.take h.toNat).drop l.toNat).length := by simp; omega
        rw [hle]
        exact PRep.of_row (hul _ _) (by simp; omega) hrow
      · rename_i l h m0 e1 e2
        split at hv
        case h_2 => cases hv
        rename_i m hm
        split at hv
        case isFalse => cases hv
        rename_i hh; obtain ⟨hzz, _, hl, hlh, rfl, hhs⟩ := hh
        cases hv
        cases mx with
        | none => simp [chkOpt] at hmx
        | some mo =>
          obtain ⟨km, hkm⟩ := intOf_inv (f := f) (g := g) (n := st.size) (w := w) hm (opd_rep (ds := ds) hI hmx)
          obtain ⟨a', vs', hr, hrow⟩ := main l h h.toNat e1 e2 hl hlh hhs (Nat.le_refl _) (by omega) (.inr ⟨km, by simp [hkm]; omega⟩) (.inr (by cases hi with | none => simp at hmh | some _ => simp)) hzz
          have hle : h.toNat - l.toNat = ((els.take h.toNat).drop l.toNat).length := by simp; omega
          rw [hle] at hr
          exact .value hI hr (.slice _ _ _ _ (PRep.of_row (hul _ _) (Nat.le_refl _) hrow) ⟨_, rfl⟩)
      · cases hv
    · cases ht
  case h_3 =>
    have h1 := h1.nilslice_inv
    split at ht
    · simp only [beq_iff_eq] at ht
      exfalso
      split at hv
      · split at hv
        · rename_i hh; exact hh ht
        · cases hv
      · split at hv
        · rename_i hh; exact hh.1 ht
        · cases hv
      · cases hv
    · rename_i el hu
      simp only [Bool.and_eq_true, decide_eq_true_eq] at ht
      obtain ⟨hz, ht⟩ := ht
      have main : lowOf fr lo' = some 0 → highOf fr 0 hi' = some 0 → ((mx.map (Act.eval ⟨tmps, ds⟩) = none) ∨ ∃ k, mx.map (Act.eval ⟨tmps, ds⟩) = some (.int k (0 : Nat))) → (mx = none ∨ hi ≠ none) →
          OpGoal P ⟨dst, .slice t x lo hi mx, ty, pos, aft, gd⟩ tmps ds g0 st0 w0 w .nilslice fr st := fun e1 e2 e3 hmm => by
        refine .value hI ?_ (.plain .nilslice)
        simp only [execOp, h1]
        refine run_v ?_
        have hb := run_bounds (P := P) (w := w) (isSlice := true) (len := 0) (cap := 0) (m := 0) (low_run (ds := ds) hI hlo e1 (Int.le_refl _))
          ((high_run (ds := ds) hI hhi e2 (Int.le_refl _)).imp (fun h => ⟨h.1, h.2.1, hmm.elim (fun e => by rw [e]; rfl) (fun e => absurd h.2.2 e)⟩) id) (e3.imp (fun h => ⟨h, rfl⟩) id) (Nat.le_refl _) (Nat.le_refl _) (Nat.le_refl _)
        simp only [Instr.sliceAt, Instr.slice, Sem.run_bind, run_underlying hu, Result.andThen_ok, hb, chkSz_ok ht, Sem.run_pure]
        rfl
      split at hv
      · rename_i e1 e2
        split at hv
        case isFalse => cases hv
        cases hv
        have hmn : mx = none := by cases mx with | none => rfl | some m => simp [chkOpt] at hmx
        subst hmn
        exact main e1 e2 (.inl rfl) (.inl rfl)
      · rename_i m0 e1 e2
        split at hv
        case isFalse => cases hv
        rename_i hh
        cases hv
        cases mx with
        | none => simp [chkOpt] at hmx
        | some mo =>
          obtain ⟨km, hkm⟩ := intOf_inv (f := f) (g := g) (n := st.size) (w := w) hh.2 (opd_rep (ds := ds) hI hmx)
          exact main e1 e2 (.inr ⟨km, by simp [hkm]⟩) (.inr (by cases hi with | none => simp at hmh | some _ => simp))
      · cases hv
    · cases ht
  case h_4 => cases hv
end
end Go.Proofs.YtelpkgbghhpgaaaGreatDoor.Sx
end
section
namespace Go.Proofs.YtelpkgbghhpgaaaGreatDoor.Sx
open AV
section
variable {g0 g g' : Gh} {st0 st : St} {w0 w w' : World} {f f' : Fh} {fr : Fr} {tmps : Array Value} {ds : List Deferred} {P : Program} {n n' : Nat} {o : Oper} {I : Nat → Nat → Prop}
theorem plain1_rep {v : AV} {c : Value} (hp : v.plain1 = true) (h : Rep g f n w v c) : PRep w g.imm v c := by
  cases v <;> first
    | (simp [plain1] at hp; done)
    | skip
  case int => cases h with | plain h => exact h
  case bool => cases h with | plain h => exact h
  case str => cases h with | plain h => exact h
  case nilptr => cases h with | plain h => exact h
  case nilslice => cases h with | plain h => exact h
  case nilmap => cases h with | plain h => exact h
  case nilIface => cases h with | plain h => exact h
  case nilFunc => cases h with | plain h => exact h
  case slice sz els o =>
    cases o <;> first
      | (simp [plain1] at hp; done)
      | exact h.slice_inv.1
theorem plain_rep {v : AV} {c : Value} (hp : v.plain = true) (h : Rep g f n w v c) (hi : ∀ b o, g.imm b o → g'.imm b o) : Rep g' f' n' w v c := by
  cases v <;> first
    | exact .plain ((plain1_rep (by simpa [plain] using hp) h).mono hi fun _ _ _ => rfl)
    | skip
  rename_i cs
  obtain ⟨vs, rfl, h2, h3, h4⟩ := h.agg_inv
  refine .agg cs vs h2 (fun i a b => .plain ((plain1_rep ?_ (h3 i a b)).mono hi fun _ _ _ => rfl)) h4
  have : cs.all plain1 = true := by simpa [plain] using hp
  exact List.all_eq_true.1 this _ (List.getElem_mem a)
theorem okIn_one {v : AV} {c : Value} (hp : v.okIn = true) (h : Rep g f n w v c) : c.oneCell' = true := by
  cases h with
  | plain h => exact h.oneCell
  | slice _ _ _ _ h _ => obtain ⟨_, _, _, _, e, _⟩ := h.slice_inv; rw [e]; rfl
  | junk | agg | tuple => simp [okIn, out1, out0] at hp
  | _ => rfl
theorem cells_rep {v : AV} {c : Value} (hp : v.cells.all okIn = true) (h : Rep g f n w v c) : ∃ vs : List Value, c.cells = vs.toArray ∧ v.cells.length = vs.length ∧
    (∀ i (h : i < v.cells.length) (h' : i < vs.length), Rep g f n w v.cells[i] vs[i]) ∧ (∀ c ∈ vs, c.oneCell' = true) := by
  by_cases ha : ∃ cs, v = .agg cs
  · obtain ⟨cs, rfl⟩ := ha
    obtain ⟨vs, rfl, h2, h3, h4⟩ := h.agg_inv
    exact ⟨vs, rfl, h2, h3, h4⟩
  · have hv : v.cells = [v] := by cases v <;> first | rfl | exact absurd ⟨_, rfl⟩ ha
    rw [hv] at hp ⊢
    have h1 := okIn_one (by simpa using hp) h
    refine ⟨[c], by cases c <;> first | rfl | (cases h1; done), rfl, fun i a a' => ?_, fun c' hc => ?_⟩
    · have : i = 0 := by simp at a; omega
      subst this; exact h
    · simp at hc; subst hc; exact h1
theorem fold_put (off : Nat) : ∀ (vs : List Value) (k : Nat) (arr : Array Value), off + k + vs.length ≤ arr.size →
    ((vs.zipIdx k).foldl (fun cs (x : Value × Nat) => cs.setIfInBounds (off + x.2) x.1) arr).size = arr.size ∧
    ∀ i, ((vs.zipIdx k).foldl (fun cs (x : Value × Nat) => cs.setIfInBounds (off + x.2) x.1) arr)[i]? = if off + k ≤ i ∧ i < off + k + vs.length then vs[i - (off + k)]? else arr[i]?
  | [], k, arr, _ => ⟨rfl, fun i => by simp; intro h1 h2; omega⟩
  | v :: vs, k, arr, h => by
    simp only [List.zipIdx_cons, List.foldl_cons]
    obtain ⟨h1, h2⟩ := fold_put off vs (k + 1) (arr.setIfInBounds (off + k) v) (by simp at h ⊢; omega)
    refine ⟨by rw [h1]; simp, fun i => ?_⟩
    rw [h2 i]
    simp only [List.length_cons] at h
    by_cases hi : off + k = i
    · subst hi
      rw [if_neg (by omega), if_pos (by simp)]
      simp [show off + k < arr.size by omega]
    · by_cases hj : off + (k + 1) ≤ i ∧ i < off + (k + 1) + vs.length
      · rw [if_pos hj, if_pos (by simp; omega)]
        rw [show i - (off + k) = (i - (off + (k + 1))) + 1 by omega]; rfl
      · rw [if_neg hj, if_neg (by simp; omega), Array.getElem?_setIfInBounds_ne (by omega)]
theorem splice_get {cs new : List AV} {off : Nat} (h : off + new.length ≤ cs.length) (i : Nat) : (splice cs off new)[i]? = if off ≤ i ∧ i < off + new.length then new[i - off]? else cs[i]? := by
  unfold splice
  have hl : (cs.take off).length = off := by simp; omega
  by_cases h1 : i < off
  · rw [if_neg (by omega), List.append_assoc, List.getElem?_append_left (by omega), List.getElem?_take_of_lt h1]
  · by_cases h2 : i < off + new.length
    · rw [if_pos (by omega), List.append_assoc, List.getElem?_append_right (by omega), hl, List.getElem?_append_left (by omega)]
    · rw [if_neg (by omega), List.getElem?_append_right (by simp; omega), List.getElem?_drop]
      congr 1
      simp; omega
theorem splice_len {cs new : List AV} {off : Nat} (h : off + new.length ≤ cs.length) : (splice cs off new).length = cs.length := by
  unfold splice; simp; omega
def CellsRep (R : AV → Value → Prop) (cs : List AV) (vs : Array Value) : Prop :=
  cs.length = vs.size ∧ ∀ (i : Nat) (a : AV) (c : Value), cs[i]? = some a → vs[i]? = some c → R a c
theorem CellsRep.put {R : AV → Value → Prop} {cs new : List AV} {arr : Array Value} {vs : List Value} {off : Nat} (h : CellsRep R cs arr) (hl : new.length = vs.length) (hn : ∀ i (h : i < new.length) (h' : i < vs.length), R new[i] vs[i])
    (hb : off + new.length ≤ cs.length) : CellsRep R (splice cs off new) ((vs.zipIdx 0).foldl (fun cs (x : Value × Nat) => cs.setIfInBounds (off + x.2) x.1) arr) := by
  have hs := h.1
  obtain ⟨h1, h2⟩ := fold_put off vs 0 arr (by omega)
  refine ⟨by rw [splice_len hb, h1]; exact hs, fun i a c ha hc => ?_⟩
  rw [splice_get hb] at ha
  rw [h2 i, Nat.add_zero, ← hl] at hc
  split at ha
  · rename_i hi
    rw [if_pos hi] at hc
    obtain ⟨l1, rfl⟩ := List.getElem?_eq_some_iff.1 ha
    obtain ⟨l2, rfl⟩ := List.getElem?_eq_some_iff.1 hc
    exact hn _ l1 l2
  · rename_i hi
    rw [if_neg hi] at hc
    exact h.2 i a c ha hc
theorem fill_step (place : Nat → Option (Nat × Nat)) {arr : Array Value} {i off size : Nat} {v : Value} {rest : List (Nat × Value)} {vs : List Value} (hp : place i = some (off, size)) (hv : v.cells = vs.toArray) (h1 : vs.length = size) (h2 : off + size ≤ arr.size) :
    Instr.fill place arr ((i, v) :: rest) = Instr.fill place ((vs.zipIdx 0).foldl (fun cs (x : Value × Nat) => cs.setIfInBounds (off + x.2) x.1) arr) rest := by
  rw [Instr.fill, hp]
  simp only [hv, List.size_toArray]
  rw [if_neg (by simp; omega)]
  congr 1
  rw [← Array.foldl_toList]
  simp [Array.zipIdx, List.mapIdx_eq_zipIdx_map]
theorem fill_parts (hI : Inv g0 st0 w0 g f fr st w tmps) (places : Nat → Option (Nat × Nat)) : ∀ (ps : List (Nat × Operand)) (parts : List (Nat × Nat × Opd)) (cs cs' : List AV) (arr : Array Value), chkPart places ps parts = true → fillP fr cs parts = some cs' →
    CellsRep (fun a c => Rep g f st.size w a c ∧ c.oneCell' = true) cs arr → ∃ arr', Instr.fill places arr (ps.map fun (i, x) => (i, Act.eval ⟨tmps, ds⟩ x)) = some arr' ∧ CellsRep (fun a c => Rep g f st.size w a c ∧ c.oneCell' = true) cs' arr'
  | [], [], cs, cs', arr, _, h, hr => by simp only [fillP, Option.some.injEq] at h; subst h; exact ⟨arr, rfl, hr⟩
  | (i, x) :: ps, (off, k, y) :: parts, cs, cs', arr, hc, h, hr => by
    simp only [chkPart, Bool.and_eq_true] at hc
    obtain ⟨⟨h1, h2⟩, h3⟩ := hc
    split at h1
    case h_2 => cases h1
    rename_i o s hpl
    simp only [Bool.and_eq_true, beq_iff_eq] at h1
    obtain ⟨rfl, rfl⟩ := h1
    simp only [fillP] at h
    split at h
    case isFalse => cases h
    rename_i hk
    simp only [Bool.and_eq_true, decide_eq_true_eq] at hk
    obtain ⟨⟨hk1, hk2⟩, hk3⟩ := hk
    have hx := opd_rep (ds := ds) hI h2
    obtain ⟨vs, e1, e2, e3, e4⟩ := cells_rep hk3 hx
    have hsz := hr.1
    obtain ⟨arr', q1, q2⟩ := fill_parts hI places ps parts _ cs' _ h3 h (hr.put e2 (fun i a b => ⟨e3 i a b, e4 _ (List.getElem_mem b)⟩) (by omega))
    refine ⟨arr', ?_, q2⟩
    rw [List.map_cons, fill_step places hpl e1 (by omega) (by omega)]
    exact q1
  | [], _ :: _, _, _, _, hc, _, _ => by simp [chkPart] at hc
  | _ :: _, [], _, _, _, hc, _, _ => by simp [chkPart] at hc
theorem zero_ok {t : Nat} {zs : List AV} (h : chkZero P t zs = true) : ∃ i z, P.info? t = some i ∧ i.zero = some z ∧ i.size = zs.length ∧ CellsRep (fun a c => cOk1 a c = true) zs z.cells := by
  unfold chkZero at h
  split at h
  case h_2 => cases h
  rename_i i hi
  split at h
  case h_2 => cases h
  rename_i z hz
  simp only [Bool.and_eq_true, beq_iff_eq] at h
  refine ⟨i, z, hi, hz, h.2, ?_, fun j a c ha hc => ?_⟩
  · have := cOkL_len h.1; simpa using this
  · obtain ⟨l1, rfl⟩ := List.getElem?_eq_some_iff.1 ha
    have hc' : z.cells.toList[j]? = some c := by simpa using hc
    obtain ⟨l2, rfl⟩ := List.getElem?_eq_some_iff.1 hc'
    exact cOkL_get h.1 j l1 l2
theorem ok_build {zs : List AV} {parts : List (Nat × Nat × Opd)} {v : AV} {fr' : Fr} {st' : St} (hI : Inv g0 st0 w0 g f fr st w tmps) (hc : chkOp P o (.build zs parts) = true) (hs : step fr st (.build zs parts) = some (v, fr', st')) :
    OpGoal P o tmps ds g0 st0 w0 w v fr' st' := by
  obtain ⟨dst, op, ty, pos, aft, gd⟩ := o
  simp only [chkOp] at hc
  cases op <;> first
    | (simp at hc; done)
    | skip
  rename_i t ps
  simp only [Bool.and_eq_true] at hc
  obtain ⟨h1, h2⟩ := hc
  split at h2
  case h_2 => cases h2
  rename_i pl hpl
  simp only [step] at hs
  split at hs
  case h_2 => cases hs
  rename_i cs hcs
  cases hs
  obtain ⟨i, z, hi, hz, hsz, hzr⟩ := zero_ok h1
  have hzr' : CellsRep (fun a c => Rep g f st.size w a c ∧ c.oneCell' = true) zs z.cells := ⟨hzr.1, fun i a c ha hc => by
    have := cOk1_rep (w := w) (I := g.imm) (hzr.2 i a c ha hc); exact ⟨.plain this, this.oneCell⟩⟩
  have main : ∀ places : Nat → Option (Nat × Nat), places = (pl[·]?) → (∀ arr, Instr.fill places z.cells (ps.toList.map fun (i, x) => (i, Act.eval ⟨tmps, ds⟩ x)) = some arr → (Instr.build t (ps.map fun (i, x) => (i, Act.eval ⟨tmps, ds⟩ x))).run P w = .ok (.agg arr) w) →
      OpGoal P ⟨dst, .build t ps, ty, pos, aft, gd⟩ tmps ds g0 st0 w0 w (.agg cs) fr st := fun places hp hrun => by
    obtain ⟨arr, q1, q2⟩ := fill_parts (ds := ds) hI places ps.toList parts zs cs z.cells (by rw [hp]; exact h2) hcs hzr'
    have : arr = arr.toList.toArray := by simp
    refine .value hI (c := .agg arr.toList.toArray) ?_ (.agg cs arr.toList (by simpa using q2.1) (fun i a b => ?_) fun c hc => ?_)
    · rw [← this]; simp only [execOp]; exact run_v (hrun arr q1)
    · exact (q2.2 i _ _ (List.getElem?_eq_getElem a) (by simpa using List.getElem?_eq_getElem b)).1
    · obtain ⟨j, hj, rfl⟩ := List.getElem_of_mem hc
      have hj' : j < cs.length := by have := q2.1; simp at hj; omega
      exact (q2.2 j _ _ (List.getElem?_eq_getElem hj') (by simpa using List.getElem?_eq_getElem hj)).2
  unfold placesOf at hpl
  split at hpl
  · rename_i fields hu
    refine main _ rfl fun arr harr => run_build w t _ arr ?_
    simp only [Program.built, hi, hu, hz, hpl]
    simpa using harr
  · rename_i m e hu
    cases hie : P.info? e with
    | none => simp [hie] at hpl
    | some ie =>
      simp only [hie, Option.map_some, Option.some.injEq] at hpl
      refine main _ rfl fun arr harr => run_build w t _ arr ?_
      simp only [Program.built, hi, hu, hz, hie]
      have key : ∀ (l : List (Nat × Value)) (a : Array Value), Instr.fill (pl[·]?) a l = some arr → Instr.fill (fun i => some (i * ie.size, ie.size)) a l = some arr := by
        intro l
        induction l with
        | nil => intro a h; exact h
        | cons x l ih =>
          obtain ⟨i, v⟩ := x
          intro a h
          rw [Instr.fill] at h ⊢
          subst hpl
          by_cases hil : i < m
          · have hq : ((List.range m).map fun j => (j * ie.size, ie.size))[i]? = some (i * ie.size, ie.size) := by simp [hil]
            rw [hq] at h
            simp only at h ⊢
            split at h
            · cases h
            · rename_i hn; rw [if_neg hn]; exact ih _ h
          · rw [List.getElem?_eq_none (by simp; omega)] at h; cases h
      simpa using key _ _ harr
  · cases hpl
end
end Go.Proofs.YtelpkgbghhpgaaaGreatDoor.Sx
end
section
namespace Go.Proofs.YtelpkgbghhpgaaaGreatDoor.Sx
open AV
section
variable {g0 g g' : Gh} {st0 st : St} {w0 w w' : World} {f f' : Fh} {fr : Fr} {tmps : Array Value} {ds : List Deferred} {P : Program} {n n' : Nat} {o : Oper} {I : Nat → Nat → Prop}
theorem strip1_rep {v : AV} {c : Value} (h : Rep g f n w v c) : Rep g f n w v.strip1 c := by
  unfold strip1
  split
  · exact .plain h.slice_inv.1
  · exact h
theorem strip2_rep {v : AV} {c : Value} (h : Rep g f n w v c) : Rep g f n w v.strip2 c := by
  unfold strip2
  split
  · obtain ⟨vs, rfl, h2, h3, h4⟩ := h.agg_inv
    refine .agg _ vs (by simpa using h2) (fun i a b => ?_) h4
    simp only [List.getElem_map]
    exact strip1_rep (h3 i (by simpa using a) b)
  · exact strip1_rep h
theorem strip_rep {v : AV} {c : Value} (h : Rep g f n w v c) : Rep g f n w v.strip c := by
  unfold strip
  split
  · obtain ⟨vs, rfl, h2, h3⟩ := h.tuple_inv
    refine .tuple _ vs (by simpa using h2) (fun i a b => ?_)
    simp only [List.getElem_map]
    exact strip2_rep (h3 i (by simpa using a) b)
  · exact strip2_rep h
theorem stripC_rep {v : AV} {c : Value} (h : Rep g f n w v c) : Rep g f n w v.stripC c := by
  unfold stripC
  split
  · exact h
  · exact strip1_rep h
theorem plain1_okIn {v : AV} (h : v.plain1 = true) : v.okIn = true := by
  cases v <;> first
    | rfl
    | (simp [plain1] at h; done)
theorem flat_set {sz : Nat} {v : List AV} (hv : v.length = sz) : ∀ {els : List (List AV)} (i : Nat), (∀ e ∈ els, e.length = sz) → i < els.length → (els.set i v).flatten = splice els.flatten (i * sz) v
  | [], i, _, hi => by simp at hi
  | e :: r, 0, h, _ => by
    have he := h e (by simp)
    simp only [List.set_cons_zero, List.flatten_cons, splice, Nat.zero_mul, List.take_zero, List.nil_append, Nat.zero_add, hv, ← he, List.drop_left]
  | e :: r, i + 1, h, hi => by
    have he := h e (by simp)
    have h3 : e.take (i * sz + sz) = e := List.take_of_length_le (by rw [he]; omega)
    have h4 : e.drop (i * sz + sz + v.length) = [] := List.drop_eq_nil_of_le (by rw [he]; omega)
    simp only [List.set_cons_succ, List.flatten_cons]
    rw [flat_set hv i (fun x hx => h x (by simp [hx])) (by simpa using hi)]
    simp only [splice, Nat.succ_mul, List.take_append, List.drop_append, he, show i * sz + sz - sz = i * sz by omega, h3, h4, List.append_assoc, List.nil_append]
    congr 4
    omega
theorem fillS_ok (hI : Inv g0 st0 w0 g f fr st w tmps) {sz : Nat} : ∀ (ps : List (Nat × Operand)) (parts : List (Nat × Opd)) (els els' : List (List AV)) (arr : Array Value), chkPartS ps parts = true → fillS fr sz els parts = some els' → (∀ e ∈ els, e.length = sz) →
    CellsRep (PRep w g.imm) els.flatten arr → ∃ arr', Instr.fill (fun i => some (i * sz, sz)) arr (ps.map fun (i, x) => (i, Act.eval ⟨tmps, ds⟩ x)) = some arr' ∧ CellsRep (PRep w g.imm) els'.flatten arr' ∧ (∀ e ∈ els', e.length = sz) ∧ els'.length = els.length
  | [], [], els, els', arr, _, h, hu, hr => by simp only [fillS, Option.some.injEq] at h; subst h; exact ⟨arr, rfl, hr, hu, rfl⟩
  | (i, x) :: ps, (j, y) :: parts, els, els', arr, hc, h, hu, hr => by
    simp only [chkPartS, Bool.and_eq_true, beq_iff_eq] at hc
    obtain ⟨⟨rfl, h2⟩, h3⟩ := hc
    simp only [fillS] at h
    split at h
    case isFalse => cases h
    rename_i hk
    simp only [Bool.and_eq_true, decide_eq_true_eq, beq_iff_eq] at hk
    obtain ⟨⟨hk1, hk2⟩, hk3⟩ := hk
    have hx := strip2_rep (opd_rep (ds := ds) hI h2)
    obtain ⟨vs, e1, e2, e3, e4⟩ := cells_rep (List.all_eq_true.2 fun v hv => plain1_okIn (List.all_eq_true.1 hk3 v hv)) hx
    have hfl := flat_len hu
    have hbound : i * sz + sz ≤ els.length * sz := by
      have := Nat.mul_le_mul_right sz (show i + 1 ≤ els.length from hk2)
      rw [Nat.succ_mul] at this; exact this
    have hsz := hr.1
    have hr' := hr.put (off := i * sz) e2 (fun q a b => plain1_rep (List.all_eq_true.1 hk3 _ (List.getElem_mem a)) (e3 q a b)) (by omega)
    rw [← flat_set hk1 i hu hk2] at hr'
    obtain ⟨arr', q1, q2, q3, q4⟩ := fillS_ok hI ps parts _ els' _ h3 h (fun e he => by
      rcases List.mem_or_eq_of_mem_set he with he | rfl
      · exact hu e he
      · exact hk1) hr'
    refine ⟨arr', ?_, q2, q3, by simpa using q4⟩
    rw [List.map_cons, fill_step (fun i => some (i * sz, sz)) rfl e1 (by omega) (by omega)]
    exact q1
  | [], _ :: _, _, _, _, hc, _, _, _ => by simp [chkPartS] at hc
  | _ :: _, [], _, _, _, hc, _, _, _ => by simp [chkPartS] at hc
theorem rep_flatten (zs : List AV) : ∀ (m i : Nat) , i < m * zs.length → (List.replicate m zs).flatten[i]? = zs[i % zs.length]?
  | 0, i, h => by omega
  | m + 1, i, h => by
    rw [List.replicate_succ, List.flatten_cons]
    by_cases hi : i < zs.length
    · rw [List.getElem?_append_left hi, Nat.mod_eq_of_lt hi]
    · rw [List.getElem?_append_right (by omega), rep_flatten zs m (i - zs.length) (by rw [Nat.succ_mul] at h; omega)]
      congr 1
      exact (Nat.mod_eq_sub_mod (by omega)).symm
theorem Inv.newRow (hI : Inv g0 st0 w0 g f fr st w tmps) {w1 : World} {sz : Nat} {els : List (List AV)} {arr : Array Value} {e : TypeId} {fz : Nat × Nat} {cap : Nat} (hw : w1 = w.alloc (.cells arr e fz) ∨ w1 = w.drew.alloc (.cells arr e fz))
    (hr : ∀ (i : Nat) (a : AV), els.flatten[i]? = some a → ∃ c, arr[i]? = some c ∧ PRep w g.imm a c) (hu : ∀ x ∈ els, x.length = sz) (hcap : els.length ≤ cap) :
    ∃ g', Inv g0 st0 w0 g' f fr st w1 tmps ∧ PRep w1 g'.imm (.slice sz els .no) (.slice (some ⟨w.heap.size, 0, none⟩) els.length cap) := by
  have hc : Chg (fun _ => False) w w1 := by
    rcases hw with rfl | rfl
    · exact Chg.alloc _ _ _
    · exact ((Chg.refl _ _).drew).trans (Chg.alloc _ _ _)
  have hnew : w1.heap[w.heap.size]? = some (.cells arr e fz) := by
    rcases hw with rfl | rfl
    · show (w.heap.push _)[w.heap.size]? = _; simp
    · show (w.heap.push _)[w.heap.size]? = _; simp
  have hsz : w.heap.size < w1.heap.size := by
    rcases hw with rfl | rfl
    · simp
    · show w.heap.size < (w.drew.alloc _).heap.size
      simp
  refine ⟨g.wide fun b o => g.imm b o ∨ b = w.heap.size, hI.quiet hc (fun _ _ h => .inl h) (fun b o h => h.imp id fun h => by subst h; exact ⟨Nat.le_refl _, hsz⟩), ?_⟩
  refine PRep.of_row hu hcap (vs := fun k => arr.getD k undef) ⟨fun _ => rfl, fun k hk => ⟨.inr rfl, ?_⟩, fun k hk => ?_⟩
  · obtain ⟨c, h1, _⟩ := hr k _ (List.getElem?_eq_getElem hk)
    simp [World.cell?, hnew, h1]
  · obtain ⟨c, h1, h2⟩ := hr k _ (List.getElem?_eq_getElem hk)
    have : arr.getD k undef = c := by simp [Array.getD_eq_getD_getElem?, h1]
    rw [this]
    exact h2.mono (fun _ _ h => .inl h) fun b o h => cell_of_block (hc.block b (hI.h.immlt b o h) id) o
theorem cells_get {R : AV → Value → Prop} {cs : List AV} {arr : Array Value} (h : CellsRep R cs arr) (i : Nat) (a : AV) (ha : cs[i]? = some a) : ∃ c, arr[i]? = some c ∧ R a c := by
  have hi := (List.getElem?_eq_some_iff.1 ha).1
  have := h.1
  exact ⟨arr[i]'(by omega), by simp [show i < arr.size by omega], h.2 i a _ ha (by simp [show i < arr.size by omega])⟩
theorem ok_bslice {sz len : Nat} {zs : List AV} {parts : List (Nat × Opd)} {v : AV} {fr' : Fr} {st' : St} (hI : Inv g0 st0 w0 g f fr st w tmps) (hc : chkOp P o (.bslice sz zs len parts) = true) (hs : step fr st (.bslice sz zs len parts) = some (v, fr', st')) :
    OpGoal P o tmps ds g0 st0 w0 w v fr' st' := by
  obtain ⟨dst, op, ty, pos, aft, gd⟩ := o
  simp only [chkOp] at hc
  cases op <;> first
    | (simp at hc; done)
    | skip
  rename_i t m ps
  simp only [Bool.and_eq_true, beq_iff_eq] at hc
  obtain ⟨⟨rfl, h2⟩, h3⟩ := hc
  split at h2
  case h_2 => cases h2
  rename_i e hu
  simp only [Bool.and_eq_true, beq_iff_eq, decide_eq_true_eq] at h2
  obtain ⟨⟨⟨h1, rfl⟩, hbig⟩, hpos⟩ := h2
  simp only [step] at hs
  split at hs
  case h_2 => cases hs
  rename_i els hels
  cases hs
  obtain ⟨i, z, hi, hz, hsz, hzr⟩ := zero_ok h1
  have hzs := hzr.1
  have huni : ∀ x ∈ List.replicate m zs, x.length = zs.length := fun x hx => by rw [(List.mem_replicate.1 hx).2]
  have h0 : CellsRep (PRep w g.imm) (List.replicate m zs).flatten ((Array.range (m * i.size)).map (z.cells[· % z.cells.size]!)) := by
    have hl : (List.replicate m zs).flatten.length = m * zs.length := by simp
    refine ⟨by simp [hsz], fun j a c ha hc => ?_⟩
    have hj : j < m * zs.length := by rw [← hl]; exact (List.getElem?_eq_some_iff.1 ha).1
    rw [rep_flatten zs m j hj] at ha
    have hm : j % zs.length < zs.length := Nat.mod_lt _ hpos
    rw [hsz] at hc
    simp [hj] at hc
    subst hc
    refine cOk1_rep (hzr.2 (j % zs.length) a _ ha ?_)
    rw [← hzs, getElem!_pos z.cells (j % zs.length) (by omega)]
    simp [show j % zs.length < z.cells.size by omega]
  obtain ⟨arr, q1, q2, q3, q4⟩ := fillS_ok (ds := ds) hI ps.toList parts _ els _ h3 hels huni h0
  simp only [List.length_replicate] at q4
  have hrun : (Instr.buildSlice t m (ps.map fun (i, x) => (i, Act.eval ⟨tmps, ds⟩ x))).run P w = .ok (.slice (some ⟨w.heap.size, 0, none⟩) m m) (w.alloc (.cells arr e)) := by
    by_cases hm : m * i.size = 0
    · have hm0 : m = 0 := by
        rcases Nat.mul_eq_zero.1 hm with h | h
        · exact h
        · omega
      subst hm0
      have : ps.toList = [] ∧ arr = #[] := by
        cases hps : ps.toList with
        | nil => rw [hps] at q1; simp [Instr.fill, show Array.range 0 = #[] from rfl] at q1; exact ⟨rfl, q1⟩
        | cons p l =>
          rw [hps] at h3
          cases parts with
          | nil => simp [chkPartS] at h3
          | cons q r => simp [fillS] at hels
      obtain ⟨e1, rfl⟩ := this
      have e2 : ps = #[] := by simpa using e1
      subst e2
      simp [Instr.buildSlice, run_underlying hu, sizeOf, typeInfo, zeroValue, hi, hz, newRow, Instr.fill, show Array.range 0 = #[] from rfl]
    · exact run_buildSlice w t e m _ arr i z hu hi hz (by rw [hsz]; omega) hm (by rw [hsz] at q1 ⊢; simpa using q1)
  obtain ⟨g', k1, k2⟩ := hI.newRow (cap := m) (e := e) (.inl rfl) (fun i a ha => cells_get q2 i a ha) q3 (by omega)
  rw [q4] at k2
  refine ⟨.value _, _, g', f, _, ?_, .inl rfl, .slice _ _ _ _ k2 ⟨some ⟨w.heap.size, 0, none⟩, by rw [q4]⟩, k1⟩
  simp only [execOp]
  exact run_v hrun
theorem bytes_len : ∀ {els : List (List AV)} {l : List UInt8}, bytesOf els = some l → els.length = l.length ∧ ∀ (i : Nat) (b : UInt8), l[i]? = some b → els[i]? = some [AV.int .u8 (b.toNat : Int)]
  | [], l, h => by simp [bytesOf] at h; subst h; exact ⟨rfl, fun i b hb => by simp at hb⟩
  | e :: r, l, h => by
    unfold bytesOf at h
    split at h
    · rename_i e'; cases e'
    · rename_i k r' e'
      cases e'
      split at h
      case isFalse => cases h
      rename_i hk
      split at h
      case h_2 => cases h
      rename_i l' hl'
      cases h
      obtain ⟨h1, h2⟩ := bytes_len hl'
      refine ⟨by simp [h1], fun i b hb => ?_⟩
      cases i with
      | zero =>
        simp at hb; subst hb
        have : ((UInt8.ofNat k.toNat).toNat : Int) = k := by
          rw [UInt8.toNat_ofNat']; omega
        simp only [List.getElem?_cons_zero, this]
      | succ i => simpa using h2 i b (by simpa using hb)
    · cases h
theorem ok_b2s {y : Opd} {v : AV} {fr' : Fr} {st' : St} (hI : Inv g0 st0 w0 g f fr st w tmps) (hc : chkOp P o (.b2s y) = true) (hs : step fr st (.b2s y) = some (v, fr', st')) : OpGoal P o tmps ds g0 st0 w0 w v fr' st' := by
  obtain ⟨dst, op, ty, pos, aft, gd⟩ := o
  simp only [chkOp] at hc
  cases op <;> first
    | (simp at hc; done)
    | skip
  rename_i s d x
  simp only [Bool.and_eq_true] at hc
  obtain ⟨h1, h2⟩ := hc
  have h1 := opd_rep (ds := ds) hI h1
  split at h2
  case h_2 => cases h2
  rename_i e hs1 hd1
  split at h2
  case h_2 => cases h2
  rename_i he
  simp only [step] at hs
  split at hs
  case h_2 => cases hs
  rename_i els hels
  split at hs
  case h_2 => cases hs
  rename_i l hl
  cases hs
  refine .value hI ?_ (.plain (.str l))
  simp only [execOp]
  refine run_v ?_
  obtain ⟨hlen, hget⟩ := bytes_len hl
  unfold elsOf at hels
  split at hels
  · rename_i e1; cases hels; rw [e1] at h1
    rw [h1.nilslice_inv, run_convert_bytes_string w s d e _ 0 0 hs1 he hd1]
    have : l = [] := List.eq_nil_of_length_eq_zero (by simpa using hlen.symm)
    subst this; simp [Conv.bytesToString]; rfl
  · rename_i els' own e1
    split at hels
    case isFalse => cases hels
    rename_i hsz; subst hsz
    cases hels
    rw [e1] at h1
    obtain ⟨_, a, cap, vs, h4, h5, h6, h7⟩ := h1.slice_inv.1.slice_inv
    rw [h4, hlen]
    refine run_convert_bytes_back w s d e a cap l hs1 he hd1 fun j hj => ?_
    have hg := hget j _ (List.getElem?_eq_getElem hj)
    have hfl := flat_len h5
    have hjf : j < els.flatten.length := by omega
    have hjv : els.flatten[j] = .int .u8 (l[j].toNat : Int) := by
      have := flat_get h5 hg
      simp only [Nat.mul_one] at this
      rw [List.drop_eq_getElem_cons hjf] at this
      exact ((List.cons.inj this).1).symm
    rw [add_row (h7.spot (by omega)), (h7.row j hjf).2]
    have := h7.el j hjf
    rw [hjv] at this
    generalize vs j = vj at this
    cases this; rfl
  · cases hels
theorem ok_s2b {y : Opd} {v : AV} {fr' : Fr} {st' : St} (hI : Inv g0 st0 w0 g f fr st w tmps) (hc : chkOp P o (.s2b y) = true) (hs : step fr st (.s2b y) = some (v, fr', st')) : OpGoal P o tmps ds g0 st0 w0 w v fr' st' := by
  obtain ⟨dst, op, ty, pos, aft, gd⟩ := o
  simp only [chkOp] at hc
  cases op <;> first
    | (simp at hc; done)
    | skip
  rename_i s d x
  simp only [Bool.and_eq_true] at hc
  obtain ⟨h1, h2⟩ := hc
  have h1 := opd_rep (ds := ds) hI h1
  split at h2
  case h_2 => cases h2
  rename_i e hs1 hd1
  split at h2
  case h_2 => cases h2
  rename_i he
  simp only [step] at hs
  split at hs
  case h_2 => cases hs
  rename_i l hl
  split at hs
  case isFalse => cases hs
  rename_i hbig
  cases hs
  rw [hl] at h1
  have hrun := run_bytes_of_string (P := P) w s d e ⟨l.toArray⟩ hs1 hd1 he
  have hfl : (l.map fun b => [AV.int .u8 (b.toNat : Int)]).flatten = l.map fun b => AV.int .u8 (b.toNat : Int) := by
    clear hrun hl h1 hbig
    induction l with
    | nil => rfl
    | cons b l ih => simp [ih]
  obtain ⟨g', k1, k2⟩ := hI.newRow (sz := 1) (els := l.map fun b => [AV.int .u8 (b.toNat : Int)]) (cap := grownCap w l.length 0 e) (.inr rfl) (arr := bytesRow ⟨l.toArray⟩ (grownCap w l.length 0 e)) (e := e)
    (fz := ((bytesRow ⟨l.toArray⟩ (grownCap w l.length 0 e)).size, (bytesRow ⟨l.toArray⟩ (grownCap w l.length 0 e)).size + 1)) (fun i a ha => by
      rw [hfl] at ha
      obtain ⟨hi, rfl⟩ := List.getElem?_eq_some_iff.1 ha
      have hi' : i < l.length := by simpa using hi
      refine ⟨.int .u8 (l[i].toNat : Int), ?_, by simp only [List.getElem_map]; exact .int _ _⟩
      unfold bytesRow
      rw [Array.getElem?_append_left (by simpa using hi')]
      simp [hi']) (fun x hx => by simp at hx; obtain ⟨b, _, rfl⟩ := hx; rfl) (by simpa using grownCap_ge w l.length 0 e)
  refine ⟨.value _, _, g', f, _, ?_, .inl rfl, .plain k2, k1⟩
  simp only [execOp, h1.str_inv]
  refine run_v ?_
  simpa [size_mk] using hrun
end
end Go.Proofs.YtelpkgbghhpgaaaGreatDoor.Sx
end
