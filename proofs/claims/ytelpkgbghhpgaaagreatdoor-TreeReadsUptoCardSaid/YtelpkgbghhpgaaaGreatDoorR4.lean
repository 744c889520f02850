/- TreeReads returns true for all texts whose data are not larger than a bound. The program's functions as plain code. -/
import Derived.Test.YtelpkgbghhpgaaaGreatDoorR3
set_option linter.all false
section
namespace Go.Proofs.YtelpkgbghhpgaaaGreatDoor.Sx
open AV
section
variable {g0 g : Gh} {st0 st : St} {w0 w w' : World} {f f' : Fh} {fr : Fr} {tmps : Array Value} {ds : List Deferred} {P : Program} {n : Nat} {o : Oper} {I : Nat → Nat → Prop}
theorem RowRep.drop {cs : List AV} {a : Addr} {vs : Nat → Value} (h : RowRep w I cs a vs) (off : Nat) : RowRep w I (cs.drop off) (a.add off) (fun k => vs (off + k)) := by
  by_cases hp : 0 < (cs.drop off).length
  · have hp' : off < cs.length := by simp at hp; omega
    have hs := h.spot (by omega)
    rw [add_row hs]
    refine ⟨fun _ => rfl, fun k hk => ?_, fun k hk => ?_⟩
    · have := h.row (off + k) (by simp at hk; omega)
      simpa [Nat.add_assoc] using this
    · simp only [List.getElem_drop]
      exact h.el (off + k) _
  · exact ⟨fun h => absurd h hp, fun k hk => absurd hk (by omega), fun k hk => absurd hk (by omega)⟩
theorem RowRep.take {cs : List AV} {a : Addr} {vs : Nat → Value} (h : RowRep w I cs a vs) (m : Nat) : RowRep w I (cs.take m) a vs := by
  refine ⟨fun hp => h.spot (by simp at hp; omega), fun k hk => h.row k (by simp at hk; omega), fun k hk => ?_⟩
  simp only [List.getElem_take]
  exact h.el k _
theorem RowRep.nil {a : Addr} {vs : Nat → Value} : RowRep w I [] a vs := ⟨fun h => absurd h (by simp), fun k hk => absurd hk (by simp), fun k hk => absurd hk (by simp)⟩
theorem flat_drop {sz : Nat} : ∀ {els : List (List AV)} (l : Nat), (∀ e ∈ els, e.length = sz) → (els.drop l).flatten = els.flatten.drop (l * sz)
  | [], l, _ => by simp
  | e :: r, 0, _ => by simp
  | e :: r, l + 1, h => by
    have he := h e (by simp)
    have h3 : e.drop (l * sz + sz) = [] := List.drop_eq_nil_of_le (by rw [he]; omega)
    rw [List.drop_succ_cons, flat_drop l (fun x hx => h x (by simp [hx])), List.flatten_cons, List.drop_append, he, Nat.succ_mul, show l * sz + sz - sz = l * sz by omega, h3, List.nil_append]
theorem flat_take {sz : Nat} : ∀ {els : List (List AV)} (l : Nat), (∀ e ∈ els, e.length = sz) → (els.take l).flatten = els.flatten.take (l * sz)
  | [], l, _ => by simp
  | e :: r, 0, _ => by simp
  | e :: r, l + 1, h => by
    have he := h e (by simp)
    have h3 : e.take (l * sz + sz) = e := List.take_of_length_le (by rw [he]; omega)
    rw [List.take_succ_cons, List.flatten_cons, flat_take l (fun x hx => h x (by simp [hx])), List.flatten_cons, List.take_append, he, Nat.succ_mul, show l * sz + sz - sz = l * sz by omega, h3]
theorem flat_len {sz : Nat} : ∀ {els : List (List AV)}, (∀ e ∈ els, e.length = sz) → els.flatten.length = els.length * sz
  | [], _ => by simp
  | e :: r, h => by
    rw [List.flatten_cons, List.length_append, flat_len (fun x hx => h x (by simp [hx])), h e (by simp), List.length_cons, Nat.succ_mul]
    omega
theorem flat_get {sz : Nat} {els : List (List AV)} {i : Nat} {e : List AV} (h : ∀ e ∈ els, e.length = sz) (hi : els[i]? = some e) : e = (els.flatten.drop (i * sz)).take sz := by
  obtain ⟨hlt, he⟩ := List.getElem?_eq_some_iff.1 hi
  rw [← flat_drop i h, show els.drop i = els[i] :: els.drop (i + 1) from List.drop_eq_getElem_cons hlt, he, List.flatten_cons]
  rw [List.take_left' (h e (he ▸ List.getElem_mem hlt))]
theorem chkSz_ok {t k : Nat} (h : chkSz P t k = true) (w : World) : (sizeOf t).run P w = .ok k w := by
  unfold chkSz at h
  split at h
  · rename_i i hi
    simp only [beq_iff_eq] at h
    simp [sizeOf, typeInfo, hi, h]
  · cases h
theorem ok_addr {y : Opd} {off : Nat} {v : AV} {fr' : Fr} {st' : St} (hI : Inv g0 st0 w0 g f fr st w tmps) (hc : chkOp P o (.addr y off) = true) (hs : step fr st (.addr y off) = some (v, fr', st')) : OpGoal P o tmps ds g0 st0 w0 w v fr' st' := by
  obtain ⟨dst, op, ty, pos, aft, gd⟩ := o
  simp only [chkOp] at hc
  cases op <;> first
    | (simp at hc; done)
    | skip
  rename_i s x i
  simp only [Bool.and_eq_true] at hc
  obtain ⟨h1, h2⟩ := hc
  have h1 := opd_rep (ds := ds) hI h1
  unfold chkFieldAddr at h2
  split at h2
  case h_2 => cases h2
  rename_i fields hu
  split at h2
  case h_2 => cases h2
  rename_i fd hfd
  simp only [Bool.and_eq_true, beq_iff_eq] at h2
  obtain ⟨rfl, h2⟩ := h2
  split at h2
  case h_2 => cases h2
  rename_i ti hti
  have hz : ti.size ≠ 0 := by simpa using h2
  have run : ∀ a, Act.eval ⟨tmps, ds⟩ x = .pointer (some a) → (execOp (Act.eval ⟨tmps, ds⟩) ⟨dst, .fieldAddr s x i, ty, pos, aft, gd⟩).run P w = .ok (.value (.pointer (some (a.add fd.offset)))) w := fun a ha => by
    simp only [execOp, ha]
    exact run_v (by simp [Instr.fieldAt, run_underlying hu, hfd, Instr.sureAddr, fieldPlace, sizeOf, typeInfo, hti, hz])
  simp only [step] at hs
  split at hs
  · rename_i id o' e; rw [e] at h1; cases hs
    obtain ⟨hid, h3⟩ := h1.ptr_inv
    refine .value hI (run _ h3) ?_
    rw [add_lit]; exact .ptr _ _ hid
  · rename_i e; rw [e] at h1; cases hs
    obtain ⟨b, hb, h3⟩ := h1.lptr_inv
    refine .value hI (run _ h3) ?_
    rw [add_lit]; exact .lptr _ _ _ _ hb
  · rename_i cs e; rw [e] at h1; cases hs
    obtain ⟨a, vs, hr, h3⟩ := h1.vptr_inv
    exact .value hI (run _ h3) (.vptr _ _ _ (hr.drop _))
  · cases hs
theorem run_part {t k off : Nat} {a : Bool} {vs : Array Value} (ht : chkTy P t k a = true) :
    (a = true → (part t vs off).run P w = .ok (.agg (vs.extract off (off + k))) w) ∧ (a = false → ∀ c, vs[off]? = some c → (part t vs off).run P w = .ok c w) := by
  obtain ⟨h1, h2, _⟩ := chkTy_ok ht w
  exact ⟨fun e => by subst e; simp [part, h2, h1], fun e c hc => by subst e; simp [part, h2, hc]⟩
theorem part_ok {t k off : Nat} {a : Bool} {cs : List AV} {vs : List Value} {v : AV} (ht : chkTy P t k a = true) (hl : cs.length = vs.length)
    (hr : ∀ i (h : i < cs.length) (h' : i < vs.length), Rep g f n w cs[i] vs[i]) (h1 : ∀ c ∈ vs, c.oneCell' = true) (h : rd cs off k a = some v) : ∃ c, (part t vs.toArray off).run P w = .ok c w ∧ Rep g f n w v c := by
  obtain ⟨k1, k2⟩ := rd_rep (vs := vs.toArray) (by simpa using hl) (fun i a a' => ⟨by simpa using hr i a (by simpa using a'), by simpa using h1 _ (List.getElem_mem (by simpa using a'))⟩) h
  obtain ⟨p1, p2⟩ := run_part (w := w) (vs := vs.toArray) (off := off) ht
  cases a with
  | true => exact ⟨_, p1 rfl, (k1 rfl).1⟩
  | false => obtain ⟨c, hc, hr⟩ := k2 rfl; exact ⟨c, p2 rfl c hc, hr⟩
theorem ok_part {y : Opd} {off k : Nat} {a : Bool} {v : AV} {fr' : Fr} {st' : St} (hI : Inv g0 st0 w0 g f fr st w tmps) (hc : chkOp P o (.part y off k a) = true) (hs : step fr st (.part y off k a) = some (v, fr', st')) : OpGoal P o tmps ds g0 st0 w0 w v fr' st' := by
  obtain ⟨dst, op, ty, pos, aft, gd⟩ := o
  simp only [chkOp] at hc
  cases op <;> first
    | (simp at hc; done)
    | skip
  rename_i s x i
  simp only [Bool.and_eq_true] at hc
  obtain ⟨h1, h2⟩ := hc
  have h1 := opd_rep (ds := ds) hI h1
  unfold chkField at h2
  split at h2
  case h_2 => cases h2
  rename_i fields hu
  split at h2
  case h_2 => cases h2
  rename_i fd hfd
  simp only [Bool.and_eq_true, beq_iff_eq] at h2
  obtain ⟨rfl, h2⟩ := h2
  simp only [step] at hs
  split at hs
  case h_2 => cases hs
  rename_i cs e; rw [e] at h1
  split at hs
  case h_2 => cases hs
  rename_i v' hv; cases hs
  obtain ⟨vs, h3, h4, h5, h6⟩ := h1.agg_inv
  obtain ⟨c, hr, hrep⟩ := part_ok h2 h4 h5 h6 hv
  refine .value hI ?_ hrep
  simp only [execOp, h3]
  exact run_v (by simp [Instr.field, run_underlying hu, hfd, asAgg, hr])
theorem intOf_inv {x : AV} {k : Int} {c : Value} (h : intOf? x = some k) (hr : Rep g f n w x c) : ∃ ik, c = .int ik k := by
  unfold intOf? at h
  split at h
  · cases h; exact ⟨_, hr.int_inv⟩
  · cases h
theorem ok_ixa {y i : Opd} {sz : Nat} {v : AV} {fr' : Fr} {st' : St} (hI : Inv g0 st0 w0 g f fr st w tmps) (hc : chkOp P o (.ixa y i sz) = true) (hs : step fr st (.ixa y i sz) = some (v, fr', st')) : OpGoal P o tmps ds g0 st0 w0 w v fr' st' := by
  obtain ⟨dst, op, ty, pos, aft, gd⟩ := o
  simp only [chkOp] at hc
  cases op <;> first
    | (simp at hc; done)
    | skip
  rename_i t x ix
  simp only [Bool.and_eq_true] at hc
  obtain ⟨⟨h1, h2⟩, h3⟩ := hc
  have h1 := opd_rep (ds := ds) hI h1
  have h2 := opd_rep (ds := ds) hI h2
  split at h3
  case h_2 => cases h3
  rename_i el hu
  simp only [step] at hs
  split at hs
  case h_2 => cases hs
  rename_i k hk
  obtain ⟨ik, h2⟩ := intOf_inv hk h2
  split at hs
  case h_2 => cases hs
  rename_i e he
  cases hs
  unfold elA at he
  split at he
  case h_2 => cases he
  rename_i s els own ey
  rw [ey] at h1
  obtain ⟨_, a, cap, vs, h4, h5, h6, h7⟩ := h1.slice_inv.1.slice_inv
  split at he
  case isFalse => cases he
  rename_i hk0
  obtain ⟨rfl, hk0⟩ := hk0
  have hlt := (List.getElem?_eq_some_iff.1 he).1
  refine .value hI ?_ (.vptr _ _ _ (flat_get h5 he ▸ ((h7.drop (k.toNat * s)).take s)))
  simp only [execOp, h4, h2]
  refine run_v ?_
  simp [Instr.indexAt, asIntOf, run_underlying hu, chkSz_ok h3, show 0 ≤ k ∧ k < (els.length : Int) by omega]
theorem ok_ixp {y i : Opd} {len sz : Nat} {v : AV} {fr' : Fr} {st' : St} (hI : Inv g0 st0 w0 g f fr st w tmps) (hc : chkOp P o (.ixp y i len sz) = true) (hs : step fr st (.ixp y i len sz) = some (v, fr', st')) : OpGoal P o tmps ds g0 st0 w0 w v fr' st' := by
  obtain ⟨dst, op, ty, pos, aft, gd⟩ := o
  simp only [chkOp] at hc
  cases op <;> first
    | (simp at hc; done)
    | skip
  rename_i t x ix
  simp only [Bool.and_eq_true] at hc
  obtain ⟨⟨h1, h2⟩, h3⟩ := hc
  have h1 := opd_rep (ds := ds) hI h1
  have h2 := opd_rep (ds := ds) hI h2
  split at h3
  case h_2 => cases h3
  rename_i m el hu
  simp only [Bool.and_eq_true, beq_iff_eq] at h3
  obtain ⟨rfl, h3⟩ := h3
  simp only [step] at hs
  split at hs
  case h_2 => cases hs
  rename_i k hk
  obtain ⟨ik, h2⟩ := intOf_inv hk h2
  split at hs
  case isFalse => cases hs
  rename_i hkk
  have run : ∀ a, Act.eval ⟨tmps, ds⟩ x = .pointer (some a) → (execOp (Act.eval ⟨tmps, ds⟩) ⟨dst, .indexAddr t x ix, ty, pos, aft, gd⟩).run P w = .ok (.value (.pointer (some (a.add (k.toNat * sz))))) w := fun a ha => by
    simp only [execOp, ha, h2]
    exact run_v (by simp [Instr.indexAt, asIntOf, run_underlying hu, chkSz_ok h3, Instr.sureAddr, hkk])
  split at hs
  · rename_i id o' e; rw [e] at h1; cases hs
    obtain ⟨hid, h3⟩ := h1.ptr_inv
    refine .value hI (run _ h3) ?_
    rw [add_lit]; exact .ptr _ _ hid
  · rename_i e; rw [e] at h1; cases hs
    obtain ⟨b, hb, h3⟩ := h1.lptr_inv
    refine .value hI (run _ h3) ?_
    rw [add_lit]; exact .lptr _ _ _ _ hb
  · rename_i cs e; rw [e] at h1; cases hs
    obtain ⟨a, vs, hr, h3⟩ := h1.vptr_inv
    exact .value hI (run _ h3) (.vptr _ _ _ (hr.drop _))
  · cases hs
theorem mk_get (s : List UInt8) (k : Nat) : (⟨s.toArray⟩ : ByteArray)[k]? = s[k]? := by
  by_cases h : k < s.length
  · rw [List.getElem?_eq_getElem h, getElem?_pos (⟨s.toArray⟩ : ByteArray) k (show k < (⟨s.toArray⟩ : ByteArray).size from h)]
    rfl
  · rw [List.getElem?_eq_none (by omega), getElem?_neg (⟨s.toArray⟩ : ByteArray) k (show ¬ k < (⟨s.toArray⟩ : ByteArray).size from h)]
theorem ok_ixs {y i : Opd} {v : AV} {fr' : Fr} {st' : St} (hI : Inv g0 st0 w0 g f fr st w tmps) (hc : chkOp P o (.ixs y i) = true) (hs : step fr st (.ixs y i) = some (v, fr', st')) : OpGoal P o tmps ds g0 st0 w0 w v fr' st' := by
  obtain ⟨dst, op, ty, pos, aft, gd⟩ := o
  simp only [chkOp] at hc
  cases op <;> first
    | (simp at hc; done)
    | skip
  rename_i t x ix
  simp only [Bool.and_eq_true] at hc
  obtain ⟨⟨h1, h2⟩, h3⟩ := hc
  have h1 := opd_rep (ds := ds) hI h1
  have h2 := opd_rep (ds := ds) hI h2
  split at h3
  case h_2 => cases h3
  rename_i hu
  simp only [step] at hs
  split at hs
  case h_2 => cases hs
  rename_i s k es hk
  rw [es] at h1
  have h1 := h1.str_inv
  obtain ⟨ik, h2⟩ := intOf_inv hk h2
  split at hs
  case isFalse => cases hs
  rename_i hk0
  split at hs
  case h_2 => cases hs
  rename_i b hb
  cases hs
  refine .value hI ?_ (.plain (.int _ _))
  simp only [execOp, h1, h2]
  refine run_v ?_
  simp [Instr.index, asIntOf, run_underlying hu, hk0, mk_get, hb]
theorem ok_ixv {y i : Opd} {len sz : Nat} {a : Bool} {v : AV} {fr' : Fr} {st' : St} (hI : Inv g0 st0 w0 g f fr st w tmps) (hc : chkOp P o (.ixv y i len sz a) = true) (hs : step fr st (.ixv y i len sz a) = some (v, fr', st')) : OpGoal P o tmps ds g0 st0 w0 w v fr' st' := by
  obtain ⟨dst, op, ty, pos, aft, gd⟩ := o
  simp only [chkOp] at hc
  cases op <;> first
    | (simp at hc; done)
    | skip
  rename_i t x ix
  simp only [Bool.and_eq_true] at hc
  obtain ⟨⟨h1, h2⟩, h3⟩ := hc
  have h1 := opd_rep (ds := ds) hI h1
  have h2 := opd_rep (ds := ds) hI h2
  split at h3
  case h_2 => cases h3
  rename_i m el hu
  simp only [Bool.and_eq_true, beq_iff_eq] at h3
  obtain ⟨rfl, h3⟩ := h3
  simp only [step] at hs
  split at hs
  case h_2 => cases hs
  rename_i cs k ec hk
  rw [ec] at h1
  obtain ⟨ik, h2⟩ := intOf_inv hk h2
  split at hs
  case isFalse => cases hs
  rename_i hkk
  split at hs
  case h_2 => cases hs
  rename_i v' hv; cases hs
  obtain ⟨vs, h4, h5, h6, h7⟩ := h1.agg_inv
  obtain ⟨c, hr, hrep⟩ := part_ok h3 h5 h6 h7 hv
  refine .value hI ?_ hrep
  simp only [execOp, h4, h2]
  exact run_v (by simp [Instr.index, asIntOf, run_underlying hu, hkk, hr, (chkTy_ok h3 w).1])
end
end Go.Proofs.YtelpkgbghhpgaaaGreatDoor.Sx
end
section
namespace Go.Proofs.YtelpkgbghhpgaaaGreatDoor.Sx
open AV
section
variable {g0 g : Gh} {st0 st : St} {w0 w w' : World} {f f' : Fh} {fr : Fr} {tmps : Array Value} {ds : List Deferred} {P : Program} {n : Nat} {o : Oper} {I : Nat → Nat → Prop}
theorem run_fold {fn : Value → Value → Sem Value} {mx : Bool} (hf : ∀ k k' x y, fn (.int k x) (.int k' y) = pure (.int k (if mx then (if y > x then y else x) else (if y < x then y else x)))) :
    ∀ (vs : List AV) (cs : List Value) (k : IntKind) (x : Int) (v : AV), vs.length = cs.length → (∀ i (h : i < vs.length) (h' : i < cs.length), Rep g f n w vs[i] cs[i]) → foldMM mx k x vs = some v →
      ∃ m, v = .int k m ∧ (cs.foldlM fn (.int k x)).run P w = .ok (.int k m) w
  | [], [], k, x, v, _, _, h => by simp [foldMM] at h; exact ⟨x, h.symm, by simp⟩
  | a :: vs, c :: cs, k, x, v, hl, hr, h => by
    unfold foldMM at h
    split at h
    · rename_i e; cases e
    · rename_i k' y r e
      cases e
      split at h
      · rename_i hk; subst hk
        have h0 := (hr 0 (by simp) (by simp)).int_inv
        simp only [List.getElem_cons_zero] at h0; subst h0
        obtain ⟨m, h1, h2⟩ := run_fold hf vs cs k _ v (by simpa using hl) (fun i a b => hr (i + 1) (Nat.succ_lt_succ a) (Nat.succ_lt_succ b)) h
        exact ⟨m, h1, by simp [List.foldlM_cons, hf]; exact h2⟩
      · cases h
    · cases h
  | [], _ :: _, _, _, _, hl, _, _ => by simp at hl
  | _ :: _, [], _, _, _, hl, _, _ => by simp at hl
theorem ok_minmax {mx : Bool} {ys : List Opd} {v : AV} {fr' : Fr} {st' : St} (hI : Inv g0 st0 w0 g f fr st w tmps) (hc : chkOp P o (.minmax mx ys) = true) (hs : step fr st (.minmax mx ys) = some (v, fr', st')) : OpGoal P o tmps ds g0 st0 w0 w v fr' st' := by
  obtain ⟨dst, op, ty, pos, aft, gd⟩ := o
  simp only [chkOp] at hc
  cases op <;> first
    | (simp at hc; done)
    | skip
  rename_i c
  obtain ⟨cal, args, ats⟩ := c
  simp only [chkCall] at hc
  simp only [step] at hs
  split at hs
  case h_2 => cases hs
  rename_i k x r hr
  split at hs
  case h_2 => cases hs
  rename_i v' hv
  cases hs
  have main : ∀ b : Bool, mx = b → chkOpds args.toList ys = true → (∀ b : Builtin, cal = .builtin b → True) → ∃ c0 cs m, args.toList.map (Act.eval ⟨tmps, ds⟩) = .int k c0 :: cs ∧ v = .int k m ∧
      (∀ fn : Value → Value → Sem Value, (∀ k k' x y, fn (.int k x) (.int k' y) = pure (.int k (if b then (if y > x then y else x) else (if y < x then y else x)))) → (cs.foldlM fn (.int k c0)).run P w = .ok (.int k m) w) := by
    intro b hb ha _
    subst hb
    obtain ⟨l1, l2⟩ := map_rep (ds := ds) hI ha
    rw [hr] at l1 l2
    generalize args.toList.map (Act.eval ⟨tmps, ds⟩) = cc at l1 l2
    cases cc with
    | nil => simp at l1
    | cons c0 cs =>
      have h0 := (l2 0 (by simp) (by simp)).int_inv
      simp only [List.getElem_cons_zero] at h0; subst h0
      have hm : ∃ m, v = .int k m := by
        obtain ⟨m, h1, _⟩ := run_fold (P := P) (fn := fun a b => match a, b with | .int k x, .int _ y => pure (.int k (if mx then (if y > x then y else x) else (if y < x then y else x))) | _, _ => pure a) (fun _ _ _ _ => rfl) r cs k x v (by simpa using l1) (fun i a b => l2 (i + 1) (Nat.succ_lt_succ a) (Nat.succ_lt_succ b)) hv
        exact ⟨m, h1⟩
      obtain ⟨m, rfl⟩ := hm
      refine ⟨x, cs, m, rfl, rfl, fun fn hf => ?_⟩
      obtain ⟨m', h1, h2⟩ := run_fold (P := P) hf r cs k x _ (by simpa using l1) (fun i a b => l2 (i + 1) (Nat.succ_lt_succ a) (Nat.succ_lt_succ b)) hv
      cases h1; exact h2
  split at hc
  · simp only [Bool.and_eq_true] at hc
    obtain ⟨c0, cs, m, h1, rfl, h3⟩ := main true hc.1 hc.2 (fun _ _ => trivial)
    refine .value hI ?_ (.plain (.int _ _))
    have h4 := h3 Builtin.max2 (fun _ _ _ _ => by simp [Builtin.max2])
    have h5 : (args.map (Act.eval ⟨tmps, ds⟩)).toList = .int k c0 :: cs := by simpa using h1
    have h6 : (Builtin.max_ ats ty (args.map (Act.eval ⟨tmps, ds⟩))).run P w = .ok (.int k m) w := by rw [Builtin.max_, h5]; exact h4
    simp [execOp, resolve, invoke, builtin, h6]
  · simp only [Bool.and_eq_true, Bool.not_eq_true'] at hc
    obtain ⟨c0, cs, m, h1, rfl, h3⟩ := main false hc.1 hc.2 (fun _ _ => trivial)
    refine .value hI ?_ (.plain (.int _ _))
    have h4 := h3 Builtin.min2 (fun _ _ _ _ => by simp [Builtin.min2])
    have h5 : (args.map (Act.eval ⟨tmps, ds⟩)).toList = .int k c0 :: cs := by simpa using h1
    have h6 : (Builtin.min_ ats ty (args.map (Act.eval ⟨tmps, ds⟩))).run P w = .ok (.int k m) w := by rw [Builtin.min_, h5]; exact h4
    simp [execOp, resolve, invoke, builtin, h6]
  · cases hc
theorem kind_int {t : Nat} (h : kindOk P .int t = true) : ∃ k, P.underlying t = some (.int k) := by
  unfold kindOk at h
  split at h <;> first | contradiction | (cases h; done) | (rename_i hu; exact ⟨_, hu⟩)
theorem kind_str {t : Nat} (h : kindOk P .str t = true) : P.underlying t = some .string := by
  unfold kindOk at h
  split at h <;> first | contradiction | (cases h; done) | (rename_i hu; exact hu)
theorem kind_bool {t : Nat} (h : kindOk P .bool t = true) : P.underlying t = some .bool := by
  unfold kindOk at h
  split at h <;> first | contradiction | (cases h; done) | (rename_i hu; exact hu)
theorem kind_ptr {t : Nat} (h : kindOk P .ptr t = true) : ∃ k, P.underlying t = some (.pointer k) := by
  unfold kindOk at h
  split at h <;> first | contradiction | (cases h; done) | (rename_i hu; exact ⟨_, hu⟩)
theorem kind_slice {t : Nat} (h : kindOk P .slice t = true) : ∃ k, P.underlying t = some (.slice k) := by
  unfold kindOk at h
  split at h <;> first | contradiction | (cases h; done) | (rename_i hu; exact ⟨_, hu⟩)
theorem kind_map {t : Nat} (h : kindOk P .map t = true) : ∃ k e, P.underlying t = some (.map k e) := by
  unfold kindOk at h
  split at h <;> first | contradiction | (cases h; done) | (rename_i hu; exact ⟨_, _, hu⟩)
theorem kind_func {t : Nat} (h : kindOk P .func t = true) : ∃ a b c, P.underlying t = some (.func a b c) := by
  unfold kindOk at h
  split at h <;> first | contradiction | (cases h; done) | (rename_i hu; exact ⟨_, _, _, hu⟩)
theorem kind_iface {t : Nat} (h : kindOk P .iface t = true) : ∃ k, P.underlying t = some (.interface k) := by
  unfold kindOk at h
  split at h <;> first | contradiction | (cases h; done) | (rename_i hu; exact ⟨_, hu⟩)
theorem eqv_run {k : EqK} {x y : AV} {a b : Value} {r : Bool} {t : Nat} (d : Nat) (h : eqv k x y = some r) (hx : Rep g f n w x a) (hy : Rep g f n w y b) (ht : kindOk P k t = true) :
    (Op.equalIn (d + 1) t a b).run P w = .ok r w := by
  unfold eqv at h
  split at h
  case h_1 k a k' b =>
    by_cases hk : k = k'
    · subst hk
      simp only [if_true, Option.some.injEq] at h
      subst h
      rw [hx.int_inv, hy.int_inv]
      obtain ⟨_, hu⟩ := kind_int ht
      exact run_equalIn_int w d t k _ _ _ hu
    · simp [hk] at h
  case h_2 => cases h; rw [hx.bool_inv, hy.bool_inv]; exact run_equalIn_bool w d t _ _ (kind_bool ht)
  case h_3 =>
    cases h; rw [hx.str_inv, hy.str_inv, run_equalIn_string w d t _ _ (kind_str ht), toList_mk, toList_mk]
  case h_4 => cases h; obtain ⟨_, hu⟩ := kind_ptr ht; rw [hx.nilptr_inv, hy.nilptr_inv]; rw [Op.equalIn, Sem.run_bind, run_underlying hu]; rfl
  case h_5 => cases h; obtain ⟨_, hu⟩ := kind_ptr ht; rw [hx.ptr_inv.2, hy.nilptr_inv]; rw [Op.equalIn, Sem.run_bind, run_underlying hu]; rfl
  case h_6 => cases h; obtain ⟨_, hu⟩ := kind_ptr ht; rw [hx.nilptr_inv, hy.ptr_inv.2]; rw [Op.equalIn, Sem.run_bind, run_underlying hu]; rfl
  case h_7 => cases h; obtain ⟨_, hu⟩ := kind_slice ht; rw [hx.nilslice_inv, hy.nilslice_inv]; rw [Op.equalIn, Sem.run_bind, run_underlying hu]; rfl
  case h_8 => cases h; obtain ⟨_, hu⟩ := kind_slice ht; obtain ⟨_, _, _, _, hxe, _⟩ := hx.slice_inv.1.slice_inv; rw [hxe, hy.nilslice_inv]; rw [Op.equalIn, Sem.run_bind, run_underlying hu]; rfl
  case h_9 => cases h; obtain ⟨_, hu⟩ := kind_slice ht; obtain ⟨_, _, _, _, hye, _⟩ := hy.slice_inv.1.slice_inv; rw [hx.nilslice_inv, hye]; rw [Op.equalIn, Sem.run_bind, run_underlying hu]; rfl
  case h_10 => cases h; obtain ⟨_, _, hu⟩ := kind_map ht; rw [hx.nilmap_inv, hy.nilmap_inv]; rw [Op.equalIn, Sem.run_bind, run_underlying hu]; rfl
  case h_11 => cases h; obtain ⟨_, _, hu⟩ := kind_map ht; rw [hx.mapr_inv.2, hy.nilmap_inv]; rw [Op.equalIn, Sem.run_bind, run_underlying hu]; rfl
  case h_12 => cases h; obtain ⟨_, _, hu⟩ := kind_map ht; rw [hx.nilmap_inv, hy.mapr_inv.2]; rw [Op.equalIn, Sem.run_bind, run_underlying hu]; rfl
  case h_13 => cases h; obtain ⟨_, _, _, hu⟩ := kind_func ht; rw [hx.nilFunc_inv, hy.nilFunc_inv]; rw [Op.equalIn, Sem.run_bind, run_underlying hu]; rfl
  case h_14 => cases h; obtain ⟨_, _, _, hu⟩ := kind_func ht; obtain ⟨_, _, hfx, _⟩ := hx.func_inv; rw [hfx, hy.nilFunc_inv]; rw [Op.equalIn, Sem.run_bind, run_underlying hu]; rfl
  case h_15 => cases h; obtain ⟨_, _, _, hu⟩ := kind_func ht; obtain ⟨_, _, hfy, _⟩ := hy.func_inv; rw [hx.nilFunc_inv, hfy]; rw [Op.equalIn, Sem.run_bind, run_underlying hu]; rfl
  case h_16 => cases h; obtain ⟨_, hu⟩ := kind_iface ht; rw [hx.nilIface_inv, hy.nilIface_inv]; rw [Op.equalIn, Sem.run_bind, run_underlying hu]; rfl
  case h_17 => cases h; obtain ⟨_, hu⟩ := kind_iface ht; obtain ⟨_, hix, _⟩ := hx.iface_inv; rw [hix, hy.nilIface_inv]; rw [Op.equalIn, Sem.run_bind, run_underlying hu]; rfl
  case h_18 => cases h; obtain ⟨_, hu⟩ := kind_iface ht; obtain ⟨_, hiy, _⟩ := hy.iface_inv; rw [hx.nilIface_inv, hiy]; rw [Op.equalIn, Sem.run_bind, run_underlying hu]; rfl
  case h_19 => cases h
end
end Go.Proofs.YtelpkgbghhpgaaaGreatDoor.Sx
end
section
namespace Go.Proofs.YtelpkgbghhpgaaaGreatDoor.Sx
open AV
section
variable {g0 g : Gh} {st0 st : St} {w0 w w' : World} {f f' : Fh} {fr : Fr} {tmps : Array Value} {ds : List Deferred} {P : Program} {n : Nat} {o : Oper} {I : Nat → Nat → Prop}
def notNum : Value → Bool
  | .int _ _ | .float _ _ | .complex _ _ _ | .string _ => false
  | _ => true
theorem binop_eq {t : TypeId} {a b : Value} {r : Bool} (neg : Bool) (hr : (Op.equalIn 10000 t a b).run P w = .ok r w)
    (hs : notNum a = true) :
    (binOp (if neg then .neq else .eql) t a b).run P w = .ok (.bool (match neg with | true => !r | false => r)) w := by
  cases neg
  · have : binOp .eql t a b = (do pure (.bool (← Op.equal t a b))) := by
      cases a <;> first | (cases hs; done) | rfl
    simp only [Bool.false_eq_true, if_false, this, Op.equal, Sem.run_bind]
    rw [show Op.maxDepth = 10000 from rfl, hr]; rfl
  · have : binOp .neq t a b = (do pure (.bool (!(← Op.equal t a b)))) := by
      cases a <;> first | (cases hs; done) | rfl
    simp only [if_true, this, Op.equal, Sem.run_bind]
    rw [show Op.maxDepth = 10000 from rfl, hr]; rfl
theorem guard_const {op : BinOp} {t : Nat} {x y : Operand} (h : (isCst x || isCst y) = true) : (eqGuard op t x y .nilIface .nilIface).run P w = .ok () w := by
  cases op <;> first | rfl | (cases x <;> cases y <;> first | (cases h; done) | rfl)
theorem ok_eqk {k : EqK} {neg : Bool} {x' y' : Opd} {v : AV} {fr' : Fr} {st' : St} (hI : Inv g0 st0 w0 g f fr st w tmps) (hc : chkOp P o (.eqk k neg x' y') = true) (hs : step fr st (.eqk k neg x' y') = some (v, fr', st')) :
    OpGoal P o tmps ds g0 st0 w0 w v fr' st' := by
  obtain ⟨dst, op, ty, pos, aft, gd⟩ := o
  simp only [chkOp] at hc
  cases op <;> first
    | (simp at hc; done)
    | skip
  rename_i op t x y t2
  simp only [Bool.and_eq_true, decide_eq_true_eq] at hc
  obtain ⟨⟨⟨hop, h1⟩, h2⟩, h3⟩ := hc
  have h1 := opd_rep (ds := ds) hI h1
  have h2 := opd_rep (ds := ds) hI h2
  simp only [step] at hs
  split at hs
  case h_2 => cases hs
  rename_i r hr
  cases hs
  have hkind : kindOk P k t = true ∧ (k = .iface → (isCst x || isCst y) = true) ∧ k ≠ .int ∧ k ≠ .str := by
    simp only [chkEqk, Bool.and_eq_true] at h3
    refine ⟨h3.1, fun e => ?_, fun e => ?_, fun e => ?_⟩
    · subst e; exact h3.2
    · subst e; cases h3.2
    · subst e; cases h3.2
  obtain ⟨hk, hif, hk1, hk2⟩ := hkind
  have he := eqv_run (P := P) 9999 hr h1 h2 hk
  have hsh : notNum (Act.eval ⟨tmps, ds⟩ x) = true ∧ (eqGuard op t x y (Act.eval ⟨tmps, ds⟩ x) (Act.eval ⟨tmps, ds⟩ y)).run P w = .ok () w := by
    generalize Act.eval ⟨tmps, ds⟩ x = a at h1
    generalize Act.eval ⟨tmps, ds⟩ y = b at h2
    clear he
    generalize x'.ev fr = xa at hr h1
    generalize y'.ev fr = ya at hr h2
    unfold eqv at hr
    split at hr
    case h_1 => exact absurd rfl hk1
    case h_2 => rw [h1.bool_inv, h2.bool_inv]; exact ⟨rfl, guard_scalar (by simp) (by simp)⟩
    case h_3 => exact absurd rfl hk2
    case h_4 => rw [h1.nilptr_inv, h2.nilptr_inv]; exact ⟨rfl, guard_scalar (by simp) (by simp)⟩
    case h_5 => rw [h1.ptr_inv.2, h2.nilptr_inv]; exact ⟨rfl, guard_scalar (by simp) (by simp)⟩
    case h_6 => rw [h1.nilptr_inv, h2.ptr_inv.2]; exact ⟨rfl, guard_scalar (by simp) (by simp)⟩
    case h_7 => rw [h1.nilslice_inv, h2.nilslice_inv]; exact ⟨rfl, guard_scalar (by simp) (by simp)⟩
    case h_8 => obtain ⟨_, _, _, _, e, _⟩ := h1.slice_inv.1.slice_inv; rw [e, h2.nilslice_inv]; exact ⟨rfl, guard_scalar (by simp) (by simp)⟩
    case h_9 => obtain ⟨_, _, _, _, e, _⟩ := h2.slice_inv.1.slice_inv; rw [e, h1.nilslice_inv]; exact ⟨rfl, guard_scalar (by simp) (by simp)⟩
    case h_10 => rw [h1.nilmap_inv, h2.nilmap_inv]; exact ⟨rfl, guard_scalar (by simp) (by simp)⟩
    case h_11 => rw [h1.mapr_inv.2, h2.nilmap_inv]; exact ⟨rfl, guard_scalar (by simp) (by simp)⟩
    case h_12 => rw [h1.nilmap_inv, h2.mapr_inv.2]; exact ⟨rfl, guard_scalar (by simp) (by simp)⟩
    case h_13 => rw [h1.nilFunc_inv, h2.nilFunc_inv]; exact ⟨rfl, guard_scalar (by simp) (by simp)⟩
    case h_14 => obtain ⟨_, _, e, _⟩ := h1.func_inv; rw [e, h2.nilFunc_inv]; exact ⟨rfl, guard_scalar (by simp) (by simp)⟩
    case h_15 => obtain ⟨_, _, e, _⟩ := h2.func_inv; rw [e, h1.nilFunc_inv]; exact ⟨rfl, guard_scalar (by simp) (by simp)⟩
    case h_16 => rw [h1.nilIface_inv, h2.nilIface_inv]; exact ⟨rfl, guard_const (hif rfl)⟩
    case h_17 => obtain ⟨_, e, _⟩ := h1.iface_inv; rw [e, h2.nilIface_inv]; exact ⟨rfl, guard_scalar (by simp) (by simp)⟩
    case h_18 => obtain ⟨_, e, _⟩ := h2.iface_inv; rw [e, h1.nilIface_inv]; exact ⟨rfl, guard_scalar (by simp) (by simp)⟩
    case h_19 => cases hr
  refine .value hI ?_ (.plain (.bool _))
  simp only [execOp]
  refine run_v ?_
  rw [Sem.run_bind, hsh.2]
  simp only [Result.andThen_ok]
  rw [hop]
  exact binop_eq neg he hsh.1
theorem leaf_ok {k : EqK} {t : Nat} (h : chkLeaf P k t = true) (w : World) : kindOk P k t = true ∧ (isAgg t).run P w = .ok false w := by
  unfold chkLeaf at h
  split at h <;> first
    | (cases h; done)
    | (split at h <;> first | (cases h; done) | (rename_i hu; exact ⟨by simp [kindOk, hu], by simp only [isAgg, Sem.run_bind, run_underlying hu, Result.andThen_ok]; rfl⟩))
theorem run_leaves {xs ys : List Value} {as bs : List AV} (hla : as.length = xs.length) (hlb : bs.length = ys.length) (ha : ∀ i (h : i < as.length) (h' : i < xs.length), Rep g f n w as[i] xs[i])
    (hb : ∀ i (h : i < bs.length) (h' : i < ys.length), Rep g f n w bs[i] ys[i]) (d e : Nat) : ∀ (fs : List Field) (off : Nat) (ks : List EqK) (m : Nat) (r : Bool), chkLeaves P e off fs ks = some (m, []) → eqvL ks (as.drop off) (bs.drop off) = some r →
      (Op.eqFields (d + 1) xs.toArray ys.toArray fs).run P w = .ok r w
  | [], off, ks, m, r, h, hr => by
    simp only [chkLeaves, Option.some.injEq, Prod.mk.injEq] at h
    obtain ⟨_, rfl⟩ := h
    unfold eqvL at hr
    split at hr
    · cases hr; rfl
    · rename_i e2 _ _; cases e2
    · cases hr
  | fd :: fs, off, k :: ks, m, r, h, hr => by
    simp only [chkLeaves] at h
    split at h
    case isFalse => cases h
    rename_i hf
    obtain ⟨hn, ho, hleaf⟩ := hf
    unfold eqvL at hr
    split at hr
    · rename_i e1 _ _; cases e1
    · rename_i k' ks' a l b l' e1 e2 e3
      cases e1
      have la : off < as.length := by
        have := congrArg List.length e2; simp at this; omega
      have lb : off < bs.length := by
        have := congrArg List.length e3; simp at this; omega
      have ga : as[off] = a ∧ as.drop (off + 1) = l := by
        rw [List.drop_eq_getElem_cons la] at e2; exact ⟨(List.cons.inj e2).1, (List.cons.inj e2).2⟩
      have gb : bs[off] = b ∧ bs.drop (off + 1) = l' := by
        rw [List.drop_eq_getElem_cons lb] at e3; exact ⟨(List.cons.inj e3).1, (List.cons.inj e3).2⟩
      obtain ⟨hk, hagg⟩ := leaf_ok hleaf w
      have ra := ha off la (by omega)
      have rb := hb off lb (by omega)
      rw [ga.1] at ra; rw [gb.1] at rb
      have pa : (part fd.type xs.toArray fd.offset).run P w = .ok (xs[off]'(by omega)) w := by
        simp [part, hagg, ho, List.getElem?_eq_getElem (show off < xs.length by omega)]
      have pb : (part fd.type ys.toArray fd.offset).run P w = .ok (ys[off]'(by omega)) w := by
        simp [part, hagg, ho, List.getElem?_eq_getElem (show off < ys.length by omega)]
      simp only [Op.eqFields, hn, ne_eq, not_false_eq_true, if_true, Sem.run_bind, pa, pb, Result.andThen_ok]
      split at hr
      · rename_i hq
        rw [eqv_run d hq ra rb hk]
        simp only [Result.andThen_ok, Bool.not_true, Bool.false_eq_true, if_false]
        exact run_leaves hla hlb ha hb d e fs (off + 1) ks m r h (by rw [ga.2, gb.2]; exact hr)
      · rename_i hq
        cases hr
        rw [eqv_run d hq ra rb hk]
        simp
      · cases hr
    · cases hr
  | _ :: _, off, [], m, r, h, hr => by simp [chkLeaves] at h
theorem ok_eqs {ks : List EqK} {neg : Bool} {x' y' : Opd} {v : AV} {fr' : Fr} {st' : St} (hI : Inv g0 st0 w0 g f fr st w tmps) (hc : chkOp P o (.eqs ks neg x' y') = true) (hs : step fr st (.eqs ks neg x' y') = some (v, fr', st')) :
    OpGoal P o tmps ds g0 st0 w0 w v fr' st' := by
  obtain ⟨dst, op, ty, pos, aft, gd⟩ := o
  simp only [chkOp] at hc
  cases op <;> first
    | (simp at hc; done)
    | skip
  rename_i op t x y t2
  simp only [Bool.and_eq_true, decide_eq_true_eq] at hc
  obtain ⟨⟨⟨hop, h1⟩, h2⟩, h3⟩ := hc
  have h1 := opd_rep (ds := ds) hI h1
  have h2 := opd_rep (ds := ds) hI h2
  simp only [step] at hs
  split at hs
  case h_2 => cases hs
  rename_i as bs ea eb
  split at hs
  case h_2 => cases hs
  rename_i r hr
  cases hs
  rw [ea] at h1; rw [eb] at h2
  obtain ⟨xs, a1, a2, a3, _⟩ := h1.agg_inv
  obtain ⟨ys, b1, b2, b3, _⟩ := h2.agg_inv
  unfold chkEqs at h3
  split at h3
  case h_2 => cases h3
  rename_i fs hu
  simp only [Bool.and_eq_true, beq_iff_eq, Bool.not_eq_true'] at h3
  obtain ⟨⟨h4, h5⟩, h6⟩ := h3
  have hfs : P.fieldsOf t = fs := by simp [Program.fieldsOf, hu]
  have he : (Op.equalIn 10000 t (.agg xs.toArray) (.agg ys.toArray)).run P w = .ok r w := by
    rw [run_equalIn_struct w 9999 t _ _ (by rw [hfs]; exact hu) h5, hfs]
    exact run_leaves a2 b2 a3 b3 9998 0 fs.toList 0 ks _ r h4 (by simpa using hr)
  refine .value hI ?_ (.plain (.bool _))
  simp only [execOp, a1, b1]
  refine run_v ?_
  rw [Sem.run_bind, run_eqGuard_agg w op t x y _ _ h6]
  simp only [Result.andThen_ok]
  rw [hop]
  exact binop_eq neg he rfl
end
end Go.Proofs.YtelpkgbghhpgaaaGreatDoor.Sx
end
