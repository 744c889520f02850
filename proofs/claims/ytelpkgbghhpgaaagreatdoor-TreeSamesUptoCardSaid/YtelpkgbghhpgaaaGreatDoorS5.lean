/- TreeSames returns true for all programs whose data are not larger than a bound. The program's functions as plain code. -/
import Derived.Test.YtelpkgbghhpgaaaGreatDoorS4
set_option linter.all false
section
namespace Go.Proofs.YtelpkgbghhpgaaaGreatDoor.Sx
open AV

section
variable {g0 g : Gh} {st0 st : St} {w0 w w' : World} {f f' : Fh} {fr : Fr} {tmps : Array Value} {ds : List Deferred} {P : Program} {n : Nat} {o : Oper} {I : Nat → Nat → Prop}

/-! ### min, max -/

theorem run_fold {fn : Value → Value → Sem Value} {mx : Bool} (hf : ∀ k k' x y, fn (.int k x) (.int k' y) = pure (.int k (if mx then (if y > x then y else x) else (if y < x then y else x)))) :
    ∀ (vs : List AV) (cs : List Value) (k : IntKind) (x : Int) (v : AV), vs.length = cs.length → (∀ i (h : i < vs.length) (h' : i < cs.length), Rep g f n w vs[i] cs[i]) → foldMM mx k x vs = some v →
      ∃ m, v = .int k m ∧ (cs.foldlM fn (.int k x)).run P w = .ok (.int k m) w
  | [], [], k, x, v, _, _, h => by simp [foldMM] at h; exact ⟨x, h.symm, by simp⟩
  | a :: vs, c :: cs, k, x, v, hl, hr, h => by
    unfold foldMM at h
    split at h
    · rename_i e; cases e
    · rename_i k' y r e
      cases e
      split at h
      · rename_i hk; subst hk
        have h0 := (hr 0 (by simp) (by simp)).int_inv
        simp only [List.getElem_cons_zero] at h0; subst h0
        obtain ⟨m, h1, h2⟩ := run_fold hf vs cs k _ v (by simpa using hl) (fun i a b => hr (i + 1) (Nat.succ_lt_succ a) (Nat.succ_lt_succ b)) h
        exact ⟨m, h1, by simp [List.foldlM_cons, hf]; exact h2⟩
      · cases h
    · cases h
  | [], _ :: _, _, _, _, hl, _, _ => by simp at hl
  | _ :: _, [], _, _, _, hl, _, _ => by simp at hl

theorem ok_minmax {mx : Bool} {ys : List Opd} {v : AV} {fr' : Fr} {st' : St} (hI : Inv g0 st0 w0 g f fr st w tmps) (hc : chkOp P o (.minmax mx ys) = true) (hs : step fr st (.minmax mx ys) = some (v, fr', st')) : OpGoal P o tmps ds g0 st0 w0 w v fr' st' := by
  obtain ⟨dst, op, ty, pos, aft, gd⟩ := o
  simp only [chkOp] at hc
  cases op <;> first
    | (simp at hc; done)
    | skip
  rename_i c
  obtain ⟨cal, args, ats⟩ := c
  simp only [chkCall] at hc
  simp only [step] at hs
  split at hs
  case h_2 => cases hs
  rename_i k x r hr
  split at hs
  case h_2 => cases hs
  rename_i v' hv
  cases hs
  have main : ∀ b : Bool, mx = b → chkOpds args.toList ys = true → (∀ b : Builtin, cal = .builtin b → True) → ∃ c0 cs m, args.toList.map (Act.eval ⟨tmps, ds⟩) = .int k c0 :: cs ∧ v = .int k m ∧
      (∀ fn : Value → Value → Sem Value, (∀ k k' x y, fn (.int k x) (.int k' y) = pure (.int k (if b then (if y > x then y else x) else (if y < x then y else x)))) → (cs.foldlM fn (.int k c0)).run P w = .ok (.int k m) w) := by
    intro b hb ha _
    subst hb
    obtain ⟨l1, l2⟩ := map_rep (ds := ds) hI ha
    rw [hr] at l1 l2
    generalize args.toList.map (Act.eval ⟨tmps, ds⟩) = cc at l1 l2
    cases cc with
    | nil => simp at l1
    | cons c0 cs =>
      have h0 := (l2 0 (by simp) (by simp)).int_inv
      simp only [List.getElem_cons_zero] at h0; subst h0
      have hm : ∃ m, v = .int k m := by
        obtain ⟨m, h1, _⟩ := run_fold (P := P) (fn := fun a b => match a, b with | .int k x, .int _ y => pure (.int k (if mx then (if y > x then y else x) else (if y < x then y else x))) | _, _ => pure a) (fun _ _ _ _ => rfl) r cs k x v (by simpa using l1) (fun i a b => l2 (i + 1) (Nat.succ_lt_succ a) (Nat.succ_lt_succ b)) hv
        exact ⟨m, h1⟩
      obtain ⟨m, rfl⟩ := hm
      refine ⟨x, cs, m, rfl, rfl, fun fn hf => ?_⟩
      obtain ⟨m', h1, h2⟩ := run_fold (P := P) hf r cs k x _ (by simpa using l1) (fun i a b => l2 (i + 1) (Nat.succ_lt_succ a) (Nat.succ_lt_succ b)) hv
      cases h1; exact h2
  split at hc
  · simp only [Bool.and_eq_true] at hc
    obtain ⟨c0, cs, m, h1, rfl, h3⟩ := main true hc.1 hc.2 (fun _ _ => trivial)
    refine .value hI ?_ (.plain (.int _ _))
    have h4 := h3 Builtin.max2 (fun _ _ _ _ => by simp [Builtin.max2])
    have h5 : (args.map (Act.eval ⟨tmps, ds⟩)).toList = .int k c0 :: cs := by simpa using h1
    have h6 : (Builtin.max_ ats ty (args.map (Act.eval ⟨tmps, ds⟩))).run P w = .ok (.int k m) w := by rw [Builtin.max_, h5]; exact h4
    simp [execOp, resolve, invoke, builtin, h6]
  · simp only [Bool.and_eq_true, Bool.not_eq_true'] at hc
    obtain ⟨c0, cs, m, h1, rfl, h3⟩ := main false hc.1 hc.2 (fun _ _ => trivial)
    refine .value hI ?_ (.plain (.int _ _))
    have h4 := h3 Builtin.min2 (fun _ _ _ _ => by simp [Builtin.min2])
    have h5 : (args.map (Act.eval ⟨tmps, ds⟩)).toList = .int k c0 :: cs := by simpa using h1
    have h6 : (Builtin.min_ ats ty (args.map (Act.eval ⟨tmps, ds⟩))).run P w = .ok (.int k m) w := by rw [Builtin.min_, h5]; exact h4
    simp [execOp, resolve, invoke, builtin, h6]
  · cases hc

/-! ### == -/

theorem kind_int {t : Nat} (h : kindOk P .int t = true) : ∃ k, P.underlying t = some (.int k) := by
  unfold kindOk at h
  split at h <;> first | contradiction | (cases h; done) | (rename_i hu; exact ⟨_, hu⟩)
theorem kind_str {t : Nat} (h : kindOk P .str t = true) : P.underlying t = some .string := by
  unfold kindOk at h
  split at h <;> first | contradiction | (cases h; done) | (rename_i hu; exact hu)
theorem kind_bool {t : Nat} (h : kindOk P .bool t = true) : P.underlying t = some .bool := by
  unfold kindOk at h
  split at h <;> first | contradiction | (cases h; done) | (rename_i hu; exact hu)
theorem kind_ptr {t : Nat} (h : kindOk P .ptr t = true) : ∃ k, P.underlying t = some (.pointer k) := by
  unfold kindOk at h
  split at h <;> first | contradiction | (cases h; done) | (rename_i hu; exact ⟨_, hu⟩)
theorem kind_slice {t : Nat} (h : kindOk P .slice t = true) : ∃ k, P.underlying t = some (.slice k) := by
  unfold kindOk at h
  split at h <;> first | contradiction | (cases h; done) | (rename_i hu; exact ⟨_, hu⟩)
theorem kind_map {t : Nat} (h : kindOk P .map t = true) : ∃ k e, P.underlying t = some (.map k e) := by
  unfold kindOk at h
  split at h <;> first | contradiction | (cases h; done) | (rename_i hu; exact ⟨_, _, hu⟩)
theorem kind_func {t : Nat} (h : kindOk P .func t = true) : ∃ a b c, P.underlying t = some (.func a b c) := by
  unfold kindOk at h
  split at h <;> first | contradiction | (cases h; done) | (rename_i hu; exact ⟨_, _, _, hu⟩)
theorem kind_iface {t : Nat} (h : kindOk P .iface t = true) : ∃ k, P.underlying t = some (.interface k) := by
  unfold kindOk at h
  split at h <;> first | contradiction | (cases h; done) | (rename_i hu; exact ⟨_, hu⟩)

theorem eqv_run {k : EqK} {x y : AV} {a b : Value} {r : Bool} {t : Nat} (d : Nat) (h : eqv k x y = some r) (hx : Rep g f n w x a) (hy : Rep g f n w y b) (ht : kindOk P k t = true) :
    (Op.equalIn (d + 1) t a b).run P w = .ok r w := by
  unfold eqv at h
  split at h
  case h_1 k a k' b =>
    by_cases hk : k = k'
    · subst hk
      simp only [if_true, Option.some.injEq] at h
      subst h
      rw [hx.int_inv, hy.int_inv]
      obtain ⟨_, hu⟩ := kind_int ht
      exact run_equalIn_int w d t k _ _ _ hu
    · simp [hk] at h
  case h_2 => cases h; rw [hx.bool_inv, hy.bool_inv]; exact run_equalIn_bool w d t _ _ (kind_bool ht)
  case h_3 =>
    cases h; rw [hx.str_inv, hy.str_inv, run_equalIn_string w d t _ _ (kind_str ht), toList_mk, toList_mk]
  case h_4 => cases h; obtain ⟨_, hu⟩ := kind_ptr ht; rw [hx.nilptr_inv, hy.nilptr_inv]; rw [Op.equalIn, Sem.run_bind, run_underlying hu]; rfl
  case h_5 => cases h; obtain ⟨_, hu⟩ := kind_ptr ht; rw [hx.ptr_inv.2, hy.nilptr_inv]; rw [Op.equalIn, Sem.run_bind, run_underlying hu]; rfl
  case h_6 => cases h; obtain ⟨_, hu⟩ := kind_ptr ht; rw [hx.nilptr_inv, hy.ptr_inv.2]; rw [Op.equalIn, Sem.run_bind, run_underlying hu]; rfl
  case h_7 => cases h; obtain ⟨_, hu⟩ := kind_slice ht; rw [hx.nilslice_inv, hy.nilslice_inv]; rw [Op.equalIn, Sem.run_bind, run_underlying hu]; rfl
  case h_8 => cases h; obtain ⟨_, hu⟩ := kind_slice ht; obtain ⟨_, _, _, _, hxe, _⟩ := hx.slice_inv.1.slice_inv; rw [hxe, hy.nilslice_inv]; rw [Op.equalIn, Sem.run_bind, run_underlying hu]; rfl
  case h_9 => cases h; obtain ⟨_, hu⟩ := kind_slice ht; obtain ⟨_, _, _, _, hye, _⟩ := hy.slice_inv.1.slice_inv; rw [hx.nilslice_inv, hye]; rw [Op.equalIn, Sem.run_bind, run_underlying hu]; rfl
  case h_10 => cases h; obtain ⟨_, _, hu⟩ := kind_map ht; rw [hx.nilmap_inv, hy.nilmap_inv]; rw [Op.equalIn, Sem.run_bind, run_underlying hu]; rfl
  case h_11 => cases h; obtain ⟨_, _, hu⟩ := kind_map ht; rw [hx.mapr_inv.2, hy.nilmap_inv]; rw [Op.equalIn, Sem.run_bind, run_underlying hu]; rfl
  case h_12 => cases h; obtain ⟨_, _, hu⟩ := kind_map ht; rw [hx.nilmap_inv, hy.mapr_inv.2]; rw [Op.equalIn, Sem.run_bind, run_underlying hu]; rfl
  case h_13 => cases h; obtain ⟨_, _, _, hu⟩ := kind_func ht; rw [hx.nilFunc_inv, hy.nilFunc_inv]; rw [Op.equalIn, Sem.run_bind, run_underlying hu]; rfl
  case h_14 => cases h; obtain ⟨_, _, _, hu⟩ := kind_func ht; obtain ⟨_, _, hfx, _⟩ := hx.func_inv; rw [hfx, hy.nilFunc_inv]; rw [Op.equalIn, Sem.run_bind, run_underlying hu]; rfl
  case h_15 => cases h; obtain ⟨_, _, _, hu⟩ := kind_func ht; obtain ⟨_, _, hfy, _⟩ := hy.func_inv; rw [hx.nilFunc_inv, hfy]; rw [Op.equalIn, Sem.run_bind, run_underlying hu]; rfl
  case h_16 => cases h; obtain ⟨_, hu⟩ := kind_iface ht; rw [hx.nilIface_inv, hy.nilIface_inv]; rw [Op.equalIn, Sem.run_bind, run_underlying hu]; rfl
  case h_17 => cases h; obtain ⟨_, hu⟩ := kind_iface ht; obtain ⟨_, hix, _⟩ := hx.iface_inv; rw [hix, hy.nilIface_inv]; rw [Op.equalIn, Sem.run_bind, run_underlying hu]; rfl
  case h_18 => cases h; obtain ⟨_, hu⟩ := kind_iface ht; obtain ⟨_, hiy, _⟩ := hy.iface_inv; rw [hx.nilIface_inv, hiy]; rw [Op.equalIn, Sem.run_bind, run_underlying hu]; rfl
  case h_19 => cases h

end
end Go.Proofs.YtelpkgbghhpgaaaGreatDoor.Sx
end
section
namespace Go.Proofs.YtelpkgbghhpgaaaGreatDoor.Sx
open AV

section
variable {g0 g : Gh} {st0 st : St} {w0 w w' : World} {f f' : Fh} {fr : Fr} {tmps : Array Value} {ds : List Deferred} {P : Program} {n : Nat} {o : Oper} {I : Nat → Nat → Prop}

def notNum : Value → Bool
  | .int _ _ | .float _ _ | .complex _ _ _ | .string _ => false
  | _ => true

theorem binop_eq {t : TypeId} {a b : Value} {r : Bool} (neg : Bool) (hr : (Op.equalIn 10000 t a b).run P w = .ok r w)
    (hs : notNum a = true) :
    (binOp (if neg then .neq else .eql) t a b).run P w = .ok (.bool (match neg with | true => !r | false => r)) w := by
  cases neg
  · have : binOp .eql t a b = (do pure (.bool (← Op.equal t a b))) := by
      cases a <;> first | (cases hs; done) | rfl
    simp only [Bool.false_eq_true, if_false, this, Op.equal, Sem.run_bind]
    rw [show Op.maxDepth = 10000 from rfl, hr]; rfl
  · have : binOp .neq t a b = (do pure (.bool (!(← Op.equal t a b)))) := by
      cases a <;> first | (cases hs; done) | rfl
    simp only [if_true, this, Op.equal, Sem.run_bind]
    rw [show Op.maxDepth = 10000 from rfl, hr]; rfl

theorem guard_const {op : BinOp} {t : Nat} {x y : Operand} (h : (isCst x || isCst y) = true) : (eqGuard op t x y .nilIface .nilIface).run P w = .ok () w := by
  cases op <;> first | rfl | (cases x <;> cases y <;> first | (cases h; done) | rfl)

theorem ok_eqk {k : EqK} {neg : Bool} {x' y' : Opd} {v : AV} {fr' : Fr} {st' : St} (hI : Inv g0 st0 w0 g f fr st w tmps) (hc : chkOp P o (.eqk k neg x' y') = true) (hs : step fr st (.eqk k neg x' y') = some (v, fr', st')) :
    OpGoal P o tmps ds g0 st0 w0 w v fr' st' := by
  obtain ⟨dst, op, ty, pos, aft, gd⟩ := o
  simp only [chkOp] at hc
  cases op <;> first
    | (simp at hc; done)
    | skip
  rename_i op t x y t2
  simp only [Bool.and_eq_true, decide_eq_true_eq] at hc
  obtain ⟨⟨⟨hop, h1⟩, h2⟩, h3⟩ := hc
  have h1 := opd_rep (ds := ds) hI h1
  have h2 := opd_rep (ds := ds) hI h2
  simp only [step] at hs
  split at hs
  case h_2 => cases hs
  rename_i r hr
  cases hs
  have hkind : kindOk P k t = true ∧ (k = .iface → (isCst x || isCst y) = true) ∧ k ≠ .int ∧ k ≠ .str := by
    simp only [chkEqk, Bool.and_eq_true] at h3
    refine ⟨h3.1, fun e => ?_, fun e => ?_, fun e => ?_⟩
    · subst e; exact h3.2
    · subst e; cases h3.2
    · subst e; cases h3.2
  obtain ⟨hk, hif, hk1, hk2⟩ := hkind
  have he := eqv_run (P := P) 9999 hr h1 h2 hk
  have hsh : notNum (Act.eval ⟨tmps, ds⟩ x) = true ∧ (eqGuard op t x y (Act.eval ⟨tmps, ds⟩ x) (Act.eval ⟨tmps, ds⟩ y)).run P w = .ok () w := by
    generalize Act.eval ⟨tmps, ds⟩ x = a at h1
    generalize Act.eval ⟨tmps, ds⟩ y = b at h2
    clear he
    generalize x'.ev fr = xa at hr h1
    generalize y'.ev fr = ya at hr h2
    unfold eqv at hr
    split at hr
    case h_1 => exact absurd rfl hk1
    case h_2 => rw [h1.bool_inv, h2.bool_inv]; exact ⟨rfl, guard_scalar (by simp) (by simp)⟩
    case h_3 => exact absurd rfl hk2
    case h_4 => rw [h1.nilptr_inv, h2.nilptr_inv]; exact ⟨rfl, guard_scalar (by simp) (by simp)⟩
    case h_5 => rw [h1.ptr_inv.2, h2.nilptr_inv]; exact ⟨rfl, guard_scalar (by simp) (by simp)⟩
    case h_6 => rw [h1.nilptr_inv, h2.ptr_inv.2]; exact ⟨rfl, guard_scalar (by simp) (by simp)⟩
    case h_7 => rw [h1.nilslice_inv, h2.nilslice_inv]; exact ⟨rfl, guard_scalar (by simp) (by simp)⟩
    case h_8 => obtain ⟨_, _, _, _, e, _⟩ := h1.slice_inv.1.slice_inv; rw [e, h2.nilslice_inv]; exact ⟨rfl, guard_scalar (by simp) (by simp)⟩
    case h_9 => obtain ⟨_, _, _, _, e, _⟩ := h2.slice_inv.1.slice_inv; rw [e, h1.nilslice_inv]; exact ⟨rfl, guard_scalar (by simp) (by simp)⟩
    case h_10 => rw [h1.nilmap_inv, h2.nilmap_inv]; exact ⟨rfl, guard_scalar (by simp) (by simp)⟩
    case h_11 => rw [h1.mapr_inv.2, h2.nilmap_inv]; exact ⟨rfl, guard_scalar (by simp) (by simp)⟩
    case h_12 => rw [h1.nilmap_inv, h2.mapr_inv.2]; exact ⟨rfl, guard_scalar (by simp) (by simp)⟩
    case h_13 => rw [h1.nilFunc_inv, h2.nilFunc_inv]; exact ⟨rfl, guard_scalar (by simp) (by simp)⟩
    case h_14 => obtain ⟨_, _, e, _⟩ := h1.func_inv; rw [e, h2.nilFunc_inv]; exact ⟨rfl, guard_scalar (by simp) (by simp)⟩
    case h_15 => obtain ⟨_, _, e, _⟩ := h2.func_inv; rw [e, h1.nilFunc_inv]; exact ⟨rfl, guard_scalar (by simp) (by simp)⟩
    case h_16 => rw [h1.nilIface_inv, h2.nilIface_inv]; exact ⟨rfl, guard_const (hif rfl)⟩
    case h_17 => obtain ⟨_, e, _⟩ := h1.iface_inv; rw [e, h2.nilIface_inv]; exact ⟨rfl, guard_scalar (by simp) (by simp)⟩
    case h_18 => obtain ⟨_, e, _⟩ := h2.iface_inv; rw [e, h1.nilIface_inv]; exact ⟨rfl, guard_scalar (by simp) (by simp)⟩
    case h_19 => cases hr
  refine .value hI ?_ (.plain (.bool _))
  simp only [execOp]
  refine run_v ?_
  rw [Sem.run_bind, hsh.2]
  simp only [Result.andThen_ok]
  rw [hop]
  exact binop_eq neg he hsh.1

theorem leaf_ok {k : EqK} {t : Nat} (h : chkLeaf P k t = true) (w : World) : kindOk P k t = true ∧ (isAgg t).run P w = .ok false w := by
  unfold chkLeaf at h
  split at h <;> first
    | (cases h; done)
    | (split at h <;> first | (cases h; done) | (rename_i hu; exact ⟨by simp [kindOk, hu], by simp only [isAgg, Sem.run_bind, run_underlying hu, Result.andThen_ok]; rfl⟩))

theorem run_leaves {xs ys : List Value} {as bs : List AV} (hla : as.length = xs.length) (hlb : bs.length = ys.length) (ha : ∀ i (h : i < as.length) (h' : i < xs.length), Rep g f n w as[i] xs[i])
    (hb : ∀ i (h : i < bs.length) (h' : i < ys.length), Rep g f n w bs[i] ys[i]) (d e : Nat) : ∀ (fs : List Field) (off : Nat) (ks : List EqK) (m : Nat) (r : Bool), chkLeaves P e off fs ks = some (m, []) → eqvL ks (as.drop off) (bs.drop off) = some r →
      (Op.eqFields (d + 1) xs.toArray ys.toArray fs).run P w = .ok r w
  | [], off, ks, m, r, h, hr => by
    simp only [chkLeaves, Option.some.injEq, Prod.mk.injEq] at h
    obtain ⟨_, rfl⟩ := h
    unfold eqvL at hr
    split at hr
    · cases hr; rfl
    · rename_i e2 _ _; cases e2
    · cases hr
  | fd :: fs, off, k :: ks, m, r, h, hr => by
    simp only [chkLeaves] at h
    split at h
    case isFalse => cases h
    rename_i hf
    obtain ⟨hn, ho, hleaf⟩ := hf
    unfold eqvL at hr
    split at hr
    · rename_i e1 _ _; cases e1
    · rename_i k' ks' a l b l' e1 e2 e3
      cases e1
      have la : off < as.length := by
        have := congrArg List.length e2; simp at this; omega
      have lb : off < bs.length := by
        have := congrArg List.length e3; simp at this; omega
      have ga : as[off] = a ∧ as.drop (off + 1) = l := by
        rw [List.drop_eq_getElem_cons la] at e2; exact ⟨(List.cons.inj e2).1, (List.cons.inj e2).2⟩
      have gb : bs[off] = b ∧ bs.drop (off + 1) = l' := by
        rw [List.drop_eq_getElem_cons lb] at e3; exact ⟨(List.cons.inj e3).1, (List.cons.inj e3).2⟩
      obtain ⟨hk, hagg⟩ := leaf_ok hleaf w
      have ra := ha off la (by omega)
      have rb := hb off lb (by omega)
      rw [ga.1] at ra; rw [gb.1] at rb
      have pa : (part fd.type xs.toArray fd.offset).run P w = .ok (xs[off]'(by omega)) w := by
        simp [part, hagg, ho, List.getElem?_eq_getElem (show off < xs.length by omega)]
      have pb : (part fd.type ys.toArray fd.offset).run P w = .ok (ys[off]'(by omega)) w := by
        simp [part, hagg, ho, List.getElem?_eq_getElem (show off < ys.length by omega)]
      simp only [Op.eqFields, hn, ne_eq, not_false_eq_true, if_true, Sem.run_bind, pa, pb, Result.andThen_ok]
      split at hr
      · rename_i hq
        rw [eqv_run d hq ra rb hk]
        simp only [Result.andThen_ok, Bool.not_true, Bool.false_eq_true, if_false]
        exact run_leaves hla hlb ha hb d e fs (off + 1) ks m r h (by rw [ga.2, gb.2]; exact hr)
      · rename_i hq
        cases hr
        rw [eqv_run d hq ra rb hk]
        simp
      · cases hr
    · cases hr
  | _ :: _, off, [], m, r, h, hr => by simp [chkLeaves] at h

theorem ok_eqs {ks : List EqK} {neg : Bool} {x' y' : Opd} {v : AV} {fr' : Fr} {st' : St} (hI : Inv g0 st0 w0 g f fr st w tmps) (hc : chkOp P o (.eqs ks neg x' y') = true) (hs : step fr st (.eqs ks neg x' y') = some (v, fr', st')) :
    OpGoal P o tmps ds g0 st0 w0 w v fr' st' := by
  obtain ⟨dst, op, ty, pos, aft, gd⟩ := o
  simp only [chkOp] at hc
  cases op <;> first
    | (simp at hc; done)
    | skip
  rename_i op t x y t2
  simp only [Bool.and_eq_true, decide_eq_true_eq] at hc
  obtain ⟨⟨⟨hop, h1⟩, h2⟩, h3⟩ := hc
  have h1 := opd_rep (ds := ds) hI h1
  have h2 := opd_rep (ds := ds) hI h2
  simp only [step] at hs
  split at hs
  case h_2 => cases hs
  rename_i as bs ea eb
  split at hs
  case h_2 => cases hs
  rename_i r hr
  cases hs
  rw [ea] at h1; rw [eb] at h2
  obtain ⟨xs, a1, a2, a3, _⟩ := h1.agg_inv
  obtain ⟨ys, b1, b2, b3, _⟩ := h2.agg_inv
  unfold chkEqs at h3
  split at h3
  case h_2 => cases h3
  rename_i fs hu
  simp only [Bool.and_eq_true, beq_iff_eq, Bool.not_eq_true'] at h3
  obtain ⟨⟨h4, h5⟩, h6⟩ := h3
  have hfs : P.fieldsOf t = fs := by simp [Program.fieldsOf, hu]
  have he : (Op.equalIn 10000 t (.agg xs.toArray) (.agg ys.toArray)).run P w = .ok r w := by
    rw [run_equalIn_struct w 9999 t _ _ (by rw [hfs]; exact hu) h5, hfs]
    exact run_leaves a2 b2 a3 b3 9998 0 fs.toList 0 ks _ r h4 (by simpa using hr)
  refine .value hI ?_ (.plain (.bool _))
  simp only [execOp, a1, b1]
  refine run_v ?_
  rw [Sem.run_bind, run_eqGuard_agg w op t x y _ _ h6]
  simp only [Result.andThen_ok]
  rw [hop]
  exact binop_eq neg he rfl

end
end Go.Proofs.YtelpkgbghhpgaaaGreatDoor.Sx
end
section
namespace Go.Proofs.YtelpkgbghhpgaaaGreatDoor.Sx
open AV

section
variable {g0 g : Gh} {st0 st : St} {w0 w w' : World} {f f' : Fh} {fr : Fr} {tmps : Array Value} {ds : List Deferred} {P : Program} {n : Nat} {o : Oper} {I : Nat → Nat → Prop}

/-! ### Slicing -/

theorem run_bounds {isSlice : Bool} {len cap l h m : Nat} {lo hi mx : Option Value} (hlo : (lo = none ∧ l = 0) ∨ ∃ k, lo = some (.int k l)) (hhi : (hi = none ∧ h = len ∧ mx = none) ∨ ∃ k, hi = some (.int k h))
    (hmx : (mx = none ∧ m = cap) ∨ ∃ k, mx = some (.int k m)) (h1 : l ≤ h) (h2 : h ≤ m) (h3 : m ≤ cap) : (Instr.sliceBounds isSlice len cap lo hi mx).run P w = .ok (l, h, m) w := by
  have hb : ∀ (k : IntKind) (x y : Nat) (c : BoundsCode), x ≤ y → (Instr.sliceBound (.int k x) y c).run P w = .ok x w := fun k x y c hxy => by
    simpa using run_sliceBound w k (x : Int) y c (by omega) (by omega)
  rcases hmx with ⟨rfl, rfl⟩ | ⟨km, rfl⟩ <;> rcases hhi with ⟨rfl, rfl, hm⟩ | ⟨kh, rfl⟩ <;> rcases hlo with ⟨rfl, rfl⟩ | ⟨kl, rfl⟩ <;> first
    | (cases hm; done)
    | simp [Instr.sliceBounds, hb _ _ _ _ h1, hb _ _ _ _ h2, hb _ _ _ _ h3]

theorem low_run (hI : Inv g0 st0 w0 g f fr st w tmps) {lo : Option Operand} {lo' : Option Opd} {l : Int} (hc : chkOpt lo lo' = true) (h : lowOf fr lo' = some l) (h0 : 0 ≤ l) :
    (lo.map (Act.eval ⟨tmps, ds⟩) = none ∧ l.toNat = 0) ∨ ∃ k, lo.map (Act.eval ⟨tmps, ds⟩) = some (.int k l.toNat) := by
  cases lo <;> cases lo' <;> simp only [chkOpt] at hc
  · simp only [lowOf, Option.some.injEq] at h; exact .inl ⟨rfl, by omega⟩
  · cases hc
  · cases hc
  · obtain ⟨k, hk⟩ := intOf_inv (f := f) (g := g) (n := st.size) (w := w) h (opd_rep (ds := ds) hI hc)
    exact .inr ⟨k, by simp [hk, Int.toNat_of_nonneg h0]⟩

theorem high_run (hI : Inv g0 st0 w0 g f fr st w tmps) {lo : Option Operand} {lo' : Option Opd} {l : Int} {m : Nat} (hc : chkOpt lo lo' = true) (h : highOf fr m lo' = some l) (h0 : 0 ≤ l) :
    (lo.map (Act.eval ⟨tmps, ds⟩) = none ∧ l.toNat = m ∧ lo = none) ∨ ∃ k, lo.map (Act.eval ⟨tmps, ds⟩) = some (.int k l.toNat) := by
  cases lo <;> cases lo' <;> simp only [chkOpt] at hc
  · simp only [highOf, Option.some.injEq] at h; exact .inl ⟨rfl, by omega, rfl⟩
  · cases hc
  · cases hc
  · obtain ⟨k, hk⟩ := intOf_inv (f := f) (g := g) (n := st.size) (w := w) h (opd_rep (ds := ds) hI hc)
    exact .inr ⟨k, by simp [hk, Int.toNat_of_nonneg h0]⟩

theorem sub_row {els : List (List AV)} {sz l h : Nat} {a : Addr} {vs : Nat → Value} (hu : ∀ e ∈ els, e.length = sz) (hr : RowRep w I els.flatten a vs) (m : Nat) (hm : m = l → h ≤ m) (hlh : l ≤ h) :
    ∃ vs', RowRep w I ((els.take h).drop l).flatten (if m = l then a else a.add (l * sz)) vs' := by
  have hu' : ∀ e ∈ els.take h, e.length = sz := fun e he => hu e (List.mem_of_mem_take he)
  split
  · rename_i e
    have : (els.take h).drop l = [] := List.drop_eq_nil_of_le (by simp; have := hm e; omega)
    rw [this]
    exact ⟨vs, RowRep.nil⟩
  · rw [flat_drop l hu', flat_take h hu]
    exact ⟨_, (hr.take _).drop _⟩

theorem ok_slc {z : Nat} {y : Opd} {lo' hi' mx' : Option Opd} {v : AV} {fr' : Fr} {st' : St} (hI : Inv g0 st0 w0 g f fr st w tmps) (hc : chkOp P o (.slc z y lo' hi' mx') = true) (hs : step fr st (.slc z y lo' hi' mx') = some (v, fr', st')) :
    OpGoal P o tmps ds g0 st0 w0 w v fr' st' := by
  obtain ⟨dst, op, ty, pos, aft, gd⟩ := o
  simp only [chkOp] at hc
  cases op <;> first
    | (simp at hc; done)
    | skip
  rename_i t x lo hi mx
  simp only [Bool.and_eq_true] at hc
  obtain ⟨⟨⟨⟨⟨h1, hlo⟩, hhi⟩, hmx⟩, hmh⟩, ht⟩ := hc
  have h1 := opd_rep (ds := ds) hI h1
  simp only [step] at hs
  split at hs
  case h_2 => cases hs
  rename_i v' hv
  cases hs
  generalize y.ev fr = yv at h1 hv
  unfold aslice at hv
  split at hv
  case h_1 s =>
    split at hv
    case h_2 => cases hv
    rename_i l h e1 e2
    split at hv
    case isFalse => cases hv
    rename_i hh; obtain ⟨rfl, hl, hlh, hhs⟩ := hh
    cases hv
    have hmn : mx = none := by cases mx with | none => rfl | some m => simp [chkOpt] at hmx
    subst hmn
    split at ht
    · rename_i hu
      refine .value hI ?_ (.plain (.str _))
      simp only [execOp, h1.str_inv]
      refine run_v ?_
      have hb := run_bounds (P := P) (w := w) (isSlice := false) (len := s.length) (cap := s.length) (m := s.length) (mx := none) (low_run (ds := ds) hI hlo e1 hl)
        ((high_run (ds := ds) hI hhi e2 (by omega)).imp (fun h => ⟨h.1, h.2.1, rfl⟩) id) (.inl ⟨rfl, rfl⟩) (by omega) (by omega) (Nat.le_refl _)
      have hx : (⟨s.toArray⟩ : ByteArray).extract l.toNat h.toNat = ⟨((s.take h.toNat).drop l.toNat).toArray⟩ := by
        apply ByteArray.ext
        rw [ByteArray.data_extract]
        apply Array.ext'
        simp only [Array.toList_extract, List.extract_eq_take_drop, List.drop_take]
      simp [Instr.sliceAt, Instr.slice, run_underlying hu, size_mk, hb, hx]
    · simp at ht
    · cases ht
  case h_2 sz els own =>
    obtain ⟨_, a, cap, vs, h4, h5, h6, h7⟩ := h1.slice_inv.1.slice_inv
    split at ht
    · rename_i hu
      simp only [beq_iff_eq] at ht
      exfalso
      split at hv
      · split at hv
        · rename_i hh; exact hh.2.1 ht
        · cases hv
      · split at hv
        · split at hv
          · rename_i hh; exact hh.2.1 ht
          · cases hv
        · cases hv
      · cases hv
    · rename_i el hu
      simp only [Bool.and_eq_true, decide_eq_true_eq] at ht
      obtain ⟨hz, ht⟩ := ht
      have main : ∀ (l h : Int) (m : Nat) , lowOf fr lo' = some l → highOf fr els.length hi' = some h → 0 ≤ l → l ≤ h → h ≤ els.length → h.toNat ≤ m → m ≤ cap → ((mx.map (Act.eval ⟨tmps, ds⟩) = none ∧ m = cap) ∨ ∃ k, mx.map (Act.eval ⟨tmps, ds⟩) = some (.int k m)) →
          (mx = none ∨ hi ≠ none) → z = sz →
          ∃ a' vs', (execOp (Act.eval ⟨tmps, ds⟩) ⟨dst, .slice t x lo hi mx, ty, pos, aft, gd⟩).run P w = .ok (.value (.slice (some a') (h.toNat - l.toNat) (m - l.toNat))) w ∧ RowRep w g.imm ((els.take h.toNat).drop l.toNat).flatten a' vs' := by
        rintro l h m e1 e2 h0 hlh hhe hhm hmc hmx hmm rfl
        obtain ⟨vs', hr⟩ := sub_row (l := l.toNat) (h := h.toNat) h5 h7 m (fun e => by omega) (by omega)
        refine ⟨_, vs', ?_, hr⟩
        simp only [execOp, h4]
        refine run_v ?_
        have hb := run_bounds (P := P) (w := w) (isSlice := true) (len := els.length) (cap := cap) (m := m) (low_run (ds := ds) hI hlo e1 h0)
          ((high_run (ds := ds) hI hhi e2 (by omega)).imp (fun h => ⟨h.1, h.2.1, hmm.elim (fun e => by rw [e]; rfl) (fun e => absurd h.2.2 e)⟩) id) hmx (by omega) hhm hmc
        simp only [Instr.sliceAt, Instr.slice, Sem.run_bind, run_underlying hu, Result.andThen_ok, hb, chkSz_ok ht, Sem.run_pure]
        split <;> rfl
      have hul : ∀ l h : Nat, ∀ e ∈ (els.take h).drop l, e.length = sz := fun l h e he => h5 e (List.mem_of_mem_take (List.mem_of_mem_drop he))
      split at hv
      · rename_i l h e1 e2
        split at hv
        case isFalse => cases hv
        rename_i hh; obtain ⟨hzz, _, hl, hlh, hhs⟩ := hh
        cases hv
        have hmn : mx = none := by cases mx with | none => rfl | some m => simp [chkOpt] at hmx
        subst hmn
        obtain ⟨a', vs', hr, hrow⟩ := main l h cap e1 e2 hl hlh hhs (by omega) (Nat.le_refl _) (.inl ⟨rfl, rfl⟩) (.inl rfl) hzz
        refine .value hI hr (.plain ?_)
        have hle : h.toNat - l.toNat = ((els.take h.toNat).drop l.toNat).length := by simp; omega
        rw [hle]
        exact PRep.of_row (hul _ _) (by simp; omega) hrow
      · rename_i l h m0 e1 e2
        split at hv
        case h_2 => cases hv
        rename_i m hm
        split at hv
        case isFalse => cases hv
        rename_i hh; obtain ⟨hzz, _, hl, hlh, rfl, hhs⟩ := hh
        cases hv
        cases mx with
        | none => simp [chkOpt] at hmx
        | some mo =>
          obtain ⟨km, hkm⟩ := intOf_inv (f := f) (g := g) (n := st.size) (w := w) hm (opd_rep (ds := ds) hI hmx)
          obtain ⟨a', vs', hr, hrow⟩ := main l h h.toNat e1 e2 hl hlh hhs (Nat.le_refl _) (by omega) (.inr ⟨km, by simp [hkm]; omega⟩) (.inr (by cases hi with | none => simp at hmh | some _ => simp)) hzz
          have hle : h.toNat - l.toNat = ((els.take h.toNat).drop l.toNat).length := by simp; omega
          rw [hle] at hr
          exact .value hI hr (.slice _ _ _ _ (PRep.of_row (hul _ _) (Nat.le_refl _) hrow) ⟨_, rfl⟩)
      · cases hv
    · cases ht
  case h_3 =>
    have h1 := h1.nilslice_inv
    split at ht
    · simp only [beq_iff_eq] at ht
      exfalso
      split at hv
      · split at hv
        · rename_i hh; exact hh ht
        · cases hv
      · split at hv
        · rename_i hh; exact hh.1 ht
        · cases hv
      · cases hv
    · rename_i el hu
      simp only [Bool.and_eq_true, decide_eq_true_eq] at ht
      obtain ⟨hz, ht⟩ := ht
      have main : lowOf fr lo' = some 0 → highOf fr 0 hi' = some 0 → ((mx.map (Act.eval ⟨tmps, ds⟩) = none) ∨ ∃ k, mx.map (Act.eval ⟨tmps, ds⟩) = some (.int k (0 : Nat))) → (mx = none ∨ hi ≠ none) →
          OpGoal P ⟨dst, .slice t x lo hi mx, ty, pos, aft, gd⟩ tmps ds g0 st0 w0 w .nilslice fr st := fun e1 e2 e3 hmm => by
        refine .value hI ?_ (.plain .nilslice)
        simp only [execOp, h1]
        refine run_v ?_
        have hb := run_bounds (P := P) (w := w) (isSlice := true) (len := 0) (cap := 0) (m := 0) (low_run (ds := ds) hI hlo e1 (Int.le_refl _))
          ((high_run (ds := ds) hI hhi e2 (Int.le_refl _)).imp (fun h => ⟨h.1, h.2.1, hmm.elim (fun e => by rw [e]; rfl) (fun e => absurd h.2.2 e)⟩) id) (e3.imp (fun h => ⟨h, rfl⟩) id) (Nat.le_refl _) (Nat.le_refl _) (Nat.le_refl _)
        simp only [Instr.sliceAt, Instr.slice, Sem.run_bind, run_underlying hu, Result.andThen_ok, hb, chkSz_ok ht, Sem.run_pure]
        rfl
      split at hv
      · rename_i e1 e2
        split at hv
        case isFalse => cases hv
        cases hv
        have hmn : mx = none := by cases mx with | none => rfl | some m => simp [chkOpt] at hmx
        subst hmn
        exact main e1 e2 (.inl rfl) (.inl rfl)
      · rename_i m0 e1 e2
        split at hv
        case isFalse => cases hv
        rename_i hh
        cases hv
        cases mx with
        | none => simp [chkOpt] at hmx
        | some mo =>
          obtain ⟨km, hkm⟩ := intOf_inv (f := f) (g := g) (n := st.size) (w := w) hh.2 (opd_rep (ds := ds) hI hmx)
          exact main e1 e2 (.inr ⟨km, by simp [hkm]⟩) (.inr (by cases hi with | none => simp at hmh | some _ => simp))
      · cases hv
    · cases ht
  case h_4 => cases hv

end
end Go.Proofs.YtelpkgbghhpgaaaGreatDoor.Sx
end
