/- TreeSames returns true for all programs whose data are not larger than a bound. The program's functions as plain code. -/
import Derived.Test.YtelpkgbghhpgaaaGreatDoorS3
set_option linter.all false
section
namespace Go.Proofs.YtelpkgbghhpgaaaGreatDoor.Sx
open AV

/-- What an operation owes: it runs, what it gives stands for the plain value, and all that held holds. -/
def OpGoal (P : Program) (o : Oper) (tmps : Array Value) (ds : List Deferred) (g0 : Gh) (st0 : St) (w0 : World) (w : World) (v : AV) (fr' : Fr) (st' : St) : Prop :=
  ∃ nx c g' f' w', (execOp (Act.eval ⟨tmps, ds⟩) o).run P w = .ok nx w' ∧ (nx = .value c ∨ nx = .skip ∧ c = undef) ∧ Rep g' f' st'.size w' v c ∧ Inv g0 st0 w0 g' f' fr' st' w' tmps

section
variable {g0 g : Gh} {st0 st : St} {w0 w w' : World} {f f' : Fh} {fr : Fr} {tmps : Array Value} {ds : List Deferred} {P : Program} {n : Nat} {o : Oper}

theorem OpGoal.value {v : AV} {c : Value} (hI : Inv g0 st0 w0 g f fr st w tmps) (hr : (execOp (Act.eval ⟨tmps, ds⟩) o).run P w = .ok (.value c) w) (hv : Rep g f st.size w v c) : OpGoal P o tmps ds g0 st0 w0 w v fr st :=
  ⟨.value c, c, g, f, w, hr, .inl rfl, hv, hI⟩

theorem run_v {s : Sem Value} {c : Value} (h : s.run P w = .ok c w') : (do pure (Next.value (← s)) : Sem Next).run P w = .ok (.value c) w' := by simp [h]

theorem ok_mv {y : Opd} (hI : Inv g0 st0 w0 g f fr st w tmps) (hc : chkOp P o (.mv y) = true) : OpGoal P o tmps ds g0 st0 w0 w (y.ev fr) fr st := by
  obtain ⟨dst, op, ty, pos, aft, gd⟩ := o
  simp only [chkOp] at hc
  cases op <;> first
    | (simp at hc; done)
    | exact .value hI rfl (opd_rep hI hc)

theorem ok_pick {c' a' b' : Opd} {t : Bool} (hI : Inv g0 st0 w0 g f fr st w tmps) (hc : chkOp P o (.pick c' a' b') = true) (ht : c'.ev fr = .bool t) :
    OpGoal P o tmps ds g0 st0 w0 w (match t with | true => a'.ev fr | false => b'.ev fr) fr st := by
  obtain ⟨dst, op, ty, pos, aft, gd⟩ := o
  simp only [chkOp] at hc
  cases op <;> first
    | (simp at hc; done)
    | (simp only [Bool.and_eq_true] at hc
       have h1 := opd_rep (ds := ds) hI hc.1.1
       rw [ht] at h1
       have h1 := h1.bool_inv
       cases t
       · exact .value hI (by simp [execOp, h1, asBool]) (opd_rep (ds := ds) hI hc.2)
       · exact .value hI (by simp [execOp, h1, asBool]) (opd_rep (ds := ds) hI hc.1.2))

theorem ok_nchk {y : Opd} {v : AV} {fr' : Fr} {st' : St} (hI : Inv g0 st0 w0 g f fr st w tmps) (hc : chkOp P o (.nchk y) = true) (hs : step fr st (.nchk y) = some (v, fr', st')) : OpGoal P o tmps ds g0 st0 w0 w v fr' st' := by
  obtain ⟨dst, op, ty, pos, aft, gd⟩ := o
  simp only [chkOp] at hc
  cases op <;> first
    | (simp at hc; done)
    | (have h1 := opd_rep (ds := ds) hI hc
       simp only [step] at hs
       split at hs <;> first
         | (rename_i e
            cases hs
            rw [e] at h1
            first
              | (obtain ⟨_, h2⟩ := h1.ptr_inv; refine OpGoal.value hI ?_ h1; simp [execOp, h2])
              | (obtain ⟨_, _, h2⟩ := h1.lptr_inv; refine OpGoal.value hI ?_ h1; simp [execOp, h2])
              | (obtain ⟨_, _, _, h2⟩ := h1.vptr_inv; refine OpGoal.value hI ?_ h1; simp [execOp, h2]))
         | (simp at hs; done))

theorem toList_mk (l : List UInt8) : (⟨l.toArray⟩ : ByteArray).toList = l := by rw [show (⟨l.toArray⟩ : ByteArray).toList = (⟨l.toArray⟩ : ByteArray).data.toList from ByteArray.toList_eq _]
theorem size_mk (l : List UInt8) : (⟨l.toArray⟩ : ByteArray).size = l.length := rfl

def valS : AV → Value
  | .int k n => .int k n
  | .bool b => .bool b
  | .str s => .string ⟨s.toArray⟩
  | _ => undef

theorem run_ibin {op : BinOp} {k : IntKind} {x y : Int} {v : AV} (h : ibin op k x y = some v) (I : Nat → Nat → Prop) :
    (binOp op n (.int k x) (.int k y)).run P w = .ok (valS v) w ∧ PRep w I v (valS v) := by
  cases op <;> simp only [ibin] at h
  case quo => split at h
              · simp at h
              · rename_i hy; cases h; exact ⟨by simp [binOp, Op.intDiv, hy, valS], .int _ _⟩
  case rem => split at h
              · simp at h
              · rename_i hy; cases h; exact ⟨by simp [binOp, Op.intDiv, hy, valS], .int _ _⟩
  case shl => split at h
              · simp at h
              · rename_i hy; cases h; exact ⟨by simp [binOp, Op.shift, hy, valS], .int _ _⟩
  case shr => split at h
              · simp at h
              · rename_i hy; cases h; exact ⟨by simp [binOp, Op.shift, hy, valS], .int _ _⟩
  all_goals cases h
  all_goals first
    | exact ⟨by simp [binOp, Op.intArith, Op.intBits, Op.intCmp, valS], .int _ _⟩
    | exact ⟨by simp [binOp, Op.intArith, Op.intBits, Op.intCmp, valS], .bool _⟩

theorem run_ishift {op : BinOp} {k k' : IntKind} {x y : Int} {v : AV} (h : ibin op k x y = some v) (ho : op = .shl ∨ op = .shr) (I : Nat → Nat → Prop) :
    (binOp op n (.int k x) (.int k' y)).run P w = .ok (valS v) w ∧ PRep w I v (valS v) := by
  rcases ho with rfl | rfl
  · simp only [ibin] at h
    split at h
    · simp at h
    · rename_i hy; cases h; exact ⟨by simp [binOp, Op.shift, hy, valS], .int _ _⟩
  · simp only [ibin] at h
    split at h
    · simp at h
    · rename_i hy; cases h; exact ⟨by simp [binOp, Op.shift, hy, valS], .int _ _⟩

theorem mk_append (x y : List UInt8) : (⟨x.toArray⟩ : ByteArray) ++ ⟨y.toArray⟩ = ⟨(x ++ y).toArray⟩ := by
  apply ByteArray.ext
  simp [ByteArray.data_append]

theorem run_sbin {op : BinOp} {x y : List UInt8} {v : AV} (h : sbin op x y = some v) (I : Nat → Nat → Prop) :
    (binOp op n (.string ⟨x.toArray⟩) (.string ⟨y.toArray⟩)).run P w = .ok (valS v) w ∧ PRep w I v (valS v) := by
  cases op <;> simp only [sbin] at h
  case add =>
    split at h
    · rename_i hl
      cases h
      refine ⟨?_, .str _⟩
      have h1 : ¬ (9223372036854775807 < ((x.length : Int) + (y.length : Int))) := by omega
      simp only [binOp, Op.stringOp, size_mk, valS]
      rw [if_neg (by show ¬ (((x.length + y.length : Nat) : Int) > IntKind.i64.max); have : IntKind.i64.max = 9223372036854775807 := by decide
                     omega), mk_append]
      rfl
    · simp at h
  all_goals first
    | (simp at h; done)
    | (cases h; exact ⟨by simp [binOp, Op.stringOp, toList_mk, valS], .bool _⟩)

theorem eval_eta (a : Act) (x : Operand) : a.eval x = Act.eval ⟨a.tmps, a.defers⟩ x := rfl

theorem guard_scalar {op : BinOp} {t : Nat} {x y : Operand} {a b : Value} (h : ∀ u v, ¬ (a = .agg u ∧ b = .agg v)) (h' : ¬ (a = .nilIface ∧ b = .nilIface)) : (eqGuard op t x y a b).run P w = .ok () w := by
  have key : (match a, b with
      | .nilIface, .nilIface =>
        if (match x with | .const _ => true | _ => false) || (match y with | .const _ => true | _ => false) then (pure () : Sem Unit) else do
          if ← Op.eqGuardIn Op.maxDepth t a b then unsupported (.noEntry "binop/eql: two nil values of an interface type with methods, neither of them the literal nil")
      | .agg _, .agg _ => do
        if !(← program).eqGuardType (← program).depth t then return
        if ← Op.eqGuardIn Op.maxDepth t a b then unsupported (.noEntry "binop/eql: two nil values of an interface type with methods, in a part of a struct or an array")
      | _, _ => pure ()) = pure () := by
    split
    · exact absurd ⟨rfl, rfl⟩ h'
    · exact absurd ⟨rfl, rfl⟩ (h _ _)
    · rfl
  cases op
  case eql => exact congrArg (fun s : Sem Unit => s.run P w) key
  case neq => exact congrArg (fun s : Sem Unit => s.run P w) key
  all_goals rfl

theorem ok_bin {b : BinOp} {x' y' : Opd} {v : AV} (hI : Inv g0 st0 w0 g f fr st w tmps) (hc : chkOp P o (.bin b x' y') = true) (hs : abin b (x'.ev fr) (y'.ev fr) = some v) : OpGoal P o tmps ds g0 st0 w0 w v fr st := by
  obtain ⟨dst, op, ty, pos, aft, gd⟩ := o
  simp only [chkOp] at hc
  cases op <;> first
    | (simp at hc; done)
    | skip
  rename_i op t x y t2
  simp only [Bool.and_eq_true, decide_eq_true_eq] at hc
  obtain ⟨⟨rfl, h1⟩, h2⟩ := hc
  have h1 := opd_rep (ds := ds) hI h1
  have h2 := opd_rep (ds := ds) hI h2
  have fin : ∀ a c, Act.eval ⟨tmps, ds⟩ x = a → Act.eval ⟨tmps, ds⟩ y = c → (∀ u v, ¬ (a = .agg u ∧ c = .agg v)) → ¬ (a = .nilIface ∧ c = .nilIface) → (binOp b t a c).run P w = .ok (valS v) w ∧ PRep w g.imm v (valS v) →
      OpGoal P ⟨dst, .binOp b t x y t2, ty, pos, aft, gd⟩ tmps ds g0 st0 w0 w v fr st := fun a c ha hc n1 n2 hr => by
    refine .value hI ?_ (.plain hr.2)
    simp only [execOp, ha, hc]
    exact run_v (by simp [guard_scalar n1 n2, hr.1])
  unfold abin at hs
  split at hs
  · rename_i e1 e2
    rw [e1] at h1; rw [e2] at h2
    split at hs
    · rename_i hk; subst hk
      exact fin _ _ h1.int_inv h2.int_inv (by simp) (by simp) (run_ibin hs _)
    · split at hs
      · exact fin _ _ h1.int_inv h2.int_inv (by simp) (by simp) (run_ishift hs (.inl rfl) _)
      · exact fin _ _ h1.int_inv h2.int_inv (by simp) (by simp) (run_ishift hs (.inr rfl) _)
      · simp at hs
  · rename_i e1 e2
    rw [e1] at h1; rw [e2] at h2
    exact fin _ _ h1.str_inv h2.str_inv (by simp) (by simp) (run_sbin hs _)
  · simp at hs

end
end Go.Proofs.YtelpkgbghhpgaaaGreatDoor.Sx
end
section
namespace Go.Proofs.YtelpkgbghhpgaaaGreatDoor.Sx
open AV

section
variable {g0 g : Gh} {st0 st : St} {w0 w w' : World} {f f' : Fh} {fr : Fr} {tmps : Array Value} {ds : List Deferred} {P : Program} {n : Nat} {o : Oper}

theorem ok_un {u : UnOp} {y : Opd} {v : AV} (hI : Inv g0 st0 w0 g f fr st w tmps) (hc : chkOp P o (.un u y) = true) (hs : aun u (y.ev fr) = some v) : OpGoal P o tmps ds g0 st0 w0 w v fr st := by
  obtain ⟨dst, op, ty, pos, aft, gd⟩ := o
  simp only [chkOp] at hc
  cases op <;> first
    | (simp at hc; done)
    | skip
  simp only [Bool.and_eq_true, decide_eq_true_eq] at hc
  obtain ⟨rfl, h1⟩ := hc
  have h1 := opd_rep (ds := ds) hI h1
  unfold aun at hs
  split at hs
  · rename_i e; rw [e] at h1; cases hs
    exact .value hI (by simp only [execOp, h1.bool_inv]; exact run_v rfl) (.plain (.bool _))
  · rename_i e; rw [e] at h1; cases hs
    exact .value hI (by simp only [execOp, h1.int_inv]; exact run_v rfl) (.plain (.int _ _))
  · simp at hs

theorem ok_conv {k : IntKind} {y : Opd} {v : AV} {fr' : Fr} {st' : St} (hI : Inv g0 st0 w0 g f fr st w tmps) (hc : chkOp P o (.conv k y) = true) (hs : step fr st (.conv k y) = some (v, fr', st')) : OpGoal P o tmps ds g0 st0 w0 w v fr' st' := by
  obtain ⟨dst, op, ty, pos, aft, gd⟩ := o
  simp only [chkOp] at hc
  cases op <;> first
    | (simp at hc; done)
    | skip
  rename_i s d x
  simp only [Bool.and_eq_true] at hc
  obtain ⟨⟨h1, h2⟩, h3⟩ := hc
  have h1 := opd_rep (ds := ds) hI h1
  obtain ⟨sd, hsd⟩ := Option.isSome_iff_exists.1 h2
  simp only [step] at hs
  split at hs
  · rename_i e; rw [e] at h1; cases hs
    split at h3
    · rename_i j hd
      simp only [beq_iff_eq] at h3; subst h3
      refine .value hI ?_ (.plain (.int _ _))
      simp only [execOp, h1.int_inv]
      exact run_v (by simp [convert, run_underlying hsd, run_underlying hd, Conv.intToInt])
    · simp at h3
  · simp at hs

theorem ok_iface {t : Nat} {y : Opd} {v : AV} {fr' : Fr} {st' : St} (hI : Inv g0 st0 w0 g f fr st w tmps) (hc : chkOp P o (.iface t y) = true) (hs : step fr st (.iface t y) = some (v, fr', st')) : OpGoal P o tmps ds g0 st0 w0 w v fr' st' := by
  obtain ⟨dst, op, ty, pos, aft, gd⟩ := o
  simp only [chkOp] at hc
  cases op <;> first
    | (simp at hc; done)
    | skip
  rename_i xt x
  simp only [Bool.and_eq_true, beq_iff_eq] at hc
  obtain ⟨⟨rfl, h1⟩, h3⟩ := hc
  have h1 := opd_rep (ds := ds) hI h1
  simp only [step] at hs
  split at hs
  · rename_i hp; cases hs
    refine .value hI ?_ (.iface _ _ _ hp h1)
    split at h3
    · simp at h3
    · rename_i d hd hne
      simp only [execOp]
      refine run_v ?_
      simp only [Instr.makeInterface, Sem.run_bind, run_underlying hne, Result.andThen_ok]
      cases d <;> simp_all
    · simp at h3
  · simp at hs

theorem map_rep (hI : Inv g0 st0 w0 g f fr st w tmps) {xs : Array Operand} {ys : List Opd} (h : chkOpds xs.toList ys = true) :
    (ys.map (Opd.ev fr)).length = (xs.toList.map (Act.eval ⟨tmps, ds⟩)).length ∧ ∀ i (h : i < (ys.map (Opd.ev fr)).length) (h' : i < (xs.toList.map (Act.eval ⟨tmps, ds⟩)).length), Rep g f st.size w (ys.map (Opd.ev fr))[i] (xs.toList.map (Act.eval ⟨tmps, ds⟩))[i] := by
  obtain ⟨h1, h2⟩ := opds_rep (ds := ds) hI h
  refine ⟨by simpa using h1.symm, fun i a b => ?_⟩
  simp only [List.getElem_map]
  exact h2 i (by simpa using a) (by simpa using b)

theorem map_arr (xs : Array Operand) (ρ : Operand → Value) : xs.map ρ = (xs.toList.map ρ).toArray := by
  apply Array.ext'
  simp

theorem ok_mkf {fn : Fn} {first captured : List Opd} {v : AV} {fr' : Fr} {st' : St} (hI : Inv g0 st0 w0 g f fr st w tmps) (hc : chkOp P o (.mkf fn first captured) = true) (hs : step fr st (.mkf fn first captured) = some (v, fr', st')) :
    OpGoal P o tmps ds g0 st0 w0 w v fr' st' := by
  obtain ⟨dst, op, ty, pos, aft, gd⟩ := o
  simp only [chkOp] at hc
  cases op <;> first
    | (simp at hc; done)
    | skip
  simp only [Bool.and_eq_true, decide_eq_true_eq] at hc
  obtain ⟨⟨rfl, h1⟩, h2⟩ := hc
  obtain ⟨a1, a2⟩ := map_rep (ds := ds) hI h1
  obtain ⟨b1, b2⟩ := map_rep (ds := ds) hI h2
  simp only [step] at hs
  split at hs
  · cases hs
    refine .value hI ?_ (.func _ _ _ _ _ a1 b1 a2 b2)
    simp only [execOp]
    refine run_v ?_
    simp only [Instr.makeFunc, map_arr]
    rfl
  · simp at hs

theorem ok_ext {y : Opd} {i : Nat} {v : AV} {fr' : Fr} {st' : St} (hI : Inv g0 st0 w0 g f fr st w tmps) (hc : chkOp P o (.ext y i) = true) (hs : step fr st (.ext y i) = some (v, fr', st')) : OpGoal P o tmps ds g0 st0 w0 w v fr' st' := by
  obtain ⟨dst, op, ty, pos, aft, gd⟩ := o
  simp only [chkOp] at hc
  cases op <;> first
    | (simp at hc; done)
    | skip
  rename_i x i'
  simp only [Bool.and_eq_true, beq_iff_eq] at hc
  obtain ⟨h1, hii⟩ := hc
  subst hii
  have h1 := opd_rep (ds := ds) hI h1
  simp only [step] at hs
  split at hs
  · rename_i vs e; rw [e] at h1
    obtain ⟨cs, h2, h3, h4⟩ := h1.tuple_inv
    split at hs
    · rename_i v' hv; cases hs
      have hlt := (List.getElem?_eq_some_iff.1 hv).1
      have hve := (List.getElem?_eq_some_iff.1 hv).2
      have hlt' : i < cs.length := by omega
      refine .value hI ?_ (hve ▸ h4 i hlt hlt')
      simp only [execOp, h2]
      refine run_v ?_
      simp [Instr.extract, List.getElem?_eq_getElem hlt']
    · simp at hs
  · simp at hs

theorem gobj_map {r : Nat} {es : Array MapEntry} {clock : Nat} (hb : w.heap[r]? = some (.map es clock)) : (getObj r).run P w = .ok (.map es clock) w := by simp [getObj, Sem.run, hb]

theorem ok_alen {m : Nat} (hI : Inv g0 st0 w0 g f fr st w tmps) (hc : chkOp P o (.alen m) = true) : OpGoal P o tmps ds g0 st0 w0 w (.int .i64 m) fr st := by
  obtain ⟨dst, op, ty, pos, aft, gd⟩ := o
  simp only [chkOp] at hc
  cases op <;> first
    | (simp at hc; done)
    | skip
  rename_i c
  obtain ⟨cal, ⟨args⟩, ats⟩ := c
  simp only [chkCall] at hc
  split at hc <;> first
    | (simp at hc; done)
    | skip
  rename_i x t e3
  split at hc
  · rename_i m' el hu
    simp only [beq_iff_eq] at hc; subst hc
    refine .value hI ?_ (.plain (.int _ _))
    simp [execOp, resolve, invoke, builtin, Builtin.len_, e3, run_underlying hu, goInt]
  · simp at hc

theorem ok_len {k : EqK} {y : Opd} {v : AV} {fr' : Fr} {st' : St} (hI : Inv g0 st0 w0 g f fr st w tmps) (hc : chkOp P o (.len k y) = true) (hs : step fr st (.len k y) = some (v, fr', st')) : OpGoal P o tmps ds g0 st0 w0 w v fr' st' := by
  obtain ⟨dst, op, ty, pos, aft, gd⟩ := o
  simp only [chkOp] at hc
  cases op <;> first
    | (simp at hc; done)
    | skip
  rename_i c
  obtain ⟨cal, ⟨args⟩, ats⟩ := c
  simp only [chkCall] at hc
  split at hc <;> first
    | (simp at hc; done)
    | skip
  rename_i x t e3
  simp only [Bool.and_eq_true] at hc
  obtain ⟨h1, h2⟩ := hc
  have h1 := opd_rep (ds := ds) hI h1
  simp only [step] at hs
  generalize y.ev fr = yv at h1 hs
  split at hs
  · rename_i m hm
    cases hs
    unfold lenA at hm
    split at hm <;> cases hm <;> split at h2 <;> first
      | (simp at h2; done)
      | contradiction
      | (rename_i hu; have h1 := h1.str_inv; refine .value hI ?_ (.plain (.int _ _)); simp [execOp, resolve, invoke, builtin, Builtin.len_, e3, run_underlying hu, goInt, h1, size_mk]; done)
      | (rename_i hu; obtain ⟨_, a, cap, vs, h1, _⟩ := h1.slice_inv.1.slice_inv; refine .value hI ?_ (.plain (.int _ _)); simp [execOp, resolve, invoke, builtin, Builtin.len_, e3, run_underlying hu, goInt, h1]; done)
      | (rename_i hu; have h1 := h1.nilslice_inv; refine .value hI ?_ (.plain (.int _ _)); simp [execOp, resolve, invoke, builtin, Builtin.len_, e3, run_underlying hu, goInt, h1]; done)
      | (rename_i hu; have h1 := h1.nilmap_inv; refine .value hI ?_ (.plain (.int _ _)); simp [execOp, resolve, invoke, builtin, Builtin.len_, e3, run_underlying hu, goInt, h1]; done)
      | skip
  · split at hs
    · rename_i id _
      split at hs
      · rename_i es he
        cases hs
        obtain ⟨hid, h1⟩ := h1.mapr_inv
        split at h2 <;> first
          | (simp at h2; done)
          | contradiction
          | skip
        rename_i hk hu
        unfold St.entries at he
        split at he
        · rename_i es' hes; cases he
          obtain ⟨ents, clock, h3, h4, _⟩ := hI.h.obj id _ hes
          refine .value hI ?_ (.plain (.int _ _))
          simp [execOp, resolve, invoke, builtin, Builtin.len_, e3, run_underlying hu, goInt, h1, gobj_map h3, h4]
        · cases he
      · simp at hs
    · simp at hs

end
end Go.Proofs.YtelpkgbghhpgaaaGreatDoor.Sx
end
section
namespace Go.Proofs.YtelpkgbghhpgaaaGreatDoor.Sx
open AV

section
variable {g0 g : Gh} {st0 st : St} {w0 w w' : World} {f f' : Fh} {fr : Fr} {tmps : Array Value} {ds : List Deferred} {P : Program} {n : Nat} {o : Oper} {I : Nat → Nat → Prop}

theorem RowRep.drop {cs : List AV} {a : Addr} {vs : Nat → Value} (h : RowRep w I cs a vs) (off : Nat) : RowRep w I (cs.drop off) (a.add off) (fun k => vs (off + k)) := by
  by_cases hp : 0 < (cs.drop off).length
  · have hp' : off < cs.length := by simp at hp; omega
    have hs := h.spot (by omega)
    rw [add_row hs]
    refine ⟨fun _ => rfl, fun k hk => ?_, fun k hk => ?_⟩
    · have := h.row (off + k) (by simp at hk; omega)
      simpa [Nat.add_assoc] using this
    · simp only [List.getElem_drop]
      exact h.el (off + k) _
  · exact ⟨fun h => absurd h hp, fun k hk => absurd hk (by omega), fun k hk => absurd hk (by omega)⟩

theorem RowRep.take {cs : List AV} {a : Addr} {vs : Nat → Value} (h : RowRep w I cs a vs) (m : Nat) : RowRep w I (cs.take m) a vs := by
  refine ⟨fun hp => h.spot (by simp at hp; omega), fun k hk => h.row k (by simp at hk; omega), fun k hk => ?_⟩
  simp only [List.getElem_take]
  exact h.el k _

theorem RowRep.nil {a : Addr} {vs : Nat → Value} : RowRep w I [] a vs := ⟨fun h => absurd h (by simp), fun k hk => absurd hk (by simp), fun k hk => absurd hk (by simp)⟩

theorem flat_drop {sz : Nat} : ∀ {els : List (List AV)} (l : Nat), (∀ e ∈ els, e.length = sz) → (els.drop l).flatten = els.flatten.drop (l * sz)
  | [], l, _ => by simp
  | e :: r, 0, _ => by simp
  | e :: r, l + 1, h => by
    have he := h e (by simp)
    have h3 : e.drop (l * sz + sz) = [] := List.drop_eq_nil_of_le (by rw [he]; omega)
    rw [List.drop_succ_cons, flat_drop l (fun x hx => h x (by simp [hx])), List.flatten_cons, List.drop_append, he, Nat.succ_mul, show l * sz + sz - sz = l * sz by omega, h3, List.nil_append]

theorem flat_take {sz : Nat} : ∀ {els : List (List AV)} (l : Nat), (∀ e ∈ els, e.length = sz) → (els.take l).flatten = els.flatten.take (l * sz)
  | [], l, _ => by simp
  | e :: r, 0, _ => by simp
  | e :: r, l + 1, h => by
    have he := h e (by simp)
    have h3 : e.take (l * sz + sz) = e := List.take_of_length_le (by rw [he]; omega)
    rw [List.take_succ_cons, List.flatten_cons, flat_take l (fun x hx => h x (by simp [hx])), List.flatten_cons, List.take_append, he, Nat.succ_mul, show l * sz + sz - sz = l * sz by omega, h3]

theorem flat_len {sz : Nat} : ∀ {els : List (List AV)}, (∀ e ∈ els, e.length = sz) → els.flatten.length = els.length * sz
  | [], _ => by simp
  | e :: r, h => by
    rw [List.flatten_cons, List.length_append, flat_len (fun x hx => h x (by simp [hx])), h e (by simp), List.length_cons, Nat.succ_mul]
    omega

theorem flat_get {sz : Nat} {els : List (List AV)} {i : Nat} {e : List AV} (h : ∀ e ∈ els, e.length = sz) (hi : els[i]? = some e) : e = (els.flatten.drop (i * sz)).take sz := by
  obtain ⟨hlt, he⟩ := List.getElem?_eq_some_iff.1 hi
  rw [← flat_drop i h, show els.drop i = els[i] :: els.drop (i + 1) from List.drop_eq_getElem_cons hlt, he, List.flatten_cons]
  rw [List.take_left' (h e (he ▸ List.getElem_mem hlt))]

theorem chkSz_ok {t k : Nat} (h : chkSz P t k = true) (w : World) : (sizeOf t).run P w = .ok k w := by
  unfold chkSz at h
  split at h
  · rename_i i hi
    simp only [beq_iff_eq] at h
    simp [sizeOf, typeInfo, hi, h]
  · cases h

theorem ok_addr {y : Opd} {off : Nat} {v : AV} {fr' : Fr} {st' : St} (hI : Inv g0 st0 w0 g f fr st w tmps) (hc : chkOp P o (.addr y off) = true) (hs : step fr st (.addr y off) = some (v, fr', st')) : OpGoal P o tmps ds g0 st0 w0 w v fr' st' := by
  obtain ⟨dst, op, ty, pos, aft, gd⟩ := o
  simp only [chkOp] at hc
  cases op <;> first
    | (simp at hc; done)
    | skip
  rename_i s x i
  simp only [Bool.and_eq_true] at hc
  obtain ⟨h1, h2⟩ := hc
  have h1 := opd_rep (ds := ds) hI h1
  unfold chkFieldAddr at h2
  split at h2
  case h_2 => cases h2
  rename_i fields hu
  split at h2
  case h_2 => cases h2
  rename_i fd hfd
  simp only [Bool.and_eq_true, beq_iff_eq] at h2
  obtain ⟨rfl, h2⟩ := h2
  split at h2
  case h_2 => cases h2
  rename_i ti hti
  have hz : ti.size ≠ 0 := by simpa using h2
  have run : ∀ a, Act.eval ⟨tmps, ds⟩ x = .pointer (some a) → (execOp (Act.eval ⟨tmps, ds⟩) ⟨dst, .fieldAddr s x i, ty, pos, aft, gd⟩).run P w = .ok (.value (.pointer (some (a.add fd.offset)))) w := fun a ha => by
    simp only [execOp, ha]
    exact run_v (by simp [Instr.fieldAt, run_underlying hu, hfd, Instr.sureAddr, fieldPlace, sizeOf, typeInfo, hti, hz])
  simp only [step] at hs
  split at hs
  · rename_i id o' e; rw [e] at h1; cases hs
    obtain ⟨hid, h3⟩ := h1.ptr_inv
    refine .value hI (run _ h3) ?_
    rw [add_lit]; exact .ptr _ _ hid
  · rename_i e; rw [e] at h1; cases hs
    obtain ⟨b, hb, h3⟩ := h1.lptr_inv
    refine .value hI (run _ h3) ?_
    rw [add_lit]; exact .lptr _ _ _ _ hb
  · rename_i cs e; rw [e] at h1; cases hs
    obtain ⟨a, vs, hr, h3⟩ := h1.vptr_inv
    exact .value hI (run _ h3) (.vptr _ _ _ (hr.drop _))
  · cases hs

theorem run_part {t k off : Nat} {a : Bool} {vs : Array Value} (ht : chkTy P t k a = true) :
    (a = true → (part t vs off).run P w = .ok (.agg (vs.extract off (off + k))) w) ∧ (a = false → ∀ c, vs[off]? = some c → (part t vs off).run P w = .ok c w) := by
  obtain ⟨h1, h2, _⟩ := chkTy_ok ht w
  exact ⟨fun e => by subst e; simp [part, h2, h1], fun e c hc => by subst e; simp [part, h2, hc]⟩

theorem part_ok {t k off : Nat} {a : Bool} {cs : List AV} {vs : List Value} {v : AV} (ht : chkTy P t k a = true) (hl : cs.length = vs.length)
    (hr : ∀ i (h : i < cs.length) (h' : i < vs.length), Rep g f n w cs[i] vs[i]) (h1 : ∀ c ∈ vs, c.oneCell' = true) (h : rd cs off k a = some v) : ∃ c, (part t vs.toArray off).run P w = .ok c w ∧ Rep g f n w v c := by
  obtain ⟨k1, k2⟩ := rd_rep (vs := vs.toArray) (by simpa using hl) (fun i a a' => ⟨by simpa using hr i a (by simpa using a'), by simpa using h1 _ (List.getElem_mem (by simpa using a'))⟩) h
  obtain ⟨p1, p2⟩ := run_part (w := w) (vs := vs.toArray) (off := off) ht
  cases a with
  | true => exact ⟨_, p1 rfl, (k1 rfl).1⟩
  | false => obtain ⟨c, hc, hr⟩ := k2 rfl; exact ⟨c, p2 rfl c hc, hr⟩

theorem ok_part {y : Opd} {off k : Nat} {a : Bool} {v : AV} {fr' : Fr} {st' : St} (hI : Inv g0 st0 w0 g f fr st w tmps) (hc : chkOp P o (.part y off k a) = true) (hs : step fr st (.part y off k a) = some (v, fr', st')) : OpGoal P o tmps ds g0 st0 w0 w v fr' st' := by
  obtain ⟨dst, op, ty, pos, aft, gd⟩ := o
  simp only [chkOp] at hc
  cases op <;> first
    | (simp at hc; done)
    | skip
  rename_i s x i
  simp only [Bool.and_eq_true] at hc
  obtain ⟨h1, h2⟩ := hc
  have h1 := opd_rep (ds := ds) hI h1
  unfold chkField at h2
  split at h2
  case h_2 => cases h2
  rename_i fields hu
  split at h2
  case h_2 => cases h2
  rename_i fd hfd
  simp only [Bool.and_eq_true, beq_iff_eq] at h2
  obtain ⟨rfl, h2⟩ := h2
  simp only [step] at hs
  split at hs
  case h_2 => cases hs
  rename_i cs e; rw [e] at h1
  split at hs
  case h_2 => cases hs
  rename_i v' hv; cases hs
  obtain ⟨vs, h3, h4, h5, h6⟩ := h1.agg_inv
  obtain ⟨c, hr, hrep⟩ := part_ok h2 h4 h5 h6 hv
  refine .value hI ?_ hrep
  simp only [execOp, h3]
  exact run_v (by simp [Instr.field, run_underlying hu, hfd, asAgg, hr])

theorem intOf_inv {x : AV} {k : Int} {c : Value} (h : intOf? x = some k) (hr : Rep g f n w x c) : ∃ ik, c = .int ik k := by
  unfold intOf? at h
  split at h
  · cases h; exact ⟨_, hr.int_inv⟩
  · cases h

theorem ok_ixa {y i : Opd} {sz : Nat} {v : AV} {fr' : Fr} {st' : St} (hI : Inv g0 st0 w0 g f fr st w tmps) (hc : chkOp P o (.ixa y i sz) = true) (hs : step fr st (.ixa y i sz) = some (v, fr', st')) : OpGoal P o tmps ds g0 st0 w0 w v fr' st' := by
  obtain ⟨dst, op, ty, pos, aft, gd⟩ := o
  simp only [chkOp] at hc
  cases op <;> first
    | (simp at hc; done)
    | skip
  rename_i t x ix
  simp only [Bool.and_eq_true] at hc
  obtain ⟨⟨h1, h2⟩, h3⟩ := hc
  have h1 := opd_rep (ds := ds) hI h1
  have h2 := opd_rep (ds := ds) hI h2
  split at h3
  case h_2 => cases h3
  rename_i el hu
  simp only [step] at hs
  split at hs
  case h_2 => cases hs
  rename_i k hk
  obtain ⟨ik, h2⟩ := intOf_inv hk h2
  split at hs
  case h_2 => cases hs
  rename_i e he
  cases hs
  unfold elA at he
  split at he
  case h_2 => cases he
  rename_i s els own ey
  rw [ey] at h1
  obtain ⟨_, a, cap, vs, h4, h5, h6, h7⟩ := h1.slice_inv.1.slice_inv
  split at he
  case isFalse => cases he
  rename_i hk0
  obtain ⟨rfl, hk0⟩ := hk0
  have hlt := (List.getElem?_eq_some_iff.1 he).1
  refine .value hI ?_ (.vptr _ _ _ (flat_get h5 he ▸ ((h7.drop (k.toNat * s)).take s)))
  simp only [execOp, h4, h2]
  refine run_v ?_
  simp [Instr.indexAt, asIntOf, run_underlying hu, chkSz_ok h3, show 0 ≤ k ∧ k < (els.length : Int) by omega]

theorem ok_ixp {y i : Opd} {len sz : Nat} {v : AV} {fr' : Fr} {st' : St} (hI : Inv g0 st0 w0 g f fr st w tmps) (hc : chkOp P o (.ixp y i len sz) = true) (hs : step fr st (.ixp y i len sz) = some (v, fr', st')) : OpGoal P o tmps ds g0 st0 w0 w v fr' st' := by
  obtain ⟨dst, op, ty, pos, aft, gd⟩ := o
  simp only [chkOp] at hc
  cases op <;> first
    | (simp at hc; done)
    | skip
  rename_i t x ix
  simp only [Bool.and_eq_true] at hc
  obtain ⟨⟨h1, h2⟩, h3⟩ := hc
  have h1 := opd_rep (ds := ds) hI h1
  have h2 := opd_rep (ds := ds) hI h2
  split at h3
  case h_2 => cases h3
  rename_i m el hu
  simp only [Bool.and_eq_true, beq_iff_eq] at h3
  obtain ⟨rfl, h3⟩ := h3
  simp only [step] at hs
  split at hs
  case h_2 => cases hs
  rename_i k hk
  obtain ⟨ik, h2⟩ := intOf_inv hk h2
  split at hs
  case isFalse => cases hs
  rename_i hkk
  have run : ∀ a, Act.eval ⟨tmps, ds⟩ x = .pointer (some a) → (execOp (Act.eval ⟨tmps, ds⟩) ⟨dst, .indexAddr t x ix, ty, pos, aft, gd⟩).run P w = .ok (.value (.pointer (some (a.add (k.toNat * sz))))) w := fun a ha => by
    simp only [execOp, ha, h2]
    exact run_v (by simp [Instr.indexAt, asIntOf, run_underlying hu, chkSz_ok h3, Instr.sureAddr, hkk])
  split at hs
  · rename_i id o' e; rw [e] at h1; cases hs
    obtain ⟨hid, h3⟩ := h1.ptr_inv
    refine .value hI (run _ h3) ?_
    rw [add_lit]; exact .ptr _ _ hid
  · rename_i e; rw [e] at h1; cases hs
    obtain ⟨b, hb, h3⟩ := h1.lptr_inv
    refine .value hI (run _ h3) ?_
    rw [add_lit]; exact .lptr _ _ _ _ hb
  · rename_i cs e; rw [e] at h1; cases hs
    obtain ⟨a, vs, hr, h3⟩ := h1.vptr_inv
    exact .value hI (run _ h3) (.vptr _ _ _ (hr.drop _))
  · cases hs

theorem mk_get (s : List UInt8) (k : Nat) : (⟨s.toArray⟩ : ByteArray)[k]? = s[k]? := by
  by_cases h : k < s.length
  · rw [List.getElem?_eq_getElem h, getElem?_pos (⟨s.toArray⟩ : ByteArray) k (show k < (⟨s.toArray⟩ : ByteArray).size from h)]
    rfl
  · rw [List.getElem?_eq_none (by omega), getElem?_neg (⟨s.toArray⟩ : ByteArray) k (show ¬ k < (⟨s.toArray⟩ : ByteArray).size from h)]

theorem ok_ixs {y i : Opd} {v : AV} {fr' : Fr} {st' : St} (hI : Inv g0 st0 w0 g f fr st w tmps) (hc : chkOp P o (.ixs y i) = true) (hs : step fr st (.ixs y i) = some (v, fr', st')) : OpGoal P o tmps ds g0 st0 w0 w v fr' st' := by
  obtain ⟨dst, op, ty, pos, aft, gd⟩ := o
  simp only [chkOp] at hc
  cases op <;> first
    | (simp at hc; done)
    | skip
  rename_i t x ix
  simp only [Bool.and_eq_true] at hc
  obtain ⟨⟨h1, h2⟩, h3⟩ := hc
  have h1 := opd_rep (ds := ds) hI h1
  have h2 := opd_rep (ds := ds) hI h2
  split at h3
  case h_2 => cases h3
  rename_i hu
  simp only [step] at hs
  split at hs
  case h_2 => cases hs
  rename_i s k es hk
  rw [es] at h1
  have h1 := h1.str_inv
  obtain ⟨ik, h2⟩ := intOf_inv hk h2
  split at hs
  case isFalse => cases hs
  rename_i hk0
  split at hs
  case h_2 => cases hs
  rename_i b hb
  cases hs
  refine .value hI ?_ (.plain (.int _ _))
  simp only [execOp, h1, h2]
  refine run_v ?_
  simp [Instr.index, asIntOf, run_underlying hu, hk0, mk_get, hb]

theorem ok_ixv {y i : Opd} {len sz : Nat} {a : Bool} {v : AV} {fr' : Fr} {st' : St} (hI : Inv g0 st0 w0 g f fr st w tmps) (hc : chkOp P o (.ixv y i len sz a) = true) (hs : step fr st (.ixv y i len sz a) = some (v, fr', st')) : OpGoal P o tmps ds g0 st0 w0 w v fr' st' := by
  obtain ⟨dst, op, ty, pos, aft, gd⟩ := o
  simp only [chkOp] at hc
  cases op <;> first
    | (simp at hc; done)
    | skip
  rename_i t x ix
  simp only [Bool.and_eq_true] at hc
  obtain ⟨⟨h1, h2⟩, h3⟩ := hc
  have h1 := opd_rep (ds := ds) hI h1
  have h2 := opd_rep (ds := ds) hI h2
  split at h3
  case h_2 => cases h3
  rename_i m el hu
  simp only [Bool.and_eq_true, beq_iff_eq] at h3
  obtain ⟨rfl, h3⟩ := h3
  simp only [step] at hs
  split at hs
  case h_2 => cases hs
  rename_i cs k ec hk
  rw [ec] at h1
  obtain ⟨ik, h2⟩ := intOf_inv hk h2
  split at hs
  case isFalse => cases hs
  rename_i hkk
  split at hs
  case h_2 => cases hs
  rename_i v' hv; cases hs
  obtain ⟨vs, h4, h5, h6, h7⟩ := h1.agg_inv
  obtain ⟨c, hr, hrep⟩ := part_ok h3 h5 h6 h7 hv
  refine .value hI ?_ hrep
  simp only [execOp, h4, h2]
  exact run_v (by simp [Instr.index, asIntOf, run_underlying hu, hkk, hr, (chkTy_ok h3 w).1])

end
end Go.Proofs.YtelpkgbghhpgaaaGreatDoor.Sx
end
