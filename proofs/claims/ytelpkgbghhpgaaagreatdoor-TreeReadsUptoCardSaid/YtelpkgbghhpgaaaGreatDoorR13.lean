/- TreeReads returns true for all texts whose data are not larger than a bound. The program's functions as plain code. -/
import Derived.Test.YtelpkgbghhpgaaaGreatDoorR12
set_option linter.all false
section
namespace Go.Proofs.YtelpkgbghhpgaaaGreatDoor.Sx
open AV
def chkPlainRegion (P : Program) (ops : Array Oper) (nt : Nat) (its : List AItem) : Bool :=
  its.map (·.i) == List.range ops.size && its.all (chkItem P ops nt) && decide (als its).Nodup
def chkCode (P : Program) (nt : Nat) : Code → ACode → Bool
  | .skip, .skip => true
  | .ret, .ret => true
  | .exit i, .exit j => i == j
  | .region _ ops d, .region d' its _ => d == d' && (match d with | true => P.follows .mixedOrders && chkDraw P ops nt its | false => chkPlainRegion P ops nt its)
  | .seq a b, .seq a' b' => chkCode P nt a a' && chkCode P nt b b'
  | .cond c a b, .cond c' a' b' => chkOpd c c' && chkCode P nt a a' && chkCode P nt b b'
  | .block i b, .block j b' => i == j && chkCode P nt b b'
  | .loop b, .loop b' => chkCode P nt b b'
  | _, _ => false
section
variable {g0 g g' : Gh} {st0 st : St} {w0 w w' : World} {f f' : Fh} {fr : Fr} {tmps : Array Value} {ds : List Deferred} {P : Program} {n n' m nt : Nat} {o : Oper} {I : Nat → Nat → Prop} {ops : Array Oper}
theorem Inv.bump (hI : Inv g0 st0 w0 g f fr st w tmps) : Inv g0 st0 w0 g f { fr with ser := fr.ser + 1 } st w tmps :=
  hI.regs_of hI.fi.regs rfl rfl (Nat.le_succ _)
theorem Inv.drew (hI : Inv g0 st0 w0 g f fr st w tmps) : Inv g0 st0 w0 g f fr st { w with drawn := w.drawn + 1 } tmps := hI.chg ((Chg.refl _ w).drew)
theorem least {R : Nat → Prop} (h : ∃ k, R k) : ∃ k, R k ∧ ∀ j, R j → k ≤ j := by
  obtain ⟨k, hk⟩ := h
  induction k using Nat.strongRecOn with
  | ind k ih =>
    by_cases hex : ∃ j, j < k ∧ R j
    · obtain ⟨j, hj, hr⟩ := hex; exact ih j hj hr
    · exact ⟨k, hk, fun j hj => Nat.le_of_not_lt fun hlt => hex ⟨j, hlt, hj⟩⟩
open Classical in
noncomputable def lowest (R : Nat → Prop) : Nat := if h : ∃ k, R k then Classical.choose (least h) else 0
theorem lowest_spec {R : Nat → Prop} (h : ∃ k, R k) : R (lowest R) := by
  unfold lowest
  rw [dif_pos h]
  exact (Classical.choose_spec (least h)).1
theorem lowest_le {R : Nat → Prop} {j : Nat} (h : R j) : lowest R ≤ j := by
  unfold lowest
  rw [dif_pos ⟨j, h⟩]
  exact (Classical.choose_spec (least ⟨j, h⟩)).2 j h
theorem code_wp {call : CallFn} (hcall : CallOk P g0 st0 w0 call) (N : Nat) : ∀ (c : Code) (ac : ACode) (Q : Exit → Act → World → Prop) (ex : Ex) (fr fr' : Fr) (st st' : St) (g : Gh) (f : Fh) (w : World) (tmps : Array Value),
    chkCode P nt c ac = true → eval call N ac fr st = some (ex, fr', st') → Inv g0 st0 w0 g f fr st w tmps → tmps.size = nt → Ends ds Q g0 st0 w0 nt ex fr' st' → c.wp P Q ⟨tmps, ds⟩ w := by
  intro c
  induction c with
  | skip =>
    intro ac Q ex fr fr' st st' g f w tmps hc he hI hsz hQ
    cases ac <;> first | (cases hc; done) | skip
    simp only [eval, Option.some.injEq, Prod.mk.injEq] at he
    obtain ⟨rfl, rfl, rfl⟩ := he
    exact wp_skip (hQ g f w tmps hI hsz)
  | ret =>
    intro ac Q ex fr fr' st st' g f w tmps hc he hI hsz hQ
    cases ac <;> first | (cases hc; done) | skip
    simp only [eval, Option.some.injEq, Prod.mk.injEq] at he
    obtain ⟨rfl, rfl, rfl⟩ := he
    exact wp_ret (hQ g f w tmps hI hsz)
  | exit i =>
    intro ac Q ex fr fr' st st' g f w tmps hc he hI hsz hQ
    cases ac <;> first | (cases hc; done) | skip
    simp only [eval, Option.some.injEq, Prod.mk.injEq] at he
    obtain ⟨rfl, rfl, rfl⟩ := he
    simp only [chkCode, beq_iff_eq] at hc
    subst hc
    exact wp_exit (hQ g f w tmps hI hsz)
  | region id ops d =>
    intro ac Q ex fr fr' st st' g f w tmps hc he hI hsz hQ
    cases ac <;> first | (cases hc; done) | skip
    rename_i d' its live
    simp only [chkCode, Bool.and_eq_true, beq_iff_eq] at hc
    obtain ⟨rfl, hc⟩ := hc
    have hlt : ∀ (li s : Nat) (cs : List AV), fr.loc[li]? = some (s, cs) → s < fr.ser + 1 := fun li s cs h => Nat.lt_succ_of_le (hI.fi.locser li s cs h)
    simp only [eval] at he
    have key : ∃ fr1, runItems call its { fr with ser := fr.ser + 1 } st = some (ex, fr1, st') ∧ Ends ds Q g0 st0 w0 nt ex fr1 st' := by
      split at he
      · rename_i fr1 st1 hr
        simp only [Option.some.injEq, Prod.mk.injEq] at he
        obtain ⟨rfl, rfl, rfl⟩ := he
        exact ⟨fr1, hr, fun g f w tmps hI hs => hQ g f w tmps (hI.keep live) hs⟩
      · exact ⟨fr', he, hQ⟩
    obtain ⟨fr1, hr, hE⟩ := key
    cases d with
    | false =>
      simp only [chkPlainRegion, Bool.and_eq_true, beq_iff_eq, decide_eq_true_eq] at hc
      obtain ⟨⟨h1, h2⟩, h3⟩ := hc
      refine wp_region ?_
      rw [← h1]
      exact items_wp hcall hE its _ st tmps g f w hI.bump hsz (fun it h => List.all_eq_true.1 h2 it h) h3 (fun li _ s cs h => hlt li s cs h) hr
    | true =>
      simp only [Bool.and_eq_true] at hc
      exact wp_region_any hc.1 (draw_wp hcall hc.1 hE hI.drew.bump hsz hc.2 hlt hr)
  | seq a b iha ihb =>
    intro ac Q ex fr fr' st st' g f w tmps hc he hI hsz hQ
    cases ac <;> first | (cases hc; done) | skip
    rename_i a' b'
    simp only [chkCode, Bool.and_eq_true] at hc
    simp only [eval] at he
    refine wp_seq ?_
    split at he
    · rename_i fr1 st1 h1
      exact iha a' _ .normal fr fr1 st st1 g f w tmps hc.1 h1 hI hsz fun g' f' w' tmps' hI' hs' => ihb b' Q ex fr1 fr' st1 st' g' f' w' tmps' hc.2 he hI' hs' hQ
    · rename_i hne
      refine iha a' _ ex fr fr' st st' g f w tmps hc.1 he hI hsz ?_
      cases ex with
      | normal => exact (hne _ _ he).elim
      | ret => exact hQ
      | exit i => exact hQ
      | panic v => exact hQ
  | cond x a b iha ihb =>
    intro ac Q ex fr fr' st st' g f w tmps hc he hI hsz hQ
    cases ac <;> first | (cases hc; done) | skip
    rename_i x' a' b'
    simp only [chkCode, Bool.and_eq_true] at hc
    have hx := opd_rep (ds := ds) hI hc.1.1
    simp only [eval] at he
    split at he
    · rename_i hv
      rw [hv] at hx
      exact wp_cond_true hx.bool_inv (iha a' Q ex fr fr' st st' g f w tmps hc.1.2 he hI hsz hQ)
    · rename_i hv
      rw [hv] at hx
      exact wp_cond_false hx.bool_inv (ihb b' Q ex fr fr' st st' g f w tmps hc.2 he hI hsz hQ)
    · cases he
  | block i b ih =>
    intro ac Q ex fr fr' st st' g f w tmps hc he hI hsz hQ
    cases ac <;> first | (cases hc; done) | skip
    rename_i j b'
    simp only [chkCode, Bool.and_eq_true, beq_iff_eq] at hc
    obtain ⟨rfl, hc⟩ := hc
    simp only [eval] at he
    refine wp_block ?_
    split at he
    · rename_i k fr1 st1 h1
      refine ih b' _ (.exit k) fr fr1 st st1 g f w tmps hc h1 hI hsz fun g' f' w' tmps' hI' hs' => ?_
      show if k = i then Q .normal _ _ else Q (.exit k) _ _
      split at he
      · rename_i e
        simp only [Option.some.injEq, Prod.mk.injEq] at he
        obtain ⟨rfl, rfl, rfl⟩ := he
        rw [if_pos e]; exact hQ g' f' w' tmps' hI' hs'
      · rename_i e
        simp only [Option.some.injEq, Prod.mk.injEq] at he
        obtain ⟨rfl, rfl, rfl⟩ := he
        rw [if_neg e]; exact hQ g' f' w' tmps' hI' hs'
    · rename_i hne
      refine ih b' _ ex fr fr' st st' g f w tmps hc he hI hsz ?_
      cases ex with
      | normal => exact hQ
      | ret => exact hQ
      | exit k => exact (hne _ _ _ he).elim
      | panic v => exact hQ
  | loop b ih =>
    intro ac Q ex fr fr' st st' g f w tmps hc he hI hsz hQ
    cases ac <;> first | (cases hc; done) | skip
    rename_i b'
    simp only [chkCode] at hc
    simp only [eval] at he
    let R : Act → World → Nat → Prop := fun a w k => ∃ tmps fr st g f, a = ⟨tmps, ds⟩ ∧ Inv g0 st0 w0 g f fr st w tmps ∧ tmps.size = nt ∧ iter (eval call N b') k fr st = some (ex, fr', st')
    let μ : Act → World → Nat := fun a w => lowest (R a w)
    refine wp_loop (fun a w => ∃ k, R a w k) μ ⟨N, tmps, fr, st, g, f, rfl, hI, hsz, he⟩ ?_
    intro a w hex
    have hμ : R a w (μ a w) := lowest_spec hex
    obtain ⟨tmps, fr, st, g, f, rfl, hI, hsz, hit⟩ := hμ
    generalize hk : μ ⟨tmps, ds⟩ w = k at hit
    cases k with
    | zero => simp [iter] at hit
    | succ k =>
      simp only [iter] at hit
      split at hit
      · rename_i fr1 st1 h1
        refine ih b' _ .normal fr fr1 st st1 g f w tmps hc h1 hI hsz fun g' f' w' tmps' hI' hs' => ?_
        have hR : R ⟨tmps', ds⟩ w' k := ⟨tmps', fr1, st1, g', f', rfl, hI', hs', hit⟩
        refine ⟨⟨k, hR⟩, ?_⟩
        exact Nat.lt_succ_of_le (lowest_le hR)
      · rename_i hne
        refine ih b' _ ex fr fr' st st' g f w tmps hc hit hI hsz ?_
        cases ex with
        | normal => exact (hne _ _ hit).elim
        | ret => exact hQ
        | exit i => exact hQ
        | panic v => exact hQ
  | _ =>
    intro ac Q ex fr fr' st st' g f w tmps hc he hI hsz hQ
    cases ac <;> cases hc
end
end Go.Proofs.YtelpkgbghhpgaaaGreatDoor.Sx
end
section
namespace Go.Proofs.YtelpkgbghhpgaaaGreatDoor.Sx
open AV
def chkRes (P : Program) : List ResultVar → List ARes → Bool
  | [], [] => true
  | .tmp t :: l, .reg t' :: m => t == t' && chkRes P l m
  | .cell a t :: l, .cell a' k b :: m => a == a' && chkTy P t k b && chkRes P l m
  | _, _ => false
def chkFunc (P : Program) (f : Nat) (af : AFunc) : Bool :=
  match P.funcs[f]? with
  | some fn => fn.name != "runtime.NumGoroutine" && decide (af.nargs ≤ fn.ntmps) && chkRes P fn.results.toList af.res && (match fn.body with | some c => chkCode P fn.ntmps c af.body | none => false)
  | none => false
def Old (W0 : World) (g : Gh) (w : World) : Prop := ∀ b o, b < W0.heap.size → g.imm b o ∧ w.cell? ⟨b, o, none⟩ = W0.cell? ⟨b, o, none⟩
theorem Old.grow {W0 : World} {g g' : Gh} {n n' : Nat} {w w' : World} (h : Old W0 g w) (k : Grow g n w g' n' w') : Old W0 g' w' :=
  fun b o hb => ⟨k.imm b o (h b o hb).1, (k.cell b o (h b o hb).1).trans (h b o hb).2⟩
structure SimOk (P : Program) (W0 : World) (S : Sim) : Prop where
  code : ∀ f af, S.code f = some af → chkFunc P f af = true
  intr : ∀ f k, S.intr f = some k → ∀ call vs st r st', k call vs st = some (r, st') → Enters P f ∧ ∀ g w (args : List Value), Old W0 g w → CallOk P g st w call → HSt g st w → vs.length = args.length →
    (∀ i (h : i < vs.length) (h' : i < args.length), Rep g Fh.none st.size w vs[i] args[i]) → Calls P f args.toArray w (CallPost g st w r st')
section
variable {g0 g g' : Gh} {st0 st : St} {w0 w w' : World} {f f' : Fh} {fr : Fr} {tmps : Array Value} {ds : List Deferred} {P : Program} {n n' m nt : Nat} {o : Oper} {I : Nat → Nat → Prop} {ops : Array Oper}
theorem size_trunc (k : Nat) : (st.trunc k).size = min k st.size := by simp [St.trunc, St.size]
theorem trunc_get {k id : Nat} {o : HObj} (h : (st.trunc k).objs[id]? = some o) : id < k ∧ st.objs[id]? = some o := by
  have h' : (st.objs.take k)[id]? = some o := h
  rw [List.getElem?_take] at h'
  split at h'
  · rename_i hk; exact ⟨hk, h'⟩
  · cases h'
theorem trunc_put {k id : Nat} (h : id < k) : (st.trunc k).objs[id]? = st.objs[id]? := by
  show (st.objs.take k)[id]? = _
  rw [List.getElem?_take_of_lt h]
theorem claim_trunc {k : Nat} {o : Ow} {b : Nat} (h : HClaim g (st.trunc k) o b) : HClaim g st o b := by
  cases o with
  | obj id => exact ⟨Nat.lt_of_lt_of_le (show id < (st.trunc k).size from h.1) (by rw [size_trunc]; exact Nat.min_le_right _ _), h.2⟩
  | row id off =>
    obtain ⟨cs, sz, els, c, h1, h2⟩ := h
    exact ⟨cs, sz, els, c, St.cells_eq.2 (trunc_get (St.cells_eq.1 h1)).2, h2⟩
  | loc => exact h
  | tok => exact h
theorem HSt.trunc (h : HSt g st w) (k : Nat) : HSt g (st.trunc k) w := by
  obtain ⟨h, hu⟩ := h
  refine ⟨⟨fun id o ho => h.obj id o (trunc_get ho).2, fun o b ho => h.lt o b (claim_trunc ho), fun id hi => h.noimm id (Nat.lt_of_lt_of_le hi (by rw [size_trunc]; exact Nat.min_le_right _ _)), h.immlt, ?_, ?_⟩, fun o o' b h1 h2 => hu o o' b (claim_trunc h1) (claim_trunc h2)⟩
  · intro id cs off sz els h1 h2
    exact h.row id cs off sz els (St.cells_eq.2 (trunc_get (St.cells_eq.1 h1)).2) h2
  · intro id off L x hi hx
    rw [size_trunc] at hi
    obtain ⟨cs, v, h1, h2⟩ := h.dom id off L x (by omega) hx
    exact ⟨cs, v, St.cells_eq.2 (by rw [trunc_put (by omega)]; exact St.cells_eq.1 h1), h2⟩
theorem Ext.trunc (h : Ext g0 st0 w0 g st w) {k : Nat} (hk : st0.size ≤ k) : Ext g0 st0 w0 g (st.trunc k) w :=
  ⟨⟨by rw [size_trunc]; have := h.grow.le; omega, h.grow.blk, h.grow.hdr, h.grow.imm, h.grow.cell⟩, h.os, h.tape, h.output, h.size, h.block, h.newimm, fun o b ho hb => h.claim o b (claim_trunc ho) hb⟩
theorem slot_start : ∀ (args : List AV) (i t : Nat), slot t (startRegs i args) = if i ≤ t ∧ t < i + args.length then args.getD (t - i) .junk else .junk
  | [], i, t => by simp [startRegs, slot]
  | v :: r, i, t => by
    simp only [startRegs]
    show (if i = t then v else slot t (startRegs (i + 1) r)) = _
    rw [slot_start r (i + 1) t]
    by_cases h : i = t
    · subst h; simp
    · rw [if_neg h]
      by_cases h2 : i + 1 ≤ t ∧ t < i + 1 + r.length
      · rw [if_pos h2, if_pos (by simp; omega), show t - i = (t - (i + 1)) + 1 by omega]
        rfl
      · rw [if_neg h2, if_neg (by simp; omega)]
theorem Inv.start (hs : HSt g st w) {vs : List AV} {args : List Value} (hl : vs.length = args.length) (ha : ∀ i (h : i < vs.length) (h' : i < args.length), Rep g Fh.none st.size w vs[i] args[i]) (nl k : Nat) :
    Inv g st w g Fh.none ⟨startRegs 0 vs, List.replicate nl (0, []), [], 0⟩ st w (args.toArray ++ Array.replicate k undef) := by
  have hno : ∀ o b, ¬ FClaim Fh.none ⟨startRegs 0 vs, List.replicate nl (0, []), [], 0⟩ o b := fun o b h => by
    cases o with
    | loc li =>
      obtain ⟨ser, cs, h1, h2, _⟩ := h
      rw [List.getElem?_replicate] at h1
      split at h1
      · cases h1; exact h2 rfl
      · cases h1
    | tok k => obtain ⟨L, c, h1, _⟩ := h; simp at h1
    | obj => exact h
    | row => exact h
  refine ⟨hs.1, ⟨fun t => ?_, fun li ser cs h1 h2 => ?_, fun li ser b h => by simp [Fh.none] at h, fun li s cs h => ?_, fun k L h => by simp at h, fun k L x h => by simp [Fh.none] at h, fun li b h => absurd h (hno _ _)⟩, fun o b h => absurd h (hno _ _), fun o o' b h1 h2 => hs.2 o o' b (h1.resolve_right (hno _ _)) (h2.resolve_right (hno _ _)), Ext.refl _ _ _⟩
  · rw [slot_start]
    by_cases ht : t < vs.length
    · rw [if_pos (by omega)]
      have e1 : vs.getD (t - 0) .junk = vs[t] := by simp [ht]
      have e2 : (args.toArray ++ Array.replicate k undef).getD t undef = args[t]'(by omega) := by
        rw [Array.getD_eq_getD_getElem?, Array.getElem?_append_left (by simp; omega)]
        simp [show t < args.length by omega]
      rw [e1, e2]
      exact ha t ht (by omega)
    · rw [if_neg (by omega)]; exact .junk _
  · rw [List.getElem?_replicate] at h1
    split at h1
    · cases h1; exact absurd rfl h2
    · cases h1
  · rw [List.getElem?_replicate] at h
    split at h
    · cases h; exact Nat.le_refl _
    · cases h
def resM (tmps : Array Value) : ResultVar → Sem Value
  | .tmp t => pure (tmps.getD t undef)
  | .cell a t => do loadVar t (← asAddr (tmps.getD a undef))
theorem results_eq (fn : Func) (tmps : Array Value) : results fn tmps = (do
    let vs ← List.toArray <$> fn.results.toList.mapM (resM tmps)
    pure (if h : vs.size = 1 then vs[0] else .tuple vs)) := by
  unfold results
  rw [← Array.mapM_eq_mapM_toList]
  congr
theorem res_ok (hI : Inv g0 st0 w0 g f fr st w tmps) : ∀ (rs : List ResultVar) (as : List ARes) (vs : List AV), chkRes P rs as = true → resAll fr st as = some vs →
    ∃ cs : List Value, (rs.mapM (resM tmps)).run P w = .ok cs w ∧ vs.length = cs.length ∧ ∀ i (h : i < vs.length) (h' : i < cs.length), Rep g f st.size w vs[i] cs[i]
  | [], [], vs, _, h => by
    simp only [resAll, Option.some.injEq] at h
    subst h
    exact ⟨[], by simp, rfl, fun i h => by simp at h⟩
  | r :: rs, a :: as, vs, hc, h => by
    simp only [resAll] at h
    split at h
    case h_2 => cases h
    rename_i v vs' hv hvs
    cases h
    have key : ∃ c, (resM tmps r).run P w = .ok c w ∧ Rep g f st.size w v c ∧ chkRes P rs as = true := by
      cases r with
      | tmp t =>
        cases a with
        | cell => simp [chkRes] at hc
        | reg t' =>
          simp only [chkRes, Bool.and_eq_true, beq_iff_eq] at hc
          obtain ⟨rfl, hc⟩ := hc
          simp only [resOf, Option.some.injEq] at hv
          subst hv
          exact ⟨tmps.getD t undef, rfl, hI.fi.regs t, hc⟩
      | cell x t =>
        cases a with
        | reg => simp [chkRes] at hc
        | cell x' k b =>
          simp only [chkRes, Bool.and_eq_true, beq_iff_eq] at hc
          obtain ⟨⟨rfl, ht⟩, hc⟩ := hc
          simp only [resOf] at hv
          obtain ⟨c, h1, h2⟩ := ld_ok hI ht (hI.fi.regs x) hv
          refine ⟨c, ?_, h2, hc⟩
          have hp : ∃ a, tmps.getD x undef = .pointer (some a) := by
            generalize tmps.getD x undef = q at h1
            unfold Instr.loadAt Instr.sureAddr at h1
            cases q with
            | pointer p =>
              cases p with
              | some a => exact ⟨a, rfl⟩
              | none => simp [stuck] at h1
            | _ => simp [stuck] at h1
          obtain ⟨a, hp⟩ := hp
          rw [hp] at h1
          simp only [Instr.loadAt, Instr.sureAddr, Sem.run_bind, Sem.run_pure, Result.andThen_ok] at h1
          simp [resM, hp, asAddr, h1]
    obtain ⟨c, k1, k2, k3⟩ := key
    obtain ⟨cs, q1, q2, q3⟩ := res_ok hI rs as vs' k3 hvs
    refine ⟨c :: cs, ?_, by simp [q2], fun i h h' => ?_⟩
    · rw [List.mapM_cons]
      simp only [Sem.run_bind, k1, Result.andThen_ok, q1, Sem.run_pure]
    · cases i with
      | zero => exact strip2_rep k2
      | succ i => exact q3 i (by simpa using h) (by simpa using h')
  | [], _ :: _, _, hc, _ => by simp [chkRes] at hc
  | _ :: _, [], _, hc, _ => by cases ‹ResultVar› <;> simp [chkRes] at hc
theorem results_ok (hI : Inv g0 st0 w0 g f fr st w tmps) {fn : Func} {as : List ARes} {vs : List AV} (hc : chkRes P fn.results.toList as = true) (hr : resAll fr st as = some vs) (ho : vs.all out2 = true) :
    ∃ c, (results fn tmps).run P w = .ok c w ∧ Rep g Fh.none (min (max st0.size (refs2L vs)) st.size) w (one vs) c := by
  obtain ⟨cs, h1, h2, h3⟩ := res_ok hI _ _ _ hc hr
  have hbound : refs2L vs ≤ st.size := refs2L_bound fun v hv => by
    obtain ⟨i, hi, rfl⟩ := List.getElem_of_mem hv
    exact (h3 i hi (by omega)).refs2_le
  have hrep : ∀ i (h : i < vs.length) (h' : i < cs.length), Rep g Fh.none (min (max st0.size (refs2L vs)) st.size) w vs[i] cs[i] := fun i a b =>
    out2_over (List.all_eq_true.1 ho _ (List.getElem_mem a)) (by have := refs2L_le (List.getElem_mem a); omega) (h3 i a b) ⟨fun _ _ h => h, fun _ _ _ => rfl, fun _ _ _ => rfl⟩
  refine ⟨if h : cs.toArray.size = 1 then cs.toArray[0] else .tuple cs.toArray, ?_, ?_⟩
  · rw [results_eq]
    simp only [Sem.run_bind, Sem.run_map, h1, Result.andThen_ok, Sem.run_pure]
  · clear h1 h3 hbound ho hr hc
    generalize min (max st0.size (refs2L vs)) st.size = k at hrep
    match vs, cs, h2, hrep with
    | [v], [c], _, hrep => exact hrep 0 (Nat.lt_succ_self 0) (Nat.lt_succ_self 0)
    | [], [], _, _ => exact .tuple [] [] rfl (fun i h => absurd h (Nat.not_lt_zero i))
    | v :: v2 :: vs, c :: c2 :: cs, h2, hrep => exact .tuple (v :: v2 :: vs) (c :: c2 :: cs) h2 hrep
theorem call_ok {S : Sim} {W0 : World} (hS : SimOk P W0 S) : ∀ n g0 st0 w0, Old W0 g0 w0 → CallOk P g0 st0 w0 (S.call n)
  | 0 => fun g0 st0 w0 hO f vs st r st' h => by simp [Sim.call] at h
  | n + 1 => fun g0 st0 w0 hO f vs st r st' h => by
    have ih := call_ok hS n
    simp only [Sim.call] at h
    split at h
    · rename_i k hk
      obtain ⟨h1, h2⟩ := hS.intr f k hk _ vs st r st' h
      exact ⟨h1, fun g w args hg => h2 g w args (hO.grow hg) (ih g st w (hO.grow hg))⟩
    · split at h
      case h_1 => cases h
      rename_i af haf
      have hck := hS.code f af haf
      unfold chkFunc at hck
      split at hck
      case h_2 => cases hck
      rename_i fn hfn
      simp only [Bool.and_eq_true, decide_eq_true_eq, bne_iff_ne, ne_eq] at hck
      obtain ⟨⟨⟨hname, hna⟩, hres⟩, hbody⟩ := hck
      split at hbody
      case h_2 => cases hbody
      rename_i c hc
      refine ⟨⟨fn, c, hfn, hc, by simpa using hname⟩, fun g w args hg hs hl ha => ?_⟩
      have ih := ih g st w (hO.grow hg)
      split at h
      case isFalse => cases h
      rename_i hlen
      have hI := Inv.start hs hl ha af.nloc (fn.ntmps - args.length)
      have hsz : (args.toArray ++ Array.replicate (fn.ntmps - args.length) undef).size = fn.ntmps := by simp; omega
      have ret : ∀ (fr : Fr) (st1 : St), (match resAll fr st1 af.res with
            | some vs => if vs.all AV.out2 then some (Res.ret (one vs), st1.trunc (max st.size (AV.refs2L vs))) else none
            | none => none) = some (r, st') → ∀ g' f' w' tmps', Inv g st w g' f' fr st1 w' tmps' → ∃ v, (results fn tmps').run P w' = .ok v w' ∧ CallPost g st w r st' (.returned v) w' := by
        intro fr st1 hr g' f' w' tmps' hI'
        split at hr
        case h_2 => cases hr
        rename_i vs' hvs
        split at hr
        case isFalse => cases hr
        rename_i hout
        cases hr
        obtain ⟨c, k1, k2⟩ := results_ok hI' hres hvs hout
        exact ⟨c, k1, g', one vs', rfl, hI'.hst.trunc _, hI'.ext.trunc (Nat.le_max_left _ _), by rw [size_trunc]; exact k2⟩
      refine calls_of_wp hfn hc ?_
      have hsz2 : args.toArray.size = args.length := by simp
      rw [hsz2]
      split at h
      · rename_i fr st1 he
        refine code_wp ih n c af.body _ .normal _ fr st st1 g Fh.none w _ hbody he hI hsz fun g' f' w' tmps' hI' hs' => ?_
        obtain ⟨v, k1, k2⟩ := ret fr st1 h g' f' w' tmps' hI'
        exact ⟨rfl, v, k1, k2⟩
      · rename_i fr st1 he
        refine code_wp ih n c af.body _ .ret _ fr st st1 g Fh.none w _ hbody he hI hsz fun g' f' w' tmps' hI' hs' => ?_
        obtain ⟨v, k1, k2⟩ := ret fr st1 h g' f' w' tmps' hI'
        exact ⟨rfl, v, k1, k2⟩
      · rename_i v fr st1 he
        cases h
        refine code_wp ih n c af.body _ (.panic v) _ fr st st1 g Fh.none w _ hbody he hI hsz fun g' w' tmps' c' hs' he' hth hrep => ⟨rfl, g', v, c', rfl, hth, rfl, hs'.trunc _, he'.trunc (Nat.le_refl _), thrown_rep hth hrep⟩
      · cases h
end
end Go.Proofs.YtelpkgbghhpgaaaGreatDoor.Sx
end
