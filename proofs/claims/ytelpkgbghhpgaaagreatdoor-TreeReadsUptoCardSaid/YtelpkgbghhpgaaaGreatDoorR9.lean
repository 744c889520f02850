/- TreeReads returns true for all texts whose data are not larger than a bound. The program's functions as plain code. -/
import Derived.Test.YtelpkgbghhpgaaaGreatDoorR8
set_option linter.all false
section
namespace Go.Proofs.YtelpkgbghhpgaaaGreatDoor.Sx
open AV
def guardOk (ops : Array Oper) (o : Oper) (it : AItem) : Bool :=
  match o.guard, it.g with
  | none, none => true
  | some (j, b), some (t, b') => b == b' && (match ops[j]? with | some oj => oj.dst == some t | none => false)
  | _, _ => false
def chkItem (P : Program) (ops : Array Oper) (nt : Nat) (it : AItem) : Bool :=
  match ops[it.i]? with
  | none => false
  | some o => o.dst == it.d && (match it.d with | some t => decide (t < nt) | none => true) && guardOk ops o it && chkOp P o it.op
def als (its : List AItem) : List Nat := its.filterMap (·.op.al?)
def Ends (ds : List Deferred) (Q : Exit → Act → World → Prop) (g0 : Gh) (st0 : St) (w0 : World) (nt : Nat) : Ex → Fr → St → Prop
  | .normal, fr, st => ∀ g f w tmps, Inv g0 st0 w0 g f fr st w tmps → tmps.size = nt → Q .normal ⟨tmps, ds⟩ w
  | .ret, fr, st => ∀ g f w tmps, Inv g0 st0 w0 g f fr st w tmps → tmps.size = nt → Q .ret ⟨tmps, ds⟩ w
  | .exit id, fr, st => ∀ g f w tmps, Inv g0 st0 w0 g f fr st w tmps → tmps.size = nt → Q (.exit id) ⟨tmps, ds⟩ w
  | .panic v, _, st => ∀ g w tmps c, HSt g st w → Ext g0 st0 w0 g st w → isThrown v = true → Rep g Fh.none st.size w v c → Q (.panic [{ v := c, recovered := false }]) ⟨tmps, ds⟩ w
section
variable {g0 g g' : Gh} {st0 st : St} {w0 w w' : World} {f f' : Fh} {fr : Fr} {tmps : Array Value} {ds : List Deferred} {P : Program} {n n' m nt : Nat} {o : Oper} {I : Nat → Nat → Prop} {ops : Array Oper}
theorem tmp_bool (hI : Inv g0 st0 w0 g f fr st w tmps) {t : Nat} {b : Bool} (h : slot t fr.regs = .bool b) : tmps[t]? = some (.bool b) := by
  have := hI.fi.regs t
  rw [h] at this
  have := this.bool_inv
  rw [Array.getD_eq_getD_getElem?] at this
  cases hq : tmps[t]? with
  | none => rw [hq] at this; simp [undef] at this
  | some x => rw [hq] at this; simpa using this
theorem tmp_undef (hI : Inv g0 st0 w0 g f fr st w tmps) {t : Nat} (h : slot t fr.regs = .tuple []) (b : Bool) : tmps[t]? ≠ some (.bool b) := by
  have := hI.fi.regs t
  rw [h] at this
  obtain ⟨vs, e, hl, _⟩ := this.tuple_inv
  intro hq
  rw [Array.getD_eq_getD_getElem?, hq] at e
  simp at e
theorem guard_ok (hI : Inv g0 st0 w0 g f fr st w tmps) {it : AItem} {b : Bool} {fr' : Fr} (hg : guardOk ops o it = true) (h : guardA fr it.g = some (b, fr')) :
    Region.wanted o (yielded ops tmps) = b ∧ Inv g0 st0 w0 g f fr' st w tmps ∧ fr'.loc = fr.loc ∧ fr'.ser = fr.ser ∧ fr'.ftoks = fr.ftoks ∧ (∀ t, slot t fr'.regs = slot t fr.regs) := by
  unfold guardOk at hg
  split at hg
  · rename_i e1 e2
    rw [e2] at h
    simp only [guardA, Option.some.injEq, Prod.mk.injEq] at h
    obtain ⟨rfl, rfl⟩ := h
    exact ⟨by simp [Region.wanted, e1], hI, rfl, rfl, rfl, fun _ => rfl⟩
  · rename_i j b1 t b2 e1 e2
    rw [e2] at h
    simp only [Bool.and_eq_true, beq_iff_eq] at hg
    obtain ⟨rfl, hg⟩ := hg
    split at hg
    case h_2 => cases hg
    rename_i oj hoj
    simp only [beq_iff_eq] at hg
    simp only [guardA] at h
    split at h
    · rename_i c hc
      simp only [Option.some.injEq, Prod.mk.injEq] at h
      obtain ⟨rfl, rfl⟩ := h
      refine ⟨?_, ?_, rfl, rfl, rfl, fun t' => ?_⟩
      · simp [Region.wanted, e1, yielded, hoj, hg, tmp_bool hI hc]
      · refine hI.regs_of (fun t' => ?_) rfl rfl (Nat.le_refl _)
        show Rep g f st.size w (slot t' ((t, .bool c) :: fr.regs)) _
        rw [slot_put]
        split
        · rename_i e; subst e; rw [← hc]; exact hI.fi.regs _
        · exact hI.fi.regs _
      · show slot t' ((t, .bool c) :: fr.regs) = _
        rw [slot_put]
        split
        · rename_i e; subst e; exact hc.symm
        · rfl
    · rename_i hc
      simp only [Option.some.injEq, Prod.mk.injEq] at h
      obtain ⟨rfl, rfl⟩ := h
      refine ⟨?_, hI, rfl, rfl, rfl, fun _ => rfl⟩
      simp only [Region.wanted, e1, yielded, hoj, hg, Option.bind_some]
      have := tmp_undef hI hc
      split
      · rename_i b' hb'; exact absurd hb' (this b')
      · rfl
    · cases h
  · cases hg
theorem thrown_rep {v : AV} {c : Value} (h : isThrown v = true) (hr : Rep g f n w v c) : Rep g f' n' w v c := by
  unfold isThrown at h
  split at h
  · obtain ⟨x, rfl, h1, h2⟩ := hr.iface_inv
    exact .iface _ _ _ h1 (plain_rep h1 h2 fun _ _ h => h)
  · cases h
theorem undef_rep : Rep g f n w (.tuple []) undef := .tuple [] [] rfl (fun i h => by simp at h)
theorem step_loc {a : AOp} {v : AV} {fr' : Fr} {st' : St} (h : step fr st a = some (v, fr', st')) : fr'.ser = fr.ser ∧ ∀ (li s : Nat) (cs : List AV), fr'.loc[li]? = some (s, cs) → (∃ cs0, fr.loc[li]? = some (s, cs0)) ∨ (a.al? = some li ∧ s = fr.ser) := by
  have same : ∀ {fr1 : Fr}, fr1.loc = fr.loc → fr1.ser = fr.ser → fr1.ser = fr.ser ∧ ∀ (li s : Nat) (cs : List AV), fr1.loc[li]? = some (s, cs) → (∃ cs0, fr.loc[li]? = some (s, cs0)) ∨ (a.al? = some li ∧ s = fr.ser) :=
    fun h1 h2 => ⟨h2, fun li s cs hh => .inl ⟨cs, by rw [← h1]; exact hh⟩⟩
  have alloc : ∀ (li0 : Nat) (zs : List AV), a.al? = some li0 → ({ fr with loc := fr.loc.set li0 (fr.ser, zs) } : Fr).ser = fr.ser ∧ ∀ (li s : Nat) (cs : List AV), (fr.loc.set li0 (fr.ser, zs))[li]? = some (s, cs) → (∃ cs0, fr.loc[li]? = some (s, cs0)) ∨ (a.al? = some li ∧ s = fr.ser) := by
    intro li0 zs ha
    refine ⟨rfl, fun li s cs hh => ?_⟩
    rw [List.getElem?_set] at hh
    split at hh
    · rename_i e; subst e
      split at hh
      · cases hh; exact .inr ⟨ha, rfl⟩
      · cases hh
    · exact .inl ⟨cs, hh⟩
  cases a with
  | alloc li zs =>
    simp only [step] at h
    split at h
    · cases h; exact alloc li zs rfl
    · cases h
  | box li x =>
    simp only [step] at h
    split at h
    · cases h; exact alloc li _ rfl
    · cases h
  | store x y k =>
    simp only [step] at h
    split at h
    case h_2 => cases h
    rename_i fr1 st1 hst
    cases h
    unfold stw at hst
    split at hst
    case isFalse => cases hst
    split at hst
    case h_3 => cases hst
    · split at hst
      case h_2 => cases hst
      rename_i li ser off cs hcs
      split at hst
      case isFalse => cases hst
      cases hst
      refine ⟨rfl, fun li' s cs' hh => .inl ?_⟩
      have hl := locGet_eq hcs
      rw [List.getElem?_set] at hh
      split at hh
      · rename_i e; subst e
        split at hh
        · cases hh; exact ⟨_, hl⟩
        · cases hh
      · exact ⟨cs', hh⟩
    · split at hst
      case h_2 => cases hst
      split at hst
      case isFalse => cases hst
      split at hst
      · split at hst
        case h_2 => cases hst
        cases hst; exact same rfl rfl
      · split at hst
        case h_2 => cases hst
        split at hst
        case h_2 => cases hst
        cases hst; exact same rfl rfl
  | append x y sz bytes =>
    simp only [step] at h
    unfold aappend at h
    split at h
    case h_2 => cases h
    split at h
    case isFalse => cases h
    split at h
    · cases h; exact same rfl rfl
    · split at h
      case h_2 => cases h
      rename_i o1 fr1 st1 hg
      cases h
      unfold grow at hg
      split at hg <;> first
        | (cases hg; done)
        | (cases hg; exact same rfl rfl)
        | skip
      · split at hg
        · cases hg; exact same rfl rfl
        · cases hg
      · split at hg
        case h_2 => cases hg
        split at hg
        case h_2 => cases hg
        split at hg
        · cases hg; exact same rfl rfl
        · cases hg
  | mset kk mm k x =>
    simp only [step] at h
    split at h
    case h_2 => cases h
    split at h
    case h_2 => cases h
    split at h
    case isFalse => cases h
    split at h
    case h_2 => cases h
    cases h; exact same rfl rfl
  | look kk zs mm k ok =>
    simp only [step] at h
    split at h
    case isFalse => cases h
    generalize (match mm.ev fr with
        | .mapr id => (match st.entries id with | some es => lookE (k.ev fr) es | none => none)
        | .nilmap => some none
        | _ => none : Option (Option AV)) = q at h
    split at h
    · cases h; exact same rfl rfl
    · cases h; exact same rfl rfl
    · cases h
  | len k x =>
    simp only [step] at h
    split at h
    · cases h; exact same rfl rfl
    · split at h
      case h_2 => cases h
      split at h
      case h_2 => cases h
      cases h; exact same rfl rfl
  | _ =>
    simp only [step] at h
    repeat' split at h
    all_goals first
      | (cases h; done)
      | (cases h; exact same rfl rfl)
theorem items_wp {call : CallFn} (hcall : CallOk P g0 st0 w0 call) {Q : Exit → Act → World → Prop} {ex : Ex} {fr' : Fr} {st' : St} (hQ : Ends ds Q g0 st0 w0 nt ex fr' st') :
    ∀ (its : List AItem) (fr : Fr) (st : St) (tmps : Array Value) (g : Gh) (f : Fh) (w : World), Inv g0 st0 w0 g f fr st w tmps → tmps.size = nt → (∀ it ∈ its, chkItem P ops nt it = true) → (als its).Nodup →
      (∀ li ∈ als its, ∀ (s : Nat) (cs : List AV), fr.loc[li]? = some (s, cs) → s < fr.ser) → runItems call its fr st = some (ex, fr', st') → wpOps P ops Q (its.map (·.i)) ⟨tmps, ds⟩ w
  | [], fr, st, tmps, g, f, w, hI, hsz, _, _, _, hr => by
    simp only [runItems, Option.some.injEq, Prod.mk.injEq] at hr
    obtain ⟨rfl, rfl, rfl⟩ := hr
    exact hQ g f w tmps hI hsz
  | it :: its, fr, st, tmps, g, f, w, hI, hsz, hck, hnd, hlt, hr => by
    have hit := hck it (by simp)
    unfold chkItem at hit
    split at hit
    case h_1 => cases hit
    rename_i o ho
    simp only [Bool.and_eq_true, beq_iff_eq] at hit
    obtain ⟨⟨⟨hd, hdl⟩, hg⟩, hop⟩ := hit
    have hdl' : ∀ t, it.d = some t → t < tmps.size := fun t e => by rw [e] at hdl; rw [hsz]; simpa using hdl
    have hrest : ∀ x ∈ its, chkItem P ops nt x = true := fun x hx => hck x (by simp [hx])
    simp only [List.map_cons, wpOps, ho]
    simp only [runItems] at hr
    split at hr
    · cases hr
    · rename_i fr1 hga
      split at hr
      case isFalse => cases hr
      obtain ⟨hw, hI1, hl1, hs1, _, _⟩ := guard_ok hI hg hga
      simp only [hw, Bool.false_eq_true, if_false]
      have hput := hI1.put (ds := ds) (d := it.d) (v := .tuple []) (c := undef) undef_rep hdl'
      have hsz' : (Act.put ⟨tmps, ds⟩ it.d undef).tmps.size = nt := by rw [← hsz]; cases it.d <;> simp [Act.put]
      have heq : Act.put ⟨tmps, ds⟩ o.dst undef = ⟨(Act.put ⟨tmps, ds⟩ it.d undef).tmps, ds⟩ := by rw [hd]; cases it.d <;> rfl
      rw [heq]
      have hsub : ∀ li ∈ als its, li ∈ als (it :: its) := fun li h => by
        unfold als at h ⊢; rw [List.filterMap_cons]; split
        · exact h
        · exact List.mem_cons_of_mem _ h
      refine items_wp hcall hQ its _ st _ g f w hput hsz' hrest ?_ (fun li h s cs e => ?_) hr
      · unfold als at hnd ⊢; rw [List.filterMap_cons] at hnd; split at hnd
        · exact hnd
        · exact (List.nodup_cons.1 hnd).2
      · have hpl : (fr1.put it.d (.tuple [])).loc = fr1.loc := by cases it.d <;> rfl
        have e' : fr.loc[li]? = some (s, cs) := by rw [← hl1, ← hpl]; exact e
        have := hlt li (hsub li h) s cs e'
        have hs' : (fr1.put it.d (.tuple [])).ser = fr1.ser := by cases it.d <;> rfl
        rw [hs', hs1]; exact this
    · rename_i fr1 hga
      obtain ⟨hw, hI1, hl1, hs1, _, _⟩ := guard_ok hI hg hga
      simp only [hw, if_true]
      refine .inl ?_
      have hlt1 : ∀ li ∈ als (it :: its), ∀ (s : Nat) (cs : List AV), fr1.loc[li]? = some (s, cs) → s < fr1.ser := fun li h s cs e => by rw [hl1] at e; rw [hs1]; exact hlt li h s cs e
      have hputloc : ∀ (fr2 : Fr) (v : AV), (fr2.put it.d v).loc = fr2.loc ∧ (fr2.put it.d v).ser = fr2.ser := fun fr2 v => by cases it.d <;> exact ⟨rfl, rfl⟩
      have tail : ∀ (fr2 : Fr) (st2 : St) (v : AV), it.op.al? = none → (∀ (li s : Nat) (cs : List AV), fr2.loc[li]? = some (s, cs) → ∃ cs0, fr1.loc[li]? = some (s, cs0)) → fr2.ser = fr1.ser → runItems call its (fr2.put it.d v) st2 = some (ex, fr', st') →
          ∀ g' f' w' tmps', Inv g0 st0 w0 g' f' (fr2.put it.d v) st2 w' tmps' → tmps'.size = tmps.size → wpOps P ops Q (its.map (·.i)) ⟨tmps', ds⟩ w' := by
        intro fr2 st2 v hal hloc hser hr g' f' w' tmps' hI' hsz'
        have hals : als (it :: its) = als its := by unfold als; rw [List.filterMap_cons, hal]
        refine items_wp hcall hQ its _ st2 tmps' g' f' w' hI' (hsz'.trans hsz) hrest (hals ▸ hnd) (fun li h s cs e => ?_) hr
        rw [(hputloc fr2 v).1] at e
        rw [(hputloc fr2 v).2, hser]
        obtain ⟨cs0, e0⟩ := hloc li s cs e
        exact hlt1 li (hals ▸ h) s cs0 e0
      have back : ∀ (i : Nat) (vs : List AV) (args : List Value), it.op.al? = none → vs.length = args.length → (∀ j (h : j < vs.length) (h' : j < args.length), Rep g Fh.none st.size w vs[j] args[j]) →
          (execOp (Act.eval ⟨tmps, ds⟩) o).run P w = (callFunc i args.toArray).run P w →
          (match call i vs st with
            | some (.ret v, st2) => if it.chk.all (chkOk fr1 st2) then runItems call its (fr1.put it.d v) st2 else none
            | some (.panic v, st2) => some (.panic v, fr1, st2)
            | none => none) = some (ex, fr', st') → o.wp P ⟨tmps, ds⟩ w (wpOps P ops Q (its.map (·.i))) Q := by
        intro i vs args hal hl ha hex hr
        split at hr
        · rename_i v st2 hc
          split at hr
          case isFalse => cases hr
          refine call_upon hcall hI1 hc hl ha hd hdl' hex (fun v' hv g' w' tmps' hI' hs' => ?_) (fun v' hv => by cases hv)
          cases hv
          exact tail fr1 st2 v hal (fun li s cs h => ⟨cs, h⟩) rfl hr g' f w' tmps' hI' hs'
        · rename_i v st2 hc
          cases hr
          refine call_upon hcall hI1 hc hl ha hd hdl' hex (fun v' hv => by cases hv) (fun v' hv hth g' w' c hI' hrep => ?_)
          cases hv
          exact hQ g' w' tmps c hI'.hst hI'.ext hth hrep
        · cases hr
      split at hr
      · rename_i i xs hopq
        rw [hopq] at hop
        split at hr
        case h_2 => cases hr
        rename_i vs hvs
        obtain ⟨xs', hx1, hx2⟩ := exec_call (tmps := tmps) (ds := ds) hop
        obtain ⟨l1, r1⟩ := args_ok (ds := ds) hI1 hx1 hvs
        exact back i vs _ (by rw [hopq]; rfl) l1 r1 (hx2 w) hr
      · rename_i x xs hopq
        rw [hopq] at hop
        split at hr
        case h_2 => cases hr
        rename_i i first captured vs hx hvs
        split at hr
        case isFalse => cases hr
        rename_i hoo
        simp only [Bool.and_eq_true] at hoo
        obtain ⟨args, l1, r1, hex⟩ := exec_callv (ds := ds) hI1 hop hx hvs hoo.1 hoo.2
        exact back i _ args (by rw [hopq]; rfl) l1 r1 hex hr
      · rename_i x hopq
        rw [hopq] at hop
        split at hr
        case isFalse => cases hr
        rename_i hth
        cases hr
        obtain ⟨dst, op, ty, pos, aft, gd⟩ := o
        simp only [chkOp] at hop
        cases op <;> first
          | (simp at hop; done)
          | skip
        have hrep := opd_rep (ds := ds) hI1 hop
        have hth0 := hth
        unfold isThrown at hth
        split at hth
        case h_2 => cases hth
        rename_i t v hv
        have hrep' := hrep
        rw [hv] at hrep'
        obtain ⟨c, hc, _⟩ := hrep'.iface_inv
        unfold Oper.wp
        simp only [execOp, hc]
        rw [hc] at hrep
        exact hQ g w tmps _ hI1.hst hI1.ext hth0 (thrown_rep hth0 hrep)
      · rename_i op h1 h2 h3 hopq
        split at hr
        case h_2 => cases hr
        rename_i v fr2 st2 hst
        split at hr
        case isFalse => cases hr
        obtain ⟨k1, k2⟩ := step_loc hst
        refine op_wp hI1 hop (fun li ha => hlt1 li (by unfold als; rw [List.filterMap_cons, ha]; exact List.mem_cons_self)) hst hd hdl' fun g' f' w' tmps' hI' hs' => ?_
        refine items_wp hcall hQ its _ st2 tmps' g' f' w' hI' (hs'.trans hsz) hrest ?_ (fun li h s cs e => ?_) hr
        · unfold als at hnd ⊢; rw [List.filterMap_cons] at hnd; split at hnd
          · exact hnd
          · exact (List.nodup_cons.1 hnd).2
        · rw [(hputloc fr2 v).1] at e
          rw [(hputloc fr2 v).2, k1]
          rcases k2 li s cs e with ⟨cs0, e0⟩ | ⟨ha, _⟩
          · refine hlt1 li ?_ s cs0 e0
            unfold als at h ⊢; rw [List.filterMap_cons]; split
            · exact h
            · exact List.mem_cons_of_mem _ h
          · exfalso
            unfold als at hnd h
            rw [List.filterMap_cons, ha] at hnd
            exact (List.nodup_cons.1 hnd).1 h
end
end Go.Proofs.YtelpkgbghhpgaaaGreatDoor.Sx
end
section
namespace Go.Proofs.YtelpkgbghhpgaaaGreatDoor.Sx
open AV
def Opd.tmps : Opd → List Nat
  | .r t => [t]
  | _ => []
def optTmps : Option Opd → List Nat
  | some x => x.tmps
  | none => []
def AOp.reads : AOp → List Nat
  | .mv x | .box _ x | .hbox x | .load x _ _ | .nchk x | .un _ x | .conv _ x | .b2s x | .s2b x | .iface _ x | .addr x _ | .part x _ _ _ | .ext x _ | .len _ x | .panic x => x.tmps
  | .pick c a b => c.tmps ++ a.tmps ++ b.tmps
  | .alloc .. | .halloc _ | .mkmap | .alen _ => []
  | .build _ parts => parts.flatMap fun p => p.2.2.tmps
  | .bslice _ _ _ parts => parts.flatMap fun p => p.2.tmps
  | .store x y _ | .bin _ x y | .eqk _ _ x y | .eqs _ _ x y | .ixa x y _ | .ixp x y _ _ | .ixs x y | .ixv x y _ _ _ | .append x y _ _ | .look _ _ x y _ => x.tmps ++ y.tmps
  | .mkf _ a b => a.flatMap Opd.tmps ++ b.flatMap Opd.tmps
  | .mset _ m k v => m.tmps ++ k.tmps ++ v.tmps
  | .slc _ x lo hi mx => x.tmps ++ optTmps lo ++ optTmps hi ++ optTmps mx
  | .minmax _ xs | .call _ xs => xs.flatMap Opd.tmps
  | .callv x xs => x.tmps ++ xs.flatMap Opd.tmps
inductive Cls where
  | reg | load | al | loud
  deriving DecidableEq
def AOp.cls : AOp → Cls
  | .load .. => .load
  | .alloc .. | .box .. => .al
  | .halloc _ | .hbox _ | .mkmap | .mset .. | .look .. | .store .. | .append .. | .call .. | .callv .. | .panic _ => .loud
  | .len .map _ => .loud
  | _ => .reg
def Agree (l : List Nat) (fr fr2 : Fr) : Prop := ∀ t ∈ l, slot t fr2.regs = slot t fr.regs
section
variable {fr fr2 fr' : Fr} {st st2 st' : St} {v : AV}
theorem Agree.left {a b : List Nat} (h : Agree (a ++ b) fr fr2) : Agree a fr fr2 := fun t ht => h t (List.mem_append.2 (.inl ht))
theorem Agree.right {a b : List Nat} (h : Agree (a ++ b) fr fr2) : Agree b fr fr2 := fun t ht => h t (List.mem_append.2 (.inr ht))
theorem ev_congr {x : Opd} (h : Agree x.tmps fr fr2) : x.ev fr2 = x.ev fr := by
  cases x with
  | r t => exact h t (by simp [Opd.tmps])
  | c v => rfl
  | f i => rfl
theorem evs_congr : ∀ {xs : List Opd}, Agree (xs.flatMap Opd.tmps) fr fr2 → xs.map (Opd.ev fr2) = xs.map (Opd.ev fr)
  | [], _ => rfl
  | x :: xs, h => by
    rw [List.flatMap_cons] at h
    rw [List.map_cons, List.map_cons, ev_congr h.left, evs_congr h.right]
theorem low_congr {x : Option Opd} (h : Agree (optTmps x) fr fr2) : lowOf fr2 x = lowOf fr x := by
  cases x with
  | none => rfl
  | some x => simp only [lowOf]; rw [ev_congr h]
theorem high_congr {x : Option Opd} {n : Nat} (h : Agree (optTmps x) fr fr2) : highOf fr2 n x = highOf fr n x := by
  cases x with
  | none => rfl
  | some x => simp only [highOf]; rw [ev_congr h]
theorem fillP_congr : ∀ {ps : List (Nat × Nat × Opd)} {cs : List AV}, Agree (ps.flatMap fun p => p.2.2.tmps) fr fr2 → fillP fr2 cs ps = fillP fr cs ps
  | [], _, _ => rfl
  | (o, n, x) :: ps, cs, h => by
    rw [List.flatMap_cons] at h
    simp only [fillP]
    rw [ev_congr h.left]
    split
    · exact fillP_congr h.right
    · rfl
theorem fillS_congr {sz : Nat} : ∀ {ps : List (Nat × Opd)} {els : List (List AV)}, Agree (ps.flatMap fun p => p.2.tmps) fr fr2 → fillS fr2 sz els ps = fillS fr sz els ps
  | [], _, _ => rfl
  | (i, x) :: ps, els, h => by
    rw [List.flatMap_cons] at h
    simp only [fillS]
    rw [ev_congr h.left]
    split
    · exact fillS_congr h.right
    · rfl
theorem aslice_congr {z : Nat} {x : AV} {lo hi mx : Option Opd} (h1 : Agree (optTmps lo) fr fr2) (h2 : Agree (optTmps hi) fr fr2) (h3 : Agree (optTmps mx) fr fr2) : aslice fr2 z x lo hi mx = aslice fr z x lo hi mx := by
  have e1 : lowOf fr2 lo = lowOf fr lo := low_congr h1
  have e2 : ∀ n, highOf fr2 n hi = highOf fr n hi := fun n => high_congr h2
  have e3 : ∀ m, mx = some m → m.ev fr2 = m.ev fr := fun m hm => by subst hm; exact ev_congr h3
  unfold aslice
  cases x with
  | str s => rw [e1]; cases mx <;> simp only [e2]
  | slice sz els own =>
    rw [e1]
    simp only [e2]
    cases lowOf fr lo with
    | none => rfl
    | some l =>
      cases highOf fr els.length hi with
      | none => rfl
      | some h =>
        cases mx with
        | none => rfl
        | some m => simp only [e3 m rfl]
  | nilslice =>
    rw [e1]
    simp only [e2]
    cases mx with
    | none => split <;> first | rfl | (rename_i q3; cases q3) | (simp_all; done)
    | some m => split <;> first | rfl | (rename_i q3; cases q3; simp only [e3 m rfl]; done) | (simp only [e3 m rfl]; done)
  | _ => rfl
theorem args_congr {xs : List Opd} (h : Agree (xs.flatMap Opd.tmps) fr fr2) : argsOf fr2 xs = argsOf fr xs := by
  have := evs_congr h
  have e1 : (xs.map fun x => (x.ev fr2).strip) = xs.map fun x => (x.ev fr).strip := by
    have := congrArg (List.map AV.strip) this
    simpa [List.map_map] using this
  have e2 : (xs.all fun x => (x.ev fr2).strip.out) = xs.all fun x => (x.ev fr).strip.out := by
    have := congrArg (List.all · fun v : AV => v.strip.out) this
    rw [List.all_map, List.all_map] at this; exact this
  unfold argsOf
  rw [e1, e2]
theorem reg_congr {op : AOp} (hc : op.cls = .reg) (hs : step fr st op = some (v, fr', st')) : fr' = fr ∧ st' = st ∧ ∀ (fr2 : Fr) (st2 : St), Agree op.reads fr fr2 → step fr2 st2 op = some (v, fr2, st2) := by
  cases op with
  | mv x =>
    simp only [step, Option.some.injEq, Prod.mk.injEq] at hs
    obtain ⟨rfl, rfl, rfl⟩ := hs
    exact ⟨rfl, rfl, fun fr2 st2 ha => by simp only [step, ev_congr ha]⟩
  | pick c a b =>
    simp only [step] at hs
    split at hs
    case h_2 => cases hs
    rename_i t ht
    simp only [Option.some.injEq, Prod.mk.injEq] at hs
    obtain ⟨rfl, rfl, rfl⟩ := hs
    refine ⟨rfl, rfl, fun fr2 st2 ha => ?_⟩
    have e1 : c.ev fr2 = c.ev fr := ev_congr ha.left.left
    have e2 : a.ev fr2 = a.ev fr := ev_congr ha.left.right
    have e3 : b.ev fr2 = b.ev fr := ev_congr ha.right
    simp only [step, e1, e2, e3, ht]
  | build zs ps =>
    simp only [step] at hs
    split at hs
    case h_2 => cases hs
    rename_i cs hcs
    simp only [Option.some.injEq, Prod.mk.injEq] at hs
    obtain ⟨rfl, rfl, rfl⟩ := hs
    exact ⟨rfl, rfl, fun fr2 st2 ha => by simp only [step]; rw [fillP_congr ha, hcs]⟩
  | bslice sz zs len ps =>
    simp only [step] at hs
    split at hs
    case h_2 => cases hs
    rename_i cs hcs
    simp only [Option.some.injEq, Prod.mk.injEq] at hs
    obtain ⟨rfl, rfl, rfl⟩ := hs
    exact ⟨rfl, rfl, fun fr2 st2 ha => by simp only [step]; rw [fillS_congr ha, hcs]⟩
  | mkf fn a b =>
    simp only [step] at hs
    split at hs
    case isFalse => cases hs
    rename_i hcs
    simp only [Option.some.injEq, Prod.mk.injEq] at hs
    obtain ⟨rfl, rfl, rfl⟩ := hs
    exact ⟨rfl, rfl, fun fr2 st2 ha => by simp only [step]; rw [evs_congr ha.left, evs_congr ha.right, if_pos hcs]⟩
  | slc z x lo hi mx =>
    simp only [step] at hs
    split at hs
    case h_2 => cases hs
    rename_i cs hcs
    simp only [Option.some.injEq, Prod.mk.injEq] at hs
    obtain ⟨rfl, rfl, rfl⟩ := hs
    exact ⟨rfl, rfl, fun fr2 st2 ha => by simp only [step]; rw [ev_congr ha.left.left.left, aslice_congr ha.left.left.right ha.left.right ha.right, hcs]⟩
  | minmax mx xs =>
    simp only [step] at hs
    split at hs
    case h_2 => cases hs
    rename_i k x r hcs
    split at hs
    case h_2 => cases hs
    rename_i hf
    simp only [Option.some.injEq, Prod.mk.injEq] at hs
    obtain ⟨rfl, rfl, rfl⟩ := hs
    exact ⟨rfl, rfl, fun fr2 st2 ha => by simp only [step]; rw [evs_congr ha, hcs]; simp only [hf]⟩
  | alen n =>
    simp only [step, Option.some.injEq, Prod.mk.injEq] at hs
    obtain ⟨rfl, rfl, rfl⟩ := hs
    exact ⟨rfl, rfl, fun fr2 st2 ha => rfl⟩
  | len k x =>
    have hk : k ≠ .map := fun e => by subst e; cases hc
    simp only [step] at hs
    split at hs
    · rename_i q hq
      simp only [Option.some.injEq, Prod.mk.injEq] at hs
      obtain ⟨rfl, rfl, rfl⟩ := hs
      exact ⟨rfl, rfl, fun fr2 st2 ha => by simp only [step]; rw [ev_congr ha, hq]⟩
    · split at hs
      · exact absurd rfl hk
      · cases hs
  | bin o x y | eqk _ _ x y | eqs _ _ x y | ixa x y _ | ixp x y _ _ | ixs x y | ixv x y _ _ _ =>
    have key : ∀ (fr2 : Fr) (st2 : St), Agree (x.tmps ++ y.tmps) fr fr2 → x.ev fr2 = x.ev fr ∧ y.ev fr2 = y.ev fr := fun fr2 st2 ha => ⟨ev_congr ha.left, ev_congr ha.right⟩
    simp only [step] at hs
    repeat' split at hs
    all_goals first
      | (cases hs; done)
      | (simp only [Option.some.injEq, Prod.mk.injEq] at hs
         obtain ⟨rfl, rfl, rfl⟩ := hs
         refine ⟨rfl, rfl, fun fr2 st2 ha => ?_⟩
         obtain ⟨e1, e2⟩ := key fr2 st2 ha
         simp only [step, e1, e2, *, if_true, and_self])
  | nchk x | un _ x | conv _ x | b2s x | s2b x | iface _ x | addr x _ | part x _ _ _ | ext x _ =>
    have key : ∀ (fr2 : Fr) (st2 : St), Agree x.tmps fr fr2 → x.ev fr2 = x.ev fr := fun fr2 st2 ha => ev_congr ha
    simp only [step] at hs
    repeat' split at hs
    all_goals first
      | (cases hs; done)
      | (simp only [Option.some.injEq, Prod.mk.injEq] at hs
         obtain ⟨rfl, rfl, rfl⟩ := hs
         refine ⟨rfl, rfl, fun fr2 st2 ha => ?_⟩
         have e1 := key fr2 st2 ha
         simp only [step, e1, *, if_true])
  | _ => cases hc
end
end Go.Proofs.YtelpkgbghhpgaaaGreatDoor.Sx
end
