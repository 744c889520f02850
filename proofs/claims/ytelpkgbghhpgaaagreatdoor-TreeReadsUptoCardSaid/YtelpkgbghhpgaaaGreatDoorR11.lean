/- TreeReads returns true for all texts whose data are not larger than a bound. The program's functions as plain code. -/
import Derived.Test.YtelpkgbghhpgaaaGreatDoorR10
set_option linter.all false
section
namespace Go.Proofs.YtelpkgbghhpgaaaGreatDoor.Sx
open AV
structure Dr (call : CallFn) (ops : Array Oper) (its : List AItem) (fr0 : Fr) (st0 : St) (ex : Ex) (frE : Fr) (stE : St) (T : Nat → Fr × St) (N : Nat) : Prop where
  t : Trace call its fr0 st0 ex frE stE T N
  pair : ∀ p q, p < q → q < its.length → pairOk (befTable ops its []) (its.getD p AItem.dummy) (its.getD q AItem.dummy) = true
structure Rel (its : List AItem) (T : Nat → Fr × St) (D : Nat → Prop) (m : Nat) (fr : Fr) (st : St) : Prop where
  slotD : ∀ p t, p < its.length → D p → (its.getD p AItem.dummy).d = some t → slot t fr.regs = slot t (T (p + 1)).1.regs
  slotN : ∀ t, (∀ p, p < its.length → D p → (its.getD p AItem.dummy).d ≠ some t) → slot t fr.regs = slot t (T 0).1.regs
  loud : ∀ q, q < its.length → (its.getD q AItem.dummy).op.cls = .loud → (D q ↔ q < m)
  top : m = 0 ∨ ∃ q, m = q + 1 ∧ q < its.length ∧ (its.getD q AItem.dummy).op.cls = .loud
  st : st = (T m).2
  tok : fr.ftoks = (T m).1.ftoks
  locD : ∀ q li, q < its.length → (its.getD q AItem.dummy).op.al? = some li → D q → fr.loc[li]? = (T (max m (q + 1))).1.loc[li]?
  locN : ∀ q li, q < its.length → (its.getD q AItem.dummy).op.al? = some li → ¬ D q → fr.loc[li]? = (T (min m q)).1.loc[li]?
  locO : ∀ li, (∀ q, q < its.length → (its.getD q AItem.dummy).op.al? ≠ some li) → fr.loc[li]? = (T m).1.loc[li]?
  ser : fr.ser = (T 0).1.ser
  len : fr.loc.length = (T 0).1.loc.length
theorem al_cls {op : AOp} {li : Nat} (h : op.al? = some li) : op.cls = .al ∧ op.isStore = false := by
  cases op <;> first | (cases h; done) | exact ⟨rfl, rfl⟩
theorem store_cls {op : AOp} (h : op.isStore = true) : op.cls = .loud := by
  cases op <;> first | (cases h; done) | rfl
section
variable {call : CallFn} {ops : Array Oper} {its : List AItem} {fr0 fr fr' frE : Fr} {st0 st st' stE : St} {ex : Ex} {T : Nat → Fr × St} {N m p : Nat} {D : Nat → Prop}
theorem Dr.d_ne (h : Dr call ops its fr0 st0 ex frE stE T N) {p q t : Nat} (hp : p < its.length) (hq : q < its.length) (hne : p ≠ q) (hd : (its.getD p AItem.dummy).d = some t) : (its.getD q AItem.dummy).d ≠ some t := by
  rcases Nat.lt_or_gt_of_ne hne with hlt | hlt
  · have := h.pair p q hlt hq
    simp only [pairOk, Bool.and_eq_true, Bool.or_eq_true, beq_iff_eq, bne_iff_ne, ne_eq] at this
    have := this.1.1.1.2
    intro e
    rcases this with h1 | h1
    · rw [hd] at h1; cases h1
    · exact h1 (hd.trans e.symm)
  · have := h.pair q p hlt hp
    simp only [pairOk, Bool.and_eq_true, Bool.or_eq_true, beq_iff_eq, bne_iff_ne, ne_eq] at this
    have := this.1.1.1.2
    intro e
    rcases this with h1 | h1
    · rw [e] at h1; cases h1
    · exact h1 (e.trans hd.symm)
theorem Dr.al_ne (h : Dr call ops its fr0 st0 ex frE stE T N) {p q t : Nat} (hp : p < its.length) (hq : q < its.length) (hne : p ≠ q) (hd : (its.getD p AItem.dummy).op.al? = some t) : (its.getD q AItem.dummy).op.al? ≠ some t := by
  rcases Nat.lt_or_gt_of_ne hne with hlt | hlt
  · have := h.pair p q hlt hq
    simp only [pairOk, Bool.and_eq_true, Bool.or_eq_true, beq_iff_eq, bne_iff_ne, ne_eq] at this
    have := this.1.1.2
    intro e
    rcases this with h1 | h1
    · rw [hd] at h1; cases h1
    · exact h1 (hd.trans e.symm)
  · have := h.pair q p hlt hp
    simp only [pairOk, Bool.and_eq_true, Bool.or_eq_true, beq_iff_eq, bne_iff_ne, ne_eq] at this
    have := this.1.1.2
    intro e
    rcases this with h1 | h1
    · rw [e] at h1; cases h1
    · exact h1 (e.trans hd.symm)
theorem Dr.idx_ne (h : Dr call ops its fr0 st0 ex frE stE T N) {p q : Nat} (hp : p < its.length) (hq : q < its.length) (hne : p ≠ q) : (its.getD p AItem.dummy).i ≠ (its.getD q AItem.dummy).i := by
  rcases Nat.lt_or_gt_of_ne hne with hlt | hlt
  · have := h.pair p q hlt hq
    simp only [pairOk, Bool.and_eq_true, bne_iff_ne, ne_eq] at this
    exact this.1.1.1.1
  · have := h.pair q p hlt hp
    simp only [pairOk, Bool.and_eq_true, bne_iff_ne, ne_eq] at this
    exact fun e => this.1.1.1.1 e.symm
theorem Dr.float (h : Dr call ops its fr0 st0 ex frE stE T N) {p q : Nat} (hpq : p < q) (hq : q < its.length) (hb : isBef (befTable ops its []) (its.getD p AItem.dummy).i (its.getD q AItem.dummy).i = false) :
    (its.getD p AItem.dummy).op.cls ≠ .loud ∧ ((its.getD p AItem.dummy).op.cls = .load → (its.getD q AItem.dummy).op.cls = .reg ∨ (its.getD q AItem.dummy).op.cls = .load ∨ hasChk (its.getD p AItem.dummy) (its.getD q AItem.dummy) = true) ∧ ((its.getD p AItem.dummy).op.cls = .al → (its.getD q AItem.dummy).op.isStore = false) ∧ (∀ t, (its.getD p AItem.dummy).d = some t → t ∉ (its.getD q AItem.dummy).reads) ∧ (∀ t, (its.getD q AItem.dummy).d = some t → t ∉ (its.getD p AItem.dummy).reads) := by
  have := h.pair p q hpq hq
  simp only [pairOk, Bool.and_eq_true, hb, Bool.false_or, Bool.and_false] at this
  obtain ⟨⟨_, h1, h2⟩, h3⟩ := this
  refine ⟨fun e => ?_, fun e => ?_, fun e => ?_, fun t e => ?_, fun t e => ?_⟩
  · rw [e] at h1; cases h1
  · rw [e] at h1
    simp only at h1
    split at h1
    · rename_i e2; exact .inl e2
    · rename_i e2; exact .inr (.inl e2)
    · exact .inr (.inr h1)
  · rw [e] at h1; simpa using h1
  · rw [e] at h2; simpa using h2
  · rw [e] at h3; simpa using h3
structure Next (ops : Array Oper) (its : List AItem) (D : Nat → Prop) (N p : Nat) : Prop where
  lt : p < its.length
  new : ¬ D p
  dn : ∀ q, q < its.length → D q → q < N
  pre : ∀ q, q < its.length → q ≠ p → isBef (befTable ops its []) (its.getD q AItem.dummy).i (its.getD p AItem.dummy).i = true → D q
  nb : ∀ q, q < its.length → D q → isBef (befTable ops its []) (its.getD p AItem.dummy).i (its.getD q AItem.dummy).i = false
theorem Next.below (h : Dr call ops its fr0 st0 ex frE stE T N) (hn : Next ops its D N p) {q : Nat} (hq : q < p) (hl : (its.getD q AItem.dummy).op.cls = .loud) : D q := by
  refine hn.pre q (Nat.lt_trans hq hn.lt) (by omega) ?_
  cases hb : isBef (befTable ops its []) (its.getD q AItem.dummy).i (its.getD p AItem.dummy).i with
  | true => rfl
  | false => exact absurd hl (h.float hq hn.lt hb).1
theorem Next.le (h : Dr call ops its fr0 st0 ex frE stE T N) (hn : Next ops its D N p) (hN : N < its.length → (its.getD N AItem.dummy).op.cls = .loud) : p ≤ N := by
  refine Nat.le_of_not_lt fun hlt => ?_
  have hNl : N < its.length := Nat.lt_trans hlt hn.lt
  have := hn.dn N hNl (hn.below h hlt (hN hNl))
  omega
theorem Next.above (h : Dr call ops its fr0 st0 ex frE stE T N) (hn : Next ops its D N p) {q : Nat} (hpq : p < q) (hq : q < its.length) (hD : D q) : (its.getD p AItem.dummy).op.cls ≠ .loud := (h.float hpq hq (hn.nb q hq hD)).1
theorem agree (h : Dr call ops its fr0 st0 ex frE stE T N) (hn : Next ops its D N p) (hR : Rel its T D m fr st) (hpN : p ≤ N) : Agree (its.getD p AItem.dummy).reads (T p).1 fr := by
  intro t ht
  by_cases hw : ∃ q, q < its.length ∧ (its.getD q AItem.dummy).d = some t
  · obtain ⟨q, hq, hd⟩ := hw
    rcases Nat.lt_trichotomy q p with hlt | rfl | hlt
    · have hb : isBef (befTable ops its []) (its.getD q AItem.dummy).i (its.getD p AItem.dummy).i = true := by
        cases hb : isBef (befTable ops its []) (its.getD q AItem.dummy).i (its.getD p AItem.dummy).i with
        | true => rfl
        | false => exact absurd ht ((h.float hlt hn.lt hb).2.2.2.1 t hd)
      rw [hR.slotD q t hq (hn.pre q hq (by omega) hb) hd]
      exact (range_slot h.t (by omega) hpN fun r h1 h2 => h.d_ne hq (by have := hn.lt; omega) (by omega) hd).symm
    · rw [hR.slotN t fun r hr hDr e => h.d_ne hr hq (fun e2 => hn.new (e2 ▸ hDr)) e hd]
      exact (range_slot h.t (Nat.zero_le _) hpN fun r h1 h2 => h.d_ne hq (by have := hn.lt; omega) (by omega) hd).symm
    · have hq0 : ¬ D q := fun hD => by
        have hb := hn.nb q hq hD
        exact (h.float hlt hq hb).2.2.2.2 t hd ht
      rw [hR.slotN t fun r hr hDr e => h.d_ne hr hq (fun e2 => hq0 (e2 ▸ hDr)) e hd]
      exact (range_slot h.t (Nat.zero_le _) hpN fun r h1 h2 => h.d_ne hq (by have := hn.lt; omega) (by omega) hd).symm
  · have hno : ∀ q, q < its.length → (its.getD q AItem.dummy).d ≠ some t := fun q hq e => hw ⟨q, hq, e⟩
    rw [hR.slotN t fun r hr _ => hno r hr]
    exact (range_slot h.t (Nat.zero_le _) hpN fun r h1 h2 => hno r (by have := hn.lt; omega)).symm
theorem Rel.m_le (h : Dr call ops its fr0 st0 ex frE stE T N) (hR : Rel its T D m fr st) (hn : Next ops its D N p) : m ≤ N := by
  rcases hR.top with rfl | ⟨q, rfl, hq, hl⟩
  · exact Nat.zero_le _
  · exact hn.dn q hq ((hR.loud q hq hl).2 (Nat.lt_succ_self q))
theorem no_loud (h : Dr call ops its fr0 st0 ex frE stE T N) (hR : Rel its T D m fr st) (hn : Next ops its D N p) {q : Nat} (h1 : m ≤ q) (h2 : q < p) : (its.getD q AItem.dummy).op.cls ≠ .loud := fun hl => by
  have hq : q < its.length := Nat.lt_trans h2 hn.lt
  have := (hR.loud q hq hl).1 (hn.below h h2 hl)
  omega
theorem not_store {op : AOp} (h : op.cls ≠ .loud) : op.isStore = false := by
  cases hs : op.isStore with
  | false => rfl
  | true => exact absurd (store_cls hs) h
theorem keeps (h : Dr call ops its fr0 st0 ex frE stE T N) {q li : Nat} (hq : q < N) (hs : (its.getD q AItem.dummy).op.isStore = false) (ha : (its.getD q AItem.dummy).op.al? ≠ some li) : (T (q + 1)).1.loc[li]? = (T q).1.loc[li]? :=
  (one_facts (h.t.step q hq)).2.2.2.2.1 li hs ha
end
end Go.Proofs.YtelpkgbghhpgaaaGreatDoor.Sx
end
section
namespace Go.Proofs.YtelpkgbghhpgaaaGreatDoor.Sx
open AV
mutual
theorem beq_eq : ∀ {a b : AV}, a.beq b = true → a = b
  | .int k n, b, h => by cases b <;> simp_all [AV.beq]
  | .bool x, b, h => by cases b <;> simp_all [AV.beq]
  | .str x, b, h => by cases b <;> simp_all [AV.beq]
  | .ptr i o, b, h => by cases b <;> simp_all [AV.beq]
  | .lptr i s o, b, h => by cases b <;> simp_all [AV.beq]
  | .nilptr, b, h => by cases b <;> simp_all [AV.beq]
  | .nilslice, b, h => by cases b <;> simp_all [AV.beq]
  | .mapr i, b, h => by cases b <;> simp_all [AV.beq]
  | .nilmap, b, h => by cases b <;> simp_all [AV.beq]
  | .nilIface, b, h => by cases b <;> simp_all [AV.beq]
  | .nilFunc, b, h => by cases b <;> simp_all [AV.beq]
  | .junk, b, h => by cases b <;> simp_all [AV.beq]
  | .vptr x, b, h => by
    cases b <;> first | (simp [AV.beq] at h; done) | skip
    simp only [AV.beq] at h; rw [beqL_eq h]
  | .agg x, b, h => by
    cases b <;> first | (simp [AV.beq] at h; done) | skip
    simp only [AV.beq] at h; rw [beqL_eq h]
  | .tuple x, b, h => by
    cases b <;> first | (simp [AV.beq] at h; done) | skip
    simp only [AV.beq] at h; rw [beqL_eq h]
  | .slice s x o, b, h => by
    cases b <;> first | (simp [AV.beq] at h; done) | skip
    simp only [AV.beq, Bool.and_eq_true, beq_iff_eq, decide_eq_true_eq] at h
    obtain ⟨⟨rfl, h⟩, rfl⟩ := h
    rw [beqLL_eq h]
  | .iface t x, b, h => by
    cases b <;> first | (simp [AV.beq] at h; done) | skip
    simp only [AV.beq, Bool.and_eq_true, beq_iff_eq] at h
    obtain ⟨rfl, h⟩ := h
    rw [beq_eq h]
  | .func fn x y, b, h => by
    cases b <;> first | (simp [AV.beq] at h; done) | skip
    simp only [AV.beq, Bool.and_eq_true, decide_eq_true_eq] at h
    obtain ⟨⟨rfl, h1⟩, h2⟩ := h
    rw [beqL_eq h1, beqL_eq h2]
theorem beqL_eq : ∀ {a b : List AV}, AV.beqL a b = true → a = b
  | [], [], _ => rfl
  | x :: l, y :: m, h => by
    simp only [AV.beqL, Bool.and_eq_true] at h
    rw [beq_eq h.1, beqL_eq h.2]
  | [], _ :: _, h => by simp [AV.beqL] at h
  | _ :: _, [], h => by simp [AV.beqL] at h
theorem beqLL_eq : ∀ {a b : List (List AV)}, AV.beqLL a b = true → a = b
  | [], [], _ => rfl
  | x :: l, y :: m, h => by
    simp only [AV.beqLL, Bool.and_eq_true] at h
    rw [beqL_eq h.1, beqLL_eq h.2]
  | [], _ :: _, h => by simp [AV.beqLL] at h
  | _ :: _, [], h => by simp [AV.beqLL] at h
end
section
variable {call : CallFn} {ops : Array Oper} {its : List AItem} {fr0 fr fr' frE : Fr} {st0 st st' stE : St} {ex : Ex} {T : Nat → Fr × St} {N m p : Nat} {D : Nat → Prop}
theorem Dr.load_anti (h : Dr call ops its fr0 st0 ex frE stE T N) {p q t : Nat} (hpq : p < q) (hq : q < its.length) (hl : (its.getD p AItem.dummy).op.cls = .load) (hd : (its.getD q AItem.dummy).d = some t) : t ∉ (its.getD p AItem.dummy).reads := by
  have := h.pair p q hpq hq
  simp only [pairOk, Bool.and_eq_true, hl] at this
  have := this.2
  rw [hd] at this
  simpa using this
theorem one_ser {it : AItem} (h : runItems call [it] fr st = some (.normal, fr', st')) {li s : Nat} {cs : List AV} (ha : it.op.al? ≠ some li) (hl : fr'.loc[li]? = some (s, cs)) : ∃ cs0, fr.loc[li]? = some (s, cs0) := by
  by_cases hst : it.op.isStore = true
  · rw [run_one] at h
    split at h
    · cases h
    · rename_i fr1 hg
      split at h
      case isFalse => cases h
      cases h
      rw [(put_rest it.d).1, (guard_same hg).loc] at hl
      exact ⟨cs, hl⟩
    · rename_i fr1 hg
      split at h
      case h_2 => cases h
      case h_3 => cases h
      rename_i v fr2 st2 hw
      split at h
      case isFalse => cases h
      cases h
      rw [(put_rest it.d).1] at hl
      have hs : step fr1 st it.op = some (v, fr2, st') := by
        revert hw hst
        cases it.op <;> intro hst hw <;> first
          | (cases hst; done)
          | (simp only [wstep] at hw
             split at hw
             · rename_i h0; cases hw; exact h0
             · cases hw)
      rcases (step_loc hs).2 li s cs hl with ⟨cs0, h0⟩ | ⟨h0, _⟩
      · rw [(guard_same hg).loc] at h0; exact ⟨cs0, h0⟩
      · exact absurd h0 ha
  · have := (one_facts h).2.2.2.2.1 li (by simpa using hst) ha
    exact ⟨cs, by rw [← this]; exact hl⟩
theorem range_serial (h : Dr call ops its fr0 st0 ex frE stE T N) {li : Nat} : ∀ {b : Nat}, b ≤ N → (∀ q, q < b → (its.getD q AItem.dummy).op.al? ≠ some li) → ∀ {s : Nat} {cs : List AV}, (T b).1.loc[li]? = some (s, cs) → ∃ cs0, fr0.loc[li]? = some (s, cs0)
  | 0, _, _, s, cs, hl => by rw [h.t.zero] at hl; exact ⟨cs, hl⟩
  | b + 1, hb, ha, s, cs, hl => by
    obtain ⟨cs1, h1⟩ := one_ser (h.t.step b (by omega)) (ha b (by omega)) hl
    exact range_serial h (by omega) (fun q hq => ha q (by omega)) h1
theorem chk_fact (h : Dr call ops its fr0 st0 ex frE stE T N) {p q : Nat} (hpq : p < q) (hqN : q < N) {t n d : Nat} {a : Bool} (hop : (its.getD p AItem.dummy).op = .load (.r t) n a) (hd : (its.getD p AItem.dummy).d = some d) (hc : hasChk (its.getD p AItem.dummy) (its.getD q AItem.dummy) = true)
    {cG : Fr} (hg : guardA (T p).1 (its.getD p AItem.dummy).g = some (true, cG)) : ld (T (q + 1)).1 (T (q + 1)).2 (slot t (T p).1.regs) n a = some (slot d (T (p + 1)).1.regs) := by
  have hq : q < its.length := Nat.lt_of_lt_of_le hqN h.t.le
  have hp : p < its.length := Nat.lt_trans hpq hq
  have hcl : (its.getD p AItem.dummy).op.cls = .load := by rw [hop]; rfl
  unfold hasChk at hc
  rw [hop, hd] at hc
  simp only [Bool.and_eq_true, bne_iff_ne, ne_eq, List.any_eq_true, beq_iff_eq] at hc
  obtain ⟨⟨htd, hgd⟩, c, hcm, ⟨⟨⟨hc1, hc2⟩, hc3⟩, hc4⟩, hc5⟩ := hc
  have hframe : ∃ frq, (∀ t', (its.getD q AItem.dummy).d ≠ some t' → slot t' frq.regs = slot t' (T (q + 1)).1.regs) ∧ frq.loc = (T (q + 1)).1.loc ∧ chkOk frq (T (q + 1)).2 c = true := by
    have hs := h.t.step q hqN
    rw [run_one] at hs
    split at hs
    · cases hs
    · rename_i fr1 hg1
      split at hs
      case isFalse => cases hs
      rename_i hall
      simp only [Option.some.injEq, Prod.mk.injEq, true_and] at hs
      refine ⟨fr1, fun t' ht' => ?_, ?_, ?_⟩
      · rw [← hs.1, put_slot, if_neg ht']
      · rw [← hs.1, (put_rest _).1]
      · rw [← hs.2]; exact List.all_eq_true.1 hall c hcm
    · rename_i fr1 hg1
      split at hs
      case h_2 => cases hs
      case h_3 => cases hs
      rename_i v fr2 st2 hw
      split at hs
      case isFalse => cases hs
      rename_i hall
      simp only [Option.some.injEq, Prod.mk.injEq, true_and] at hs
      refine ⟨fr2, fun t' ht' => ?_, ?_, ?_⟩
      · rw [← hs.1, put_slot, if_neg ht']
      · rw [← hs.1, (put_rest _).1]
      · rw [← hs.2]; exact List.all_eq_true.1 hall c hcm
  obtain ⟨frq, f1, f2, f3⟩ := hframe
  have hreads : ∀ t', t' ∈ (its.getD p AItem.dummy).reads → (∀ r, p < r → r < its.length → (its.getD r AItem.dummy).d ≠ some t') := fun t' ht' r h1 h2 e => h.load_anti h1 h2 hcl e ht'
  have htm : t ∈ (its.getD p AItem.dummy).reads := List.mem_append.2 (.inl (by rw [hop]; exact List.mem_singleton.2 rfl))
  have hst : slot t frq.regs = slot t (T p).1.regs := by
    rw [f1 t (hreads t htm q hpq hq)]
    refine range_slot h.t (by omega) (by omega) fun r h1 h2 => ?_
    rcases Nat.eq_or_lt_of_le h1 with rfl | h1
    · rw [hd]; exact fun e => htd (Option.some.inj e).symm
    · exact hreads t htm r h1 (by omega)
  have hsd : slot d frq.regs = slot d (T (p + 1)).1.regs := by
    rw [f1 d (h.d_ne hp hq (by omega) hd)]
    exact range_slot h.t (by omega) (by omega) fun r h1 h2 => h.d_ne hp (by omega) (by omega) hd
  have hgo : chkGo frq (T (q + 1)).2 c = true := by
    unfold chkOk at f3
    rw [hc5] at f3
    cases hgp : (its.getD p AItem.dummy).g with
    | none => rw [hgp] at f3; exact f3
    | some x =>
      obtain ⟨tg, w⟩ := x
      rw [hgp] at f3 hg
      have htg : tg ∈ (its.getD p AItem.dummy).reads := List.mem_append.2 (.inr (by rw [hgp]; exact List.mem_singleton.2 rfl))
      rw [hgp] at hgd
      simp only [bne_iff_ne, ne_eq] at hgd
      have hsg : slot tg frq.regs = slot tg (T p).1.regs := by
        rw [f1 tg (hreads tg htg q hpq hq)]
        refine range_slot h.t (by omega) (by omega) fun r h1 h2 => ?_
        rcases Nat.eq_or_lt_of_le h1 with rfl | h1
        · rw [hd]; exact fun e => hgd (Option.some.inj e).symm
        · exact hreads tg htg r h1 (by omega)
      simp only [guardA] at hg
      simp only [hsg] at f3
      split at hg
      · rename_i b hb
        simp only [Option.some.injEq, Prod.mk.injEq, beq_iff_eq] at hg
        obtain ⟨rfl, _⟩ := hg
        rw [hb] at f3
        cases b <;> exact f3
      · cases hg
      · cases hg
  unfold chkGo at hgo
  have hx : c.x.ev frq = slot t frq.regs := by
    split at hc2
    · rename_i t' e; have : t = t' := by simpa using hc2
      rw [e, this]; rfl
    · cases hc2
  rw [hx, hst, hc1, hsd, hc3, hc4] at hgo
  split at hgo
  · rename_i v hv
    rw [← beq_eq hgo, ← hv]
    exact ld_congr (fun li ser off _ => by rw [f2]) fun _ _ _ => rfl
  · cases hgo
end
end Go.Proofs.YtelpkgbghhpgaaaGreatDoor.Sx
end
section
namespace Go.Proofs.YtelpkgbghhpgaaaGreatDoor.Sx
open AV
section
variable {call : CallFn} {ops : Array Oper} {its : List AItem} {fr0 fr fr' frE : Fr} {st0 st st' stE : St} {ex : Ex} {T : Nat → Fr × St} {N m p : Nat} {D : Nat → Prop}
def Shut (ops : Array Oper) (its : List AItem) (D : Nat → Prop) : Prop := ∀ q r, q < its.length → r < its.length → D q → isBef (befTable ops its []) (its.getD r AItem.dummy).i (its.getD q AItem.dummy).i = true → D r
theorem shut_store (h : Dr call ops its fr0 st0 ex frE stE T N) (hs : Shut ops its D) {q r : Nat} (hqr : q < r) (hr : r < its.length) (hq : ¬ D q) (hD : D r) {li : Nat} (ha : (its.getD q AItem.dummy).op.al? = some li) : (its.getD r AItem.dummy).op.isStore = false := by
  have hb : isBef (befTable ops its []) (its.getD q AItem.dummy).i (its.getD r AItem.dummy).i = false := by
    cases hb : isBef (befTable ops its []) (its.getD q AItem.dummy).i (its.getD r AItem.dummy).i with
    | false => rfl
    | true => exact absurd (hs r q hr (Nat.lt_trans hqr hr) hD hb) hq
  exact (h.float hqr hr hb).2.2.1 (al_cls ha).1
theorem undone (h : Dr call ops its fr0 st0 ex frE stE T N) (hs : Shut ops its D) (hR : Rel its T D m fr st) {q li b : Nat} (hq : q < its.length) (ha : (its.getD q AItem.dummy).op.al? = some li) (hnD : ¬ D q) (hqb : q + 1 ≤ b) (hbN : b ≤ N) (hbm : b ≤ m ∨ ∀ r, q < r → r < b → (its.getD r AItem.dummy).op.cls = .loud → D r) :
    (T b).1.loc[li]? = (T (q + 1)).1.loc[li]? := by
  refine range_loc hqb fun r h1 h2 => keeps h (by omega) ?_ (h.al_ne hq (by have := h.t.le; omega) (by omega) ha)
  by_cases hl : (its.getD r AItem.dummy).op.cls = .loud
  · have hr : r < its.length := by have := h.t.le; omega
    have hDr : D r := by
      rcases hbm with hbm | hbm
      · exact (hR.loud r hr hl).2 (by omega)
      · exact hbm r (by omega) h2 hl
    exact shut_store h hs (by omega) hr hnD hDr ha
  · exact not_store hl
theorem Rel.post (h : Dr call ops its fr0 st0 ex frE stE T N) (hs : Shut ops its D) (hR : Rel its T D m fr st) (hn : Next ops its D N p) (hpN : p < N)
    (c1 : ∀ t, (its.getD p AItem.dummy).d ≠ some t → slot t fr'.regs = slot t fr.regs) (c2 : ∀ t, (its.getD p AItem.dummy).d = some t → slot t fr'.regs = slot t (T (p + 1)).1.regs) (c3 : fr'.ser = fr.ser) (c4 : fr'.loc.length = fr.loc.length)
    (c5 : (its.getD p AItem.dummy).op.cls = .loud → st' = (T (p + 1)).2 ∧ fr'.ftoks = (T (p + 1)).1.ftoks) (c6 : (its.getD p AItem.dummy).op.cls ≠ .loud → st' = st ∧ fr'.ftoks = fr.ftoks)
    (c7 : ((its.getD p AItem.dummy).op.al? = none ∧ fr'.loc = fr.loc ∧ ∀ li : Nat, (T (p + 1)).1.loc[li]? = (T p).1.loc[li]?) ∨ (∃ lp, (its.getD p AItem.dummy).op.al? = some lp ∧ (∀ li : Nat, li ≠ lp → fr'.loc[li]? = fr.loc[li]?) ∧ fr'.loc[lp]? = (T (p + 1)).1.loc[lp]?) ∨ ((its.getD p AItem.dummy).op.isStore = true ∧ fr'.loc = (T (p + 1)).1.loc)) :
    Rel its T (fun q => D q ∨ q = p) (if (its.getD p AItem.dummy).op.cls = .loud then p + 1 else m) fr' st' := by
  have hpl := hn.lt
  have hmle : (its.getD p AItem.dummy).op.cls = .loud → m ≤ p := fun hl => Nat.le_of_not_lt fun hlt => hn.new ((hR.loud p hpl hl).2 hlt)
  have hup : ∀ q, q < its.length → D q → q ≠ p → (its.getD p AItem.dummy).op.cls = .loud → q < p := fun q hq hD hne hl => by
    rcases Nat.lt_or_gt_of_ne hne with h1 | h1
    · exact h1
    · exact absurd hl (hn.above h h1 hq hD)
  refine ⟨fun q t hq hDq hd => ?_, fun t ht => ?_, fun q hq hl => ?_, ?_, ?_, ?_, fun q li hq ha hDq => ?_, fun q li hq ha hDq => ?_, fun li hno => ?_, c3.trans hR.ser, c4.trans hR.len⟩
  · rcases hDq with hDq | rfl
    · by_cases hqp : q = p
      · subst hqp; exact absurd hDq hn.new
      · rw [c1 t (h.d_ne hq hpl hqp hd)]; exact hR.slotD q t hq hDq hd
    · exact c2 t hd
  · rw [c1 t (ht p hpl (.inr rfl))]
    exact hR.slotN t fun q hq hD => ht q hq (.inl hD)
  · by_cases hpq : q = p
    · subst hpq; rw [if_pos hl]; exact ⟨fun _ => Nat.lt_succ_self _, fun _ => .inr rfl⟩
    · have hD' : (D q ∨ q = p) ↔ D q := ⟨fun h => h.resolve_right hpq, .inl⟩
      rw [hD']
      by_cases hlp : (its.getD p AItem.dummy).op.cls = .loud
      · rw [if_pos hlp]
        constructor
        · intro hD; have := hup q hq hD hpq hlp; omega
        · intro hlt; exact hn.below h (by omega) hl
      · rw [if_neg hlp]; exact hR.loud q hq hl
  · by_cases hlp : (its.getD p AItem.dummy).op.cls = .loud
    · rw [if_pos hlp]; exact .inr ⟨p, rfl, hpl, hlp⟩
    · rw [if_neg hlp]; exact hR.top
  · by_cases hlp : (its.getD p AItem.dummy).op.cls = .loud
    · rw [if_pos hlp]; exact (c5 hlp).1
    · rw [if_neg hlp, (c6 hlp).1]; exact hR.st
  · by_cases hlp : (its.getD p AItem.dummy).op.cls = .loud
    · rw [if_pos hlp]; exact (c5 hlp).2
    · rw [if_neg hlp, (c6 hlp).2]; exact hR.tok
  ·
    by_cases hqp : q = p
    · subst hqp
      have hnl : (its.getD q AItem.dummy).op.cls ≠ .loud := by rw [(al_cls ha).1]; simp
      rw [if_neg hnl]
      rcases c7 with ⟨k, _⟩ | ⟨lp, k1, k2, k3⟩ | ⟨k, _⟩
      · rw [ha] at k; cases k
      · rw [ha] at k1; cases k1
        rw [k3]
        exact (undone h hs hR hq ha hn.new (by omega) (by have := hR.m_le h hn; omega) (by
          by_cases hm : m ≤ q + 1
          · exact .inr fun r h1 h2 _ => by omega
          · exact .inl (by omega))).symm
      · exact absurd (store_cls k) hnl
    · have hDq : D q := hDq.resolve_right hqp
      rcases c7 with ⟨k1, k2, k3⟩ | ⟨lp, k1, k2, k3⟩ | ⟨k1, k2⟩
      · by_cases hlp : (its.getD p AItem.dummy).op.cls = .loud
        · have hlt := hup q hq hDq hqp hlp
          have := hmle hlp
          rw [if_pos hlp, k2, hR.locD q li hq ha hDq, show max (p + 1) (q + 1) = p + 1 by omega]
          refine (range_loc (by omega) fun r h1 h2 => ?_).symm
          rcases Nat.eq_or_lt_of_le (Nat.le_of_lt_succ h2) with rfl | h2
          · exact k3 li
          · exact keeps h (by omega) (not_store (no_loud h hR hn (by omega) h2)) (h.al_ne hq (by omega) (by omega) ha)
        · rw [if_neg hlp, k2]; exact hR.locD q li hq ha hDq
      · have hnl : (its.getD p AItem.dummy).op.cls ≠ .loud := by rw [(al_cls k1).1]; simp
        rw [if_neg hnl, k2 li (fun e => h.al_ne hq hpl hqp ha (e ▸ k1))]
        exact hR.locD q li hq ha hDq
      · have hlp := store_cls k1
        have hlt := hup q hq hDq hqp hlp
        rw [if_pos hlp, k2, show max (p + 1) (q + 1) = p + 1 by omega]
  ·
    have hDq' : ¬ D q := fun h => hDq (.inl h)
    have hqp : q ≠ p := fun h => hDq (.inr h)
    rcases c7 with ⟨k1, k2, k3⟩ | ⟨lp, k1, k2, k3⟩ | ⟨k1, k2⟩
    · by_cases hlp : (its.getD p AItem.dummy).op.cls = .loud
      · have := hmle hlp
        rw [if_pos hlp, k2, hR.locN q li hq ha hDq']
        rcases Nat.lt_or_gt_of_ne hqp with hlt | hlt
        · rw [show min (p + 1) q = q by omega]
          refine (range_loc (Nat.min_le_right _ _) fun r h1 h2 => keeps h (by omega) (not_store (no_loud h hR hn (by omega) (by omega))) (h.al_ne hq (by omega) (by omega) ha)).symm
        · rw [show min (p + 1) q = p + 1 by omega, show min m q = m by omega]
          refine (range_loc (by omega) fun r h1 h2 => ?_).symm
          rcases Nat.eq_or_lt_of_le (Nat.le_of_lt_succ h2) with rfl | h2
          · exact k3 li
          · exact keeps h (by omega) (not_store (no_loud h hR hn (by omega) h2)) (h.al_ne hq (by omega) (by omega) ha)
      · rw [if_neg hlp, k2]; exact hR.locN q li hq ha hDq'
    · have hnl : (its.getD p AItem.dummy).op.cls ≠ .loud := by rw [(al_cls k1).1]; simp
      rw [if_neg hnl, k2 li (fun e => h.al_ne hq hpl hqp ha (e ▸ k1))]
      exact hR.locN q li hq ha hDq'
    · have hlp := store_cls k1
      rw [if_pos hlp, k2]
      rcases Nat.lt_or_gt_of_ne hqp with hlt | hlt
      · exfalso
        have hb : isBef (befTable ops its []) (its.getD q AItem.dummy).i (its.getD p AItem.dummy).i = false := by
          cases hb : isBef (befTable ops its []) (its.getD q AItem.dummy).i (its.getD p AItem.dummy).i with
          | false => rfl
          | true => exact absurd (hn.pre q hq hqp hb) hDq'
        have := (h.float hlt hpl hb).2.2.1 (al_cls ha).1
        rw [k1] at this; cases this
      · rw [show min (p + 1) q = p + 1 by omega]
  · rcases c7 with ⟨k1, k2, k3⟩ | ⟨lp, k1, k2, k3⟩ | ⟨k1, k2⟩
    · by_cases hlp : (its.getD p AItem.dummy).op.cls = .loud
      · have := hmle hlp
        rw [if_pos hlp, k2, hR.locO li hno]
        refine (range_loc (by omega) fun r h1 h2 => ?_).symm
        rcases Nat.eq_or_lt_of_le (Nat.le_of_lt_succ h2) with rfl | h2
        · exact k3 li
        · exact keeps h (by omega) (not_store (no_loud h hR hn (by omega) h2)) (hno r (by omega))
      · rw [if_neg hlp, k2]; exact hR.locO li hno
    · have hnl : (its.getD p AItem.dummy).op.cls ≠ .loud := by rw [(al_cls k1).1]; simp
      rw [if_neg hnl, k2 li (fun e => hno p hpl (e ▸ k1))]
      exact hR.locO li hno
    · rw [if_pos (store_cls k1), k2]
end
end Go.Proofs.YtelpkgbghhpgaaaGreatDoor.Sx
end
section
namespace Go.Proofs.YtelpkgbghhpgaaaGreatDoor.Sx
open AV
section
variable {call : CallFn} {ops : Array Oper} {its : List AItem} {fr0 fr fr' frE : Fr} {st0 st st' stE : St} {ex : Ex} {T : Nat → Fr × St} {N m p : Nat} {D : Nat → Prop}
theorem load_same (h : Dr call ops its fr0 st0 ex frE stE T N) (hs : Shut ops its D) (hR : Rel its T D m fr st) (hn : Next ops its D N p) (hpN : p < N) (hser0 : ∀ (li s : Nat) (cs : List AV), fr0.loc[li]? = some (s, cs) → s < fr0.ser)
    {x : Opd} {n : Nat} {a : Bool} {v : AV} (hop : (its.getD p AItem.dummy).op = .load x n a) (hinv : ∀ li s off, x.ev fr = .lptr li s off → ∃ (s' : Nat) (cs : List AV), fr.loc[li]? = some (s', cs) ∧ s ≤ s') (hx : x.ev fr = x.ev (T p).1)
    {cG : Fr} (hcG : guardA (T p).1 (its.getD p AItem.dummy).g = some (true, cG)) (hl : ld (T p).1 (T p).2 (x.ev (T p).1) n a = some v) (hv : ∀ d, (its.getD p AItem.dummy).d = some d → slot d (T (p + 1)).1.regs = v) : ld fr st (x.ev fr) n a = some v := by
  have hcl : (its.getD p AItem.dummy).op.cls = .load := by rw [hop]; rfl
  have hmN := hR.m_le h hn
  have hpl := hn.lt
  have chk : ∀ q, p < q → q < N → hasChk (its.getD p AItem.dummy) (its.getD q AItem.dummy) = true → ld (T (q + 1)).1 (T (q + 1)).2 (x.ev (T p).1) n a = some v := fun q h1 h2 h3 => by
    cases x with
    | r t =>
      cases hd : (its.getD p AItem.dummy).d with
      | none => unfold hasChk at h3; rw [hop, hd] at h3; cases h3
      | some d =>
        have := chk_fact h h1 h2 hop hd h3 hcG
        rw [hv d hd] at this
        exact this
    | c u => unfold hasChk at h3; rw [hop] at h3; cases h3
    | f i => unfold hasChk at h3; rw [hop] at h3; cases h3
  have chkD : ∀ q, p < q → q < its.length → D q → (its.getD q AItem.dummy).op.cls ≠ .reg → (its.getD q AItem.dummy).op.cls ≠ .load → ld (T (q + 1)).1 (T (q + 1)).2 (x.ev (T p).1) n a = some v := fun q h1 h2 h3 h4 h5 => by
    rcases (h.float h1 h2 (hn.nb q h2 h3)).2.1 hcl with h6 | h6 | h6
    · exact absurd h6 h4
    · exact absurd h6 h5
    · exact chk q h1 (hn.dn q h2 h3) h6
  rw [hx] at hinv ⊢
  have stage : ∃ b, b ≤ N ∧ (b = m ∨ (b = p ∧ m ≤ p)) ∧ p ≤ b ∧ ld (T b).1 (T b).2 (x.ev (T p).1) n a = some v ∧ (T b).2 = st := by
    by_cases hmp : m ≤ p
    · exact ⟨p, by omega, .inr ⟨rfl, hmp⟩, Nat.le_refl _, hl, by rw [hR.st]; exact (range_st h.t hmp (by omega) fun q h1 h2 => no_loud h hR hn h1 h2).1⟩
    · rcases hR.top with h0 | ⟨b, hb, hbl, hbc⟩
      · omega
      · have hDb := (hR.loud b hbl hbc).2 (by omega)
        have hbp : b ≠ p := fun e => by subst e; rw [hcl] at hbc; cases hbc
        have := chkD b (by omega) hbl hDb (by rw [hbc]; simp) (by rw [hbc]; simp)
        rw [← hb] at this
        exact ⟨m, hmN, .inl rfl, by omega, this, hR.st.symm⟩
  obtain ⟨b, hbN, hbm, hpb, hlb, hst⟩ := stage
  have nol : ∀ q, m ≤ q → q < b → (its.getD q AItem.dummy).op.cls ≠ .loud := fun q h1 h2 => by
    rcases hbm with rfl | ⟨rfl, _⟩
    · omega
    · exact no_loud h hR hn h1 h2
  have hmb : m ≤ b := by rcases hbm with rfl | ⟨rfl, h⟩ <;> omega
  have hbmax : ∀ q, b ≤ q → q < its.length → D q → (its.getD q AItem.dummy).op.cls ≠ .loud := fun q h1 h2 hD hl => by
    have := (hR.loud q h2 hl).1 hD
    omega
  suffices hloc : ∀ li s off, x.ev (T p).1 = .lptr li s off → ld fr st (.lptr li s off) n a = some v by
    cases hxv : x.ev (T p).1 with
    | lptr li s off => exact hloc li s off hxv
    | _ =>
      rw [hxv] at hlb
      first
        | (cases hlb; done)
        | (rw [← hlb]
           exact ld_congr (fun li ser off e => by cases e) fun id off _ => hst.symm)
  intro li s off hxe
  rw [hxe] at hlb
  have same : ∀ {c : Nat}, c ≤ N → fr.loc[li]? = (T c).1.loc[li]? → ld (T c).1 (T c).2 (.lptr li s off) n a = some v → ld fr st (.lptr li s off) n a = some v := fun {c} _ h1 h2 => by
    rw [← h2]
    exact ld_congr (fun li' ser' off' e => by cases e; exact h1) fun id off e => by cases e
  by_cases hal : ∃ q, q < its.length ∧ (its.getD q AItem.dummy).op.al? = some li
  · obtain ⟨q, hq, ha⟩ := hal
    have hqp : q ≠ p := fun e => by subst e; rw [(al_cls ha).1] at hcl; cases hcl
    have hnr : (its.getD q AItem.dummy).op.cls ≠ .reg ∧ (its.getD q AItem.dummy).op.cls ≠ .load ∧ (its.getD q AItem.dummy).op.cls ≠ .loud := by rw [(al_cls ha).1]; simp
    by_cases hD : D q
    · have hqN := hn.dn q hq hD
      have hloc := hR.locD q li hq ha hD
      by_cases hqb : q < b
      · refine same hbN ?_ hlb
        rw [hloc]
        exact (range_loc (by omega) fun r h1 h2 => keeps h (by omega) (not_store (nol r (by omega) h2)) (h.al_ne hq (by omega) (by omega) ha)).symm
      · have hl2 := chkD q (by omega) hq hD hnr.1 hnr.2.1
        rw [hxe] at hl2
        refine same (c := q + 1) (by omega) ?_ hl2
        rw [hloc, show max m (q + 1) = q + 1 by omega]
    · have hloc := hR.locN q li hq ha hD
      by_cases hqb : q < b
      ·
        have e1 : (T b).1.loc[li]? = (T (q + 1)).1.loc[li]? := undone h hs hR hq ha hD (by omega) hbN (by
          rcases hbm with rfl | ⟨rfl, _⟩
          · exact .inl (Nat.le_refl _)
          · exact .inr fun r h1 h2 hl => hn.below h h2 hl)
        have e2 : (T q).1.loc[li]? = (T (min m q)).1.loc[li]? := range_loc (Nat.min_le_right _ _) fun r h1 h2 => keeps h (by omega) (not_store (nol r (by omega) (by omega))) (h.al_ne hq (by omega) (by omega) ha)
        rcases (one_facts (h.t.step q (by omega))).2.2.2.2.2 li ha with h3 | ⟨zs, h3⟩
        · exact same hbN (by rw [hloc, e1, h3, e2]) hlb
        · exfalso
          have hgl : ∃ cs, (T b).1.loc[li]? = some (s, cs) := by
            simp only [ld] at hlb
            split at hlb
            · rename_i cs hcs; exact ⟨cs, locGet_eq hcs⟩
            · cases hlb
          obtain ⟨cs, hgl⟩ := hgl
          rw [e1, h3] at hgl
          have hse : s = fr0.ser := by
            have := Option.some.inj hgl
            rw [← (range_ser h.t (b := q) (by omega)).1]
            exact (congrArg Prod.fst this).symm
          obtain ⟨s', cs', h4, h5⟩ := hinv li s off hxe
          rw [hloc, ← e2] at h4
          obtain ⟨cs0, h6⟩ := range_serial h (b := q) (by omega) (fun r hr => h.al_ne hq (by omega) (by omega) ha) h4
          have := hser0 li s' cs0 h6
          omega
      · refine same hbN ?_ hlb
        rw [hloc, show min m q = m by omega]
        exact (range_loc hmb fun r h1 h2 => keeps h (by omega) (not_store (nol r h1 h2)) (h.al_ne hq (by omega) (by omega) ha)).symm
  · have hno : ∀ q, q < its.length → (its.getD q AItem.dummy).op.al? ≠ some li := fun q hq e => hal ⟨q, hq, e⟩
    refine same hbN ?_ hlb
    rw [hR.locO li hno]
    exact (range_loc hmb fun r h1 h2 => keeps h (by omega) (not_store (nol r h1 h2)) (hno r (by have := h.t.le; omega))).symm
end
end Go.Proofs.YtelpkgbghhpgaaaGreatDoor.Sx
end
