/- TreeExprSames returns true for all expressions whose data are not larger than a bound. The program's functions as plain code. -/
import Derived.Test.YtelpkgbghhpgaaaGreatDoorK9
set_option linter.all false
section
namespace Go.Proofs.YtelpkgbghhpgaaaGreatDoor.Sx
open AV

section
variable {call : CallFn} {ops : Array Oper} {its : List AItem} {fr0 fr fr' frE : Fr} {st0 st st' stE : St} {ex : Ex} {T : Nat → Fr × St} {N m p : Nat} {D : Nat → Prop}

/-- What is done is closed under "before". -/
def Shut (ops : Array Oper) (its : List AItem) (D : Nat → Prop) : Prop := ∀ q r, q < its.length → r < its.length → D q → isBef (befTable ops its []) (its.getD r AItem.dummy).i (its.getD q AItem.dummy).i = true → D r

/-- Ahead of a done item every loud one is done. -/
theorem shut_loud (h : Dr call ops its fr0 st0 ex frE stE T N) (hs : Shut ops its D) {q r : Nat} (hrq : r < q) (hq : q < its.length) (hD : D q) (hl : (its.getD r AItem.dummy).op.cls = .loud) : D r := by
  refine hs q r hq (Nat.lt_trans hrq hq) hD ?_
  cases hb : isBef (befTable ops its []) (its.getD r AItem.dummy).i (its.getD q AItem.dummy).i with
  | true => rfl
  | false => exact absurd hl (h.float hrq hq hb).1

/-- A maker that is not done floats past no store that is done. -/
theorem shut_store (h : Dr call ops its fr0 st0 ex frE stE T N) (hs : Shut ops its D) {q r : Nat} (hqr : q < r) (hr : r < its.length) (hq : ¬ D q) (hD : D r) {li : Nat} (ha : (its.getD q AItem.dummy).op.al? = some li) : (its.getD r AItem.dummy).op.isStore = false := by
  have hb : isBef (befTable ops its []) (its.getD q AItem.dummy).i (its.getD r AItem.dummy).i = false := by
    cases hb : isBef (befTable ops its []) (its.getD q AItem.dummy).i (its.getD r AItem.dummy).i with
    | false => rfl
    | true => exact absurd (hs r q hr (Nat.lt_trans hqr hr) hD hb) hq
  exact (h.float hqr hr hb).2.2.1 (al_cls ha).1

/-- A variable whose maker is not done, at any stage that the done items may be at. -/
theorem undone (h : Dr call ops its fr0 st0 ex frE stE T N) (hs : Shut ops its D) (hR : Rel its T D m fr st) {q li b : Nat} (hq : q < its.length) (ha : (its.getD q AItem.dummy).op.al? = some li) (hnD : ¬ D q) (hqb : q + 1 ≤ b) (hbN : b ≤ N) (hbm : b ≤ m ∨ ∀ r, q < r → r < b → (its.getD r AItem.dummy).op.cls = .loud → D r) :
    (T b).1.loc[li]? = (T (q + 1)).1.loc[li]? := by
  refine range_loc hqb fun r h1 h2 => keeps h (by omega) ?_ (h.al_ne hq (by have := h.t.le; omega) (by omega) ha)
  by_cases hl : (its.getD r AItem.dummy).op.cls = .loud
  · have hr : r < its.length := by have := h.t.le; omega
    have hDr : D r := by
      rcases hbm with hbm | hbm
      · exact (hR.loud r hr hl).2 (by omega)
      · exact hbm r (by omega) h2 hl
    exact shut_store h hs (by omega) hr hnD hDr ha
  · exact not_store hl

theorem Rel.post (h : Dr call ops its fr0 st0 ex frE stE T N) (hs : Shut ops its D) (hR : Rel its T D m fr st) (hn : Next ops its D N p) (hpN : p < N)
    (c1 : ∀ t, (its.getD p AItem.dummy).d ≠ some t → slot t fr'.regs = slot t fr.regs) (c2 : ∀ t, (its.getD p AItem.dummy).d = some t → slot t fr'.regs = slot t (T (p + 1)).1.regs) (c3 : fr'.ser = fr.ser) (c4 : fr'.loc.length = fr.loc.length)
    (c5 : (its.getD p AItem.dummy).op.cls = .loud → st' = (T (p + 1)).2 ∧ fr'.ftoks = (T (p + 1)).1.ftoks) (c6 : (its.getD p AItem.dummy).op.cls ≠ .loud → st' = st ∧ fr'.ftoks = fr.ftoks)
    (c7 : ((its.getD p AItem.dummy).op.al? = none ∧ fr'.loc = fr.loc ∧ ∀ li : Nat, (T (p + 1)).1.loc[li]? = (T p).1.loc[li]?) ∨ (∃ lp, (its.getD p AItem.dummy).op.al? = some lp ∧ (∀ li : Nat, li ≠ lp → fr'.loc[li]? = fr.loc[li]?) ∧ fr'.loc[lp]? = (T (p + 1)).1.loc[lp]?) ∨ ((its.getD p AItem.dummy).op.isStore = true ∧ fr'.loc = (T (p + 1)).1.loc)) :
    Rel its T (fun q => D q ∨ q = p) (if (its.getD p AItem.dummy).op.cls = .loud then p + 1 else m) fr' st' := by
  have hpl := hn.lt
  have hmle : (its.getD p AItem.dummy).op.cls = .loud → m ≤ p := fun hl => Nat.le_of_not_lt fun hlt => hn.new ((hR.loud p hpl hl).2 hlt)
  have hup : ∀ q, q < its.length → D q → q ≠ p → (its.getD p AItem.dummy).op.cls = .loud → q < p := fun q hq hD hne hl => by
    rcases Nat.lt_or_gt_of_ne hne with h1 | h1
    · exact h1
    · exact absurd hl (hn.above h h1 hq hD)
  refine ⟨fun q t hq hDq hd => ?_, fun t ht => ?_, fun q hq hl => ?_, ?_, ?_, ?_, fun q li hq ha hDq => ?_, fun q li hq ha hDq => ?_, fun li hno => ?_, c3.trans hR.ser, c4.trans hR.len⟩
  · rcases hDq with hDq | rfl
    · by_cases hqp : q = p
      · subst hqp; exact absurd hDq hn.new
      · rw [c1 t (h.d_ne hq hpl hqp hd)]; exact hR.slotD q t hq hDq hd
    · exact c2 t hd
  · rw [c1 t (ht p hpl (.inr rfl))]
    exact hR.slotN t fun q hq hD => ht q hq (.inl hD)
  · by_cases hpq : q = p
    · subst hpq; rw [if_pos hl]; exact ⟨fun _ => Nat.lt_succ_self _, fun _ => .inr rfl⟩
    · have hD' : (D q ∨ q = p) ↔ D q := ⟨fun h => h.resolve_right hpq, .inl⟩
      rw [hD']
      by_cases hlp : (its.getD p AItem.dummy).op.cls = .loud
      · rw [if_pos hlp]
        constructor
        · intro hD; have := hup q hq hD hpq hlp; omega
        · intro hlt; exact hn.below h (by omega) hl
      · rw [if_neg hlp]; exact hR.loud q hq hl
  · by_cases hlp : (its.getD p AItem.dummy).op.cls = .loud
    · rw [if_pos hlp]; exact .inr ⟨p, rfl, hpl, hlp⟩
    · rw [if_neg hlp]; exact hR.top
  · by_cases hlp : (its.getD p AItem.dummy).op.cls = .loud
    · rw [if_pos hlp]; exact (c5 hlp).1
    · rw [if_neg hlp, (c6 hlp).1]; exact hR.st
  · by_cases hlp : (its.getD p AItem.dummy).op.cls = .loud
    · rw [if_pos hlp]; exact (c5 hlp).2
    · rw [if_neg hlp, (c6 hlp).2]; exact hR.tok
  · -- a maker that is done
    by_cases hqp : q = p
    · subst hqp
      have hnl : (its.getD q AItem.dummy).op.cls ≠ .loud := by rw [(al_cls ha).1]; simp
      rw [if_neg hnl]
      rcases c7 with ⟨k, _⟩ | ⟨lp, k1, k2, k3⟩ | ⟨k, _⟩
      · rw [ha] at k; cases k
      · rw [ha] at k1; cases k1
        rw [k3]
        exact (undone h hs hR hq ha hn.new (by omega) (by have := hR.m_le h hn; omega) (by
          by_cases hm : m ≤ q + 1
          · exact .inr fun r h1 h2 _ => by omega
          · exact .inl (by omega))).symm
      · exact absurd (store_cls k) hnl
    · have hDq : D q := hDq.resolve_right hqp
      rcases c7 with ⟨k1, k2, k3⟩ | ⟨lp, k1, k2, k3⟩ | ⟨k1, k2⟩
      · by_cases hlp : (its.getD p AItem.dummy).op.cls = .loud
        · have hlt := hup q hq hDq hqp hlp
          have := hmle hlp
          rw [if_pos hlp, k2, hR.locD q li hq ha hDq, show max (p + 1) (q + 1) = p + 1 by omega]
          refine (range_loc (by omega) fun r h1 h2 => ?_).symm
          rcases Nat.eq_or_lt_of_le (Nat.le_of_lt_succ h2) with rfl | h2
          · exact k3 li
          · exact keeps h (by omega) (not_store (no_loud h hR hn (by omega) h2)) (h.al_ne hq (by omega) (by omega) ha)
        · rw [if_neg hlp, k2]; exact hR.locD q li hq ha hDq
      · have hnl : (its.getD p AItem.dummy).op.cls ≠ .loud := by rw [(al_cls k1).1]; simp
        rw [if_neg hnl, k2 li (fun e => h.al_ne hq hpl hqp ha (e ▸ k1))]
        exact hR.locD q li hq ha hDq
      · have hlp := store_cls k1
        have hlt := hup q hq hDq hqp hlp
        rw [if_pos hlp, k2, show max (p + 1) (q + 1) = p + 1 by omega]
  · -- a maker that is not done
    have hDq' : ¬ D q := fun h => hDq (.inl h)
    have hqp : q ≠ p := fun h => hDq (.inr h)
    rcases c7 with ⟨k1, k2, k3⟩ | ⟨lp, k1, k2, k3⟩ | ⟨k1, k2⟩
    · by_cases hlp : (its.getD p AItem.dummy).op.cls = .loud
      · have := hmle hlp
        rw [if_pos hlp, k2, hR.locN q li hq ha hDq']
        rcases Nat.lt_or_gt_of_ne hqp with hlt | hlt
        · rw [show min (p + 1) q = q by omega]
          refine (range_loc (Nat.min_le_right _ _) fun r h1 h2 => keeps h (by omega) (not_store (no_loud h hR hn (by omega) (by omega))) (h.al_ne hq (by omega) (by omega) ha)).symm
        · rw [show min (p + 1) q = p + 1 by omega, show min m q = m by omega]
          refine (range_loc (by omega) fun r h1 h2 => ?_).symm
          rcases Nat.eq_or_lt_of_le (Nat.le_of_lt_succ h2) with rfl | h2
          · exact k3 li
          · exact keeps h (by omega) (not_store (no_loud h hR hn (by omega) h2)) (h.al_ne hq (by omega) (by omega) ha)
      · rw [if_neg hlp, k2]; exact hR.locN q li hq ha hDq'
    · have hnl : (its.getD p AItem.dummy).op.cls ≠ .loud := by rw [(al_cls k1).1]; simp
      rw [if_neg hnl, k2 li (fun e => h.al_ne hq hpl hqp ha (e ▸ k1))]
      exact hR.locN q li hq ha hDq'
    · have hlp := store_cls k1
      rw [if_pos hlp, k2]
      rcases Nat.lt_or_gt_of_ne hqp with hlt | hlt
      · exfalso
        have hb : isBef (befTable ops its []) (its.getD q AItem.dummy).i (its.getD p AItem.dummy).i = false := by
          cases hb : isBef (befTable ops its []) (its.getD q AItem.dummy).i (its.getD p AItem.dummy).i with
          | false => rfl
          | true => exact absurd (hn.pre q hq hqp hb) hDq'
        have := (h.float hlt hpl hb).2.2.1 (al_cls ha).1
        rw [k1] at this; cases this
      · rw [show min (p + 1) q = p + 1 by omega]
  · rcases c7 with ⟨k1, k2, k3⟩ | ⟨lp, k1, k2, k3⟩ | ⟨k1, k2⟩
    · by_cases hlp : (its.getD p AItem.dummy).op.cls = .loud
      · have := hmle hlp
        rw [if_pos hlp, k2, hR.locO li hno]
        refine (range_loc (by omega) fun r h1 h2 => ?_).symm
        rcases Nat.eq_or_lt_of_le (Nat.le_of_lt_succ h2) with rfl | h2
        · exact k3 li
        · exact keeps h (by omega) (not_store (no_loud h hR hn (by omega) h2)) (hno r (by omega))
      · rw [if_neg hlp, k2]; exact hR.locO li hno
    · have hnl : (its.getD p AItem.dummy).op.cls ≠ .loud := by rw [(al_cls k1).1]; simp
      rw [if_neg hnl, k2 li (fun e => hno p hpl (e ▸ k1))]
      exact hR.locO li hno
    · rw [if_pos (store_cls k1), k2]

end
end Go.Proofs.YtelpkgbghhpgaaaGreatDoor.Sx
end
section
namespace Go.Proofs.YtelpkgbghhpgaaaGreatDoor.Sx
open AV

section
variable {call : CallFn} {ops : Array Oper} {its : List AItem} {fr0 fr fr' frE : Fr} {st0 st st' stE : St} {ex : Ex} {T : Nat → Fr × St} {N m p : Nat} {D : Nat → Prop}

/-- A load reads here what it reads in the canonical run. -/
theorem load_same (h : Dr call ops its fr0 st0 ex frE stE T N) (hs : Shut ops its D) (hR : Rel its T D m fr st) (hn : Next ops its D N p) (hpN : p < N) (hser0 : ∀ (li s : Nat) (cs : List AV), fr0.loc[li]? = some (s, cs) → s < fr0.ser)
    {x : Opd} {n : Nat} {a : Bool} {v : AV} (hop : (its.getD p AItem.dummy).op = .load x n a) (hinv : ∀ li s off, x.ev fr = .lptr li s off → ∃ (s' : Nat) (cs : List AV), fr.loc[li]? = some (s', cs) ∧ s ≤ s') (hx : x.ev fr = x.ev (T p).1)
    {cG : Fr} (hcG : guardA (T p).1 (its.getD p AItem.dummy).g = some (true, cG)) (hl : ld (T p).1 (T p).2 (x.ev (T p).1) n a = some v) (hv : ∀ d, (its.getD p AItem.dummy).d = some d → slot d (T (p + 1)).1.regs = v) : ld fr st (x.ev fr) n a = some v := by
  have hcl : (its.getD p AItem.dummy).op.cls = .load := by rw [hop]; rfl
  have hmN := hR.m_le h hn
  have hpl := hn.lt
  -- a chk, as a load at a later stage
  have chk : ∀ q, p < q → q < N → hasChk (its.getD p AItem.dummy) (its.getD q AItem.dummy) = true → ld (T (q + 1)).1 (T (q + 1)).2 (x.ev (T p).1) n a = some v := fun q h1 h2 h3 => by
    cases x with
    | r t =>
      cases hd : (its.getD p AItem.dummy).d with
      | none => unfold hasChk at h3; rw [hop, hd] at h3; cases h3
      | some d =>
        have := chk_fact h h1 h2 hop hd h3 hcG
        rw [hv d hd] at this
        exact this
    | c u => unfold hasChk at h3; rw [hop] at h3; cases h3
    | f i => unfold hasChk at h3; rw [hop] at h3; cases h3
  have chkD : ∀ q, p < q → q < its.length → D q → (its.getD q AItem.dummy).op.cls ≠ .reg → (its.getD q AItem.dummy).op.cls ≠ .load → ld (T (q + 1)).1 (T (q + 1)).2 (x.ev (T p).1) n a = some v := fun q h1 h2 h3 h4 h5 => by
    rcases (h.float h1 h2 (hn.nb q h2 h3)).2.1 hcl with h6 | h6 | h6
    · exact absurd h6 h4
    · exact absurd h6 h5
    · exact chk q h1 (hn.dn q h2 h3) h6
  rw [hx] at hinv ⊢
  -- at the stage m
  have stage : ∃ b, b ≤ N ∧ (b = m ∨ (b = p ∧ m ≤ p)) ∧ p ≤ b ∧ ld (T b).1 (T b).2 (x.ev (T p).1) n a = some v ∧ (T b).2 = st := by
    by_cases hmp : m ≤ p
    · exact ⟨p, by omega, .inr ⟨rfl, hmp⟩, Nat.le_refl _, hl, by rw [hR.st]; exact (range_st h.t hmp (by omega) fun q h1 h2 => no_loud h hR hn h1 h2).1⟩
    · rcases hR.top with h0 | ⟨b, hb, hbl, hbc⟩
      · omega
      · have hDb := (hR.loud b hbl hbc).2 (by omega)
        have hbp : b ≠ p := fun e => by subst e; rw [hcl] at hbc; cases hbc
        have := chkD b (by omega) hbl hDb (by rw [hbc]; simp) (by rw [hbc]; simp)
        rw [← hb] at this
        exact ⟨m, hmN, .inl rfl, by omega, this, hR.st.symm⟩
  obtain ⟨b, hbN, hbm, hpb, hlb, hst⟩ := stage
  have nol : ∀ q, m ≤ q → q < b → (its.getD q AItem.dummy).op.cls ≠ .loud := fun q h1 h2 => by
    rcases hbm with rfl | ⟨rfl, _⟩
    · omega
    · exact no_loud h hR hn h1 h2
  have hmb : m ≤ b := by rcases hbm with rfl | ⟨rfl, h⟩ <;> omega
  have hbmax : ∀ q, b ≤ q → q < its.length → D q → (its.getD q AItem.dummy).op.cls ≠ .loud := fun q h1 h2 hD hl => by
    have := (hR.loud q h2 hl).1 hD
    omega
  -- it is enough that the variable is as at stage b
  suffices hloc : ∀ li s off, x.ev (T p).1 = .lptr li s off → ld fr st (.lptr li s off) n a = some v by
    cases hxv : x.ev (T p).1 with
    | lptr li s off => exact hloc li s off hxv
    | _ =>
      rw [hxv] at hlb
      first
        | (cases hlb; done)
        | (rw [← hlb]
           exact ld_congr (fun li ser off e => by cases e) fun id off _ => hst.symm)
  intro li s off hxe
  rw [hxe] at hlb
  have same : ∀ {c : Nat}, c ≤ N → fr.loc[li]? = (T c).1.loc[li]? → ld (T c).1 (T c).2 (.lptr li s off) n a = some v → ld fr st (.lptr li s off) n a = some v := fun {c} _ h1 h2 => by
    rw [← h2]
    exact ld_congr (fun li' ser' off' e => by cases e; exact h1) fun id off e => by cases e
  by_cases hal : ∃ q, q < its.length ∧ (its.getD q AItem.dummy).op.al? = some li
  · obtain ⟨q, hq, ha⟩ := hal
    have hqp : q ≠ p := fun e => by subst e; rw [(al_cls ha).1] at hcl; cases hcl
    have hnr : (its.getD q AItem.dummy).op.cls ≠ .reg ∧ (its.getD q AItem.dummy).op.cls ≠ .load ∧ (its.getD q AItem.dummy).op.cls ≠ .loud := by rw [(al_cls ha).1]; simp
    by_cases hD : D q
    · have hqN := hn.dn q hq hD
      have hloc := hR.locD q li hq ha hD
      by_cases hqb : q < b
      · refine same hbN ?_ hlb
        rw [hloc]
        exact (range_loc (by omega) fun r h1 h2 => keeps h (by omega) (not_store (nol r (by omega) h2)) (h.al_ne hq (by omega) (by omega) ha)).symm
      · have hl2 := chkD q (by omega) hq hD hnr.1 hnr.2.1
        rw [hxe] at hl2
        refine same (c := q + 1) (by omega) ?_ hl2
        rw [hloc, show max m (q + 1) = q + 1 by omega]
    · have hloc := hR.locN q li hq ha hD
      by_cases hqb : q < b
      · -- made in the canonical run, not here
        have e1 : (T b).1.loc[li]? = (T (q + 1)).1.loc[li]? := undone h hs hR hq ha hD (by omega) hbN (by
          rcases hbm with rfl | ⟨rfl, _⟩
          · exact .inl (Nat.le_refl _)
          · exact .inr fun r h1 h2 hl => hn.below h h2 hl)
        have e2 : (T q).1.loc[li]? = (T (min m q)).1.loc[li]? := range_loc (Nat.min_le_right _ _) fun r h1 h2 => keeps h (by omega) (not_store (nol r (by omega) (by omega))) (h.al_ne hq (by omega) (by omega) ha)
        rcases (one_facts (h.t.step q (by omega))).2.2.2.2.2 li ha with h3 | ⟨zs, h3⟩
        · exact same hbN (by rw [hloc, e1, h3, e2]) hlb
        · exfalso
          have hgl : ∃ cs, (T b).1.loc[li]? = some (s, cs) := by
            simp only [ld] at hlb
            split at hlb
            · rename_i cs hcs; exact ⟨cs, locGet_eq hcs⟩
            · cases hlb
          obtain ⟨cs, hgl⟩ := hgl
          rw [e1, h3] at hgl
          have hse : s = fr0.ser := by
            have := Option.some.inj hgl
            rw [← (range_ser h.t (b := q) (by omega)).1]
            exact (congrArg Prod.fst this).symm
          obtain ⟨s', cs', h4, h5⟩ := hinv li s off hxe
          rw [hloc, ← e2] at h4
          obtain ⟨cs0, h6⟩ := range_serial h (b := q) (by omega) (fun r hr => h.al_ne hq (by omega) (by omega) ha) h4
          have := hser0 li s' cs0 h6
          omega
      · refine same hbN ?_ hlb
        rw [hloc, show min m q = m by omega]
        exact (range_loc hmb fun r h1 h2 => keeps h (by omega) (not_store (nol r h1 h2)) (h.al_ne hq (by omega) (by omega) ha)).symm
  · have hno : ∀ q, q < its.length → (its.getD q AItem.dummy).op.al? ≠ some li := fun q hq e => hal ⟨q, hq, e⟩
    refine same hbN ?_ hlb
    rw [hR.locO li hno]
    exact (range_loc hmb fun r h1 h2 => keeps h (by omega) (not_store (nol r h1 h2)) (hno r (by have := h.t.le; omega))).symm

end
end Go.Proofs.YtelpkgbghhpgaaaGreatDoor.Sx
end
section
namespace Go.Proofs.YtelpkgbghhpgaaaGreatDoor.Sx
open AV

section
variable {call : CallFn} {ops : Array Oper} {its : List AItem} {fr0 fr fr' frE : Fr} {st0 st st' stE : St} {ex : Ex} {T : Nat → Fr × St} {N m p : Nat} {D : Nat → Prop}

theorem Agree.same {l : List Nat} {a a' b b' : Fr} (h : Agree l a b) (h1 : Same a a') (h2 : Same b b') : Agree l a' b' := fun t ht => by rw [h1.slot, h2.slot]; exact h t ht

theorem wstep_step {op : AOp} {v : AV} (hc : op.cls ≠ .loud) : wstep call fr st op = some (.ret v, fr', st') ↔ step fr st op = some (v, fr', st') := by
  have key : ∀ q : Option (AV × Fr × St), (match q with | some (v, fr', st') => some (Res.ret v, fr', st') | none => none) = some (.ret v, fr', st') ↔ q = some (v, fr', st') := fun q => by
    cases q with
    | none => simp
    | some x => obtain ⟨a, b, c⟩ := x; simp
  cases op <;> first
    | exact absurd rfl hc
    | exact key (step fr st _)
    | (simp only [wstep, step]; simp; done)

theorem wstep_ret {op : AOp} {r : Res} (hc : op.cls ≠ .loud) (h : wstep call fr st op = some (r, fr', st')) : ∃ v, r = .ret v := by
  have key : ∀ q : Option (AV × Fr × St), (match q with | some (v, fr', st') => some (Res.ret v, fr', st') | none => none) = some (r, fr', st') → ∃ v, r = .ret v := fun q h => by
    cases q with
    | none => cases h
    | some x => cases h; exact ⟨_, rfl⟩
  cases op <;> first
    | exact absurd rfl hc
    | exact key _ h
    | (simp only [wstep, step] at h; cases h; exact ⟨_, rfl⟩)

/-- The item does here what it does in the canonical run. -/
theorem item_run (h : Dr call ops its fr0 st0 ex frE stE T N) (hs : Shut ops its D) (hR : Rel its T D m fr st) (hn : Next ops its D N p) (hpN : p ≤ N) (hser0 : ∀ (li s : Nat) (cs : List AV), fr0.loc[li]? = some (s, cs) → s < fr0.ser)
    (hinv : ∀ x n a, (its.getD p AItem.dummy).op = .load x n a → ∀ li s off, x.ev fr = .lptr li s off → ∃ (s' : Nat) (cs : List AV), fr.loc[li]? = some (s', cs) ∧ s ≤ s')
    {cG frG : Fr} (hcG : guardA (T p).1 (its.getD p AItem.dummy).g = some (true, cG)) (hfG : guardA fr (its.getD p AItem.dummy).g = some (true, frG)) {r : Res} {cW : Fr} {cS : St} (hw : wstep call cG (T p).2 (its.getD p AItem.dummy).op = some (r, cW, cS))
    (hret : ∀ v, r = .ret v → p < N ∧ (T (p + 1)).1 = cW.put (its.getD p AItem.dummy).d v ∧ (T (p + 1)).2 = cS) (hpan : (its.getD p AItem.dummy).op.cls ≠ .loud → p < N) :
    ∃ frW stW, wstep call frG st (its.getD p AItem.dummy).op = some (r, frW, stW) ∧ frW.regs = frG.regs ∧ frW.ser = frG.ser ∧ frW.loc.length = frG.loc.length ∧ ((its.getD p AItem.dummy).op.cls = .loud → stW = cS ∧ frW.ftoks = cW.ftoks) ∧ ((its.getD p AItem.dummy).op.cls ≠ .loud → stW = st ∧ frW.ftoks = frG.ftoks) ∧
      (((its.getD p AItem.dummy).op.al? = none ∧ frW.loc = frG.loc ∧ cW.loc = cG.loc) ∨ (∃ lp, (its.getD p AItem.dummy).op.al? = some lp ∧ (∀ li : Nat, li ≠ lp → frW.loc[li]? = frG.loc[li]?) ∧ frW.loc[lp]? = cW.loc[lp]?) ∨ ((its.getD p AItem.dummy).op.isStore = true ∧ frW.loc = cW.loc)) := by
  have hpl := hn.lt
  have sc := guard_same hcG
  have sf := guard_same hfG
  have hag0 := agree h hn hR hpN
  have hag : Agree (its.getD p AItem.dummy).op.reads cG frG := Agree.same (fun t ht => hag0 t (List.mem_append.2 (.inl ht))) sc sf
  have hser : frG.ser = cG.ser := by rw [sf.ser, sc.ser, hR.ser, (range_ser h.t (Nat.zero_le N)).1, (range_ser h.t hpN).1]
  have hlen : frG.loc.length = cG.loc.length := by rw [sf.loc, sc.loc, hR.len, (range_ser h.t (Nat.zero_le N)).2, (range_ser h.t hpN).2]
  cases hc : (its.getD p AItem.dummy).op.cls with
  | reg =>
    have hnl : (its.getD p AItem.dummy).op.cls ≠ .loud := by rw [hc]; simp
    obtain ⟨v, rfl⟩ := wstep_ret hnl hw
    obtain ⟨rfl, rfl, hk⟩ := reg_congr hc ((wstep_step hnl).1 hw)
    refine ⟨frG, st, (wstep_step hnl).2 (hk frG st hag), rfl, rfl, rfl, (fun e => by cases e), fun _ => ⟨rfl, rfl⟩, .inl ⟨?_, rfl, rfl⟩⟩
    cases ha : (its.getD p AItem.dummy).op.al? with
    | none => rfl
    | some li => rw [(al_cls ha).1] at hc; cases hc
  | load =>
    have hnl : (its.getD p AItem.dummy).op.cls ≠ .loud := by rw [hc]; simp
    obtain ⟨v, rfl⟩ := wstep_ret hnl hw
    have hst := (wstep_step hnl).1 hw
    obtain ⟨x, n, a, hop⟩ : ∃ x n a, (its.getD p AItem.dummy).op = .load x n a := by
      revert hc
      cases (its.getD p AItem.dummy).op <;> intro hc <;> first
        | (cases hc; done)
        | (rename_i k x; cases k <;> cases hc; done)
        | exact ⟨_, _, _, rfl⟩
    rw [hop] at hst
    obtain ⟨rfl, rfl, hl⟩ := load_congr hst
    have hxc : x.ev cW = x.ev (T p).1 := ev_congr fun t ht => sc.slot t
    have hxf : x.ev frG = x.ev fr := ev_congr fun t ht => sf.slot t
    have hxx : x.ev fr = x.ev (T p).1 := ev_congr fun t ht => hag0 t (List.mem_append.2 (.inl (by rw [hop]; exact ht)))
    obtain ⟨h1, h2, h3⟩ := hret v rfl
    have hl' : ld (T p).1 (T p).2 (x.ev (T p).1) n a = some v := by
      rw [← hl, hxc]
      exact ld_congr (fun li ser off _ => by rw [sc.loc]) fun _ _ _ => rfl
    have := load_same h hs hR hn h1 hser0 hop (hinv x n a hop) hxx hcG hl' fun d hd => by rw [h2, put_slot, if_pos hd]
    refine ⟨frG, st, (wstep_step hnl).2 ?_, rfl, rfl, rfl, (fun e => by cases e), fun _ => ⟨rfl, rfl⟩, .inl ⟨by rw [hop]; rfl, rfl, rfl⟩⟩
    rw [hop]
    have hl2 : ld frG st (x.ev frG) n a = some v := by
      rw [hxf, ← this]
      exact ld_congr (fun li ser off _ => by rw [sf.loc]) fun _ _ _ => rfl
    simp only [step, hl2]
  | al =>
    have hnl : (its.getD p AItem.dummy).op.cls ≠ .loud := by rw [hc]; simp
    obtain ⟨v, rfl⟩ := wstep_ret hnl hw
    have hst := (wstep_step hnl).1 hw
    obtain ⟨li, ha⟩ : ∃ li, (its.getD p AItem.dummy).op.al? = some li := by
      revert hc
      cases (its.getD p AItem.dummy).op <;> intro hc <;> first
        | (cases hc; done)
        | (rename_i k x; cases k <;> cases hc; done)
        | exact ⟨_, rfl⟩
    obtain ⟨rfl, rfl, zs, rfl, hlt, hk⟩ := al_congr ha hst
    refine ⟨{ frG with loc := frG.loc.set li (frG.ser, zs) }, st, (wstep_step hnl).2 (hser ▸ hk frG st hag (by omega)), rfl, rfl, by simp, (fun e => by cases e), fun _ => ⟨rfl, rfl⟩, .inr (.inl ⟨li, ha, fun li' hne => ?_, ?_⟩)⟩
    · show (frG.loc.set li _)[li']? = _
      rw [List.getElem?_set_ne (Ne.symm hne)]
    · show (frG.loc.set li _)[li]? = (cG.loc.set li _)[li]?
      rw [List.getElem?_set_self (by omega), List.getElem?_set_self hlt, hser]
  | loud =>
    have hmp : m ≤ p := Nat.le_of_not_lt fun hlt => hn.new ((hR.loud p hpl hc).2 hlt)
    obtain ⟨hst, htk⟩ := range_st h.t hmp hpN fun q h1 h2 => no_loud h hR hn h1 h2
    have est : st = (T p).2 := hR.st.trans hst.symm
    have etk : frG.ftoks = cG.ftoks := by rw [sf.ftoks, sc.ftoks, hR.tok, htk]
    by_cases hsto : ∃ x y n, (its.getD p AItem.dummy).op = .store x y n
    · obtain ⟨x, y, n, hop⟩ := hsto
      have hloc : frG.loc = cG.loc := by
        rw [sf.loc, sc.loc]
        apply List.ext_getElem?
        intro li
        by_cases hal : ∃ q, q < its.length ∧ (its.getD q AItem.dummy).op.al? = some li
        · obtain ⟨q, hq, ha⟩ := hal
          have hqp : q ≠ p := fun e => by subst e; rw [(al_cls ha).1] at hc; cases hc
          rcases Nat.lt_or_gt_of_ne hqp with hlt | hlt
          · have hDq : D q := by
              refine hn.pre q hq hqp ?_
              cases hb : isBef (befTable ops its []) (its.getD q AItem.dummy).i (its.getD p AItem.dummy).i with
              | true => rfl
              | false =>
                have := (h.float hlt hpl hb).2.2.1 (al_cls ha).1
                rw [hop] at this; cases this
            rw [hR.locD q li hq ha hDq]
            exact (range_loc (by omega) fun r h1 h2 => keeps h (by omega) (not_store (no_loud h hR hn (by omega) h2)) (h.al_ne hq (by omega) (by omega) ha)).symm
          · have hDq : ¬ D q := fun hD => absurd hc (hn.above h hlt hq hD)
            rw [hR.locN q li hq ha hDq, show min m q = m by omega]
            exact (range_loc hmp fun r h1 h2 => keeps h (by omega) (not_store (no_loud h hR hn h1 h2)) (h.al_ne hq (by omega) (by omega) ha)).symm
        · rw [hR.locO li fun q hq e => hal ⟨q, hq, e⟩]
          exact (range_loc hmp fun r h1 h2 => keeps h (by omega) (not_store (no_loud h hR hn h1 h2)) (fun e => hal ⟨r, by omega, e⟩)).symm
      rw [hop] at hw hag
      obtain ⟨k1, k0, k2⟩ := store_congr hw
      refine ⟨{ frG with loc := cW.loc, ftoks := cW.ftoks }, cS, by rw [hop, est]; exact k2 frG hag etk hloc, rfl, rfl, ?_, fun _ => ⟨rfl, rfl⟩, fun e => absurd rfl e, .inr (.inr ⟨by rw [hop]; rfl, rfl⟩)⟩
      show cW.loc.length = _
      rw [k0, hlen]
    · obtain ⟨k1, k2⟩ := loud_congr hc (fun x y n e => hsto ⟨x, y, n, e⟩) hw
      refine ⟨{ frG with ftoks := cW.ftoks }, cS, by rw [est]; exact k2 frG hag etk hser, rfl, rfl, rfl, fun _ => ⟨rfl, rfl⟩, fun e => absurd rfl e, .inl ⟨?_, rfl, by rw [k1]⟩⟩
      cases ha : (its.getD p AItem.dummy).op.al? with
      | none => rfl
      | some li => rw [(al_cls ha).1] at hc; cases hc

end
end Go.Proofs.YtelpkgbghhpgaaaGreatDoor.Sx
end
section
namespace Go.Proofs.YtelpkgbghhpgaaaGreatDoor.Sx
open AV

section
variable {call : CallFn} {ops : Array Oper} {its : List AItem} {fr0 fr fr' frE : Fr} {st0' st st' stE : St} {ex : Ex} {T : Nat → Fr × St} {N m p nt : Nat} {P : Program}
variable {g0 g : Gh} {f : Fh} {st0 : St} {w0 w : World} {tmps : Array Value}

def DL (its : List AItem) (listed : Array Bool) (q : Nat) : Prop := listed.getD (its.getD q AItem.dummy).i false = true

/-- Where every item is done, the run stands as the canonical one does. -/
theorem done_same (h : Dr call ops its fr0 st0' ex frE stE T N) {D : Nat → Prop} (hR : Rel its T D m fr st) (hall : ∀ q, q < its.length → D q) (hN : N = its.length) (hmN : m ≤ N) :
    (∀ t, slot t fr.regs = slot t (T N).1.regs) ∧ fr.loc = (T N).1.loc ∧ fr.ftoks = (T N).1.ftoks ∧ fr.ser = (T N).1.ser ∧ st = (T N).2 := by
  have nol : ∀ q, m ≤ q → q < N → (its.getD q AItem.dummy).op.cls ≠ .loud := fun q h1 h2 hl => by
    have := (hR.loud q (by omega) hl).1 (hall q (by omega)); omega
  obtain ⟨e1, e2⟩ := range_st h.t hmN (Nat.le_refl N) nol
  refine ⟨fun t => ?_, ?_, by rw [hR.tok, e2], ?_, by rw [hR.st, e1]⟩
  · by_cases hw : ∃ q, q < its.length ∧ (its.getD q AItem.dummy).d = some t
    · obtain ⟨q, hq, hd⟩ := hw
      rw [hR.slotD q t hq (hall q hq) hd]
      exact (range_slot h.t (by omega) (Nat.le_refl N) fun r h1 h2 => h.d_ne hq (by omega) (by omega) hd).symm
    · rw [hR.slotN t fun q hq _ e => hw ⟨q, hq, e⟩]
      exact (range_slot h.t (Nat.zero_le N) (Nat.le_refl N) fun r h1 h2 e => hw ⟨r, by omega, e⟩).symm
  · apply List.ext_getElem?
    intro li
    by_cases hal : ∃ q, q < its.length ∧ (its.getD q AItem.dummy).op.al? = some li
    · obtain ⟨q, hq, ha⟩ := hal
      rw [hR.locD q li hq ha (hall q hq)]
      exact (range_loc (by omega) fun r h1 h2 => keeps h (by omega) (not_store (nol r (by omega) h2)) (h.al_ne hq (by omega) (by omega) ha)).symm
    · rw [hR.locO li fun q hq e => hal ⟨q, hq, e⟩]
      exact (range_loc hmN fun r h1 h2 => keeps h (by omega) (not_store (nol r h1 h2)) (fun e => hal ⟨r, by omega, e⟩)).symm
  · rw [hR.ser, (range_ser h.t (Nat.zero_le N)).1, (range_ser h.t (Nat.le_refl N)).1]

end
end Go.Proofs.YtelpkgbghhpgaaaGreatDoor.Sx
end
section
namespace Go.Proofs.YtelpkgbghhpgaaaGreatDoor.Sx
open AV

section
variable {call : CallFn} {ops : Array Oper} {its : List AItem} {fr0 fr fr' frE : Fr} {st0' st st' stE : St} {ex : Ex} {T : Nat → Fr × St} {N m p nt : Nat} {P : Program}
variable {g0 g : Gh} {f : Fh} {st0 : St} {w0 w : World} {tmps : Array Value} {ds : List Deferred}

/-- What the check of a drawn region says. -/
structure Chd (P : Program) (ops : Array Oper) (nt : Nat) (its : List AItem) : Prop where
  len : its.length = ops.size
  item : ∀ q, q < its.length → chkItem P ops nt (its.getD q AItem.dummy) = true
  sur : ∀ i, i < ops.size → ∃ q, q < its.length ∧ (its.getD q AItem.dummy).i = i
  edge : ∀ q, q < its.length → ∀ e ∈ edgesOf ops (its.getD q AItem.dummy).i, ∃ r, r < q ∧ (its.getD r AItem.dummy).i = e

theorem chd_of (h : chkDraw P ops nt its = true) : Chd P ops nt its ∧ pairsOk (befTable ops its []) its = true := by
  simp only [chkDraw, Bool.and_eq_true, beq_iff_eq] at h
  obtain ⟨⟨⟨⟨h1, h2⟩, h3⟩, h4⟩, h5⟩ := h
  refine ⟨⟨h1, fun q hq => ?_, fun i hi => ?_, fun q hq e he => ?_⟩, h5⟩
  · have := List.all_eq_true.1 h2 its[q] (List.getElem_mem hq)
    simpa [hq] using this
  · have := List.all_eq_true.1 h3 i (List.mem_range.2 hi)
    obtain ⟨it, h6, h7⟩ := List.any_eq_true.1 this
    obtain ⟨q, hq, rfl⟩ := List.getElem_of_mem h6
    exact ⟨q, hq, by simpa [hq] using h7⟩
  · rcases edges_get h4 q hq e he with h6 | h6
    · cases h6
    · exact h6

/-- One item more, the rest owed. -/
theorem draw_item (hcall : CallOk P g0 st0 w0 call) (hC : Chd P ops nt its) (h : Dr call ops its fr0 st0' ex frE stE T N) (hser0 : ∀ (li s : Nat) (cs : List AV), fr0.loc[li]? = some (s, cs) → s < fr0.ser) {Q : Exit → Act → World → Prop} (hQ : Ends ds Q g0 st0 w0 nt ex frE stE)
    {D : Nat → Prop} (hs : Shut ops its D) (hR : Rel its T D m fr st) (hn : Next ops its D N p) (hI : Inv g0 st0 w0 g f fr st w tmps) (hsz : tmps.size = nt) (K : Act → World → Prop)
    (hK : p < N → ∀ m' fr' st' g' f' w' tmps', Rel its T (fun q => D q ∨ q = p) m' fr' st' → Inv g0 st0 w0 g' f' fr' st' w' tmps' → tmps'.size = nt → K ⟨tmps', ds⟩ w') : wpOp P ops Q (its.getD p AItem.dummy).i K ⟨tmps, ds⟩ w := by
  have hpl := hn.lt
  have hit := hC.item p hpl
  unfold chkItem at hit
  split at hit
  case h_1 => cases hit
  rename_i o ho
  simp only [Bool.and_eq_true, beq_iff_eq] at hit
  obtain ⟨⟨⟨hd, hdl⟩, hg⟩, hop⟩ := hit
  have hdl' : ∀ t, (its.getD p AItem.dummy).d = some t → t < tmps.size := fun t e => by rw [e] at hdl; rw [hsz]; simpa using hdl
  have hNl : N < its.length → (its.getD N AItem.dummy).op.cls = .loud := fun hlt => by
    rcases h.t.fin with ⟨h1, _⟩ | ⟨_, v, _, h3⟩
    · omega
    · rw [run_one] at h3
      split at h3
      · cases h3
      · split at h3 <;> cases h3
      · split at h3
        · split at h3 <;> cases h3
        · rename_i hw
          by_cases hl : (its.getD N AItem.dummy).op.cls = .loud
          · exact hl
          · obtain ⟨v', hv'⟩ := wstep_ret hl hw; cases hv'
        · cases h3
  have hpN := hn.le h hNl
  have hag := agree h hn hR hpN
  have hagg : ∀ (t : Nat) (b : Bool), (its.getD p AItem.dummy).g = some (t, b) → slot t fr.regs = slot t (T p).1.regs := fun t b e => hag t (List.mem_append.2 (.inr (by rw [e]; exact List.mem_singleton.2 rfl)))
  have hlocp : ∀ lp, (its.getD p AItem.dummy).op.al? = some lp → fr.loc[lp]? = (T p).1.loc[lp]? := fun lp ha => by
    rw [hR.locN p lp hpl ha hn.new]
    exact (range_loc (Nat.min_le_right _ _) fun r h1 h2 => keeps h (by omega) (not_store (no_loud h hR hn (by omega) h2)) (h.al_ne hpl (by omega) (by omega) ha)).symm
  have hinv : ∀ x n a, (its.getD p AItem.dummy).op = .load x n a → ∀ li s off, x.ev fr = .lptr li s off → ∃ (s' : Nat) (cs : List AV), fr.loc[li]? = some (s', cs) ∧ s ≤ s' := fun x n a hopq li s off hx => by
    rw [hopq] at hop
    obtain ⟨dst, op, ty, pos, aft, gd⟩ := o
    simp only [chkOp] at hop
    cases op <;> first
      | (simp at hop; done)
      | skip
    simp only [Bool.and_eq_true] at hop
    have := opd_rep (ds := ds) hI hop.1
    rw [hx] at this
    obtain ⟨b, hb, _⟩ := this.lptr_inv
    exact hI.fi.locdom li s b hb
  have hmp : (its.getD p AItem.dummy).op.cls = .loud → m ≤ p := fun hl => Nat.le_of_not_lt fun hlt => hn.new ((hR.loud p hpl hl).2 hlt)
  unfold wpOp
  rw [ho]
  simp only
  -- the two ways of the canonical run
  have run : (∃ b cG, guardA (T p).1 (its.getD p AItem.dummy).g = some (b, cG) ∧ ((b = false ∧ p < N ∧ (T (p + 1)).1 = cG.put (its.getD p AItem.dummy).d (.tuple []) ∧ (T (p + 1)).2 = (T p).2) ∨
      (b = true ∧ ∃ r cW cS, wstep call cG (T p).2 (its.getD p AItem.dummy).op = some (r, cW, cS) ∧ ((∃ v, r = .ret v ∧ p < N ∧ (T (p + 1)).1 = cW.put (its.getD p AItem.dummy).d v ∧ (T (p + 1)).2 = cS) ∨ (∃ v, r = .panic v ∧ ex = .panic v ∧ stE = cS))))) := by
    rcases Nat.lt_or_ge p N with hlt | hge
    · have hst := h.t.step p hlt
      rw [run_one] at hst
      split at hst
      · cases hst
      · rename_i cG hcG
        split at hst
        case isFalse => cases hst
        simp only [Option.some.injEq, Prod.mk.injEq, true_and] at hst
        exact ⟨false, cG, hcG, .inl ⟨rfl, hlt, hst.1.symm, hst.2.symm⟩⟩
      · rename_i cG hcG
        split at hst
        case h_2 => cases hst
        case h_3 => cases hst
        rename_i v cW cS hw
        split at hst
        case isFalse => cases hst
        simp only [Option.some.injEq, Prod.mk.injEq, true_and] at hst
        exact ⟨true, cG, hcG, .inr ⟨rfl, _, cW, cS, hw, .inl ⟨v, rfl, hlt, hst.1.symm, hst.2.symm⟩⟩⟩
    · have hpe : p = N := by omega
      rcases h.t.fin with ⟨h1, _⟩ | ⟨_, v, h2, h3⟩
      · omega
      · rw [← hpe, run_one] at h3
        split at h3
        · cases h3
        · split at h3 <;> cases h3
        · rename_i cG hcG
          split at h3
          · split at h3 <;> cases h3
          · rename_i v' cW cS hw
            simp only [Option.some.injEq, Prod.mk.injEq, Ex.panic.injEq] at h3
            obtain ⟨rfl, rfl, rfl⟩ := h3
            exact ⟨true, cG, hcG, .inr ⟨rfl, _, _, _, hw, .inr ⟨_, rfl, h2, rfl⟩⟩⟩
          · cases h3
  obtain ⟨b, cG, hcG, hrun⟩ := run
  obtain ⟨frG, hfG⟩ := guard_agree hagg hcG
  obtain ⟨hw, hI1, hl1, hs1, ht1, hsl1⟩ := guard_ok hI hg hfG
  have sc := guard_same hcG
  have sf := guard_same hfG
  rcases hrun with ⟨rfl, hlt, hT1, hT2⟩ | ⟨rfl, r, cW, cS, hwst, hr⟩
  · simp only [hw, Bool.false_eq_true, if_false]
    have hput := hI1.put (ds := ds) (d := (its.getD p AItem.dummy).d) (v := .tuple []) (c := undef) undef_rep hdl'
    have hsz' : (Act.put ⟨tmps, ds⟩ (its.getD p AItem.dummy).d undef).tmps.size = nt := by rw [← hsz]; cases (its.getD p AItem.dummy).d <;> simp [Act.put]
    have heq : Act.put ⟨tmps, ds⟩ o.dst undef = ⟨(Act.put ⟨tmps, ds⟩ (its.getD p AItem.dummy).d undef).tmps, ds⟩ := by rw [hd]; cases (its.getD p AItem.dummy).d <;> rfl
    rw [heq]
    obtain ⟨q1, q2, q3⟩ := put_rest (fr := frG) (v := .tuple []) (its.getD p AItem.dummy).d
    obtain ⟨u1, u2, u3⟩ := put_rest (fr := cG) (v := .tuple []) (its.getD p AItem.dummy).d
    have hTl : ∀ li : Nat, (T (p + 1)).1.loc[li]? = (T p).1.loc[li]? := fun li => by rw [hT1, u1, sc.loc]
    refine hK hlt _ _ _ _ _ _ _ (hR.post h hs hn hlt (fr' := frG.put (its.getD p AItem.dummy).d (.tuple [])) (st' := st) (fun t ht => by rw [put_slot, if_neg ht, sf.slot]) (fun t ht => by rw [put_slot, if_pos ht, hT1, put_slot, if_pos ht]) (q3.trans sf.ser) (by rw [q1, sf.loc])
      (fun hl => ?_) (fun _ => ⟨rfl, q2.trans sf.ftoks⟩) ?_) hput hsz'
    · obtain ⟨e1, e2⟩ := range_st h.t (hmp hl) hpN fun q h1 h2 => no_loud h hR hn h1 h2
      exact ⟨by rw [hT2, e1, hR.st], by rw [q2, sf.ftoks, hT1, u2, sc.ftoks, e2, hR.tok]⟩
    · cases ha : (its.getD p AItem.dummy).op.al? with
      | none => exact .inl ⟨rfl, q1.trans sf.loc, hTl⟩
      | some lp => exact .inr (.inl ⟨lp, rfl, fun li _ => by rw [q1, sf.loc], by rw [q1, sf.loc, hTl, hlocp lp ha]⟩)
  · simp only [hw, if_true]
    refine .inl ?_
    obtain ⟨frW, stW, k1, k2, k3, k4, k5, k6, k7⟩ := item_run h hs hR hn hpN hser0 hinv hcG hfG hwst (fun v hv => by
      rcases hr with ⟨v', h1, h2, h3, h4⟩ | ⟨v', h1, _⟩
      · rw [h1] at hv; cases hv; exact ⟨h2, h3, h4⟩
      · rw [h1] at hv; cases hv) (fun hnl => by
      rcases hr with ⟨v', h1, h2, _⟩ | ⟨v', h1, _⟩
      · exact h2
      · rw [h1] at hwst; obtain ⟨v2, hv2⟩ := wstep_ret hnl hwst; cases hv2)
    refine wanted_wp hcall hI1 hop (fun li ha s cs hl => ?_) hd hdl' k1 (fun v hv g' f' w' tmps' hI' hs' => ?_) (fun v hv hth g' f' w' c hI' hrep => ?_)
    · rw [sf.ser, hR.ser, h.t.zero]
      rw [sf.loc, hlocp li ha] at hl
      obtain ⟨cs0, h6⟩ := range_serial h hpN (fun r hr => h.al_ne hpl (by omega) (by omega) ha) hl
      exact hser0 li s cs0 h6
    · rcases hr with ⟨v', h1, h2, h3, h4⟩ | ⟨v', h1, _⟩
      case inr => rw [h1] at hv; cases hv
      rw [h1] at hv; cases hv
      obtain ⟨q1, q2, q3⟩ := put_rest (fr := frW) (v := v) (its.getD p AItem.dummy).d
      obtain ⟨u1, u2, u3⟩ := put_rest (fr := cW) (v := v) (its.getD p AItem.dummy).d
      refine hK h2 _ _ _ _ _ _ _ (hR.post h hs hn h2 (fr' := frW.put (its.getD p AItem.dummy).d v) (st' := stW) (fun t ht => by rw [put_slot, if_neg ht, k2, sf.slot]) (fun t ht => by rw [put_slot, if_pos ht, h3, put_slot, if_pos ht]) (by rw [q3, k3, sf.ser]) (by rw [q1, k4, sf.loc])
        (fun hl => ⟨by rw [h4]; exact (k5 hl).1, by rw [q2, h3, u2]; exact (k5 hl).2⟩) (fun hl => ⟨(k6 hl).1, by rw [q2, (k6 hl).2, sf.ftoks]⟩) ?_) hI' (hs'.trans hsz)
      rcases k7 with ⟨l1, l2, l3⟩ | ⟨lp, l1, l2, l3⟩ | ⟨l1, l2⟩
      · exact .inl ⟨l1, by rw [q1, l2, sf.loc], fun li => by rw [h3, u1, l3, sc.loc]⟩
      · exact .inr (.inl ⟨lp, l1, fun li hne => by rw [q1, l2 li hne, sf.loc], by rw [q1, l3, h3, u1]⟩)
      · exact .inr (.inr ⟨l1, by rw [q1, l2, h3, u1]⟩)
    · rcases hr with ⟨v', h1, _⟩ | ⟨v', h1, h2, h3⟩
      · rw [h1] at hv; cases hv
      · rw [h1] at hv; cases hv
        rw [h2] at hQ
        have hlo : (its.getD p AItem.dummy).op.cls = .loud := by
          by_cases hl : (its.getD p AItem.dummy).op.cls = .loud
          · exact hl
          · obtain ⟨v2, hv2⟩ := wstep_ret hl hwst; rw [h1] at hv2; cases hv2
        have := (k5 hlo).1
        rw [this, ← h3] at hI' hrep
        exact hQ g' w' tmps c hI'.hst hI'.ext hth (thrown_rep hth hrep)

end
end Go.Proofs.YtelpkgbghhpgaaaGreatDoor.Sx
end
