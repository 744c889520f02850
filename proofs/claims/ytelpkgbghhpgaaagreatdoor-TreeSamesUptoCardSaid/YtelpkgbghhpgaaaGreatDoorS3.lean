/- TreeSames returns true for all programs whose data are not larger than a bound. The program's functions as plain code. -/
import Derived.Test.YtelpkgbghhpgaaaGreatDoorS2
set_option linter.all false
section
namespace Go.Proofs.YtelpkgbghhpgaaaGreatDoor.Sx
open AV

def Fh.head (f : Fh) (k L : Nat) (x : Value × Nat) : Fh := { f with fh := fun i l => if i = k ∧ l = L then some x else f.fh i l }

section
variable {g0 g : Gh} {st0 st : St} {w0 w w' : World} {f f' : Fh} {fr : Fr} {tmps : Array Value}

/-- The row of a token is longer now: where it was, or in a new block. -/
theorem Inv.tokRow (h : Inv g0 st0 w0 g f fr st w tmps) {w1 : World} {k need sz cap nb : Nat} {cur : Array Value} {e : TypeId} (hk : k < fr.ftoks.length) (hfree : f.fh k need = none) (hpos : 1 ≤ need)
    (hmono : ∀ L x, f.fh k L = some x → L ≤ need) (hc : Chg (FClaim f fr (.tok k)) w w1) (hb : w1.heap[nb]? = some (.cells cur e (0, 0))) (hcap : need ≤ cap) (hmax : cap ≤ maxLen) (hcur : cur.size = cap * sz)
    (hnb : w.heap.size ≤ nb ∨ FClaim f fr (.tok k) nb) (hroom : ∀ o, need * sz ≤ o → ¬ g.imm nb o)
    (hcell : ∀ b o, g.imm b o → w1.cell? ⟨b, o, none⟩ = w.cell? ⟨b, o, none⟩) :
    Inv g0 st0 w0 (g.wide fun b o => g.imm b o ∨ (b = nb ∧ o < need * sz)) (f.head k need (.slice (some ⟨nb, 0, none⟩) need cap, sz)) { fr with ftoks := fr.ftoks.set k need } st w1 tmps := by
  have hfg : FGrow f (f.head k need (.slice (some ⟨nb, 0, none⟩) need cap, sz)) := ⟨fun _ _ _ h => h, fun i L x hx => by
    show (if _ then _ else _) = _
    rw [if_neg]
    · exact hx
    · rintro ⟨rfl, rfl⟩; rw [hfree] at hx; exact absurd hx (by simp)⟩
  have hfhd : ∀ i l, (f.head k need (.slice (some ⟨nb, 0, none⟩) need cap, sz)).fh i l = if i = k ∧ l = need then some (.slice (some ⟨nb, 0, none⟩) need cap, sz) else f.fh i l := fun _ _ => rfl
  have hnblt : nb < w1.heap.size := (Array.getElem?_eq_some_iff.1 hb).1
  have hgr : ∀ n, Grow g n w (g.wide fun b o => g.imm b o ∨ (b = nb ∧ o < need * sz)) n w1 := fun n => Grow.wide (fun _ _ h => .inl h) hcell
  have hXF : ∀ o b, HClaim g st o b ∨ FClaim f fr o b → o ≠ .tok k → ¬ FClaim f fr (.tok k) b := fun o b ho hne hx => hne (h.uniq _ _ _ ho (.inr hx))
  have hnbne : ∀ o b, HClaim g st o b ∨ FClaim f fr o b → o ≠ .tok k → b ≠ nb := fun o b ho hne e => by
    subst e
    rcases hnb with h' | h'
    · have : b < w.heap.size := by
        rcases ho with ho | ho
        · exact h.h.lt _ _ ho
        · exact (h.flt _ _ ho).1
      omega
    · exact hXF o b ho hne h'
  have hbase : w0.heap.size ≤ nb ∨ ∃ o', HClaim g0 st0 o' nb := by
    rcases hnb with h' | h'
    · exact .inl (Nat.le_trans h.ext.size h')
    · exact (h.flt _ _ h').2
  have hcl : ∀ o b, FClaim (f.head k need (.slice (some ⟨nb, 0, none⟩) need cap, sz)) { fr with ftoks := fr.ftoks.set k need } o b → (FClaim f fr o b ∧ o ≠ .tok k) ∨ (o = .tok k ∧ b = nb) := fun o b ho => by
    cases o with
    | obj => exact ho.elim
    | row => exact ho.elim
    | loc => exact .inl ⟨ho, by simp⟩
    | tok j =>
      obtain ⟨L, c1, h1, h2, h3, h4⟩ := ho
      have h1' : (fr.ftoks.set k need)[j]? = some L := h1
      rw [List.getElem?_set] at h1'
      rw [hfhd] at h3
      by_cases ej : k = j
      · subst ej
        simp [hk] at h1'
        subst h1'
        rw [if_pos ⟨rfl, rfl⟩] at h3
        cases h3
        have h4' : some nb = some b := h4
        cases h4'; exact .inr ⟨rfl, rfl⟩
      · rw [if_neg ej] at h1'
        rw [if_neg (fun x => ej x.1.symm)] at h3
        exact .inl ⟨⟨L, c1, h1', h2, h3, h4⟩, by simpa using Ne.symm ej⟩
  have hhc : ∀ o b, HClaim (g.wide fun b o => g.imm b o ∨ (b = nb ∧ o < need * sz)) st o b → HClaim g st o b := fun o b ho => by cases o <;> exact ho
  refine ⟨h.h.trans hc (fun _ _ h => .inl h) (fun o b ho => hXF o b (.inl ho) (fun e => by subst e; exact ho)) hcell (fun b o hI => ?_) (fun b o hI => ?_), ⟨fun t => (h.fi.regs t).mono (hgr _) hfg, ?_, h.fi.locdom, h.fi.locser, ?_, ?_, ?_⟩, ?_, ?_, ?_⟩
  · rcases hI with h' | ⟨rfl, _⟩
    · exact .inl h'
    · exact .inr fun ow ho => hnbne ow b (.inl ho) (fun e => by subst e; exact ho) rfl
  · rcases hI with h' | ⟨rfl, _⟩
    · exact Nat.lt_of_lt_of_le (h.h.immlt b o h') hc.size
    · exact hnblt
  · intro li ser cs h1 h2
    obtain ⟨b, vs, e1, h3, h4, h5, h6⟩ := h.fi.loc li ser cs h1 h2
    have hl : FClaim f fr (.loc li) b := ⟨ser, cs, h1, h2, h3⟩
    exact ⟨b, vs, e1, h3, (hc.block b (h.flt _ _ hl).1 (hXF _ _ (.inr hl) (by simp))).trans h4, h5, fun i a a' => ⟨(h6 i a a').1.mono (hgr _) hfg, (h6 i a a').2⟩⟩
  · intro j L h1 h2
    have h1' : (fr.ftoks.set k need)[j]? = some L := h1
    rw [List.getElem?_set] at h1'
    by_cases ej : k = j
    · subst ej
      simp [hk] at h1'
      subst h1'
      exact ⟨.slice (some ⟨nb, 0, none⟩) need cap, sz, by rw [hfhd, if_pos ⟨rfl, rfl⟩], ⟨nb, cap, cur, e, rfl, hb, hcap, hmax, hcur, fun o ho hI => by
        rcases hI with h' | ⟨_, h'⟩
        · exact hroom o ho h'
        · omega⟩⟩
    · rw [if_neg ej] at h1'
      obtain ⟨c, sz1, h3, h4⟩ := h.fi.tok j L h1' h2
      have hjl : ∀ b, c.ownBlock = some b → FClaim f fr (.tok j) b := fun b hb => ⟨L, (c, sz1), h1', h2, h3, hb⟩
      refine ⟨c, sz1, by rw [hfhd, if_neg (fun x => ej x.1.symm)]; exact h3, h4.mono (fun b hb1 => hc.block b (h.flt _ _ (hjl b hb1)).1 (hXF _ _ (.inr (hjl b hb1)) (by simpa using Ne.symm ej))) fun b hb1 o hI => ?_⟩
      rcases hI with h' | ⟨rfl, _⟩
      · exact h'
      · exact absurd rfl (hnbne _ _ (.inr (hjl b hb1)) (by simpa using Ne.symm ej))
  · intro j L x hx
    rw [hfhd] at hx
    by_cases ej : j = k
    · subst ej
      refine ⟨?_, need, by simp [hk], .inr ?_⟩
      · by_cases eL : L = need
        · omega
        · rw [if_neg (fun x => eL x.2)] at hx; exact (h.fi.tokdom j L x hx).1
      · by_cases eL : L = need
        · omega
        · rw [if_neg (fun x => eL x.2)] at hx; exact hmono L x hx
    · rw [if_neg (fun x => ej x.1)] at hx
      obtain ⟨h1, c1, h2, h3⟩ := h.fi.tokdom j L x hx
      exact ⟨h1, c1, by simp [Ne.symm ej, h2], h3⟩
  · intro li b hb1 o hI
    rcases hcl _ _ hb1 with ⟨h', _⟩ | ⟨h', _⟩
    · rcases hI with h'' | ⟨rfl, _⟩
      · exact h.fi.noimm li b h' o h''
      · exact hnbne _ _ (.inr h') (by simp) rfl
    · cases h'
  · intro o b ho
    rcases hcl o b ho with ⟨h', _⟩ | ⟨_, rfl⟩
    · exact ⟨Nat.lt_of_lt_of_le (h.flt o b h').1 hc.size, (h.flt o b h').2⟩
    · exact ⟨hnblt, hbase⟩
  · have key : ∀ o b, HClaim (g.wide fun b o => g.imm b o ∨ (b = nb ∧ o < need * sz)) st o b ∨ FClaim (f.head k need (.slice (some ⟨nb, 0, none⟩) need cap, sz)) { fr with ftoks := fr.ftoks.set k need } o b →
        ((HClaim g st o b ∨ FClaim f fr o b) ∧ o ≠ .tok k) ∨ (o = .tok k ∧ b = nb) := fun o b ho => by
      rcases ho with ho | ho
      · exact .inl ⟨.inl (hhc _ _ ho), fun e => by subst e; exact ho⟩
      · rcases hcl o b ho with ⟨h1, h2⟩ | h1
        · exact .inl ⟨.inr h1, h2⟩
        · exact .inr h1
    intro o o' b ho ho'
    rcases key _ _ ho with ⟨k1, k2⟩ | ⟨rfl, rfl⟩ <;> rcases key _ _ ho' with ⟨k3, k4⟩ | ⟨rfl, k5⟩
    · exact h.uniq o o' b k1 k3
    · subst k5; exact absurd rfl (hnbne _ _ k1 k2)
    · exact absurd rfl (hnbne _ _ k3 k4)
    · rfl
  · refine h.ext.step hc (fun b hb1 => .inl (h.flt _ _ hb1).2) (hgr _) (fun b o hI => ?_) fun o b ho _ => .inr ⟨o, hhc o b ho⟩
    rcases hI with h' | ⟨rfl, _⟩
    · exact .inl h'
    · exact .inr (.inl hbase)

/-- A token more, of no row. -/
theorem Inv.tokDead (h : Inv g0 st0 w0 g f fr st w tmps) : Inv g0 st0 w0 g f { fr with ftoks := fr.ftoks ++ [0] } st w tmps ∧ (∀ L, f.fh fr.ftoks.length L = none) := by
  have hnone : ∀ L, f.fh fr.ftoks.length L = none := fun L => by
    cases hx : f.fh fr.ftoks.length L with
    | none => rfl
    | some x => obtain ⟨_, cur, h2, _⟩ := h.fi.tokdom _ L x hx; simp at h2
  have hget : ∀ j L, (fr.ftoks ++ [0])[j]? = some L → L ≠ 0 → fr.ftoks[j]? = some L := fun j L hj hL => by
    by_cases e : j < fr.ftoks.length
    · rwa [List.getElem?_append_left e] at hj
    · rw [List.getElem?_append_right (by omega)] at hj
      have : j - fr.ftoks.length = 0 := by
        have := (List.getElem?_eq_some_iff.1 hj).1; simp at this; omega
      rw [this] at hj; simp at hj; exact absurd hj.symm hL
  have hcl : ∀ o b, FClaim f { fr with ftoks := fr.ftoks ++ [0] } o b → FClaim f fr o b := fun o b ho => by
    cases o with
    | tok j => obtain ⟨L, c, h1, h2, h3⟩ := ho; exact ⟨L, c, hget j L h1 h2, h2, h3⟩
    | _ => exact ho
  exact ⟨⟨h.h, ⟨h.fi.regs, h.fi.loc, h.fi.locdom, h.fi.locser, fun j L h1 h2 => h.fi.tok j L (hget j L h1 h2) h2, fun j L x hx => by
    obtain ⟨h1, cur, h2, h3⟩ := h.fi.tokdom j L x hx
    exact ⟨h1, cur, by rw [List.getElem?_append_left (List.getElem?_eq_some_iff.1 h2).1]; exact h2, h3⟩, fun li b hb => h.fi.noimm li b (hcl _ _ hb)⟩,
    fun o b ho => h.flt o b (hcl o b ho), fun o o' b ho ho' => h.uniq o o' b (ho.imp _root_.id (hcl _ _)) (ho'.imp _root_.id (hcl _ _)), h.ext⟩, hnone⟩

/-- A heap cell hands its row to the frame. -/
theorem Inv.heapGive (h : Inv g0 st0 w0 g f fr st w tmps) {id off sz : Nat} {els : List (List AV)} {cs : List AV} {c : Value} (hcs : st.cells id = some cs) (hold : cs[off]? = some (.slice sz els (.cell id off)))
    (hpos : 1 ≤ els.length) (hh : g.hdr id off els.length = some (c, sz)) :
    Inv g0 st0 w0 g (f.head fr.ftoks.length els.length (c, sz)) { fr with ftoks := fr.ftoks ++ [els.length] } (st.setCells id (cs.set off (.slice sz els (.spent id off)))) w tmps := by
  obtain ⟨_, hnone⟩ := h.tokDead
  have hid := St.cells_lt hcs
  have hoff : off < cs.length := (List.getElem?_eq_some_iff.1 hold).1
  obtain ⟨c1, hc1, hown⟩ := h.h.row id cs off sz els hcs hold
  rw [hh] at hc1; cases hc1
  have hfhd : ∀ i l, (f.head fr.ftoks.length els.length (c, sz)).fh i l = if i = fr.ftoks.length ∧ l = els.length then some (c, sz) else f.fh i l := fun _ _ => rfl
  have hfg : FGrow f (f.head fr.ftoks.length els.length (c, sz)) := ⟨fun _ _ _ h => h, fun i L x hx => by
    rw [hfhd, if_neg]
    · exact hx
    · rintro ⟨rfl, rfl⟩; rw [hnone] at hx; exact absurd hx (by simp)⟩
  have hset : ∀ (o : Nat) (v : AV), (cs.set off (.slice sz els (.spent id off)))[o]? = some v → (o = off ∧ v = .slice sz els (.spent id off)) ∨ (o ≠ off ∧ cs[o]? = some v) := fun o v hx => by
    rw [List.getElem?_set] at hx
    by_cases e : off = o
    · subst e; simp [hoff] at hx; exact .inl ⟨rfl, hx.symm⟩
    · rw [if_neg e] at hx; exact .inr ⟨Ne.symm e, hx⟩
  obtain ⟨bk, hbk, _⟩ := hown.block
  have hrow : HClaim g st (.row id off) bk := ⟨cs, sz, els, (c, sz), hcs, hold, hh, hbk⟩
  have hcl : ∀ o b, HClaim g (st.setCells id (cs.set off (.slice sz els (.spent id off)))) o b → HClaim g st o b ∧ o ≠ .row id off := fun o b ho => by
    cases o with
    | loc => exact ho.elim
    | tok => exact ho.elim
    | obj j => exact ⟨⟨by have := ho.1; rwa [size_setCells] at this, ho.2⟩, by simp⟩
    | row j p =>
      obtain ⟨cs1, sz1, els1, c1, h1, h2, h3⟩ := ho
      rcases setCells_get (St.cells_eq.1 h1) with ⟨rfl, e⟩ | ⟨hj, e⟩
      · cases e
        rcases hset _ _ h2 with ⟨rfl, e2⟩ | ⟨hp, e2⟩
        · cases e2
        · exact ⟨⟨cs, sz1, els1, c1, hcs, e2, h3⟩, fun e1 => by cases e1; exact hp rfl⟩
      · exact ⟨⟨cs1, sz1, els1, c1, St.cells_eq.2 e, h2, h3⟩, by simp [hj]⟩
  have hget : ∀ j L, (fr.ftoks ++ [els.length])[j]? = some L → (j = fr.ftoks.length ∧ L = els.length) ∨ (j ≠ fr.ftoks.length ∧ fr.ftoks[j]? = some L) := fun j L hj => by
    by_cases e : j < fr.ftoks.length
    · rw [List.getElem?_append_left e] at hj; exact .inr ⟨by omega, hj⟩
    · rw [List.getElem?_append_right (by omega)] at hj
      have e0 : j - fr.ftoks.length = 0 := by
        have := (List.getElem?_eq_some_iff.1 hj).1; simp at this; omega
      rw [e0] at hj; simp at hj; exact .inl ⟨by omega, hj.symm⟩
  have hfcl : ∀ o b, FClaim (f.head fr.ftoks.length els.length (c, sz)) { fr with ftoks := fr.ftoks ++ [els.length] } o b → FClaim f fr o b ∨ (o = .tok fr.ftoks.length ∧ b = bk) := fun o b ho => by
    cases o with
    | obj => exact ho.elim
    | row => exact ho.elim
    | loc => exact .inl ho
    | tok j =>
      obtain ⟨L, c1, h1, h2, h3, h4⟩ := ho
      rw [hfhd] at h3
      rcases hget j L h1 with ⟨rfl, rfl⟩ | ⟨hj, h1'⟩
      · rw [if_pos ⟨rfl, rfl⟩] at h3; cases h3
        rw [hbk] at h4; cases h4; exact .inr ⟨rfl, rfl⟩
      · rw [if_neg (fun x => hj x.1)] at h3; exact .inl ⟨L, c1, h1', h2, h3, h4⟩
  refine ⟨⟨?_, ?_, ?_, ?_, ?_, ?_⟩, ?_, ?_, ?_, ?_⟩
  · intro j x hx
    rcases setCells_get hx with ⟨rfl, rfl⟩ | ⟨hj, hx⟩
    · obtain ⟨vs, e, h1, h2, h3⟩ := h.h.obj j _ (St.cells_eq.1 hcs)
      refine ⟨vs, e, h1, by simpa using h2, fun i a a' => ?_⟩
      rw [List.getElem_set]
      by_cases hi : off = i
      · subst hi
        simp only [if_true]
        have := h3 off hoff (by rw [← h2]; exact hoff)
        have e1 : cs[off] = .slice sz els (.cell j off) := (List.getElem?_eq_some_iff.1 hold).2
        rw [e1] at this
        exact ⟨.slice sz els _ _ this.1.slice_inv.1 trivial, this.2⟩
      · simp only [if_neg hi]
        have a1 : i < cs.length := by simpa using a
        exact h3 i a1 a'
    · exact h.h.obj j x hx
  · exact fun o b ho => h.h.lt o b (hcl o b ho).1
  · exact fun j hj o => h.h.noimm j (by rwa [size_setCells] at hj) o
  · exact h.h.immlt
  · intro j cs1 p sz1 els1 h1 h2
    rcases setCells_get (St.cells_eq.1 h1) with ⟨rfl, e⟩ | ⟨hj, e⟩
    · cases e
      rcases hset _ _ h2 with ⟨rfl, e2⟩ | ⟨hp, e2⟩
      · cases e2
      · exact h.h.row j cs p sz1 els1 hcs e2
    · exact h.h.row j cs1 p sz1 els1 (St.cells_eq.2 e) h2
  · intro j p L x hj hx
    rw [size_setCells] at hj
    obtain ⟨cs1, v, h1, h2, h3⟩ := h.h.dom j p L x hj hx
    by_cases e2 : j = id
    · subst e2
      rw [hcs] at h1; cases h1
      by_cases e3 : off = p
      · subst e3
        rw [hold] at h2; cases h2
        exact ⟨_, .slice sz els (.spent j off), setCells_new hid, by simp [hoff], h3⟩
      · exact ⟨_, v, setCells_new hid, by simp [e3, h2], h3⟩
    · exact ⟨cs1, v, St.cells_eq.2 ((setCells_old e2).trans (St.cells_eq.1 h1)), h2, h3⟩
  · rw [size_setCells]
    refine ⟨fun t => (h.fi.regs t).mono (Grow.refl _ _ _) hfg, ?_, h.fi.locdom, h.fi.locser, ?_, ?_, ?_⟩
    · intro li ser cs1 h1 h2
      obtain ⟨b, vs, e1, h3, h4, h5, h6⟩ := h.fi.loc li ser cs1 h1 h2
      exact ⟨b, vs, e1, h3, h4, h5, fun i a a' => ⟨(h6 i a a').1.mono (Grow.refl _ _ _) hfg, (h6 i a a').2⟩⟩
    · intro j L h1 h2
      rcases hget j L h1 with ⟨rfl, rfl⟩ | ⟨hj, h1'⟩
      · exact ⟨c, sz, by rw [hfhd, if_pos ⟨rfl, rfl⟩], hown⟩
      · obtain ⟨c1, sz1, h3, h4⟩ := h.fi.tok j L h1' h2
        exact ⟨c1, sz1, by rw [hfhd, if_neg (fun x => hj x.1)]; exact h3, h4⟩
    · intro j L x hx
      rw [hfhd] at hx
      by_cases ej : j = fr.ftoks.length
      · subst ej
        by_cases eL : L = els.length
        · subst eL; exact ⟨hpos, els.length, by simp, .inr (Nat.le_refl _)⟩
        · rw [if_neg (fun x => eL x.2), hnone] at hx; exact absurd hx (by simp)
      · rw [if_neg (fun x => ej x.1)] at hx
        obtain ⟨h1, cur, h2, h3⟩ := h.fi.tokdom j L x hx
        exact ⟨h1, cur, by rw [List.getElem?_append_left (List.getElem?_eq_some_iff.1 h2).1]; exact h2, h3⟩
    · intro li b hb o hI
      rcases hfcl _ _ hb with h' | ⟨h', _⟩
      · exact h.fi.noimm li b h' o hI
      · cases h'
  · intro o b ho
    rcases hfcl o b ho with h' | ⟨_, rfl⟩
    · exact h.flt o b h'
    · refine ⟨h.h.lt _ _ hrow, ?_⟩
      by_cases hlt : w0.heap.size ≤ b
      · exact .inl hlt
      · exact .inr (h.ext.claim _ _ hrow (by omega))
  · have key : ∀ o b, HClaim g (st.setCells id (cs.set off (.slice sz els (.spent id off)))) o b ∨ FClaim (f.head fr.ftoks.length els.length (c, sz)) { fr with ftoks := fr.ftoks ++ [els.length] } o b →
        ((HClaim g st o b ∨ FClaim f fr o b) ∧ o ≠ .row id off) ∨ (o = .tok fr.ftoks.length ∧ b = bk) := fun o b ho => by
      rcases ho with ho | ho
      · exact .inl ⟨.inl (hcl o b ho).1, (hcl o b ho).2⟩
      · rcases hfcl o b ho with h1 | h1
        · exact .inl ⟨.inr h1, fun e => by subst e; exact h1⟩
        · exact .inr h1
    intro o o' b ho ho'
    rcases key _ _ ho with ⟨k1, k2⟩ | ⟨rfl, rfl⟩ <;> rcases key _ _ ho' with ⟨k3, k4⟩ | ⟨rfl, k5⟩
    · exact h.uniq o o' b k1 k3
    · subst k5; exact absurd (h.uniq _ _ _ k1 (.inl hrow)) k2
    · exact absurd (h.uniq _ _ _ k3 (.inl hrow)) k4
    · rfl
  · refine h.ext.step (Chg.refl (fun _ => False) _) (fun _ => False.elim) ?_ (fun _ _ h => .inl h) fun o b ho _ => .inr ⟨o, (hcl o b ho).1⟩
    rw [size_setCells]; exact Grow.refl _ _ _

end
end Go.Proofs.YtelpkgbghhpgaaaGreatDoor.Sx
end
section
namespace Go.Proofs.YtelpkgbghhpgaaaGreatDoor.Sx
open AV

/-! ### The plain code against the program's own: what is looked at -/

def cOk1 : AV → Value → Bool
  | .int k n, .int k' n' => k == k' && n == n'
  | .bool a, .bool b => a == b
  | .str s, .string b => b.data.toList == s
  | .nilptr, .pointer none => true
  | .nilslice, .slice none 0 0 => true
  | .nilmap, .map none => true
  | .nilIface, .nilIface => true
  | .nilFunc, .nilFunc => true
  | _, _ => false

def cOkL : List AV → List Value → Bool
  | [], [] => true
  | a :: l, b :: m => cOk1 a b && cOkL l m
  | _, _ => false

def cOk : AV → Value → Bool
  | .agg cs, .agg vs => cOkL cs vs.toList
  | v, c => cOk1 v c

def chkOpd : Operand → Opd → Bool
  | .tmp t, .r t' => t == t'
  | .const v, .c a => cOk a v
  | .func f, .f i => f == i
  | _, _ => false

def chkOpds : List Operand → List Opd → Bool
  | [], [] => true
  | a :: l, b :: m => chkOpd a b && chkOpds l m
  | _, _ => false

def chkOpt : Option Operand → Option Opd → Bool
  | none, none => true
  | some a, some b => chkOpd a b
  | _, _ => false

theorem cOk1_rep {w : World} {I : Nat → Nat → Prop} {v : AV} {c : Value} (h : cOk1 v c = true) : PRep w I v c := by
  unfold cOk1 at h
  split at h <;> first
    | (simp only [Bool.and_eq_true, beq_iff_eq] at h; obtain ⟨rfl, rfl⟩ := h; exact .int _ _)
    | (simp only [beq_iff_eq] at h; subst h; exact .bool _)
    | (rename_i s b; simp only [beq_iff_eq] at h; subst h; obtain ⟨⟨l⟩⟩ := b; exact .str l)
    | exact .nilptr
    | exact .nilslice
    | exact .nilmap
    | exact .nilIface
    | exact .nilFunc
    | exact absurd h (by simp)

theorem cOkL_len : ∀ {cs : List AV} {vs : List Value}, cOkL cs vs = true → cs.length = vs.length
  | [], [], _ => rfl
  | a :: l, b :: m, h => by simp [cOkL] at h; simp [cOkL_len h.2]
  | [], _ :: _, h => by simp [cOkL] at h
  | _ :: _, [], h => by simp [cOkL] at h

theorem cOkL_get : ∀ {cs : List AV} {vs : List Value}, cOkL cs vs = true → ∀ i (h : i < cs.length) (h' : i < vs.length), cOk1 cs[i] vs[i] = true
  | a :: l, b :: m, h, 0, _, _ => by simp [cOkL] at h; exact h.1
  | a :: l, b :: m, h, i + 1, h1, h2 => by simp [cOkL] at h; exact cOkL_get h.2 i (by simpa using h1) (by simpa using h2)
  | [], [], _, i, h1, _ => by simp at h1
  | [], _ :: _, _, i, h1, _ => by simp at h1
  | _ :: _, [], _, i, _, h2 => by simp at h2

section
variable {g0 g : Gh} {st0 st : St} {w0 w w' : World} {f f' : Fh} {fr : Fr} {tmps : Array Value} {ds : List Deferred} {P : Program} {n : Nat}

theorem cOk_rep {v : AV} {c : Value} (h : cOk v c = true) : Rep g f n w v c := by
  unfold cOk at h
  split at h
  · rename_i cs vs
    obtain ⟨l⟩ := vs
    have h : cOkL cs l = true := h
    refine .agg cs l (cOkL_len h) (fun i h1 h2 => .plain (cOk1_rep (cOkL_get h i h1 h2))) fun c hc => ?_
    obtain ⟨i, hi, rfl⟩ := List.getElem_of_mem hc
    exact (cOk1_rep (w := w) (I := fun _ _ => False) (cOkL_get h i (by rw [cOkL_len h]; exact hi) hi)).oneCell
  · exact .plain (cOk1_rep h)

theorem opd_rep (hI : Inv g0 st0 w0 g f fr st w tmps) {x : Operand} {y : Opd} (h : chkOpd x y = true) : Rep g f st.size w (y.ev fr) (Act.eval ⟨tmps, ds⟩ x) := by
  unfold chkOpd at h
  split at h
  · simp only [beq_iff_eq] at h; subst h; exact hI.fi.regs _
  · exact cOk_rep h
  · simp only [beq_iff_eq] at h; subst h
    exact .func _ [] [] [] [] rfl rfl (fun _ h => by simp at h) (fun _ h => by simp at h)
  · exact absurd h (by simp)

theorem opds_rep (hI : Inv g0 st0 w0 g f fr st w tmps) : ∀ {xs : List Operand} {ys : List Opd}, chkOpds xs ys = true → xs.length = ys.length ∧ ∀ i (h : i < ys.length) (h' : i < xs.length), Rep g f st.size w (ys[i].ev fr) (Act.eval ⟨tmps, ds⟩ xs[i])
  | [], [], _ => ⟨rfl, fun _ h => by simp at h⟩
  | a :: l, b :: m, h => by
    simp only [chkOpds, Bool.and_eq_true] at h
    obtain ⟨h1, h2⟩ := opds_rep hI h.2
    refine ⟨by simp [h1], fun i hi hi' => ?_⟩
    cases i with
    | zero => exact opd_rep hI h.1
    | succ i => exact h2 i (by simpa using hi) (by simpa using hi')
  | [], _ :: _, h => by simp [chkOpds] at h
  | _ :: _, [], h => by simp [chkOpds] at h

/-! ### Loads -/

theorem rd_rep {cs : List AV} {vs : Array Value} {off k : Nat} {a : Bool} {v : AV} (hl : cs.length = vs.size) (hr : ∀ i (h : i < cs.length) (h' : i < vs.size), Rep g f n w cs[i] vs[i] ∧ vs[i].oneCell' = true) (h : rd cs off k a = some v) :
    (a = true → Rep g f n w v (.agg (vs.extract off (off + k))) ∧ off + k ≤ vs.size) ∧ (a = false → ∃ c, vs[off]? = some c ∧ Rep g f n w v c) := by
  unfold rd at h
  cases a with
  | true =>
    simp only at h
    split at h
    · rename_i hk
      cases h
      refine ⟨fun _ => ⟨?_, by omega⟩, fun h => (by cases h)⟩
      have e : vs.extract off (off + k) = ((vs.toList.drop off).take k).toArray := by
        apply Array.ext'
        simp [List.take_drop]
      rw [e]
      refine .agg _ _ (by simp; omega) (fun i h1 h2 => ?_) fun c hc => ?_
      · simp only [List.getElem_take, List.getElem_drop]
        have hi : off + i < cs.length := by simp at h1; omega
        simpa using (hr (off + i) hi (by omega)).1
      · obtain ⟨i, hi, rfl⟩ := List.getElem_of_mem hc
        simp only [List.getElem_take, List.getElem_drop]
        have hi' : off + i < vs.size := by simp at hi; omega
        simpa using (hr (off + i) (by omega) hi').2
    · cases h
  | false =>
    refine ⟨fun h => (by cases h), fun _ => ?_⟩
    have hlt := (List.getElem?_eq_some_iff.1 h).1
    have hv := (List.getElem?_eq_some_iff.1 h).2
    exact ⟨vs[off]'(by omega), by simp [show off < vs.size by omega], hv ▸ (hr off hlt (by omega)).1⟩

/-- What the type of a load or a store says. -/
def chkTy (P : Program) (t n : Nat) (a : Bool) : Bool :=
  match P.info? t, P.underlying t with
  | some i, some d => i.size == n && (match d with | .struct _ | .array _ _ => a | _ => !a && n == 1)
  | _, _ => false

theorem chkTy_ok {t k : Nat} {a : Bool} (h : chkTy P t k a = true) (w : World) : (sizeOf t).run P w = .ok k w ∧ (isAgg t).run P w = .ok a w ∧ (a = false → k = 1) := by
  unfold chkTy at h
  split at h
  · rename_i i d hi hd
    simp only [Bool.and_eq_true, beq_iff_eq] at h
    refine ⟨by simp [sizeOf, typeInfo, hi, h.1], ?_, ?_⟩
    · have h2 := h.2
      simp only [isAgg, Sem.run_bind, run_underlying hd, Result.andThen_ok]
      cases d <;> simp_all
    · intro ha
      have h2 := h.2
      subst ha
      cases d <;> simp_all
  · cases h

theorem add_lit (b o i : Nat) : (⟨b, o, none⟩ : Addr).add i = ⟨b, o + i, none⟩ := by
  unfold Addr.add
  split
  · rename_i h; subst h; rfl
  · rfl

theorem add_row {a : Addr} {k : Nat} (h : a.spot = none) : a.add k = ⟨a.block, a.off + k, none⟩ := by
  obtain ⟨b, o, s⟩ := a
  cases h
  exact add_lit b o k

theorem run_loadVar_cells {t k b off : Nat} {a : Bool} {vs : Array Value} {e : TypeId} {fz : Nat × Nat} (ht : chkTy P t k a = true) (hw : w.heap[b]? = some (.cells vs e fz)) :
    (a = true → off + k ≤ vs.size → (loadVar t ⟨b, off, none⟩).run P w = .ok (.agg (vs.extract off (off + k))) w) ∧
    (a = false → ∀ c, vs[off]? = some c → (loadVar t ⟨b, off, none⟩).run P w = .ok c w) := by
  obtain ⟨h1, h2, h3⟩ := chkTy_ok ht w
  constructor
  · rintro rfl hk
    simp only [loadVar, Sem.run_bind, h2, Result.andThen_ok, if_true, h1]
    rw [run_loadCells w _ k (fun j => vs.getD (off + j) undef) (fun j hj => by
      rw [add_lit]
      simp [World.cell?, hw, show off + j < vs.size by omega])]
    simp only [Result.andThen_ok, Sem.run_pure]
    congr 2
    apply Array.ext
    · simp; omega
    · intro i h4 h5
      simp at h4 h5 ⊢
      simp [show off + i < vs.size by omega]
  · rintro rfl c hc
    simp [loadVar, h2, run_load, World.cell?, hw, hc]

theorem ld_ok (hI : Inv g0 st0 w0 g f fr st w tmps) {t k : Nat} {a : Bool} {x v : AV} {cx : Value} (ht : chkTy P t k a = true) (hx : Rep g f st.size w x cx) (h : ld fr st x k a = some v) :
    ∃ c, (Instr.loadAt t cx).run P w = .ok c w ∧ Rep g f st.size w v c := by
  unfold ld at h
  have fin : ∀ (b off : Nat) (cs : List AV) (vs : Array Value) (e : TypeId), w.heap[b]? = some (.cells vs e (0, 0)) → cs.length = vs.size → (∀ i (h : i < cs.length) (h' : i < vs.size), Rep g f st.size w cs[i] vs[i] ∧ vs[i].oneCell' = true) →
      rd cs off k a = some v → ∃ c, (Instr.loadAt t (.pointer (some ⟨b, off, none⟩))).run P w = .ok c w ∧ Rep g f st.size w v c := fun b off cs vs e hw hl hr hrd => by
    obtain ⟨h1, h2⟩ := rd_rep hl hr hrd
    obtain ⟨k1, k2⟩ := run_loadVar_cells (P := P) (off := off) ht hw
    cases a with
    | true => exact ⟨_, by simpa [Instr.loadAt, Instr.sureAddr] using k1 rfl (h1 rfl).2, (h1 rfl).1⟩
    | false =>
      obtain ⟨c, hc, hrep⟩ := h2 rfl
      exact ⟨c, by simpa [Instr.loadAt, Instr.sureAddr] using k2 rfl c hc, hrep⟩
  split at h
  · -- a variable of the frame's own
    rename_i li ser off
    obtain ⟨b, hb, rfl⟩ := hx.lptr_inv
    split at h
    · rename_i cs hcs
      unfold locGet at hcs
      split at hcs
      · rename_i s cs' hloc
        split at hcs
        · rename_i hs
          cases hcs; subst hs
          by_cases hne : cs = []
          · subst hne
            obtain ⟨k1, k2, k3⟩ := chkTy_ok ht w
            unfold rd at h
            cases a with
            | true =>
              simp only at h
              split at h
              · rename_i hk
                have : off = 0 ∧ k = 0 := by simp at hk; omega
                obtain ⟨rfl, rfl⟩ := this
                cases h
                exact ⟨.agg #[], by simp [Instr.loadAt, Instr.sureAddr, loadVar, k1, k2, loadCells, loadCellsFrom], .agg [] [] rfl (fun _ h => by simp at h) (fun _ h => by simp at h)⟩
              · cases h
            | false => simp at h
          · obtain ⟨b', vs, e, h3, h4, h5, h6⟩ := hI.fi.loc li s cs hloc hne
            rw [hb] at h3; cases h3
            exact fin b off cs vs e h4 h5 h6 h
        · cases hcs
      · cases hcs
    · cases h
  · -- an object of the heap
    rename_i id off
    obtain ⟨hid, rfl⟩ := hx.ptr_inv
    split at h
    · rename_i cs hcs
      obtain ⟨vs, e, h1, h2, h3⟩ := hI.h.obj id _ (St.cells_eq.1 hcs)
      exact fin _ off cs vs e h1 h2 (fun i a a' => ⟨(h3 i a a').1.mono ⟨hid, fun _ _ => rfl, fun _ _ _ _ _ h => h, fun _ _ h => h, fun _ _ _ => rfl⟩ (FGrow.none f), (h3 i a a').2⟩) h
    · cases h
  · -- cells that nobody writes
    rename_i cs
    obtain ⟨ad, vs, hrow, rfl⟩ := hx.vptr_inv
    obtain ⟨h1, h2, h3⟩ := chkTy_ok ht w
    unfold rd at h
    cases a with
    | true =>
      simp only at h
      split at h
      · rename_i hk
        cases h
        have hk' : k ≤ cs.length := by omega
        refine ⟨.agg ((List.range k).map vs).toArray, ?_, .agg _ _ (by simp; omega) (fun i a a' => ?_) fun c hc => ?_⟩
        · simp only [Instr.loadAt, Instr.sureAddr, Sem.run_bind, Sem.run_pure, Result.andThen_ok, loadVar, h2, if_true, h1]
          rw [run_loadCells w ad k vs (fun j hj => by
            rw [add_row (hrow.spot (by omega))]; exact (hrow.row j (by omega)).2)]
          simp
        · simp only [List.getElem_take, List.getElem_drop, List.getElem_map, List.getElem_range, Nat.zero_add]
          exact .plain (hrow.el i (by simp at a; omega))
        · simp at hc
          obtain ⟨j, hj, rfl⟩ := hc
          exact (hrow.el j (by omega)).oneCell
      · cases h
    | false =>
      have hlt := (List.getElem?_eq_some_iff.1 h).1
      have hv := (List.getElem?_eq_some_iff.1 h).2
      refine ⟨vs 0, ?_, .plain (hv ▸ hrow.el 0 hlt)⟩
      have hc := (hrow.row 0 hlt).2
      have hs := hrow.spot hlt
      have e : ad = ⟨ad.block, ad.off + 0, none⟩ := by obtain ⟨b, o, s⟩ := ad; cases hs; rfl
      rw [← e] at hc
      simp [Instr.loadAt, Instr.sureAddr, loadVar, h2, run_load, hc]
  · cases h

end
end Go.Proofs.YtelpkgbghhpgaaaGreatDoor.Sx
end
section
namespace Go.Proofs.YtelpkgbghhpgaaaGreatDoor.Sx
open AV

/-- The zero cells of a type. -/
def chkZero (P : Program) (t : Nat) (zs : List AV) : Bool :=
  match P.info? t with
  | some i => (match i.zero with | some z => cOkL zs z.cells.toList && i.size == zs.length | none => false)
  | none => false

def chkPart (places : Nat → Option (Nat × Nat)) : List (Nat × Operand) → List (Nat × Nat × Opd) → Bool
  | [], [] => true
  | (i, x) :: l, (off, n, y) :: m => (match places i with | some (o, s) => o == off && s == n | none => false) && chkOpd x y && chkPart places l m
  | _, _ => false

def chkPartS : List (Nat × Operand) → List (Nat × Opd) → Bool
  | [], [] => true
  | (i, x) :: l, (j, y) :: m => i == j && chkOpd x y && chkPartS l m
  | _, _ => false

def placesOf (P : Program) (t : Nat) : Option (List (Nat × Nat)) :=
  match P.underlying t with
  | some (.struct fields) => fields.toList.mapM fun f => (P.info? f.type).map fun i => (f.offset, i.size)
  | some (.array n e) => (P.info? e).map fun i => (List.range n).map fun j => (j * i.size, i.size)
  | _ => none

def chkLeaf (P : Program) : EqK → Nat → Bool
  | .int, t => (match P.underlying t with | some (.int _) => true | _ => false)
  | .str, t => (match P.underlying t with | some .string => true | _ => false)
  | .bool, t => (match P.underlying t with | some .bool => true | _ => false)
  | _, _ => false

/-- The leaves of a struct, field by field, each of one cell; what is left of the kinds. -/
def chkLeaves (P : Program) : Nat → Nat → List Field → List EqK → Option (Nat × List EqK)
  | _, off, [], ks => some (off, ks)
  | d, off, f :: fs, k :: ks => if f.name ≠ "_" ∧ f.offset = off ∧ chkLeaf P k f.type = true then chkLeaves P d (off + 1) fs ks else none
  | _, _, _ :: _, [] => none

def chkEqs (P : Program) (t : Nat) (ks : List EqK) : Bool :=
  match P.underlying t with
  | some (.struct fs) => chkLeaves P 0 0 fs.toList ks == some (ks.length, []) && !P.stoodInHeld t && !P.eqGuardType P.depth t
  | _ => false

def kindOk (P : Program) (k : EqK) (t : Nat) : Bool :=
  match k, P.underlying t with
  | .int, some (.int _) | .str, some .string | .bool, some .bool | .ptr, some (.pointer _) | .slice, some (.slice _) | .map, some (.map _ _) | .func, some (.func _ _ _) | .iface, some (.interface _) => true
  | _, _ => false

def isCst : Operand → Bool
  | .const _ => true
  | _ => false

def chkEqk (P : Program) (k : EqK) (t : Nat) (x y : Operand) : Bool :=
  kindOk P k t && (match k with
    | .int | .str => false
    | .iface => isCst x || isCst y
    | _ => true)

def chkFieldAddr (P : Program) (s i off : Nat) : Bool :=
  match P.underlying s with
  | some (.struct fields) => (match fields[i]? with
    | some f => f.offset == off && (match P.info? f.type with | some i => i.size != 0 | none => false)
    | none => false)
  | _ => false

def chkField (P : Program) (s i off n : Nat) (a : Bool) : Bool :=
  match P.underlying s with
  | some (.struct fields) => (match fields[i]? with
    | some f => f.offset == off && chkTy P f.type n a
    | none => false)
  | _ => false

def chkSz (P : Program) (t n : Nat) : Bool := match P.info? t with | some i => i.size == n | none => false

def chkKey (P : Program) (kk : EqK) (k : Nat) : Bool :=
  match kk, P.underlying k with
  | .int, some (.int _) | .str, some .string | .bool, some .bool => true
  | _, _ => false

def chkCall (P : Program) (c : Call) : AOp → Bool
  | .len k y => (match c.callee, c.args.toList, c.argTypes[0]? with
    | .builtin .len, [x], some t => chkOpd x y && (match k, P.underlying t with | .str, some .string | .slice, some (.slice _) | .map, some (.map _ _) => true | _, _ => false)
    | _, _, _ => false)
  | .alen n => (match c.callee, c.args.toList, c.argTypes[0]? with
    | .builtin .len, [_], some t => (match P.underlying t with | some (.array m _) => m == n | _ => false)
    | _, _, _ => false)
  | .minmax mx ys => (match c.callee with
    | .builtin .max => mx && chkOpds c.args.toList ys
    | .builtin .min => !mx && chkOpds c.args.toList ys
    | _ => false)
  | .append x y sz bytes => (match c.callee, c.args.toList, c.argTypes.toList with
    | .builtin .append, [a, b], [t, u] => t == u && chkOpd a x && chkOpd b y && (match P.underlying t with
      | some (.slice e) => (match P.info? e with
        | some i => i.size == sz && decide (i.bytes ≤ bytes) && decide (0 < sz) && decide (0 < bytes) && (match i.zero with | some z => z.cells.size == sz | none => false)
        | none => false)
      | _ => false)
    | _, _, _ => false)
  | .call f ys => (match c.callee with
    | .value (.func i) => i == f && chkOpds c.args.toList ys && (match P.funcs[f]? with | some fn => fn.body.isSome && fn.name != "runtime.NumGoroutine" | none => false)
    | _ => false)
  | .callv x ys => (match c.callee with
    | .value y => chkOpd y x && chkOpds c.args.toList ys
    | _ => false)
  | _ => false

def chkOp (P : Program) (o : Oper) (a : AOp) : Bool :=
  match a with
  | .mv y => (match o.op with | .move x | .assign x => chkOpd x y | _ => false)
  | .pick c' a' b' => (match o.op with | .pick c a b => chkOpd c c' && chkOpd a a' && chkOpd b b' | _ => false)
  | .alloc _ zs | .halloc zs => (match o.op with | .alloc t => chkZero P t zs | _ => false)
  | .box _ y | .hbox y => (match o.op with | .box _ x => chkOpd x y | _ => false)
  | .build zs parts => (match o.op with | .build t ps => chkZero P t zs && (match placesOf P t with | some pl => chkPart (pl[·]?) ps.toList parts | none => false) | _ => false)
  | .bslice sz zs len parts => (match o.op with
    | .buildSlice t n ps => n == len && (match P.underlying t with | some (.slice e) => chkZero P e zs && zs.length == sz && decide (len * sz ≤ 16777216) && decide (0 < sz) | _ => false) && chkPartS ps.toList parts
    | _ => false)
  | .load y n ag => (match o.op with | .load t x => chkOpd x y && chkTy P t n ag | _ => false)
  | .store x' y' n => (match o.op with | .store t x y => chkOpd x x' && chkOpd y y' && chkSz P t n && decide (0 < n) | _ => false)
  | .nchk y => (match o.op with | .nilCheck x => chkOpd x y | _ => false)
  | .bin b x' y' => (match o.op with | .binOp c _ x y _ => decide (b = c) && chkOpd x x' && chkOpd y y' | _ => false)
  | .eqk k neg x' y' => (match o.op with | .binOp c t x y _ => decide (c = if neg then .neq else .eql) && chkOpd x x' && chkOpd y y' && chkEqk P k t x y | _ => false)
  | .eqs ks neg x' y' => (match o.op with | .binOp c t x y _ => decide (c = if neg then .neq else .eql) && chkOpd x x' && chkOpd y y' && chkEqs P t ks | _ => false)
  | .un u y => (match o.op with | .unOp v _ x => decide (u = v) && chkOpd x y | _ => false)
  | .conv k y => (match o.op with | .convert s d x => chkOpd x y && (P.underlying s).isSome && (match P.underlying d with | some (.int j) => j == k | _ => false) | _ => false)
  | .b2s y => (match o.op with
    | .convert s d x => chkOpd x y && (match P.underlying s, P.underlying d with | some (.slice e), some .string => (match P.underlying e with | some (.int .u8) => true | _ => false) | _, _ => false)
    | _ => false)
  | .s2b y => (match o.op with
    | .convert s d x => chkOpd x y && (match P.underlying s, P.underlying d with | some .string, some (.slice e) => (match P.underlying e with | some (.int .u8) => true | _ => false) | _, _ => false)
    | _ => false)
  | .iface t' y => (match o.op with | .makeInterface t x => t == t' && chkOpd x y && (match P.underlying t with | some (.interface _) => false | some _ => true | none => false) | _ => false)
  | .mkf fn first captured => (match o.op with | .makeFunc fn' a b => decide (fn = fn') && chkOpds a.toList first && chkOpds b.toList captured | _ => false)
  | .mkmap => (match o.op with | .makeMap _ none => true | _ => false)
  | .mset kk m k v => (match o.op with
    | .mapUpdate t a b c | .insert t a b c => chkOpd a m && chkOpd b k && chkOpd c v && (match P.underlying t with | some (.map kt _) => chkKey P kk kt | _ => false)
    | _ => false)
  | .look kk zs m k ok => (match o.op with
    | .lookup t a b ok' => chkOpd a m && chkOpd b k && (ok == ok') && (match P.underlying t with | some (.map kt e) => chkKey P kk kt && (match P.info? e with | some i => (match i.zero with | some z => cOk zs z | none => false) | none => false) | _ => false)
    | _ => false)
  | .slc sz y lo' hi' mx' => (match o.op with
    | .slice t x lo hi mx => chkOpd x y && chkOpt lo lo' && chkOpt hi hi' && chkOpt mx mx' && (mx.isNone || hi.isSome) && (match P.underlying t with | some .string => sz == 0 | some (.slice e) => decide (0 < sz) && chkSz P e sz | _ => false)
    | _ => false)
  | .addr y off => (match o.op with | .fieldAddr s x i => chkOpd x y && chkFieldAddr P s i off | _ => false)
  | .part y off n ag => (match o.op with | .field s x i => chkOpd x y && chkField P s i off n ag | _ => false)
  | .ixa x' i' sz => (match o.op with | .indexAddr t x i => chkOpd x x' && chkOpd i i' && (match P.underlying t with | some (.slice e) => chkSz P e sz | _ => false) | _ => false)
  | .ixp x' i' len sz => (match o.op with | .indexAddr t x i => chkOpd x x' && chkOpd i i' && (match P.underlying t with | some (.array n e) => n == len && chkSz P e sz | _ => false) | _ => false)
  | .ixs x' i' => (match o.op with | .index t x i => chkOpd x x' && chkOpd i i' && (match P.underlying t with | some .string => true | _ => false) | _ => false)
  | .ixv x' i' len sz ag => (match o.op with | .index t x i => chkOpd x x' && chkOpd i i' && (match P.underlying t with | some (.array n e) => n == len && chkTy P e sz ag | _ => false) | _ => false)
  | .ext y i => (match o.op with | .extract x j => chkOpd x y && i == j | _ => false)
  | .panic y => (match o.op with | .panic x => chkOpd x y | _ => false)
  | a => (match o.op with | .call c => chkCall P c a | _ => false)

end Go.Proofs.YtelpkgbghhpgaaaGreatDoor.Sx
end
