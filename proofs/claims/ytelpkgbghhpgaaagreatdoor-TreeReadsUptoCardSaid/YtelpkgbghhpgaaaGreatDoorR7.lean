/- TreeReads returns true for all texts whose data are not larger than a bound. The program's functions as plain code. -/
import Derived.Test.YtelpkgbghhpgaaaGreatDoorR6
set_option linter.all false
section
namespace Go.Proofs.YtelpkgbghhpgaaaGreatDoor.Sx
open AV
section
variable {g0 g g' : Gh} {st0 st : St} {w0 w w' : World} {f f' : Fh} {fr : Fr} {tmps : Array Value} {ds : List Deferred} {P : Program} {n n' m : Nat} {o : Oper} {I : Nat → Nat → Prop}
theorem run_room {t ty e e' : TypeId} {i : TypeInfo} (ht : P.underlying t = some (.slice e)) (hi : P.info? e = some i)
    (b sLen sCap : Nat) (cur : Array Value) (hg : w.heap[b]? = some (.cells cur e' (0, 0)))
    (a : Addr) (m c : Nat) (news : List Value) (hl : news.length = m * i.size) (hnews : ∀ (j : Nat) (u : Value), news[j]? = some u → w.cell? (a.add j) = some u) (h1 : ∀ u ∈ news, u.oneCell' = true)
    (hroom : sLen + m ≤ sCap) (hfit : sLen * i.size + news.length ≤ cur.size) :
    (Builtin.append_ #[t, t] ty #[.slice (some ⟨b, 0, none⟩) sLen sCap, .slice (some a) m c]).run P w =
      .ok (.slice (some ⟨b, 0, none⟩) (sLen + m) sCap) (w.setRow b (cur.toList.take (sLen * i.size) ++ news ++ cur.toList.drop (sLen * i.size + news.length)).toArray) := by
  have hf := run_firstCells_some (P := P) w i.size m a m c news hl hnews
  have hst := run_storeCells_at P b (sLen * i.size) e' news 0 cur w hg (by simpa using hfit) h1
  simp only [Nat.add_zero] at hst
  simp [Builtin.append_, run_underlying ht, sizeOf, typeInfo, hi, Builtin.lenOf, hroom, hf, Addr.add_lit, hst]
def rowOf (vs : Nat → Value) (k : Nat) : List Value := (List.range k).map vs
theorem rowOf_get {vs : Nat → Value} {k j : Nat} : (rowOf vs k)[j]? = if j < k then some (vs j) else none := by
  unfold rowOf
  by_cases h : j < k
  · rw [if_pos h]; simp [h]
  · rw [if_neg h]; simp; omega
theorem row_cells {cs : List AV} {a : Addr} {vs : Nat → Value} (h : RowRep w I cs a vs) (j : Nat) (v : Value) (hv : (rowOf vs cs.length)[j]? = some v) : w.cell? (a.add j) = some v := by
  rw [rowOf_get] at hv
  split at hv
  · rename_i hj
    cases hv
    rw [add_row (h.spot (by omega))]
    exact (h.row j hj).2
  · cases hv
theorem row_one {cs : List AV} {a : Addr} {vs : Nat → Value} (h : RowRep w I cs a vs) : ∀ v ∈ rowOf vs cs.length, v.oneCell' = true := fun v hv => by
  unfold rowOf at hv
  simp at hv
  obtain ⟨j, hj, rfl⟩ := hv
  exact (h.el j hj).oneCell
theorem Inv.tokApp (hI : Inv g0 st0 w0 g f fr st w tmps) {w1 : World} {k sz cap nb : Nat} {els : List (List AV)} {cur : Array Value} {e : TypeId} (hk : k < fr.ftoks.length) (hfree : f.fh k els.length = none) (hpos : 1 ≤ els.length)
    (hmono : ∀ L x, f.fh k L = some x → L ≤ els.length) (hc : Chg (FClaim f fr (.tok k)) w w1) (hb : w1.heap[nb]? = some (.cells cur e (0, 0))) (hcap : els.length ≤ cap) (hmax : cap ≤ maxLen) (hcur : cur.size = cap * sz)
    (hnb : w.heap.size ≤ nb ∨ FClaim f fr (.tok k) nb) (hroom : ∀ o, els.length * sz ≤ o → ¬ g.imm nb o)
    (hcell : ∀ b o, g.imm b o → w1.cell? ⟨b, o, none⟩ = w.cell? ⟨b, o, none⟩) (hu : ∀ x ∈ els, x.length = sz) (hr : ∀ (i : Nat) (a : AV), els.flatten[i]? = some a → ∃ c, cur[i]? = some c ∧ PRep w g.imm a c) :
    ∃ g' f', Inv g0 st0 w0 g' f' { fr with ftoks := fr.ftoks.set k els.length } st w1 tmps ∧ Rep g' f' st.size w1 (.slice sz els (.ftok k)) (.slice (some ⟨nb, 0, none⟩) els.length cap) := by
  have hfl := flat_len hu
  refine ⟨_, _, hI.tokRow hk hfree hpos hmono hc hb hcap hmax hcur hnb hroom hcell, .slice _ _ _ _ (PRep.of_row hu hcap (vs := fun k => cur.getD k undef) ⟨fun _ => rfl, fun j hj => ⟨.inr ⟨rfl, by simp only; omega⟩, ?_⟩, fun j hj => ?_⟩) ?_⟩
  · obtain ⟨c, h1, _⟩ := hr j _ (List.getElem?_eq_getElem hj)
    simp [World.cell?, hb, h1]
  · obtain ⟨c, h1, h2⟩ := hr j _ (List.getElem?_eq_getElem hj)
    have : cur.getD j undef = c := by simp [Array.getD_eq_getD_getElem?, h1]
    rw [this]
    exact h2.mono (fun _ _ h => .inl h) hcell
  · show (if _ then _ else _) = _
    simp
theorem join_get {xs ys : List (List AV)} {a b : Addr} {va vb : Nat → Value} (ha : RowRep w I xs.flatten a va) (hb : RowRep w I ys.flatten b vb) (rest : List Value) (i : Nat) (x : AV) (h : (xs ++ ys).flatten[i]? = some x) :
    ∃ c, (rowOf va xs.flatten.length ++ rowOf vb ys.flatten.length ++ rest)[i]? = some c ∧ PRep w I x c := by
  rw [List.flatten_append] at h
  have la : (rowOf va xs.flatten.length).length = xs.flatten.length := by simp [rowOf]
  have lb : (rowOf vb ys.flatten.length).length = ys.flatten.length := by simp [rowOf]
  by_cases hi : i < xs.flatten.length
  · rw [List.getElem?_append_left hi] at h
    obtain ⟨_, rfl⟩ := List.getElem?_eq_some_iff.1 h
    exact ⟨va i, by rw [List.append_assoc, List.getElem?_append_left (by omega), rowOf_get, if_pos hi], ha.el i hi⟩
  · rw [List.getElem?_append_right (by omega)] at h
    obtain ⟨hj, rfl⟩ := List.getElem?_eq_some_iff.1 h
    exact ⟨vb (i - xs.flatten.length), by rw [List.append_assoc, List.getElem?_append_right (by omega), la, List.getElem?_append_left (by omega), rowOf_get, if_pos hj], hb.el _ hj⟩
structure AppTy (P : Program) (t e : TypeId) (i : TypeInfo) (z : Value) (sz bytes : Nat) : Prop where
  ht : P.underlying t = some (.slice e)
  hi : P.info? e = some i
  hz : i.zero = some z
  size : i.size = sz
  le : i.bytes ≤ bytes
  pos : 0 < sz
  bpos : 0 < bytes
  zsz : z.cells.size = sz
theorem Inv.tokNew (hI : Inv g0 st0 w0 g f fr st w tmps) {t e ty : TypeId} {i : TypeInfo} {z : Value} {sz bytes k : Nat} (hT : AppTy P t e i z sz bytes) {xs ys : List (List AV)} {a b : Addr} {va vb : Nat → Value} {old : Nat}
    (hux : ∀ x ∈ xs, x.length = sz) (huy : ∀ x ∈ ys, x.length = sz) (ha : RowRep w g.imm xs.flatten a va) (hb : RowRep w g.imm ys.flatten b vb) (hk : k < fr.ftoks.length) (hfree : f.fh k (xs ++ ys).length = none) (hpos : 1 ≤ ys.length)
    (hmono : ∀ L x, f.fh k L = some x → L ≤ (xs ++ ys).length) (hbig : (xs.length + ys.length) * bytes ≤ 1099511627776) :
    ∃ g' f', Inv g0 st0 w0 g' f' { fr with ftoks := fr.ftoks.set k (xs.length + ys.length) } st
        (w.drew.alloc (.cells ((rowOf va xs.flatten.length).toArray ++ (rowOf vb ys.flatten.length).toArray ++ Builtin.zeroCells z.cells (grownCap w (xs.length + ys.length) old e - (xs.length + ys.length))) e)) tmps ∧
      Rep g' f' st.size (w.drew.alloc (.cells ((rowOf va xs.flatten.length).toArray ++ (rowOf vb ys.flatten.length).toArray ++ Builtin.zeroCells z.cells (grownCap w (xs.length + ys.length) old e - (xs.length + ys.length))) e))
        (.slice sz (xs ++ ys) (.ftok k)) (.slice (some ⟨w.heap.size, 0, none⟩) (xs.length + ys.length) (grownCap w (xs.length + ys.length) old e)) := by
  have hle : xs.length + ys.length ≤ 1099511627776 := Nat.le_trans (Nat.le_mul_of_pos_right _ hT.bpos) hbig
  have hge := grownCap_ge w (xs.length + ys.length) old e
  have hmx := grownCap_le_maxLen w (xs.length + ys.length) old e (by simp only [maxLen]; omega)
  have hfx := flat_len hux
  have hfy := flat_len huy
  have hnew : ∀ o : Obj, (w.drew.alloc o).heap[w.heap.size]? = some o := fun o => by show (w.heap.push _)[w.heap.size]? = _; simp
  have hch : ∀ (X : Nat → Prop) (o : Obj), Chg X w (w.drew.alloc o) := fun X o => ((Chg.refl X w).drew).trans (Chg.alloc X w.drew o)
  have hl : (xs ++ ys).length = xs.length + ys.length := by simp
  have := hI.tokApp (w1 := w.drew.alloc (.cells ((rowOf va xs.flatten.length).toArray ++ (rowOf vb ys.flatten.length).toArray ++ Builtin.zeroCells z.cells (grownCap w (xs.length + ys.length) old e - (xs.length + ys.length))) e))
    (k := k) (sz := sz) (cap := grownCap w (xs.length + ys.length) old e) (nb := w.heap.size) (els := xs ++ ys) hk hfree (by omega) hmono (hch _ _) (hnew _) (by omega) hmx ?_ (.inl (Nat.le_refl _))
    (fun o _ hi => absurd (hI.h.immlt _ _ hi) (Nat.lt_irrefl _)) (fun b o hi => cell_of_block ((hch (fun _ => False) _).block b (hI.h.immlt _ _ hi) id) o) (fun x hx => (List.mem_append.1 hx).elim (hux x) (huy x)) ?_
  · rw [hl] at this; exact this
  · simp only [Array.size_append, List.size_toArray, size_zeroCells, hT.zsz]
    have e1 : (rowOf va xs.flatten.length).length = xs.length * sz := by simp only [rowOf, List.length_map, List.length_range]; exact hfx
    have e2 : (rowOf vb ys.flatten.length).length = ys.length * sz := by simp only [rowOf, List.length_map, List.length_range]; exact hfy
    rw [e1, e2, ← Nat.add_mul, ← Nat.add_mul]
    congr 1
    omega
  · intro j x hx
    obtain ⟨c, h1, h2⟩ := join_get ha hb (Builtin.zeroCells z.cells (grownCap w (xs.length + ys.length) old e - (xs.length + ys.length))).toList j x hx
    refine ⟨c, ?_, h2⟩
    rw [← h1, ← Array.getElem?_toList]
    simp
theorem Inv.tokGrow (hI : Inv g0 st0 w0 g f fr st w tmps) {t e ty : TypeId} {i : TypeInfo} {z : Value} {sz bytes k : Nat} (hT : AppTy P t e i z sz bytes) {xs ys : List (List AV)} {b : Addr} {vb : Nat → Value} {c : Value} {m : Nat}
    (hx : Rep g f st.size w (.slice sz xs (.ftok k)) c) (hk : fr.ftoks[k]? = some xs.length) (hne : xs ≠ []) (huy : ∀ x ∈ ys, x.length = sz) (hb : RowRep w g.imm ys.flatten b vb) (hpos : 1 ≤ ys.length)
    (hbig : (xs.length + ys.length) * bytes ≤ 1099511627776) :
    ∃ g' f' w' c', (Builtin.append_ #[t, t] ty #[c, .slice (some b) ys.length m]).run P w = .ok c' w' ∧ Inv g0 st0 w0 g' f' { fr with ftoks := fr.ftoks.set k (xs.length + ys.length) } st w' tmps ∧ Rep g' f' st.size w' (.slice sz (xs ++ ys) (.ftok k)) c' := by
  have hle : xs.length + ys.length ≤ 1099511627776 := Nat.le_trans (Nat.le_mul_of_pos_right _ hT.bpos) hbig
  obtain ⟨hp, hown⟩ := hx.slice_inv
  have hxl : 1 ≤ xs.length := Nat.one_le_iff_ne_zero.2 fun h => hne (List.eq_nil_of_length_eq_zero h)
  obtain ⟨c0, sz0, e1, hO⟩ := hI.fi.tok k xs.length hk (by omega)
  have e2 : f.fh k xs.length = some (c, sz) := hown
  rw [e2] at e1; cases e1
  have hkl : k < fr.ftoks.length := (List.getElem?_eq_some_iff.1 hk).1
  obtain ⟨nb, cap, cur, el, rfl, h1, h2, h3, h4, h5⟩ := hO.ex
  obtain ⟨_, a, cap', va, hae, hux, hcap', hrow⟩ := hp.slice_inv
  cases hae
  have hfx := flat_len hux
  have hfy := flat_len huy
  have hl : (xs ++ ys).length = xs.length + ys.length := by simp
  have hmono : ∀ L x, f.fh k L = some x → L ≤ xs.length := fun L x hh => by
    obtain ⟨_, cu, hcu, h⟩ := hI.fi.tokdom k L x hh
    rw [hk] at hcu; cases hcu
    omega
  have hfree : f.fh k (xs ++ ys).length = none := by
    cases hh : f.fh k (xs ++ ys).length with
    | none => rfl
    | some x => have := hmono _ _ hh; omega
  have hclaim : FClaim f fr (.tok k) nb := ⟨xs.length, _, hk, by omega, e2, rfl⟩
  have e3 : (rowOf vb ys.flatten.length).length = ys.length * sz := by simp only [rowOf, List.length_map, List.length_range]; exact hfy
  have e4 : (rowOf va xs.flatten.length).length = xs.length * sz := by simp only [rowOf, List.length_map, List.length_range]; exact hfx
  by_cases hroom : xs.length + ys.length ≤ cap
  · have hfit : xs.length * sz + ys.length * sz ≤ cur.size := by
      rw [← Nat.add_mul, h4]; exact Nat.mul_le_mul_right _ hroom
    have hrun := run_room (ty := ty) hT.ht hT.hi nb xs.length cap cur h1 b ys.length m (rowOf vb ys.flatten.length) (by rw [hT.size]; exact e3) (fun j u hu => row_cells hb j u hu) (row_one hb) hroom (by rw [hT.size, e3]; exact hfit)
    rw [hT.size] at hrun
    have hcurx : ∀ o, o < xs.length * sz → cur[o]? = some (va o) := fun o ho => by
      have := (hrow.row o (by omega)).2
      simpa [World.cell?, h1] using this
    have hget : ∀ j, (cur.toList.take (xs.length * sz) ++ rowOf vb ys.flatten.length ++ cur.toList.drop (xs.length * sz + (rowOf vb ys.flatten.length).length))[j]? = if xs.length * sz ≤ j ∧ j < xs.length * sz + ys.length * sz then (rowOf vb ys.flatten.length)[j - xs.length * sz]? else cur.toList[j]? := fun j => by
      rw [app_get (by rw [e3]; simpa using hfit), e3]
    have hsz' : (cur.toList.take (xs.length * sz) ++ rowOf vb ys.flatten.length ++ cur.toList.drop (xs.length * sz + (rowOf vb ys.flatten.length).length)).length = cur.size := by
      rw [e3]; simp only [List.length_append, List.length_take, List.length_drop, e3, Array.length_toList]; omega
    have hself : (w.setRow nb (cur.toList.take (xs.length * sz) ++ rowOf vb ys.flatten.length ++ cur.toList.drop (xs.length * sz + (rowOf vb ys.flatten.length).length)).toArray).heap[nb]? = some (.cells (cur.toList.take (xs.length * sz) ++ rowOf vb ys.flatten.length ++ cur.toList.drop (xs.length * sz + (rowOf vb ys.flatten.length).length)).toArray el (0, 0)) := setRow_heap w nb cur _ el (0, 0) h1
    obtain ⟨g', f', k1, k2⟩ := hI.tokApp (sz := sz) (cap := cap) (els := xs ++ ys) hkl hfree (by omega) (fun L x hh => by have := hmono L x hh; omega) ((Chg.setRow w nb _).mono fun b' hb' => by subst hb'; exact hclaim) hself (by omega) h3
      (by simp only [List.size_toArray]; rw [hsz', h4]) (.inr hclaim) (fun o ho => h5 o (Nat.le_trans (Nat.mul_le_mul_right _ (by omega)) ho)) (fun b' o hi => by
        by_cases hbb : b' = nb
        · subst hbb
          have ho : o < xs.length * sz := Nat.lt_of_not_le fun h => h5 o h hi
          simp only [World.cell?, hself, h1, List.getElem?_toArray]
          rw [hget o, if_neg (show ¬ (xs.length * sz ≤ o ∧ o < xs.length * sz + ys.length * sz) by omega)]
          simp
        · exact cell_of_block ((Chg.setRow w nb _).block b' (hI.h.immlt _ _ hi) hbb) o) (fun x hx => (List.mem_append.1 hx).elim (hux x) (huy x)) (fun j x hx => by
        rw [List.flatten_append] at hx
        simp only [List.getElem?_toArray]
        rw [hget j]
        by_cases hj : j < xs.flatten.length
        · rw [List.getElem?_append_left hj] at hx
          obtain ⟨_, rfl⟩ := List.getElem?_eq_some_iff.1 hx
          exact ⟨va j, by rw [if_neg (by omega)]; simpa using hcurx j (by omega), hrow.el j hj⟩
        · rw [List.getElem?_append_right (by omega)] at hx
          obtain ⟨hj', rfl⟩ := List.getElem?_eq_some_iff.1 hx
          exact ⟨vb (j - xs.flatten.length), by rw [if_pos (by omega), rowOf_get, if_pos (by omega), hfx], hb.el _ hj'⟩)
    rw [hl] at k1 k2
    exact ⟨g', f', _, _, hrun, k1, k2⟩
  · obtain ⟨g', f', k1, k2⟩ := hI.tokNew (ty := ty) (old := cap) hT hux huy hrow hb hkl hfree hpos (fun L x hh => by have := hmono L x hh; omega) hbig
    refine ⟨g', f', _, _, ?_, k1, k2⟩
    exact run_append_grow w t ty e i z hT.ht hT.hi hT.hz ⟨nb, 0, none⟩ xs.length cap (rowOf va xs.flatten.length) (by rw [hT.size]; exact e4) (fun j u hu => row_cells hrow j u hu) b ys.length m (rowOf vb ys.flatten.length) (by rw [hT.size]; exact e3)
      (fun j u hu => row_cells hb j u hu) (by omega) (by omega) (growslice_fits (by omega) (Nat.le_trans (Nat.mul_le_mul_left _ hT.le) (by omega)))
end
end Go.Proofs.YtelpkgbghhpgaaaGreatDoor.Sx
end
section
namespace Go.Proofs.YtelpkgbghhpgaaaGreatDoor.Sx
open AV
section
variable {g0 g g' : Gh} {st0 st : St} {w0 w w' : World} {f f' : Fh} {fr : Fr} {tmps : Array Value} {ds : List Deferred} {P : Program} {n n' m : Nat} {o : Oper} {I : Nat → Nat → Prop}
theorem set_last {l : List Nat} {a b : Nat} : (l ++ [a]).set l.length b = l ++ [b] := by
  rw [List.set_append_right _ _ (Nat.le_refl _)]; simp
theorem elsOf_cases {sz : Nat} {v : AV} {els : List (List AV)} (h : elsOf sz v = some els) : (v = .nilslice ∧ els = []) ∨ ∃ own, v = .slice sz els own := by
  unfold elsOf at h
  split at h
  · cases h; exact .inl ⟨rfl, rfl⟩
  · split at h
    · rename_i e; cases h; subst e; exact .inr ⟨_, rfl⟩
    · cases h
  · cases h
theorem ok_append {x' y' : Opd} {sz bytes : Nat} {v : AV} {fr' : Fr} {st' : St} (hI : Inv g0 st0 w0 g f fr st w tmps) (hc : chkOp P o (.append x' y' sz bytes) = true) (hs : step fr st (.append x' y' sz bytes) = some (v, fr', st')) : OpGoal P o tmps ds g0 st0 w0 w v fr' st' := by
  obtain ⟨dst, op, ty, pos, aft, gd⟩ := o
  simp only [chkOp] at hc
  cases op <;> first
    | (simp at hc; done)
    | skip
  rename_i c
  obtain ⟨cal, ⟨args⟩, ⟨ats⟩⟩ := c
  simp only [chkCall] at hc
  split at hc <;> first
    | (cases hc; done)
    | skip
  rename_i a b t u
  simp only [Bool.and_eq_true, beq_iff_eq] at hc
  obtain ⟨⟨⟨rfl, ha⟩, hb⟩, hty⟩ := hc
  split at hty
  case h_2 => cases hty
  rename_i e hu
  split at hty
  case h_2 => cases hty
  rename_i i hi
  simp only [Bool.and_eq_true, beq_iff_eq, decide_eq_true_eq] at hty
  obtain ⟨⟨⟨⟨q1, q2⟩, q3⟩, q4⟩, q5⟩ := hty
  split at q5
  case h_2 => cases q5
  rename_i z hz
  have hT : AppTy P t e i z sz bytes := ⟨hu, hi, hz, q1, q2, q3, q4, by simpa using q5⟩
  have hx := opd_rep (ds := ds) hI ha
  have hy := opd_rep (ds := ds) hI hb
  have fin : ∀ {g' f' w' c}, (Builtin.append_ #[t, t] ty #[Act.eval ⟨tmps, ds⟩ a, Act.eval ⟨tmps, ds⟩ b]).run P w = .ok c w' → Rep g' f' st'.size w' v c → Inv g0 st0 w0 g' f' fr' st' w' tmps →
      OpGoal P ⟨dst, .call ⟨.builtin .append, ⟨[a, b]⟩, ⟨[t, t]⟩⟩, ty, pos, aft, gd⟩ tmps ds g0 st0 w0 w v fr' st' := fun hr hrep hi =>
    ⟨.value _, _, _, _, _, by simp [execOp, resolve, invoke, builtin, hr], .inl rfl, hrep, hi⟩
  simp only [step] at hs
  unfold aappend at hs
  split at hs
  case h_2 => cases hs
  rename_i els ys hex hey
  split at hs
  case isFalse => cases hs
  rename_i hbig
  generalize x'.ev fr = xv at hx hs hex
  generalize y'.ev fr = yv at hy hey
  split at hs
  ·
    rename_i hyn
    have hyn : ys = [] := by simpa using hyn
    subst hyn
    cases hs
    refine fin (g' := g) (f' := f) (w' := w) (c := Act.eval ⟨tmps, ds⟩ a) ?_ hx hI
    have hfy : ∃ bb mm, Act.eval ⟨tmps, ds⟩ b = .slice bb 0 mm := by
      rcases elsOf_cases hey with ⟨rfl, _⟩ | ⟨own, rfl⟩
      · exact ⟨_, _, hy.nilslice_inv⟩
      · obtain ⟨_, ad, cap, vs, e, _⟩ := hy.slice_inv.1.slice_inv; exact ⟨_, _, e⟩
    obtain ⟨bb, mm, hbe⟩ := hfy
    have hf0 : (Builtin.firstCells i.size 0 (.slice bb 0 mm)).run P w = .ok #[] w := by
      cases bb with
      | none => simp [Builtin.firstCells]
      | some bb => simp [Builtin.firstCells, loadCells, loadCellsFrom]
    rcases elsOf_cases hex with ⟨rfl, _⟩ | ⟨own, rfl⟩
    · rw [hx.nilslice_inv, hbe]
      simp [Builtin.append_, run_underlying hu, sizeOf, typeInfo, hi, Builtin.lenOf, hf0]
    · obtain ⟨_, ad, cap, vs, e, _, hcap, _⟩ := hx.slice_inv.1.slice_inv
      rw [e, hbe]
      simp [Builtin.append_, run_underlying hu, sizeOf, typeInfo, hi, Builtin.lenOf, hf0, hcap, storeCells]
  · rename_i hyn
    have hyp : 1 ≤ ys.length := Nat.one_le_iff_ne_zero.2 fun h => hyn (by simp [List.eq_nil_of_length_eq_zero h])
    split at hs
    case h_2 => cases hs
    rename_i ow fr1 st1 hg
    cases hs
    obtain ⟨own, rfl⟩ : ∃ own, yv = .slice sz ys own := by
      rcases elsOf_cases hey with ⟨rfl, h⟩ | h
      · subst h; simp at hyp
      · exact h
    obtain ⟨_, ba, mm, vb, hbe, huy, hcapy, hrowy⟩ := hy.slice_inv.1.slice_inv
    have hfy := flat_len huy
    have e3 : (rowOf vb ys.flatten.length).length = ys.length * sz := by simp only [rowOf, List.length_map, List.length_range]; exact hfy
    have hle : els.length + ys.length ≤ 1099511627776 := Nat.le_trans (Nat.le_mul_of_pos_right _ hT.bpos) hbig
    obtain ⟨hI1, hnone⟩ := hI.tokDead
    unfold grow at hg
    split at hg
    ·
      cases hg
      have : els = [] := by
        rcases elsOf_cases hex with ⟨_, h⟩ | ⟨_, h⟩
        · exact h
        · cases h
      subst this
      obtain ⟨g', f', k1, k2⟩ := hI1.tokNew (ty := ty) (old := 0) (xs := []) (a := ⟨0, 0, none⟩) (va := fun _ => undef) hT (fun x hx => by simp at hx) huy RowRep.nil hrowy (k := fr.ftoks.length) (by simp) (hnone _) hyp (fun L x hh => by rw [hnone] at hh; cases hh) hbig
      simp only [set_last] at k1
      simp only [List.nil_append, List.flatten_nil, List.length_nil, Nat.zero_add] at k1 k2 fin ⊢
      have e0 : (rowOf (fun _ => undef) 0).toArray = #[] := rfl
      rw [e0] at k1 k2
      simp only [Array.empty_append] at k1 k2
      refine fin ?_ k2 k1
      rw [hx.nilslice_inv, hbe]
      exact run_append_nil w t ty e i z hu hi hz ba ys.length mm _ (by rw [hT.size]; exact e3) (fun j u hu => row_cells hrowy j u hu) (by omega) (by omega) (Nat.le_trans (Nat.mul_le_mul_left _ hT.le) (by simp at hbig; omega))
    ·
      rename_i s0 els0
      cases hg
      obtain ⟨rfl, rfl⟩ : s0 = sz ∧ els0 = els := by
        rcases elsOf_cases hex with ⟨h, _⟩ | ⟨_, h⟩
        · cases h
        · cases h; exact ⟨rfl, rfl⟩
      obtain ⟨hp, a0, hte⟩ := hx.slice_inv
      obtain ⟨_, aa, cap, va, hae, hux, hcapx, hrowx⟩ := hp.slice_inv
      rw [hae] at hte
      cases hte
      have e4 : (rowOf va els0.flatten.length).length = els0.length * s0 := by simp only [rowOf, List.length_map, List.length_range]; exact flat_len hux
      obtain ⟨g', f', k1, k2⟩ := hI1.tokNew (ty := ty) (old := els0.length) (xs := els0) hT hux huy hrowx hrowy (k := fr.ftoks.length) (by simp) (hnone _) hyp (fun L x hh => by rw [hnone] at hh; cases hh) hbig
      simp only [set_last] at k1
      refine fin ?_ k2 k1
      rw [hae, hbe]
      exact run_append_grow w t ty e i z hu hi hz aa els0.length els0.length _ (by rw [hT.size]; exact e4) (fun j u hu => row_cells hrowx j u hu) ba ys.length mm _ (by rw [hT.size]; exact e3)
        (fun j u hu => row_cells hrowy j u hu) (by omega) (by omega) (growslice_fits (by omega) (Nat.le_trans (Nat.mul_le_mul_left _ hT.le) (by omega)))
    ·
      rename_i s0 els0 k
      split at hg
      case isFalse => cases hg
      rename_i hk
      cases hg
      obtain ⟨rfl, rfl⟩ : s0 = sz ∧ els0 = els := by
        rcases elsOf_cases hex with ⟨h, _⟩ | ⟨_, h⟩
        · cases h
        · cases h; exact ⟨rfl, rfl⟩
      obtain ⟨g', f', w', c', k0, k1, k2⟩ := hI.tokGrow (ty := ty) (m := mm) hT hx hk.1 hk.2 huy hrowy hyp hbig
      rw [← hbe] at k0
      exact fin k0 k2 k1
    ·
      rename_i s0 els0 id off
      split at hg
      case h_2 => cases hg
      rename_i cs hcs
      split at hg
      case h_2 => cases hg
      rename_i s1 els1 id1 off1 hold
      split at hg
      case isFalse => cases hg
      rename_i hh
      obtain ⟨rfl, rfl, hll, hne⟩ := hh
      cases hg
      obtain ⟨rfl, rfl⟩ : s0 = sz ∧ els0 = els := by
        rcases elsOf_cases hex with ⟨h, _⟩ | ⟨_, h⟩
        · cases h
        · cases h; exact ⟨rfl, rfl⟩
      obtain ⟨hp, hid, hhd⟩ := hx.slice_inv
      obtain ⟨c1, r1, _⟩ := hI.h.row _ cs _ s1 els1 hcs hold
      rw [hll, hhd] at r1
      cases r1
      have hpos : 1 ≤ els0.length := Nat.one_le_iff_ne_zero.2 fun h => hne (List.eq_nil_of_length_eq_zero h)
      have hI2 := hI.heapGive hcs hold (by omega) (by rw [hll]; exact hhd)
      rw [hll] at hI2
      have hx2 : Rep g (f.head fr.ftoks.length els0.length (Act.eval ⟨tmps, ds⟩ a, s0)) (st.setCells id1 (cs.set off1 (.slice s0 els1 (.spent id1 off1)))).size w (.slice s0 els0 (.ftok fr.ftoks.length)) (Act.eval ⟨tmps, ds⟩ a) :=
        .slice _ _ _ _ hp (by show (if _ then _ else _) = _; simp)
      obtain ⟨g', f', w', c', k0, k1, k2⟩ := hI2.tokGrow (ty := ty) (m := mm) hT hx2 (by simp) hne huy hrowy hyp hbig
      rw [← hbe] at k0
      simp only [set_last] at k1
      exact fin k0 k2 k1
    · cases hg
end
end Go.Proofs.YtelpkgbghhpgaaaGreatDoor.Sx
end
