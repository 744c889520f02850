/- TreeReads returns true for all texts whose data are not larger than a bound. The document's reader of expressions: what has no operators outside; the whole, closed. The document's reader of expressions: comparisons; the whole, closed. The document's ParseExpr, from its lexer on. -/
import Derived.Test.YtelpkgbghhpgaaaGreatDoorR31
import Derived.Test.YtelpkgbghhpgaaaGreatDoorR32
set_option linter.all false
section
set_option maxRecDepth 100000
namespace Go.Proofs.YtelpkgbghhpgaaaGreatDoor.Sx
theorem isS_ne {t : Tok} {s u : List UInt8} (h : isS t s = true) (hn : (s == u) = false) : isS t u = false := by
  unfold isS at h ⊢
  simp only [Bool.and_eq_true] at h
  rw [eq_of_beq h.2, hn, Bool.and_false]
section
variable {st : St} {id a : Nat} {l : List Tok} {Q : Res → St → Prop} {o : HObj} {e : Nat → PR Xp}
theorem rsigned_ok (hid : id < st.size) (hl : l.length < 65536) (hT : ∀ t ∈ l, TokOk t) (n : Nat) (hn : n ≤ 65536) (he : RReads eX st id l 28 [.ptr id 0] e) (ha : a ≤ l.length)
    (e1 : ((tokAt l a).kind == 1) = false) (e2 : (tokAt l a).kind ≠ 2 ∨ ¬ ((tokAt l a).text.length : Int) ≤ 2048) (e3 : ((tokAt l a).kind == 3) = false) (e4 : ((tokAt l a).kind == 0) = false)
    (hQ : RR eX st id l Q (spSigned l e n a)) : CallA S 277 [.ptr id 0] (VR st id l a false) Q := by
  refine callA_body (by rfl) (by rfl) rfl ?_
  unfold spSigned at hQ
  have hsv : ∀ (w : List UInt8) (Q : Res → St → Prop), w ≠ [] → signOf (tokAt l a) [[46, 84, 46], [46, 70, 46], [46, 78, 85, 76, 76, 46], [40], [123], [64]] = w → CallA S 126 [.ptr id 0, .slice 1 [[.str [46, 84, 46]], [.str [46, 70, 46]], [.str [46, 78, 85, 76, 76, 46]], [.str [40]], [.str [123]], [.str [64]]] .no] (VR st id l a false) Q = Q (.ret (.str w)) (VR st id l (a + 1) false) := by
    intro w Q hw hs
    have := rsign_eq (Q := Q) (st := st) hid hl ha [[46, 84, 46], [46, 70, 46], [46, 78, 85, 76, 76, 46], [40], [123], [64]] (by decide) (by decide)
    rw [hs, if_neg hw] at this
    exact this
  have hsn : ∀ (Q : Res → St → Prop), signOf (tokAt l a) [[46, 84, 46], [46, 70, 46], [46, 78, 85, 76, 76, 46], [40], [123], [64]] = [] → CallA S 126 [.ptr id 0, .slice 1 [[.str [46, 84, 46]], [.str [46, 70, 46]], [.str [46, 78, 85, 76, 76, 46]], [.str [40]], [.str [123]], [.str [64]]] .no] (VR st id l a false) Q = Q (.ret (.str [])) (VR st id l a false) := by
    intro Q hs
    have := rsign_eq (Q := Q) (st := st) hid hl ha [[46, 84, 46], [46, 70, 46], [46, 78, 85, 76, 76, 46], [40], [123], [64]] (by decide) (by decide)
    rw [hs, if_pos rfl] at this
    exact this
  have k2 : ((tokAt l a).kind == 2) = false ∨ ((tokAt l a).kind == 2) = true ∧ ¬ ((tokAt l a).text.length : Int) ≤ 2048 := by
    cases hk : ((tokAt l a).kind == 2) with
    | false => exact .inl rfl
    | true => exact .inr ⟨rfl, e2.resolve_left (fun h => h (eq_of_beq hk))⟩
  cases h1 : isS (tokAt l a) [38] with
  | true =>
    simp only [h1, if_true] at hQ
    rcases k2 with k2 | ⟨k2, k3⟩
    · simp only [b277, go_sem, VR_cells hid, rtoken0 hid hl ha, e1, k2, e3, e4, risSign0 hid hl ha, h1]
      refine rmacro_ok hid hl hT he a _ ha (RR_mono hQ (fun x a ha hQ => ?_) (fun a ha hQ x => ?_))
      · simp only [go_sem, VR_size, VR_trunc]; exact hQ
      · simp only [go_sem, VR_size, VR_trunc]; exact hQ x
    · simp only [b277, go_sem, VR_cells hid, rtoken0 hid hl ha, e1, k2, k3, e3, e4, risSign0 hid hl ha, h1]
      refine rmacro_ok hid hl hT he a _ ha (RR_mono hQ (fun x a ha hQ => ?_) (fun a ha hQ x => ?_))
      · simp only [go_sem, VR_size, VR_trunc]; exact hQ
      · simp only [go_sem, VR_size, VR_trunc]; exact hQ x
  | false =>
  simp only [h1, Bool.false_eq_true, if_false] at hQ
  cases h2 : isS (tokAt l a) [46, 84, 46] with
  | true =>
    have hlt := isS_lt h2
    simp only [h2, if_true] at hQ
    have hs : signOf (tokAt l a) [[46, 84, 46], [46, 70, 46], [46, 78, 85, 76, 76, 46], [40], [123], [64]] = [46, 84, 46] := by
      simp only [signOf, h2, if_true, Bool.false_eq_true, if_false]
    rcases k2 with k2 | ⟨k2, k3⟩
    · simp only [b277, go_sem, VR_cells hid, rtoken0 hid hl ha, e1, k2, e3, e4, risSign0 hid hl ha, h1, hsv [46, 84, 46] _ (by decide) hs, (show (([46, 84, 46] : List UInt8) == [46, 84, 46]) = true from rfl), rtruth_eq, wrong_eq hid, VR_size, VR_trunc]
      exact RR_ok hQ (by omega)
    · simp only [b277, go_sem, VR_cells hid, rtoken0 hid hl ha, e1, k2, k3, e3, e4, risSign0 hid hl ha, h1, hsv [46, 84, 46] _ (by decide) hs, (show (([46, 84, 46] : List UInt8) == [46, 84, 46]) = true from rfl), rtruth_eq, wrong_eq hid, VR_size, VR_trunc]
      exact RR_ok hQ (by omega)
  | false =>
  simp only [h2, Bool.false_eq_true, if_false] at hQ
  cases h3 : isS (tokAt l a) [46, 70, 46] with
  | true =>
    have hlt := isS_lt h3
    simp only [h3, if_true] at hQ
    have hs : signOf (tokAt l a) [[46, 84, 46], [46, 70, 46], [46, 78, 85, 76, 76, 46], [40], [123], [64]] = [46, 70, 46] := by
      simp only [signOf, isS_ne (u := [46, 84, 46]) h3 (by rfl), h3, if_true, Bool.false_eq_true, if_false]
    rcases k2 with k2 | ⟨k2, k3⟩
    · simp only [b277, go_sem, VR_cells hid, rtoken0 hid hl ha, e1, k2, e3, e4, risSign0 hid hl ha, h1, hsv [46, 70, 46] _ (by decide) hs, (show (([46, 70, 46] : List UInt8) == [46, 84, 46]) = false from rfl), (show (([46, 70, 46] : List UInt8) == [46, 70, 46]) = true from rfl), rtruth_eq, wrong_eq hid, VR_size, VR_trunc]
      exact RR_ok hQ (by omega)
    · simp only [b277, go_sem, VR_cells hid, rtoken0 hid hl ha, e1, k2, k3, e3, e4, risSign0 hid hl ha, h1, hsv [46, 70, 46] _ (by decide) hs, (show (([46, 70, 46] : List UInt8) == [46, 84, 46]) = false from rfl), (show (([46, 70, 46] : List UInt8) == [46, 70, 46]) = true from rfl), rtruth_eq, wrong_eq hid, VR_size, VR_trunc]
      exact RR_ok hQ (by omega)
  | false =>
  simp only [h3, Bool.false_eq_true, if_false] at hQ
  cases h4 : isS (tokAt l a) [46, 78, 85, 76, 76, 46] with
  | true =>
    have hlt := isS_lt h4
    simp only [h4, if_true] at hQ
    have hs : signOf (tokAt l a) [[46, 84, 46], [46, 70, 46], [46, 78, 85, 76, 76, 46], [40], [123], [64]] = [46, 78, 85, 76, 76, 46] := by
      simp only [signOf, isS_ne (u := [46, 84, 46]) h4 (by rfl), isS_ne (u := [46, 70, 46]) h4 (by rfl), h4, if_true, Bool.false_eq_true, if_false]
    rcases k2 with k2 | ⟨k2, k3⟩
    · simp only [b277, go_sem, VR_cells hid, rtoken0 hid hl ha, e1, k2, e3, e4, risSign0 hid hl ha, h1, hsv [46, 78, 85, 76, 76, 46] _ (by decide) hs, (show (([46, 78, 85, 76, 76, 46] : List UInt8) == [46, 84, 46]) = false from rfl), (show (([46, 78, 85, 76, 76, 46] : List UInt8) == [46, 70, 46]) = false from rfl), (show (([46, 78, 85, 76, 76, 46] : List UInt8) == [46, 78, 85, 76, 76, 46]) = true from rfl), rtruth_eq, wrong_eq hid, VR_size, VR_trunc]
      exact RR_ok hQ (by omega)
    · simp only [b277, go_sem, VR_cells hid, rtoken0 hid hl ha, e1, k2, k3, e3, e4, risSign0 hid hl ha, h1, hsv [46, 78, 85, 76, 76, 46] _ (by decide) hs, (show (([46, 78, 85, 76, 76, 46] : List UInt8) == [46, 84, 46]) = false from rfl), (show (([46, 78, 85, 76, 76, 46] : List UInt8) == [46, 70, 46]) = false from rfl), (show (([46, 78, 85, 76, 76, 46] : List UInt8) == [46, 78, 85, 76, 76, 46]) = true from rfl), rtruth_eq, wrong_eq hid, VR_size, VR_trunc]
      exact RR_ok hQ (by omega)
  | false =>
  simp only [h4, Bool.false_eq_true, if_false] at hQ
  cases h5 : isS (tokAt l a) [40] with
  | true =>
    have hlt := isS_lt h5
    simp only [h5, if_true] at hQ
    have hs : signOf (tokAt l a) [[46, 84, 46], [46, 70, 46], [46, 78, 85, 76, 76, 46], [40], [123], [64]] = [40] := by
      simp only [signOf, isS_ne (u := [46, 84, 46]) h5 (by rfl), isS_ne (u := [46, 70, 46]) h5 (by rfl), isS_ne (u := [46, 78, 85, 76, 76, 46]) h5 (by rfl), h5, if_true, Bool.false_eq_true, if_false]
    rcases k2 with k2 | ⟨k2, k3⟩
    · simp only [b277, go_sem, VR_cells hid, rtoken0 hid hl ha, e1, k2, e3, e4, risSign0 hid hl ha, h1, hsv [40] _ (by decide) hs, (show (([40] : List UInt8) == [46, 84, 46]) = false from rfl), (show (([40] : List UInt8) == [46, 70, 46]) = false from rfl), (show (([40] : List UInt8) == [46, 78, 85, 76, 76, 46]) = false from rfl), (show (([40] : List UInt8) == [40]) = true from rfl), rtruth_eq, wrong_eq hid]
      refine he (a + 1) _ (by omega) (RR_step hQ (fun x a ha hQ => ?_) (fun a ha hQ x => (by simp only [go_sem, rwant_f hid, VR_size, VR_trunc]; exact hQ x)))
      simp only [go_sem]
      refine rwant_ok hid hl _ a _ ha (RR_step hQ (fun u a ha hQ => ?_) (fun a ha hQ u => (by simp only [go_sem, VR_size, VR_trunc]; exact hQ x)))
      simp only [go_sem, VR_size, VR_trunc]
      exact RR_ok hQ ha
    · simp only [b277, go_sem, VR_cells hid, rtoken0 hid hl ha, e1, k2, k3, e3, e4, risSign0 hid hl ha, h1, hsv [40] _ (by decide) hs, (show (([40] : List UInt8) == [46, 84, 46]) = false from rfl), (show (([40] : List UInt8) == [46, 70, 46]) = false from rfl), (show (([40] : List UInt8) == [46, 78, 85, 76, 76, 46]) = false from rfl), (show (([40] : List UInt8) == [40]) = true from rfl), rtruth_eq, wrong_eq hid]
      refine he (a + 1) _ (by omega) (RR_step hQ (fun x a ha hQ => ?_) (fun a ha hQ x => (by simp only [go_sem, rwant_f hid, VR_size, VR_trunc]; exact hQ x)))
      simp only [go_sem]
      refine rwant_ok hid hl _ a _ ha (RR_step hQ (fun u a ha hQ => ?_) (fun a ha hQ u => (by simp only [go_sem, VR_size, VR_trunc]; exact hQ x)))
      simp only [go_sem, VR_size, VR_trunc]
      exact RR_ok hQ ha
  | false =>
  simp only [h5, Bool.false_eq_true, if_false] at hQ
  cases h6 : isS (tokAt l a) [64] with
  | true =>
    have hlt := isS_lt h6
    simp only [h6, if_true] at hQ
    have hs : signOf (tokAt l a) [[46, 84, 46], [46, 70, 46], [46, 78, 85, 76, 76, 46], [40], [123], [64]] = [64] := by
      simp only [signOf, isS_ne (u := [46, 84, 46]) h6 (by rfl), isS_ne (u := [46, 70, 46]) h6 (by rfl), isS_ne (u := [46, 78, 85, 76, 76, 46]) h6 (by rfl), isS_ne (u := [40]) h6 (by rfl), isS_ne (u := [123]) h6 (by rfl), h6, if_true, Bool.false_eq_true, if_false]
    rcases k2 with k2 | ⟨k2, k3⟩
    · simp only [b277, go_sem, VR_cells hid, rtoken0 hid hl ha, e1, k2, e3, e4, risSign0 hid hl ha, h1, hsv [64] _ (by decide) hs, (show (([64] : List UInt8) == [46, 84, 46]) = false from rfl), (show (([64] : List UInt8) == [46, 70, 46]) = false from rfl), (show (([64] : List UInt8) == [46, 78, 85, 76, 76, 46]) = false from rfl), (show (([64] : List UInt8) == [40]) = false from rfl), (show (([64] : List UInt8) == [123]) = false from rfl), (show (([64] : List UInt8) == [64]) = true from rfl), rtruth_eq, wrong_eq hid]
      refine rname_ok hid hl hT (a + 1) _ (by omega) (RR_step hQ (fun s a ha hQ => ?_) (fun a ha hQ s => (by simp only [go_sem, VR_size, VR_trunc]; exact hQ (mkRef s))))
      simp only [go_sem, VR_size, VR_trunc]
      exact RR_ok hQ ha
    · simp only [b277, go_sem, VR_cells hid, rtoken0 hid hl ha, e1, k2, k3, e3, e4, risSign0 hid hl ha, h1, hsv [64] _ (by decide) hs, (show (([64] : List UInt8) == [46, 84, 46]) = false from rfl), (show (([64] : List UInt8) == [46, 70, 46]) = false from rfl), (show (([64] : List UInt8) == [46, 78, 85, 76, 76, 46]) = false from rfl), (show (([64] : List UInt8) == [40]) = false from rfl), (show (([64] : List UInt8) == [123]) = false from rfl), (show (([64] : List UInt8) == [64]) = true from rfl), rtruth_eq, wrong_eq hid]
      refine rname_ok hid hl hT (a + 1) _ (by omega) (RR_step hQ (fun s a ha hQ => ?_) (fun a ha hQ s => (by simp only [go_sem, VR_size, VR_trunc]; exact hQ (mkRef s))))
      simp only [go_sem, VR_size, VR_trunc]
      exact RR_ok hQ ha
  | false =>
  simp only [h6, Bool.false_eq_true, if_false] at hQ
  cases h7 : isS (tokAt l a) [123] with
  | true =>
    have hlt := isS_lt h7
    simp only [h7, if_true] at hQ
    have hs : signOf (tokAt l a) [[46, 84, 46], [46, 70, 46], [46, 78, 85, 76, 76, 46], [40], [123], [64]] = [123] := by
      simp only [signOf, isS_ne (u := [46, 84, 46]) h7 (by rfl), isS_ne (u := [46, 70, 46]) h7 (by rfl), isS_ne (u := [46, 78, 85, 76, 76, 46]) h7 (by rfl), isS_ne (u := [40]) h7 (by rfl), h7, if_true, Bool.false_eq_true, if_false]
    rcases k2 with k2 | ⟨k2, k3⟩
    · simp only [b277, go_sem, VR_cells hid, rtoken0 hid hl ha, e1, k2, e3, e4, risSign0 hid hl ha, h1, hsv [123] _ (by decide) hs, (show (([123] : List UInt8) == [46, 84, 46]) = false from rfl), (show (([123] : List UInt8) == [46, 70, 46]) = false from rfl), (show (([123] : List UInt8) == [46, 78, 85, 76, 76, 46]) = false from rfl), (show (([123] : List UInt8) == [40]) = false from rfl), (show (([123] : List UInt8) == [123]) = true from rfl), rtruth_eq, wrong_eq hid]
      refine rbraces_ok hid hl hT n hn he (a + 1) _ (by omega) (RR_mono hQ (fun x a ha hQ => ?_) (fun a ha hQ x => ?_))
      · simp only [go_sem, VR_size, VR_trunc]; exact hQ
      · simp only [go_sem, VR_size, VR_trunc]; exact hQ x
    · simp only [b277, go_sem, VR_cells hid, rtoken0 hid hl ha, e1, k2, k3, e3, e4, risSign0 hid hl ha, h1, hsv [123] _ (by decide) hs, (show (([123] : List UInt8) == [46, 84, 46]) = false from rfl), (show (([123] : List UInt8) == [46, 70, 46]) = false from rfl), (show (([123] : List UInt8) == [46, 78, 85, 76, 76, 46]) = false from rfl), (show (([123] : List UInt8) == [40]) = false from rfl), (show (([123] : List UInt8) == [123]) = true from rfl), rtruth_eq, wrong_eq hid]
      refine rbraces_ok hid hl hT n hn he (a + 1) _ (by omega) (RR_mono hQ (fun x a ha hQ => ?_) (fun a ha hQ x => ?_))
      · simp only [go_sem, VR_size, VR_trunc]; exact hQ
      · simp only [go_sem, VR_size, VR_trunc]; exact hQ x
  | false =>
  simp only [h7, Bool.false_eq_true, if_false] at hQ
  have hs : signOf (tokAt l a) [[46, 84, 46], [46, 70, 46], [46, 78, 85, 76, 76, 46], [40], [123], [64]] = [] := by simp only [signOf, h2, h3, h4, h5, h6, h7, Bool.false_eq_true, if_false]
  rcases k2 with k2 | ⟨k2, k3⟩
  · simp only [b277, go_sem, VR_cells hid, rtoken0 hid hl ha, e1, k2, e3, e4, risSign0 hid hl ha, h1, hsn _ hs, (show (([] : List UInt8) == [46, 84, 46]) = false from rfl), (show (([] : List UInt8) == [46, 70, 46]) = false from rfl), (show (([] : List UInt8) == [46, 78, 85, 76, 76, 46]) = false from rfl), (show (([] : List UInt8) == [40]) = false from rfl), (show (([] : List UInt8) == [123]) = false from rfl), (show (([] : List UInt8) == [64]) = false from rfl), rtruth_eq, wrong_eq hid, VR_size, VR_trunc]
    exact RR_fail hQ ha zeroX
  · simp only [b277, go_sem, VR_cells hid, rtoken0 hid hl ha, e1, k2, k3, e3, e4, risSign0 hid hl ha, h1, hsn _ hs, (show (([] : List UInt8) == [46, 84, 46]) = false from rfl), (show (([] : List UInt8) == [46, 70, 46]) = false from rfl), (show (([] : List UInt8) == [46, 78, 85, 76, 76, 46]) = false from rfl), (show (([] : List UInt8) == [40]) = false from rfl), (show (([] : List UInt8) == [123]) = false from rfl), (show (([] : List UInt8) == [64]) = false from rfl), rtruth_eq, wrong_eq hid, VR_size, VR_trunc]
    exact RR_fail hQ ha zeroX
theorem rprim_ok (hid : id < st.size) (hl : l.length < 65536) (hT : ∀ t ∈ l, TokOk t) (n : Nat) (hn : n ≤ 65536) (he : RReads eX st id l 28 [.ptr id 0] e) : RReads eX st id l 277 [.ptr id 0] (spPrim l e n) := by
  intro a Q ha hQ
  unfold spPrim at hQ
  by_cases h1 : (tokAt l a).kind = 1
  · have hlt := tokAt_lt (l := l) (i := a) (by omega)
    rw [if_pos h1] at hQ
    obtain ⟨n1, n2, n3⟩ := (tokOk_at hT a).num h1
    refine callA_body (by rfl) (by rfl) rfl ?_
    simp only [b277, go_sem, VR_cells hid, rtoken0 hid hl ha, h1, next_eq hid (show a < 65536 by omega), rval_eq _ n1 n2 n3, rnum_eq, VR_size, VR_trunc]
    exact RR_ok hQ (by omega)
  · rw [if_neg h1] at hQ
    have d1 : ((tokAt l a).kind == 1) = false := by simp [h1]
    by_cases h2 : (tokAt l a).kind = 2
    · have hlt := tokAt_lt (l := l) (i := a) (by omega)
      rw [if_pos h2] at hQ
      by_cases hlen : ((tokAt l a).text.length : Int) > 2048
      · rw [if_pos hlen] at hQ
        refine rsigned_ok hid hl hT n hn he ha d1 (.inr (by omega)) (by simp [h2]) (by simp [h2]) ?_
        have no : ∀ s, isS (tokAt l a) s = false := fun s => by simp [isS, h2]
        unfold spSigned
        simp only [no, Bool.false_eq_true, if_false]
        exact hQ
      · rw [if_neg hlen] at hQ
        have hle : ((tokAt l a).text.length : Int) ≤ 2048 := by omega
        have e1 : ((2 : Int) == 1) = false := rfl
        refine callA_body (by rfl) (by rfl) rfl ?_
        simp only [b277, go_sem, VR_cells hid, rtoken0 hid hl ha, h2, e1, hle, next_eq hid (show a < 65536 by omega), rtext_eq, VR_size, VR_trunc]
        exact RR_ok hQ (by omega)
    · rw [if_neg h2] at hQ
      have d2 : ((tokAt l a).kind == 2) = false := by simp [h2]
      by_cases h3 : (tokAt l a).kind = 3
      · have hlt := tokAt_lt (l := l) (i := a) (by omega)
        rw [if_pos h3] at hQ
        have e1 : ((3 : Int) == 1) = false := rfl
        have e2 : ((3 : Int) == 2) = false := rfl
        refine callA_body (by rfl) (by rfl) rfl ?_
        simp only [b277, go_sem, VR_cells hid, rtoken0 hid hl ha, h3, e1, e2, next_eq hid (show a < 65536 by omega), runstamp_eq _ (tokOk_at hT a).len, rdate_eq, VR_size, VR_trunc]
        exact RR_ok hQ (by omega)
      · rw [if_neg h3] at hQ
        have d3 : ((tokAt l a).kind == 3) = false := by simp [h3]
        by_cases h4 : (tokAt l a).kind = 0
        · rw [if_pos h4] at hQ
          have e1 : ((0 : Int) == 1) = false := rfl
          have e2 : ((0 : Int) == 2) = false := rfl
          have e3 : ((0 : Int) == 3) = false := rfl
          refine callA_body (by rfl) (by rfl) rfl ?_
          simp only [b277, go_sem, VR_cells hid, rtoken0 hid hl ha, h4, e1, e2, e3]
          refine rnamed_ok hid hl hT n hn he a _ ha (RR_mono hQ (fun x a ha hQ => ?_) (fun a ha hQ x => ?_))
          · simp only [go_sem, VR_size, VR_trunc]; exact hQ
          · simp only [go_sem, VR_size, VR_trunc]; exact hQ x
        · rw [if_neg h4] at hQ
          exact rsigned_ok hid hl hT n hn he ha d1 (.inl h2) d3 (by simp [h4]) hQ
theorem runary_ok (hid : id < st.size) (hl : l.length < 65536) (hT : ∀ t ∈ l, TokOk t) (n : Nat) (hn : n ≤ 65536) (rec : Nt → Nat → PR Xp) (he : RReads eX st id l 28 [.ptr id 0] (rec .expr))
    (hu : RReads eX st id l 247 [.ptr id 0] (rec .unary)) : RReads eX st id l 247 [.ptr id 0] (spStep l rec n .unary) := by
  intro a Q ha hQ
  refine callA_body (by rfl) (by rfl) rfl ?_
  simp only [spStep] at hQ
  cases h : isS (tokAt l a) [45] with
  | true =>
    have hlt := isS_lt h
    simp only [h, if_true] at hQ
    simp only [b247, go_sem, take_yes hid hl ha h]
    refine hu (a + 1) _ (by omega) (RR_step hQ (fun x a ha hQ => ?_) (fun a ha hQ x => (by simp only [go_sem, VR_size, VR_trunc]; exact hQ (mkUn [45] x))))
    simp only [go_sem, VR_size, VR_trunc]
    exact RR_ok hQ ha
  | false =>
    simp only [h, Bool.false_eq_true, if_false] at hQ
    simp only [b247, go_sem, take_no hid hl ha h]
    refine rprim_ok hid hl hT n hn he a _ ha (RR_step hQ (fun x a ha hQ => ?_) (fun a ha hQ x => ?_))
    · simp only [go_sem]
      refine wp_loop (fun m fr st' => ∃ x cs a ser ser2 fl lx, (fl = false → RR eX st id l Q (spIdx l (rec .expr) m x a)) ∧ (fl = true → ∀ y, Q (.ret (eX y)) (VR st id l a true)) ∧ a ≤ l.length ∧ st' = VR st id l a fl ∧ (cs.length = 7 ∧ cs.map AV.strip1 = encX x ∧ cs.all AV.okIn = true) ∧
        fr = ⟨[(0, .ptr id 0), (2, .lptr 0 1 0), (3, .lptr 1 ser 0)], [(1, [.int .i64 0, .str [], .int .i64 0, .int .i64 0, .str [], .nilslice, .nilslice]), (ser, cs), lx], [], ser2⟩) n ⟨x, encX x, a, _, _, false, _, fun _ => hQ, (fun h => by cases h), ha, rfl, ⟨encX_length x, encX_strip1 x, encX_okIn x⟩, rfl⟩ ?_
      rintro m fr st' ⟨x, cs, a, ser, ser2, fl, lx, h1, h2, ha, rfl, ⟨hc1, hc2, hc3⟩, rfl⟩
      have hc4 : cs.take 7 = cs := List.take_of_length_le (by omega)
      have hc5 : cs.drop 7 = [] := List.drop_of_length_le (by omega)
      cases fl with
      | true =>
        simp only [b247l0, go_sem, take_f hid, hc1, hc2, hc3, hc4, hc5, VR_size, VR_trunc]
        exact h2 rfl x
      | false =>
      have hQ := h1 rfl
      clear h1 h2
      cases m with
      | zero => exact hQ.elim
      | succ m =>
        simp only [spIdx] at hQ
        cases h : isS (tokAt l a) [91] with
        | false =>
          simp only [h, Bool.false_eq_true, if_false] at hQ
          simp only [b247l0, go_sem, take_no hid hl ha h, hc1, hc2, hc3, hc4, hc5, VR_size, VR_trunc]
          exact RR_ok hQ ha
        | true =>
          have hlt := isS_lt h
          simp only [h, if_true] at hQ
          simp only [b247l0, go_sem, take_yes hid hl ha h, hc1, hc4]
          refine he (a + 1) _ (by omega) (RR_step hQ (fun i a ha hQ => ?_) (fun a ha hQ i => ?_))
          · simp only [go_sem, hc1, hc2, hc3, hc4, hc5]
            refine rwant_ok hid hl _ a _ ha (RR_step hQ (fun u a ha hQ => ?_) (fun a ha hQ u => ?_))
            · simp only [go_sem, hc1, hc2, hc3, hc4, hc5]
              exact ⟨m, Nat.lt_succ_self m, mkIndex x i, _, a, ser, _, false, _, fun _ => hQ, (fun h => by cases h), ha, rfl, ⟨rfl, rfl, rfl⟩, rfl⟩
            · simp only [go_sem, hc1, hc2, hc3, hc4, hc5]
              exact ⟨m, Nat.lt_succ_self m, mkIndex x i, _, a, ser, _, true, _, (fun h => by cases h), fun _ => hQ, ha, rfl, ⟨rfl, rfl, rfl⟩, rfl⟩
          · simp only [go_sem, rwant_f hid, hc1, hc2, hc3, hc4, hc5]
            exact ⟨m, Nat.lt_succ_self m, mkIndex x i, _, a, ser, _, true, _, (fun h => by cases h), fun _ => hQ, ha, rfl, ⟨rfl, rfl, rfl⟩, rfl⟩
    · simp only [go_sem]
      refine wp_unroll 1 ?_
      rw [WpL_succ]
      simp only [b247l0, go_sem, take_f hid, loopN_exit, VR_size, VR_trunc]
      exact hQ x
theorem rpow_ok (hid : id < st.size) (hl : l.length < 65536) (n : Nat) (rec : Nt → Nat → PR Xp) (hp : RReads eX st id l 214 [.ptr id 0] (rec .pow))
    (hu : RReads eX st id l 247 [.ptr id 0] (rec .unary)) : RReads eX st id l 214 [.ptr id 0] (spStep l rec n .pow) := by
  intro a Q ha hQ
  refine callA_body (by rfl) (by rfl) rfl ?_
  simp only [spStep, opOf_sign 5 [[94]] (by rfl), signOf_one] at hQ
  simp only [b214, go_sem]
  refine hu a _ ha (RR_step hQ (fun x a ha hQ => ?_) (fun a ha hQ x => (by simp only [go_sem, take_f hid, VR_size, VR_trunc]; exact hQ x)))
  cases h : isS (tokAt l a) [94] with
  | false =>
    simp only [h, Bool.false_eq_true, if_false, if_true] at hQ
    simp only [go_sem, take_no hid hl ha h, VR_size, VR_trunc]
    exact RR_ok hQ ha
  | true =>
    have hlt := isS_lt h
    simp only [h, if_true] at hQ
    rw [if_neg (by decide)] at hQ
    simp only [go_sem, take_yes hid hl ha h]
    refine hp (a + 1) _ (by omega) (RR_step hQ (fun y a' ha' hQ => ?_) (fun a' ha' hQ y => (by simp only [go_sem, bin_eq, VR_size, VR_trunc]; exact hQ (mkBin [94] x y))))
    simp only [go_sem, bin_eq, VR_size, VR_trunc]
    exact RR_ok hQ ha'
end
end Go.Proofs.YtelpkgbghhpgaaaGreatDoor.Sx
end
section
set_option maxRecDepth 100000
namespace Go.Proofs.YtelpkgbghhpgaaaGreatDoor.Sx
def normC (s : List UInt8) : List UInt8 := if s = [35] ∨ s = [33, 61] then [60, 62] else s
theorem opOf_map (k : Nat) (ws : List (List UInt8)) (g : List UInt8 → List UInt8) (g0 : g [] = []) (h : opTab k = ws.map fun w => (w, g w)) (t : Tok) : opOf k t = g (signOf t ws) := by
  unfold opOf
  rw [h]
  clear h
  by_cases hk : t.kind = 4
  · rw [if_pos hk]
    induction ws with
    | nil => exact g0.symm
    | cons w ws ih =>
      rw [List.map_cons, List.lookup_cons, signOf]
      have e : isS t w = (t.text == w) := by simp [isS, hk]
      rw [e]
      cases hw : (t.text == w) with
      | true => rfl
      | false => simpa using ih
  · rw [if_neg hk]
    induction ws with
    | nil => exact g0.symm
    | cons w ws ih =>
      have e : isS t w = false := by simp [isS, hk]
      rw [signOf, e]
      simpa using ih
section
variable {st : St} {id a : Nat} {l : List Tok} {Q : Res → St → Prop} {o : HObj}
theorem rnot_ok (hid : id < st.size) (hl : l.length < 65536) (n : Nat) (rec : Nt → Nat → PR Xp) (hn : RReads eX st id l 93 [.ptr id 0] (rec .not))
    (hs : RReads eX st id l 127 [.ptr id 0] (fun a => spSum l rec n a)) : RReads eX st id l 93 [.ptr id 0] (spStep l rec n .not) := by
  intro a Q ha hQ
  refine callA_body (by rfl) (by rfl) rfl ?_
  simp only [spStep] at hQ
  have hsg : ∀ (a : Nat) (ha : a ≤ l.length) (Q : Res → St → Prop), CallA S 126 [.ptr id 0, .slice 1 [[.str [46, 78, 79, 84, 46]], [.str [33]]] .no] (VR st id l a false) Q = Q (.ret (.str (signOf (tokAt l a) [[46, 78, 79, 84, 46], [33]]))) (VR st id l (if signOf (tokAt l a) [[46, 78, 79, 84, 46], [33]] = [] then a else a + 1) false) :=
    fun a ha Q => rsign_eq hid hl ha [[46, 78, 79, 84, 46], [33]] (by decide) (by decide)
  have hcg : ∀ (a : Nat) (ha : a ≤ l.length) (Q : Res → St → Prop), CallA S 126 [.ptr id 0, .slice 1 [[.str [61]], [.str [61, 61]], [.str [60, 62]], [.str [35]], [.str [33, 61]], [.str [60]], [.str [62]], [.str [60, 61]], [.str [62, 61]], [.str [36]]] .no] (VR st id l a false) Q = Q (.ret (.str (signOf (tokAt l a) [[61], [61, 61], [60, 62], [35], [33, 61], [60], [62], [60, 61], [62, 61], [36]]))) (VR st id l (if signOf (tokAt l a) [[61], [61, 61], [60, 62], [35], [33, 61], [60], [62], [60, 61], [62, 61], [36]] = [] then a else a + 1) false) :=
    fun a ha Q => rsign_eq hid hl ha [[61], [61, 61], [60, 62], [35], [33, 61], [60], [62], [60, 61], [62, 61], [36]] (by decide) (by decide)
  have hcf : ∀ (a : Nat) (Q : Res → St → Prop), CallA S 126 [.ptr id 0, .slice 1 [[.str [61]], [.str [61, 61]], [.str [60, 62]], [.str [35]], [.str [33, 61]], [.str [60]], [.str [62]], [.str [60, 61]], [.str [62, 61]], [.str [36]]] .no] (VR st id l a true) Q = Q (.ret (.str [])) (VR st id l a true) := fun a Q => rsign_f hid [[61], [61, 61], [60, 62], [35], [33, 61], [60], [62], [60, 61], [62, 61], [36]] (by decide)
  have hop : ∀ t, opOf 2 t = normC (signOf t [[61], [61, 61], [60, 62], [35], [33, 61], [60], [62], [60, 61], [62, 61], [36]]) := opOf_map 2 [[61], [61, 61], [60, 62], [35], [33, 61], [60], [62], [60, 61], [62, 61], [36]] normC (by rfl) (by rfl)
  have hw : ∀ a, (isS (tokAt l a) [46, 78, 79, 84, 46] = true ∨ isS (tokAt l a) [33] = true) ↔ signOf (tokAt l a) [[46, 78, 79, 84, 46], [33]] ≠ [] := by
    intro a
    cases h1 : isS (tokAt l a) [46, 78, 79, 84, 46] <;> cases h2 : isS (tokAt l a) [33] <;> simp [signOf, h1, h2]
  by_cases hno : signOf (tokAt l a) [[46, 78, 79, 84, 46], [33]] = []
  · rw [if_neg (by rw [hw]; simp [hno])] at hQ
    have hb : (signOf (tokAt l a) [[46, 78, 79, 84, 46], [33]] == []) = true := by simp [hno]
    simp only [b93, go_sem, hsg a ha, if_pos hno, hb]
    refine hs a _ ha (RR_step hQ (fun x a ha hQ => ?_) (fun a ha hQ x => ?_))
    · generalize hsc : signOf (tokAt l a) [[61], [61, 61], [60, 62], [35], [33, 61], [60], [62], [60, 61], [62, 61], [36]] = s at *
      have hcg' := fun Q => hcg a ha Q
      rw [hsc] at hcg'
      rw [hop, hsc] at hQ
      by_cases ho : s = []
      · subst ho
        rw [if_pos (by rfl)] at hQ
        simp only [go_sem, hcg', if_true, beqL_nn, VR_size, VR_trunc]
        exact RR_ok hQ ha
      · have hlt := signOf_lt (l := l) (a := a) (by rw [hsc]; exact ho)
        have hb : (s == []) = false := by simp [ho]
        have hno2 : normC s ≠ [] := by unfold normC; split; decide; exact ho
        rw [if_neg hno2] at hQ
        simp only [go_sem, hcg', if_neg ho, hb]
        by_cases c1 : s = [35]
        · subst c1
          rw [show normC [35] = [60, 62] from rfl] at hQ
          simp only [go_sem, (show (([35] : List UInt8) == [35]) = true from rfl)]
          refine hs (a + 1) _ (by omega) (RR_step hQ (fun y a' ha' hQ => ?_) (fun a' ha' hQ y => (by simp only [go_sem, bin_eq, VR_size, VR_trunc]; exact hQ (mkBin [60, 62] x y))))
          simp only [go_sem, bin_eq, VR_size, VR_trunc]
          exact RR_ok hQ ha'
        · have d1 : (s == [35]) = false := by simp [c1]
          by_cases c2 : s = [33, 61]
          · subst c2
            rw [show normC [33, 61] = [60, 62] from rfl] at hQ
            simp only [go_sem, d1, (show (([33, 61] : List UInt8) == [33, 61]) = true from rfl)]
            refine hs (a + 1) _ (by omega) (RR_step hQ (fun y a' ha' hQ => ?_) (fun a' ha' hQ y => (by simp only [go_sem, bin_eq, VR_size, VR_trunc]; exact hQ (mkBin [60, 62] x y))))
            simp only [go_sem, bin_eq, VR_size, VR_trunc]
            exact RR_ok hQ ha'
          · have d2 : (s == [33, 61]) = false := by simp [c2]
            rw [show normC s = s by simp [normC, c1, c2]] at hQ
            simp only [go_sem, d1, d2]
            refine hs (a + 1) _ (by omega) (RR_step hQ (fun y a' ha' hQ => ?_) (fun a' ha' hQ y => (by simp only [go_sem, bin_eq, VR_size, VR_trunc]; exact hQ (mkBin s x y))))
            simp only [go_sem, bin_eq, VR_size, VR_trunc]
            exact RR_ok hQ ha'
    · simp only [go_sem, hcf a, beqL_nn, VR_size, VR_trunc]
      exact hQ x
  · have hlt := signOf_lt hno
    rw [if_pos ((hw a).2 hno)] at hQ
    have hb : (signOf (tokAt l a) [[46, 78, 79, 84, 46], [33]] == []) = false := by simp [hno]
    simp only [b93, go_sem, hsg a ha, if_neg hno, hb]
    refine hn (a + 1) _ (by omega) (RR_step hQ (fun x a ha hQ => ?_) (fun a ha hQ x => (by simp only [go_sem, VR_size, VR_trunc]; exact hQ (mkUn [46, 78, 79, 84, 46] x))))
    simp only [go_sem, VR_size, VR_trunc]
    exact RR_ok hQ ha
def rfnOf : Nt → Nat
  | .expr => 28
  | .not => 93
  | .pow => 214
  | .unary => 247
theorem rsp_ok (hid : id < st.size) (hl : l.length < 65536) (hT : ∀ t ∈ l, TokOk t) : ∀ (n : Nat), n ≤ 65536 → ∀ nt : Nt, RReads eX st id l (rfnOf nt) [.ptr id 0] (sp l n nt)
  | 0, _, nt => fun a Q ha hQ => hQ.elim
  | n + 1, hn, nt => by
    have ih := rsp_ok hid hl hT n (by omega)
    cases nt with
    | expr => exact rexpr_ok hid hl n _ (rand_ok hid hl n _ (ih .not))
    | not => exact rnot_ok hid hl n (sp l n) (ih .not) (rsum_ok hid hl n _ (rprod_ok hid hl n _ (ih .pow)))
    | pow => exact rpow_ok hid hl n (sp l n) (ih .pow) (ih .unary)
    | unary => exact runary_ok hid hl hT n (by omega) (sp l n) (ih .expr) (ih .unary)
theorem rend_f (hid : id < st.size) : CallA S 29 [.ptr id 0] (VR st id l a true) Q = Q (.ret (.tuple [])) (VR st id l a true) := by
  refine callA_eq (fun Q hQ => ?_) Q
  refine callA_body (by rfl) (by rfl) rfl ?_
  simp only [b29, go_sem, VR_cells hid, wrong_eq hid, VR_size, VR_trunc]
  exact hQ
theorem rend_eq (hid : id < st.size) (hl : l.length < 65536) (ha : a ≤ l.length) : CallA S 29 [.ptr id 0] (VR st id l a false) Q = Q (.ret (.tuple [])) (if (tokAt l a).kind = 5 then VR st id l (a + 1) false else VR st id l a true) := by
  refine callA_eq (fun Q hQ => ?_) Q
  refine callA_body (by rfl) (by rfl) rfl ?_
  by_cases hk : (tokAt l a).kind = 5
  · have hlt := tokAt_lt (l := l) (i := a) (by omega)
    rw [if_pos hk] at hQ
    simp only [b29, go_sem, VR_cells hid, rtoken0 hid hl ha, hk, bne_self_eq_false, wrap_one a (by omega), VR_set, VR_size, VR_trunc]
    exact hQ
  · rw [if_neg hk] at hQ
    simp only [b29, go_sem, VR_cells hid, rtoken0 hid hl ha, bne_iff_ne.2 hk, wrong_eq hid, VR_size, VR_trunc]
    exact hQ
end
end Go.Proofs.YtelpkgbghhpgaaaGreatDoor.Sx
end
section
set_option maxRecDepth 100000
namespace Go.Proofs.YtelpkgbghhpgaaaGreatDoor.Sx
def VC (st : St) (id : Nat) (c : Int × Int) : St := st.setCells id [.int .i64 c.1, .int .i64 c.2]
section
variable {st : St} {id : Nat} {c : Int × Int} {Q : Res → St → Prop}
theorem VC_cells (hid : id < st.size) : (VC st id c).cells id = some [.int .i64 c.1, .int .i64 c.2] := cells_set hid
theorem VC_set (n d : Int) : (VC st id c).setCells id [.int .i64 n, .int .i64 d] = VC st id (n, d) := set_set
theorem VC_size : (VC st id c).size = st.size := size_set
theorem VC_trunc : (VC st id c).trunc st.size = VC st id c := trunc_set
theorem cLarge_eq (hid : id < st.size) : CallA S 31 [.ptr id 0] (VC st id c) Q = Q (.ret (.bool (isLarge c))) (VC st id c) := by
  refine callA_eq (fun Q hQ => ?_) Q
  refine callA_body (by rfl) (by rfl) rfl ?_
  unfold isLarge at hQ
  by_cases h : c.1 > 400
  · rw [decide_eq_true h, Bool.true_or] at hQ
    simp only [b31, go_sem, VC_cells hid, h, VC_size, VC_trunc]
    exact hQ
  · rw [decide_eq_false h, Bool.false_or] at hQ
    simp only [b31, go_sem, VC_cells hid, h, VC_size, VC_trunc]
    exact hQ
theorem cAt_eq (hid : id < st.size) (lv : Int) (h0 : 0 ≤ c.1) (h1 : c.1 < 4611686018427387904) : CallA S 65 [.ptr id 0, .int .i64 lv] (VC st id c) Q = Q (.ret (.bool (!isLarge (cAt c lv)))) (VC st id (cAt c lv)) := by
  refine callA_eq (fun Q hQ => ?_) Q
  refine callA_body (by rfl) (by rfl) rfl ?_
  have w : IntKind.i64.wrap (c.1 + 1) = c.1 + 1 := wrap_int _ (by omega) (by omega)
  have hst : ∀ n d, (VC st id (n, d)).setCells id [.int .i64 n, .int .i64 (mxI d lv)] = VC st id (n, mxI d lv) := fun n d => set_set
  unfold cAt at hQ
  by_cases hm : lv > c.2
  · have e : mxI c.2 lv = lv := by unfold mxI; rw [if_pos hm]
    rw [e] at hQ
    simp only [b65, go_sem, VC_cells hid, w, VC_set, hm, cLarge_eq hid, VC_size, VC_trunc]
    exact hQ
  · have e : mxI c.2 lv = c.2 := by unfold mxI; rw [if_neg hm]
    rw [e] at hQ
    simp only [b65, go_sem, VC_cells hid, w, VC_set, hm, cLarge_eq hid, VC_size, VC_trunc]
    exact hQ
theorem dXs_mem : ∀ (l : List Xp) (x : Xp), x ∈ l → dX x ≤ dXs l
  | [], x, h => by cases h
  | y :: l, x, h => by
    simp only [dXs]
    rcases List.mem_cons.1 h with rfl | h
    · exact Nat.le_max_left _ _
    · exact Nat.le_trans (dXs_mem l x h) (Nat.le_max_right _ _)
theorem cntXs_drop {l : List Xp} {i : Nat} (h : i < l.length) (c : Int × Int) (lv : Int) : cntXs c lv (l.drop i) = if isLarge (cAt c lv) = true then cAt c lv else cntXs (cntX (cAt c lv) lv l[i]) lv (l.drop (i + 1)) := by
  rw [List.drop_eq_getElem_cons h, cntXs]
theorem nXs_drop {l : List Xp} {i : Nat} (h : i < l.length) : nXs (l.drop i) = nX l[i] + nXs (l.drop (i + 1)) := by
  rw [List.drop_eq_getElem_cons h, nXs]
theorem cexprs_of (hid : id < st.size) (nb : Bool) (l : List Xp) (hl : l.length < most) (lv : Int) (hlv : 0 ≤ lv ∧ lv < 4611686018427387904)
    (ih : ∀ (i : Nat) (h : i < l.length) (c : Int × Int), 0 ≤ c.1 → c.1 + nX l[i] ≤ 4611686018427387904 → ∀ (op : Int) (s : List UInt8) (vk vn : Int) (vs : List UInt8) (pn : Bool) (p : List (List UInt8)) (ln : Bool) (m : List Xp), l[i] = .mk op s vk vn vs pn p ln m → ∀ (Q : Res → St → Prop), CallA S 30 [.ptr id 0, encSl ln 7 (encXs m), .int .i64 (lv + 1)] (VC st id c) Q = Q (.ret (.tuple [])) (VC st id (cntX c lv l[i])))
    (h0 : 0 ≤ c.1) (h1 : c.1 + nXs l < 4611686018427387904) :
    CallA S 30 [.ptr id 0, encSl nb 7 (encXs l), .int .i64 lv] (VC st id c) Q = Q (.ret (.tuple [])) (VC st id (cntXs c lv l)) := by
  refine callA_eq (fun Q hQ => ?_) Q
  refine callA_body (by rfl) (by rfl) rfl ?_
  unfold most at hl
  simp only [b30, go_sem]
  refine wp_loop (fun n fr st' => ∃ (i : Nat) (ser : Nat) (c2 : Int × Int), n + i = l.length ∧ cntXs c lv l = cntXs c2 lv (l.drop i) ∧ 0 ≤ c2.1 ∧ c2.1 + nXs (l.drop i) < 4611686018427387904 ∧ st' = VC st id c2 ∧
    fr = ⟨[(0, .ptr id 0), (1, encSl nb 7 (encXs l)), (2, .int .i64 lv), (6, .int .i64 (i : Int))], [], [], ser⟩) l.length ⟨0, _, c, rfl, rfl, h0, h1, rfl, rfl⟩ ?_
  rintro n fr st' ⟨i, ser, c2, hn, hsz, g0, g1, rfl, rfl⟩
  by_cases h : (i : Int) < (l.length : Int)
  · have hi : i < l.length := by omega
    rw [cntXs_drop hi] at hsz
    rw [nXs_drop hi] at g1
    cases hlg : isLarge (cAt c2 lv) with
    | true =>
      rw [if_pos hlg] at hsz
      rw [hsz] at hQ
      simp only [b30l0, go_sem, encXs_length, h, cAt_eq hid lv g0 (by omega), hlg, VC_size, VC_trunc]
      exact hQ
    | false =>
      rw [if_neg (by rw [hlg]; exact Bool.false_ne_true)] at hsz
      have n1 : 1 ≤ nX l[i] := by cases l[i]; simp only [nX]; omega
      have w : IntKind.i64.wrap (lv + 1) = lv + 1 := wrap_int _ (by omega) (by omega)
      have hle := cntX_le l[i] (cAt c2 lv) lv
      have hge := cntX_ge l[i] (cAt c2 lv) lv
      have e1 : (cAt c2 lv).1 = c2.1 + 1 := rfl
      have ihi := ih i hi (cAt c2 lv) (by omega) (by omega)
      obtain ⟨op, s, vk, vn, vs, pn, p, ln, m, he⟩ : ∃ (op : Int) (s : List UInt8) (vk vn : Int) (vs : List UInt8) (pn : Bool) (p : List (List UInt8)) (ln : Bool) (m : List Xp), l[i] = .mk op s vk vn vs pn p ln m := by
        cases l[i]; exact ⟨_, _, _, _, _, _, _, _, _, rfl⟩
      have hel := el_X nb l hi
      rw [he, encX_mk] at hel
      have ihi := fun Q => ihi _ _ _ _ _ _ _ _ _ he Q
      simp only [b30l0, go_sem, encXs_length, h, cAt_eq hid lv g0 (by omega), hlg, hel, w, ihi, wrap_one i (by omega)]
      exact ⟨n - 1, by omega, i + 1, _, cntX (cAt c2 lv) lv l[i], by omega, hsz, by omega, by omega, rfl, rfl⟩
  · rw [List.drop_of_length_le (by omega), cntXs] at hsz
    rw [hsz] at hQ
    simp only [b30l0, go_sem, encXs_length, h, VC_size, VC_trunc]
    exact hQ
theorem cX_eq (hid : id < st.size) : ∀ (x : Xp), bdX x → ∀ (lv : Int), 0 ≤ lv → lv + dX x < 4611686018427387904 → ∀ (c : Int × Int), 0 ≤ c.1 → c.1 + nX x ≤ 4611686018427387904 → ∀ (op : Int) (s : List UInt8) (vk vn : Int) (vs : List UInt8) (pn : Bool) (p : List (List UInt8)) (ln : Bool) (m : List Xp), x = .mk op s vk vn vs pn p ln m → ∀ (Q : Res → St → Prop), CallA S 30 [.ptr id 0, encSl ln 7 (encXs m), .int .i64 (lv + 1)] (VC st id c) Q = Q (.ret (.tuple [])) (VC st id (cntX c lv x))
  | .mk op s vk vn vs pn p ln l, hb => by
    intro lv h1 h2 c h3 h4 _ _ _ _ _ _ _ _ m he
    injection he with _ _ _ _ _ _ _ e1 e2
    subst e1 e2
    intro Q
    simp only [bdX] at hb
    simp only [nX] at h4
    simp only [dX] at h2
    rw [cntX]
    refine cexprs_of hid ln l hb.2.1 (lv + 1) ⟨by omega, by omega⟩ (fun i h c g1 g2 => ?_) h3 (by omega)
    have hd : dX l[i] ≤ dXs l := dXs_mem l _ (List.getElem_mem h)
    exact cX_eq hid l[i] (bdXs_mem hb.2.2 _ (List.getElem_mem h)) (lv + 1) (by omega) (by omega) c g1 g2
termination_by x => SizeOf.sizeOf x
decreasing_by
  have := List.sizeOf_lt_of_mem (List.getElem_mem h)
  simp only [Xp.mk.sizeOf_spec]
  omega
theorem cexprs_one (hid : id < st.size) (x : Xp) (hb : bdX x) (hn : nX x < 1000000) :
    CallA S 30 [.ptr id 0, .slice 7 [encX x] .no, .int .i64 1] (VC st id (0, 0)) Q = Q (.ret (.tuple [])) (VC st id (cntXs (0, 0) 1 [x])) := by
  have hd := dX_le x
  refine cexprs_of hid false [x] (by simp [most]) 1 ⟨by omega, by omega⟩ (fun i h c g1 g2 => ?_) (by simp) (by simp only [nXs]; omega)
  have e : [x][i] = x := by simp at h; subst h; rfl
  rw [e] at g2 ⊢
  exact cX_eq hid x hb 1 (by omega) (by omega) c g1 g2
end
end Go.Proofs.YtelpkgbghhpgaaaGreatDoor.Sx
end
