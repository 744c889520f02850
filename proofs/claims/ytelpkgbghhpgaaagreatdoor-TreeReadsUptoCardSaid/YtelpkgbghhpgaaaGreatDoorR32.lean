/- TreeReads returns true for all texts whose data are not larger than a bound. The document's reader of expressions: operators with their operands. The document's reader of expressions: lists, calls, names, what has no operators outside. -/
import Derived.Test.YtelpkgbghhpgaaaGreatDoorR25
import Derived.Test.YtelpkgbghhpgaaaGreatDoorR28
set_option linter.all false
section
set_option maxRecDepth 100000
namespace Go.Proofs.YtelpkgbghhpgaaaGreatDoor.Sx
theorem opOf_sign (k : Nat) (ws : List (List UInt8)) (h : opTab k = ws.map fun w => (w, w)) (t : Tok) : opOf k t = signOf t ws := by
  unfold opOf
  rw [h]
  clear h
  by_cases hk : t.kind = 4
  · rw [if_pos hk]
    induction ws with
    | nil => rfl
    | cons w ws ih =>
      rw [List.map_cons, List.lookup_cons, signOf]
      have e : isS t w = (t.text == w) := by simp [isS, hk]
      rw [e]
      cases hw : (t.text == w) with
      | true => rfl
      | false => simpa using ih
  · rw [if_neg hk]
    induction ws with
    | nil => rfl
    | cons w ws ih =>
      have e : isS t w = false := by simp [isS, hk]
      rw [signOf, e, ← ih]; rfl
theorem signOf_one (t : Tok) (w : List UInt8) : signOf t [w] = if isS t w = true then w else [] := rfl
section
variable {st : St} {id a : Nat} {l : List Tok} {f : Bool} {Q : Res → St → Prop} {o : HObj}
theorem rprim_f (hid : id < st.size) : CallA S 277 [.ptr id 0] (VR st id l a true) Q = Q (.ret (.agg (encX zeroX))) (VR st id l a true) := by
  refine callA_eq (fun Q hQ => ?_) Q
  refine callA_body (by rfl) (by rfl) rfl ?_
  simp only [b277, go_sem, VR_cells hid, VR_size, VR_trunc]
  exact hQ
theorem runary_f (hid : id < st.size) : CallA S 247 [.ptr id 0] (VR st id l a true) Q = Q (.ret (.agg (encX zeroX))) (VR st id l a true) := by
  refine callA_eq (fun Q hQ => ?_) Q
  refine callA_body (by rfl) (by rfl) rfl ?_
  simp only [b247, go_sem, take_f hid, rprim_f hid]
  refine wp_unroll 1 ?_
  rw [WpL_succ]
  simp only [b247l0, go_sem, take_f hid, loopN_exit, VR_size, VR_trunc]
  exact hQ
theorem rpow_f (hid : id < st.size) : CallA S 214 [.ptr id 0] (VR st id l a true) Q = Q (.ret (.agg (encX zeroX))) (VR st id l a true) := by
  refine callA_eq (fun Q hQ => ?_) Q
  refine callA_body (by rfl) (by rfl) rfl ?_
  simp only [b214, go_sem, take_f hid, runary_f hid, VR_size, VR_trunc]
  exact hQ
theorem rprod_f (hid : id < st.size) : CallA S 177 [.ptr id 0] (VR st id l a true) Q = Q (.ret (.agg (encX zeroX))) (VR st id l a true) := by
  refine callA_eq (fun Q hQ => ?_) Q
  refine callA_body (by rfl) (by rfl) rfl ?_
  have hs : ∀ (Q : Res → St → Prop), CallA S 126 [.ptr id 0, .slice 1 [[.str [42]], [.str [47]], [.str [37]]] .no] (VR st id l a true) Q = Q (.ret (.str [])) (VR st id l a true) := fun Q => rsign_f hid [[42], [47], [37]] (by decide)
  simp only [b177, go_sem, rpow_f hid, hs]
  refine wp_unroll 1 ?_
  rw [WpL_succ]
  have hb : (([] : List UInt8) != []) = false := by rfl
  simp only [b177l0, go_sem, hb, loopN_exit, VR_size, VR_trunc]
  exact hQ
theorem rsum_f (hid : id < st.size) : CallA S 127 [.ptr id 0] (VR st id l a true) Q = Q (.ret (.agg (encX zeroX))) (VR st id l a true) := by
  refine callA_eq (fun Q hQ => ?_) Q
  refine callA_body (by rfl) (by rfl) rfl ?_
  have hs : ∀ (Q : Res → St → Prop), CallA S 126 [.ptr id 0, .slice 1 [[.str [43]], [.str [45]]] .no] (VR st id l a true) Q = Q (.ret (.str [])) (VR st id l a true) := fun Q => rsign_f hid [[43], [45]] (by decide)
  simp only [b127, go_sem, rprod_f hid, hs]
  refine wp_unroll 1 ?_
  rw [WpL_succ]
  have hb : (([] : List UInt8) != []) = false := by rfl
  simp only [b127l0, go_sem, hb, loopN_exit, VR_size, VR_trunc]
  exact hQ
theorem rnot_f (hid : id < st.size) : CallA S 93 [.ptr id 0] (VR st id l a true) Q = Q (.ret (.agg (encX zeroX))) (VR st id l a true) := by
  refine callA_eq (fun Q hQ => ?_) Q
  refine callA_body (by rfl) (by rfl) rfl ?_
  have hs : ∀ (Q : Res → St → Prop), CallA S 126 [.ptr id 0, .slice 1 [[.str [46, 78, 79, 84, 46]], [.str [33]]] .no] (VR st id l a true) Q = Q (.ret (.str [])) (VR st id l a true) := fun Q => rsign_f hid [[46, 78, 79, 84, 46], [33]] (by decide)
  have hs2 : ∀ (Q : Res → St → Prop), CallA S 126 [.ptr id 0, .slice 1 [[.str [61]], [.str [61, 61]], [.str [60, 62]], [.str [35]], [.str [33, 61]], [.str [60]], [.str [62]], [.str [60, 61]], [.str [62, 61]], [.str [36]]] .no] (VR st id l a true) Q = Q (.ret (.str [])) (VR st id l a true) := fun Q => rsign_f hid [[61], [61, 61], [60, 62], [35], [33, 61], [60], [62], [60, 61], [62, 61], [36]] (by decide)
  have hb : (([] : List UInt8) != []) = false := by rfl
  simp only [b93, go_sem, rsum_f hid, hs, hs2, hb, beqL_nn, VR_size, VR_trunc]
  exact hQ
theorem rand_f (hid : id < st.size) : CallA S 60 [.ptr id 0] (VR st id l a true) Q = Q (.ret (.agg (encX zeroX))) (VR st id l a true) := by
  refine callA_eq (fun Q hQ => ?_) Q
  refine callA_body (by rfl) (by rfl) rfl ?_
  simp only [b60, go_sem, rnot_f hid]
  refine wp_unroll 1 ?_
  rw [WpL_succ]
  simp only [b60l0, go_sem, take_f hid, loopN_exit, VR_size, VR_trunc]
  exact hQ
theorem rexpr_f (hid : id < st.size) : CallA S 28 [.ptr id 0] (VR st id l a true) Q = Q (.ret (.agg (encX zeroX))) (VR st id l a true) := by
  refine callA_eq (fun Q hQ => ?_) Q
  refine callA_body (by rfl) (by rfl) rfl ?_
  simp only [b28, go_sem, rand_f hid]
  refine wp_unroll 1 ?_
  rw [WpL_succ]
  simp only [b28l0, go_sem, take_f hid, loopN_exit, VR_size, VR_trunc]
  exact hQ
theorem rprod_ok (hid : id < st.size) (hl : l.length < 65536) (n : Nat) (opnd : Nat → PR Xp) (hop : RReads eX st id l 214 [.ptr id 0] opnd) : RReads eX st id l 177 [.ptr id 0] (spJoined l opnd 4 n) := by
  intro a Q ha hQ
  refine callA_body (by rfl) (by rfl) rfl ?_
  have hso : ∀ t : Tok, opOf 4 t = signOf t [[42], [47], [37]] := opOf_sign 4 [[42], [47], [37]] (by rfl)
  have hsf : ∀ (a : Nat) (Q : Res → St → Prop), CallA S 126 [.ptr id 0, .slice 1 [[.str [42]], [.str [47]], [.str [37]]] .no] (VR st id l a true) Q = Q (.ret (.str [])) (VR st id l a true) := fun a Q => rsign_f hid [[42], [47], [37]] (by decide)
  have hsg : ∀ (a : Nat) (ha : a ≤ l.length) (Q : Res → St → Prop), CallA S 126 [.ptr id 0, .slice 1 [[.str [42]], [.str [47]], [.str [37]]] .no] (VR st id l a false) Q = Q (.ret (.str (opOf 4 (tokAt l a)))) (VR st id l (if opOf 4 (tokAt l a) = [] then a else a + 1) false) :=
    fun a ha Q => by rw [hso]; exact rsign_eq hid hl ha [[42], [47], [37]] (by decide) (by decide)
  simp only [b177, go_sem]
  refine hop a _ ha (RR_step hQ (fun x a ha hQ => ?_) (fun a ha hQ x => ?_))
  · simp only [go_sem, hsg a ha]
    refine wp_loop (fun m fr st' => ∃ x a ser ser2 fl, a ≤ l.length ∧ (fl = false → RR eX st id l Q (spJoin l opnd 4 m x a)) ∧ (fl = true → ∀ y, Q (.ret (eX y)) (VR st id l a true)) ∧ st' = VR st id l (if fl = true then a else if opOf 4 (tokAt l a) = [] then a else a + 1) fl ∧
      fr = ⟨[(0, .ptr id 0), (2, .lptr 0 1 0), (3, .lptr 1 ser 0), (4, .str (if fl = true then [] else opOf 4 (tokAt l a)))], [(1, [.int .i64 0, .str [], .int .i64 0, .int .i64 0, .str [], .nilslice, .nilslice]), (ser, encX x)], [], ser2⟩) n ⟨x, a, _, _, false, ha, fun _ => hQ, (fun h => by cases h), rfl, rfl⟩ ?_
    rintro m fr st' ⟨x, a, ser, ser2, fl, ha, h1, h2, rfl, rfl⟩
    cases fl with
    | true =>
      have hb : (([] : List UInt8) != []) = false := by rfl
      simp only [b177l0, go_sem, hb, VR_size, VR_trunc]
      exact h2 rfl x
    | false =>
      have hQ := h1 rfl
      clear h1 h2
      cases m with
      | zero => exact hQ.elim
      | succ m =>
        simp only [spJoin] at hQ
        by_cases ho : opOf 4 (tokAt l a) = []
        · rw [if_pos ho] at hQ
          have hb : (opOf 4 (tokAt l a) == []) = true := by simp [ho]
          simp only [b177l0, go_sem, Bool.false_eq_true, if_false, if_pos ho, hb, VR_size, VR_trunc]
          exact RR_ok hQ ha
        · rw [if_neg ho] at hQ
          have hlt := opOf_lt ho
          have hb : (opOf 4 (tokAt l a) == []) = false := by simp [ho]
          simp only [b177l0, go_sem, Bool.false_eq_true, if_false, if_neg ho, hb]
          refine hop (a + 1) _ (by omega) (RR_step hQ (fun y a' ha' hQ => ?_) (fun a' ha' hQ y => ?_))
          · simp only [go_sem, bin_eq, hsg a' ha']
            exact ⟨m, Nat.lt_succ_self m, mkBin _ x y, a', ser, _, false, ha', fun _ => hQ, (fun h => by cases h), rfl, rfl⟩
          · simp only [go_sem, bin_eq, hsf a']
            exact ⟨m, Nat.lt_succ_self m, mkBin _ x y, a', ser, _, true, ha', (fun h => by cases h), fun _ => hQ, rfl, rfl⟩
  · simp only [go_sem, hsf a]
    refine wp_unroll 1 ?_
    rw [WpL_succ]
    have hb : (([] : List UInt8) != []) = false := by rfl
    simp only [b177l0, go_sem, hb, loopN_exit, VR_size, VR_trunc]
    exact hQ x
theorem rsum_ok (hid : id < st.size) (hl : l.length < 65536) (n : Nat) (opnd : Nat → PR Xp) (hop : RReads eX st id l 177 [.ptr id 0] opnd) : RReads eX st id l 127 [.ptr id 0] (spJoined l opnd 3 n) := by
  intro a Q ha hQ
  refine callA_body (by rfl) (by rfl) rfl ?_
  have hso : ∀ t : Tok, opOf 3 t = signOf t [[43], [45]] := opOf_sign 3 [[43], [45]] (by rfl)
  have hsf : ∀ (a : Nat) (Q : Res → St → Prop), CallA S 126 [.ptr id 0, .slice 1 [[.str [43]], [.str [45]]] .no] (VR st id l a true) Q = Q (.ret (.str [])) (VR st id l a true) := fun a Q => rsign_f hid [[43], [45]] (by decide)
  have hsg : ∀ (a : Nat) (ha : a ≤ l.length) (Q : Res → St → Prop), CallA S 126 [.ptr id 0, .slice 1 [[.str [43]], [.str [45]]] .no] (VR st id l a false) Q = Q (.ret (.str (opOf 3 (tokAt l a)))) (VR st id l (if opOf 3 (tokAt l a) = [] then a else a + 1) false) :=
    fun a ha Q => by rw [hso]; exact rsign_eq hid hl ha [[43], [45]] (by decide) (by decide)
  simp only [b127, go_sem]
  refine hop a _ ha (RR_step hQ (fun x a ha hQ => ?_) (fun a ha hQ x => ?_))
  · simp only [go_sem, hsg a ha]
    refine wp_loop (fun m fr st' => ∃ x a ser ser2 fl, a ≤ l.length ∧ (fl = false → RR eX st id l Q (spJoin l opnd 3 m x a)) ∧ (fl = true → ∀ y, Q (.ret (eX y)) (VR st id l a true)) ∧ st' = VR st id l (if fl = true then a else if opOf 3 (tokAt l a) = [] then a else a + 1) fl ∧
      fr = ⟨[(0, .ptr id 0), (2, .lptr 0 1 0), (3, .lptr 1 ser 0), (4, .str (if fl = true then [] else opOf 3 (tokAt l a)))], [(1, [.int .i64 0, .str [], .int .i64 0, .int .i64 0, .str [], .nilslice, .nilslice]), (ser, encX x)], [], ser2⟩) n ⟨x, a, _, _, false, ha, fun _ => hQ, (fun h => by cases h), rfl, rfl⟩ ?_
    rintro m fr st' ⟨x, a, ser, ser2, fl, ha, h1, h2, rfl, rfl⟩
    cases fl with
    | true =>
      have hb : (([] : List UInt8) != []) = false := by rfl
      simp only [b127l0, go_sem, hb, VR_size, VR_trunc]
      exact h2 rfl x
    | false =>
      have hQ := h1 rfl
      clear h1 h2
      cases m with
      | zero => exact hQ.elim
      | succ m =>
        simp only [spJoin] at hQ
        by_cases ho : opOf 3 (tokAt l a) = []
        · rw [if_pos ho] at hQ
          have hb : (opOf 3 (tokAt l a) == []) = true := by simp [ho]
          simp only [b127l0, go_sem, Bool.false_eq_true, if_false, if_pos ho, hb, VR_size, VR_trunc]
          exact RR_ok hQ ha
        · rw [if_neg ho] at hQ
          have hlt := opOf_lt ho
          have hb : (opOf 3 (tokAt l a) == []) = false := by simp [ho]
          simp only [b127l0, go_sem, Bool.false_eq_true, if_false, if_neg ho, hb]
          refine hop (a + 1) _ (by omega) (RR_step hQ (fun y a' ha' hQ => ?_) (fun a' ha' hQ y => ?_))
          · simp only [go_sem, bin_eq, hsg a' ha']
            exact ⟨m, Nat.lt_succ_self m, mkBin _ x y, a', ser, _, false, ha', fun _ => hQ, (fun h => by cases h), rfl, rfl⟩
          · simp only [go_sem, bin_eq, hsf a']
            exact ⟨m, Nat.lt_succ_self m, mkBin _ x y, a', ser, _, true, ha', (fun h => by cases h), fun _ => hQ, rfl, rfl⟩
  · simp only [go_sem, hsf a]
    refine wp_unroll 1 ?_
    rw [WpL_succ]
    have hb : (([] : List UInt8) != []) = false := by rfl
    simp only [b127l0, go_sem, hb, loopN_exit, VR_size, VR_trunc]
    exact hQ x
theorem rand_ok (hid : id < st.size) (hl : l.length < 65536) (n : Nat) (opnd : Nat → PR Xp) (hop : RReads eX st id l 93 [.ptr id 0] opnd) : RReads eX st id l 60 [.ptr id 0] (spJoined l opnd 1 n) := by
  intro a Q ha hQ
  refine callA_body (by rfl) (by rfl) rfl ?_
  have hso : ∀ t : Tok, opOf 1 t = signOf t [[46, 65, 78, 68, 46]] := opOf_sign 1 [[46, 65, 78, 68, 46]] (by rfl)
  simp only [b60, go_sem]
  refine hop a _ ha (RR_step hQ (fun x a ha hQ => ?_) (fun a ha hQ x => ?_))
  · simp only [go_sem]
    refine wp_loop (fun m fr st' => ∃ x a ser ser2 fl, a ≤ l.length ∧ (fl = false → RR eX st id l Q (spJoin l opnd 1 m x a)) ∧ (fl = true → ∀ y, Q (.ret (eX y)) (VR st id l a true)) ∧ st' = VR st id l a fl ∧
      fr = ⟨[(0, .ptr id 0), (2, .lptr 0 1 0), (3, .lptr 1 ser 0)], [(1, [.int .i64 0, .str [], .int .i64 0, .int .i64 0, .str [], .nilslice, .nilslice]), (ser, encX x)], [], ser2⟩) n ⟨x, a, _, _, false, ha, fun _ => hQ, (fun h => by cases h), rfl, rfl⟩ ?_
    rintro m fr st' ⟨x, a, ser, ser2, fl, ha, h1, h2, rfl, rfl⟩
    cases fl with
    | true =>
      simp only [b60l0, go_sem, take_f hid, VR_size, VR_trunc]
      exact h2 rfl x
    | false =>
      have hQ := h1 rfl
      clear h1 h2
      cases m with
      | zero => exact hQ.elim
      | succ m =>
        simp only [spJoin, hso, signOf_one] at hQ
        cases hs : isS (tokAt l a) [46, 65, 78, 68, 46] with
        | false =>
          simp only [hs, Bool.false_eq_true, if_false, if_true] at hQ
          simp only [b60l0, go_sem, take_no hid hl ha hs, VR_size, VR_trunc]
          exact RR_ok hQ ha
        | true =>
          have hlt := isS_lt hs
          simp only [hs, if_true] at hQ
          rw [if_neg (by decide)] at hQ
          simp only [b60l0, go_sem, take_yes hid hl ha hs]
          refine hop (a + 1) _ (by omega) (RR_step hQ (fun y a' ha' hQ => ?_) (fun a' ha' hQ y => ?_))
          · simp only [go_sem, bin_eq]
            exact ⟨m, Nat.lt_succ_self m, mkBin _ x y, a', ser, _, false, ha', fun _ => hQ, (fun h => by cases h), rfl, rfl⟩
          · simp only [go_sem, bin_eq]
            exact ⟨m, Nat.lt_succ_self m, mkBin _ x y, a', ser, _, true, ha', (fun h => by cases h), fun _ => hQ, rfl, rfl⟩
  · simp only [go_sem]
    refine wp_unroll 1 ?_
    rw [WpL_succ]
    simp only [b60l0, go_sem, take_f hid, loopN_exit, VR_size, VR_trunc]
    exact hQ x
theorem rexpr_ok (hid : id < st.size) (hl : l.length < 65536) (n : Nat) (opnd : Nat → PR Xp) (hop : RReads eX st id l 60 [.ptr id 0] opnd) : RReads eX st id l 28 [.ptr id 0] (spJoined l opnd 0 n) := by
  intro a Q ha hQ
  refine callA_body (by rfl) (by rfl) rfl ?_
  have hso : ∀ t : Tok, opOf 0 t = signOf t [[46, 79, 82, 46]] := opOf_sign 0 [[46, 79, 82, 46]] (by rfl)
  simp only [b28, go_sem]
  refine hop a _ ha (RR_step hQ (fun x a ha hQ => ?_) (fun a ha hQ x => ?_))
  · simp only [go_sem]
    refine wp_loop (fun m fr st' => ∃ x a ser ser2 fl, a ≤ l.length ∧ (fl = false → RR eX st id l Q (spJoin l opnd 0 m x a)) ∧ (fl = true → ∀ y, Q (.ret (eX y)) (VR st id l a true)) ∧ st' = VR st id l a fl ∧
      fr = ⟨[(0, .ptr id 0), (2, .lptr 0 1 0), (3, .lptr 1 ser 0)], [(1, [.int .i64 0, .str [], .int .i64 0, .int .i64 0, .str [], .nilslice, .nilslice]), (ser, encX x)], [], ser2⟩) n ⟨x, a, _, _, false, ha, fun _ => hQ, (fun h => by cases h), rfl, rfl⟩ ?_
    rintro m fr st' ⟨x, a, ser, ser2, fl, ha, h1, h2, rfl, rfl⟩
    cases fl with
    | true =>
      simp only [b28l0, go_sem, take_f hid, VR_size, VR_trunc]
      exact h2 rfl x
    | false =>
      have hQ := h1 rfl
      clear h1 h2
      cases m with
      | zero => exact hQ.elim
      | succ m =>
        simp only [spJoin, hso, signOf_one] at hQ
        cases hs : isS (tokAt l a) [46, 79, 82, 46] with
        | false =>
          simp only [hs, Bool.false_eq_true, if_false, if_true] at hQ
          simp only [b28l0, go_sem, take_no hid hl ha hs, VR_size, VR_trunc]
          exact RR_ok hQ ha
        | true =>
          have hlt := isS_lt hs
          simp only [hs, if_true] at hQ
          rw [if_neg (by decide)] at hQ
          simp only [b28l0, go_sem, take_yes hid hl ha hs]
          refine hop (a + 1) _ (by omega) (RR_step hQ (fun y a' ha' hQ => ?_) (fun a' ha' hQ y => ?_))
          · simp only [go_sem, bin_eq]
            exact ⟨m, Nat.lt_succ_self m, mkBin _ x y, a', ser, _, false, ha', fun _ => hQ, (fun h => by cases h), rfl, rfl⟩
          · simp only [go_sem, bin_eq]
            exact ⟨m, Nat.lt_succ_self m, mkBin _ x y, a', ser, _, true, ha', (fun h => by cases h), fun _ => hQ, rfl, rfl⟩
  · simp only [go_sem]
    refine wp_unroll 1 ?_
    rw [WpL_succ]
    simp only [b28l0, go_sem, take_f hid, loopN_exit, VR_size, VR_trunc]
    exact hQ x
end
end Go.Proofs.YtelpkgbghhpgaaaGreatDoor.Sx
end
section
set_option maxRecDepth 100000
namespace Go.Proofs.YtelpkgbghhpgaaaGreatDoor.Sx
def eL1 (x : List Xp) : AV := .slice 7 (encXs x) .no
section
variable {st : St} {id a : Nat} {l : List Tok} {Q : Res → St → Prop} {o : HObj} {e : Nat → PR Xp}
theorem rnames_ok (hid : id < st.size) (hl : l.length < 65536) (hT : ∀ t ∈ l, TokOk t) (n : Nat) (hn : n ≤ 65536) : RReads eNs st id l 74 [.ptr id 0] (spNames l n) := by
  intro a Q ha hQ
  refine callA_body (by rfl) (by rfl) rfl ?_
  simp only [b74, go_sem]
  refine rname_ok hid hl hT a _ ha (RR_step hQ (fun s a ha hQ => ?_) (fun a ha hQ s => ?_))
  · simp only [go_sem]
    refine wp_loop (fun m fr st' => ∃ acc a own ft ser fl, (fl = false → RR eNs st id l Q (spNamesL l m acc a)) ∧ (fl = true → ∀ y, Q (.ret (eNs y)) (VR st id l a true)) ∧ a ≤ l.length ∧ acc.length + m = n + 1 ∧ acc ≠ [] ∧ st' = VR st id l a fl ∧ ((own = .tight ∧ ft = []) ∨ (own = .ftok 0 ∧ ft = [acc.length])) ∧
      fr = ⟨[(0, .ptr id 0), (3, .slice 1 (encStr acc) own)], [], ft, ser⟩) n ⟨[s], a, _, _, _, false, fun _ => hQ, (fun h => by cases h), ha, by simp; omega, by simp, rfl, .inl ⟨rfl, rfl⟩, rfl⟩ ?_
    rintro m fr st' ⟨acc, a, own, ft, ser, fl, h1, h2, ha, hm, hne, rfl, hown, rfl⟩
    have hns : eNs acc = .slice 1 (encStr acc) .no := by cases acc with | nil => exact absurd rfl hne | cons => rfl
    cases fl with
    | true =>
      simp only [b74l0, go_sem, take_f hid, VR_size, VR_trunc]
      have := h2 rfl acc
      rwa [hns] at this
    | false =>
    have hQ := h1 rfl
    clear h1 h2
    cases m with
    | zero => exact hQ.elim
    | succ m =>
      simp only [spNamesL] at hQ
      cases hs : isS (tokAt l a) [44] with
      | false =>
        simp only [hs, Bool.false_eq_true, if_false] at hQ
        simp only [b74l0, go_sem, take_no hid hl ha hs, VR_size, VR_trunc]
        have := RR_ok hQ ha
        rwa [hns] at this
      | true =>
        simp only [hs, if_true] at hQ
        have hlt := isS_lt hs
        simp only [b74l0, go_sem, take_yes hid hl ha hs]
        have hne2 : ¬ encStr acc = [] := by cases acc with | nil => exact absurd rfl hne | cons => simp [encStr]
        have hb : (acc.length + 1) * 24 ≤ 1099511627776 := by omega
        refine rname_ok hid hl hT (a + 1) _ (by omega) (RR_step hQ (fun s a' ha' hQ => ?_) (fun a' ha' hQ s => ?_))
        · rcases hown with ⟨rfl, rfl⟩ | ⟨rfl, rfl⟩
          · simp only [go_sem, aappend, grow, elsOf, encStr_length, hb, List.isEmpty_cons]
            exact ⟨m, Nat.lt_succ_self m, acc ++ [s], a', .ftok 0, [acc.length + 1], _, false, fun _ => hQ, (fun h => by cases h), ha', by simp; omega, by simp, rfl, .inr ⟨rfl, by simp⟩, by rw [encStr_snoc]⟩
          · simp only [go_sem, aappend, grow, elsOf, encStr_length, hb, hne2, List.isEmpty_cons, ne_eq, not_false_eq_true, and_self]
            exact ⟨m, Nat.lt_succ_self m, acc ++ [s], a', .ftok 0, [acc.length + 1], _, false, fun _ => hQ, (fun h => by cases h), ha', by simp; omega, by simp, rfl, .inr ⟨rfl, by simp⟩, by rw [encStr_snoc]⟩
        · rcases hown with ⟨rfl, rfl⟩ | ⟨rfl, rfl⟩
          · simp only [go_sem, aappend, grow, elsOf, encStr_length, hb, List.isEmpty_cons]
            exact ⟨m, Nat.lt_succ_self m, acc ++ [s], a', .ftok 0, [acc.length + 1], _, true, (fun h => by cases h), fun _ => hQ, ha', by simp; omega, by simp, rfl, .inr ⟨rfl, by simp⟩, by rw [encStr_snoc]⟩
          · simp only [go_sem, aappend, grow, elsOf, encStr_length, hb, hne2, List.isEmpty_cons, ne_eq, not_false_eq_true, and_self]
            exact ⟨m, Nat.lt_succ_self m, acc ++ [s], a', .ftok 0, [acc.length + 1], _, true, (fun h => by cases h), fun _ => hQ, ha', by simp; omega, by simp, rfl, .inr ⟨rfl, by simp⟩, by rw [encStr_snoc]⟩
  · simp only [go_sem]
    refine wp_unroll 1 ?_
    rw [WpL_succ]
    simp only [b74l0, go_sem, take_f hid, loopN_exit, VR_size, VR_trunc]
    exact hQ [s]
theorem rlist_ok (hid : id < st.size) (hl : l.length < 65536) (n : Nat) (hn : n ≤ 65536) (he : RReads eX st id l 28 [.ptr id 0] e) : RReads eXs st id l 137 [.ptr id 0] (spList l e n) := by
  intro a Q ha hQ
  refine callA_body (by rfl) (by rfl) rfl ?_
  simp only [b137, go_sem]
  refine he a _ ha (RR_step hQ (fun s a ha hQ => ?_) (fun a ha hQ s => ?_))
  · simp only [go_sem]
    refine wp_loop (fun m fr st' => ∃ acc a own ft ser fl, (fl = false → RR eXs st id l Q (spListL l e m acc a)) ∧ (fl = true → ∀ y, Q (.ret (eXs y)) (VR st id l a true)) ∧ a ≤ l.length ∧ acc.length + m = n + 1 ∧ acc ≠ [] ∧ st' = VR st id l a fl ∧ ((own = .tight ∧ ft = []) ∨ (own = .ftok 0 ∧ ft = [acc.length])) ∧
      fr = ⟨[(0, .ptr id 0), (3, .slice 7 (encXs acc) own)], [], ft, ser⟩) n ⟨[s], a, _, _, _, false, fun _ => hQ, (fun h => by cases h), ha, by simp; omega, by simp, rfl, .inl ⟨rfl, rfl⟩, rfl⟩ ?_
    rintro m fr st' ⟨acc, a, own, ft, ser, fl, h1, h2, ha, hm, hne, rfl, hown, rfl⟩
    have hns : eXs acc = .slice 7 (encXs acc) .no := by cases acc with | nil => exact absurd rfl hne | cons => rfl
    cases fl with
    | true =>
      simp only [b137l0, go_sem, take_f hid, VR_size, VR_trunc]
      have := h2 rfl acc
      rwa [hns] at this
    | false =>
    have hQ := h1 rfl
    clear h1 h2
    cases m with
    | zero => exact hQ.elim
    | succ m =>
      simp only [spListL] at hQ
      cases hs : isS (tokAt l a) [44] with
      | false =>
        simp only [hs, Bool.false_eq_true, if_false] at hQ
        simp only [b137l0, go_sem, take_no hid hl ha hs, VR_size, VR_trunc]
        have := RR_ok hQ ha
        rwa [hns] at this
      | true =>
        simp only [hs, if_true] at hQ
        have hlt := isS_lt hs
        simp only [b137l0, go_sem, take_yes hid hl ha hs]
        have hne2 : ¬ encXs acc = [] := by cases acc with | nil => exact absurd rfl hne | cons => simp [encXs]
        have hb : (acc.length + 1) * 168 ≤ 1099511627776 := by omega
        refine he (a + 1) _ (by omega) (RR_step hQ (fun s a' ha' hQ => ?_) (fun a' ha' hQ s => ?_))
        · rcases hown with ⟨rfl, rfl⟩ | ⟨rfl, rfl⟩
          · simp only [go_sem, aappend, grow, elsOf, encXs_length, hb, List.isEmpty_cons]
            exact ⟨m, Nat.lt_succ_self m, acc ++ [s], a', .ftok 0, [acc.length + 1], _, false, fun _ => hQ, (fun h => by cases h), ha', by simp; omega, by simp, rfl, .inr ⟨rfl, by simp⟩, by rw [encXs_snoc]⟩
          · simp only [go_sem, aappend, grow, elsOf, encXs_length, hb, hne2, List.isEmpty_cons, ne_eq, not_false_eq_true, and_self]
            exact ⟨m, Nat.lt_succ_self m, acc ++ [s], a', .ftok 0, [acc.length + 1], _, false, fun _ => hQ, (fun h => by cases h), ha', by simp; omega, by simp, rfl, .inr ⟨rfl, by simp⟩, by rw [encXs_snoc]⟩
        · rcases hown with ⟨rfl, rfl⟩ | ⟨rfl, rfl⟩
          · simp only [go_sem, aappend, grow, elsOf, encXs_length, hb, List.isEmpty_cons]
            exact ⟨m, Nat.lt_succ_self m, acc ++ [s], a', .ftok 0, [acc.length + 1], _, true, (fun h => by cases h), fun _ => hQ, ha', by simp; omega, by simp, rfl, .inr ⟨rfl, by simp⟩, by rw [encXs_snoc]⟩
          · simp only [go_sem, aappend, grow, elsOf, encXs_length, hb, hne2, List.isEmpty_cons, ne_eq, not_false_eq_true, and_self]
            exact ⟨m, Nat.lt_succ_self m, acc ++ [s], a', .ftok 0, [acc.length + 1], _, true, (fun h => by cases h), fun _ => hQ, ha', by simp; omega, by simp, rfl, .inr ⟨rfl, by simp⟩, by rw [encXs_snoc]⟩
  · simp only [go_sem]
    refine wp_unroll 1 ?_
    rw [WpL_succ]
    simp only [b137l0, go_sem, take_f hid, loopN_exit, VR_size, VR_trunc]
    exact hQ [s]
theorem rlist_f (hid : id < st.size) : CallA S 137 [.ptr id 0] (VR st id l a true) Q = Q (.ret (.slice 7 [encX zeroX] .no)) (VR st id l a true) := by
  refine callA_eq (fun Q hQ => ?_) Q
  refine callA_body (by rfl) (by rfl) rfl ?_
  simp only [b137, go_sem, rexpr_f hid]
  refine wp_unroll 1 ?_
  rw [WpL_succ]
  simp only [b137l0, go_sem, take_f hid, loopN_exit, VR_size, VR_trunc]
  exact hQ
theorem rclosed_f (hid : id < st.size) (s : List UInt8) : CallA S 140 [.ptr id 0, .str s] (VR st id l a true) Q = Q (.ret (.slice 7 [encX zeroX] .no)) (VR st id l a true) := by
  refine callA_eq (fun Q hQ => ?_) Q
  refine callA_body (by rfl) (by rfl) rfl ?_
  simp only [b140, go_sem, take_f hid, rlist_f hid, rwant_f hid, VR_size, VR_trunc]
  exact hQ
theorem rin_nil (s : List UInt8) : CallA S 101 [.nilslice, .str s] st Q = Q (.ret (.bool false)) st := by
  refine callA_eq (fun Q hQ => ?_) Q
  refine callA_body (by rfl) (by rfl) rfl ?_
  simp only [b101, go_sem]
  refine wp_unroll 1 ?_
  rw [WpL_succ]
  simp only [b101l0, go_sem, Int.lt_irrefl, loopN_exit, trunc_self]
  exact hQ
theorem rvariable_ok (hid : id < st.size) (hl : l.length < 65536) (hT : ∀ t ∈ l, TokOk t) : RReads eS st id l 303 [.ptr id 0] (nameP l) := by
  intro a Q ha hQ
  refine callA_body (by rfl) (by rfl) rfl ?_
  simp only [b303, go_sem, VR_cells hid, rtoken0 hid hl ha, rin_nil]
  refine rname_ok hid hl hT a _ ha (RR_mono hQ (fun x a ha hQ => ?_) (fun a ha hQ x => ?_))
  · simp only [go_sem, VR_size, VR_trunc]; exact hQ
  · simp only [go_sem, VR_size, VR_trunc]; exact hQ x
theorem rmacro_ok (hid : id < st.size) (hl : l.length < 65536) (hT : ∀ t ∈ l, TokOk t) (he : RReads eX st id l 28 [.ptr id 0] e) : RReads eX st id l 139 [.ptr id 0] (spMacro l e) := by
  intro a Q ha hQ
  refine callA_body (by rfl) (by rfl) rfl ?_
  unfold spMacro at hQ
  simp only [b139, go_sem]
  refine rwant_ok hid hl _ a _ ha (RR_step hQ (fun x a ha hQ => ?_) (fun a ha hQ x => ?_))
  · cases h : isS (tokAt l a) [40] with
    | true =>
      simp only [h, if_true] at hQ
      have hlt := isS_lt h
      simp only [go_sem, take_yes hid hl ha h]
      refine he (a + 1) _ (by omega) (RR_step hQ (fun x a ha hQ => ?_) (fun a ha hQ x => (by simp only [go_sem, rwant_f hid, VR_size, VR_trunc]; exact hQ (mkMacroX x))))
      simp only [go_sem]
      refine rwant_ok hid hl _ a _ ha (RR_step hQ (fun u a ha hQ => ?_) (fun a ha hQ u => (by simp only [go_sem, VR_size, VR_trunc]; exact hQ (mkMacroX x))))
      simp only [go_sem, VR_size, VR_trunc]
      exact RR_ok hQ ha
    | false =>
      simp only [h, Bool.false_eq_true, if_false] at hQ
      simp only [go_sem, take_no hid hl ha h]
      refine rname_ok hid hl hT a _ ha (RR_step hQ (fun s a ha hQ => ?_) (fun a ha hQ s => (by simp only [go_sem, take_f hid, VR_size, VR_trunc]; exact hQ (mkMacroN s))))
      cases h2 : isS (tokAt l a) [46] with
      | true =>
        have hlt := isS_lt h2
        simp only [h2, if_true] at hQ
        simp only [go_sem, take_yes hid hl ha h2, VR_size, VR_trunc]
        exact RR_ok hQ (by omega)
      | false =>
        simp only [h2, Bool.false_eq_true, if_false] at hQ
        simp only [go_sem, take_no hid hl ha h2, VR_size, VR_trunc]
        exact RR_ok hQ ha
  · simp only [go_sem, take_f hid, rname_f hid hl ha, VR_size, VR_trunc]
    exact hQ (mkMacroN [])
theorem rnamed_ok (hid : id < st.size) (hl : l.length < 65536) (hT : ∀ t ∈ l, TokOk t) (n : Nat) (hn : n ≤ 65536) (he : RReads eX st id l 28 [.ptr id 0] e) : RReads eX st id l 293 [.ptr id 0] (spNamed l e n) := by
  intro a Q ha hQ
  refine callA_body (by rfl) (by rfl) rfl ?_
  unfold spNamed at hQ
  cases h : isS (tokAt l (a + 1)) [40] with
  | true =>
    simp only [h, if_true] at hQ
    unfold spCall at hQ
    simp only [b293, go_sem, risSign1 hid hl ha, h]
    refine rname_ok hid hl hT a _ ha (RR_step hQ (fun s a ha hQ => ?_) (fun a ha hQ s => (by simp only [go_sem, rwant_f hid, rclosed_f hid, VR_size, VR_trunc]; exact hQ (.mk 3 s 0 0 [] true [] false [zeroX]))))
    simp only [go_sem]
    refine rwant_ok hid hl _ a _ ha (RR_step hQ (fun u a ha hQ => ?_) (fun a ha hQ u => (by simp only [go_sem, rclosed_f hid, VR_size, VR_trunc]; exact hQ (.mk 3 s 0 0 [] true [] false [zeroX]))))
    simp only [go_sem]
    refine callA_body (by rfl) (by rfl) rfl ?_
    cases h2 : isS (tokAt l a) [41] with
    | true =>
      simp only [h2, if_true] at hQ
      have hlt := isS_lt h2
      simp only [b140, go_sem, take_yes hid hl ha h2, VR_size, VR_trunc]
      exact RR_ok hQ (by omega)
    | false =>
      simp only [h2, Bool.false_eq_true, if_false] at hQ
      simp only [b140, go_sem, take_no hid hl ha h2]
      refine rlist_ok hid hl n hn he a _ ha (RR_step hQ (fun x a ha hQ => ?_) (fun a ha hQ x => (by simp only [go_sem, rwant_f hid, VR_size, VR_trunc]; exact hQ (mkCall s x))))
      simp only [go_sem]
      refine rwant_ok hid hl _ a _ ha (RR_step hQ (fun u a ha hQ => ?_) (fun a ha hQ u => (by simp only [go_sem, VR_size, VR_trunc]; exact hQ (mkCall s x))))
      simp only [go_sem, VR_size, VR_trunc]
      exact RR_ok hQ ha
  | false =>
    simp only [h, Bool.false_eq_true, if_false] at hQ
    simp only [b293, go_sem, risSign1 hid hl ha, h]
    refine rvariable_ok hid hl hT a _ ha (RR_step hQ (fun s a ha hQ => ?_) (fun a ha hQ s => (by simp only [go_sem, take_f hid, VR_size, VR_trunc]; exact hQ (mkName s))))
    cases h2 : isS (tokAt l a) [45, 62] with
    | true =>
      have hlt := isS_lt h2
      simp only [h2, if_true] at hQ
      cases h3 : isS (tokAt l (a + 1)) [40] with
      | true =>
        have hlt := isS_lt h3
        simp only [h3, if_true] at hQ
        simp only [go_sem, take_yes hid hl ha h2, take_yes hid hl (show a + 1 ≤ l.length by omega) h3]
        refine he (a + 2) _ (by omega) (RR_step hQ (fun x a ha hQ => ?_) (fun a ha hQ x => (by simp only [go_sem, rwant_f hid, VR_size, VR_trunc]; exact hQ (mkAlias s x))))
        simp only [go_sem]
        refine rwant_ok hid hl _ a _ ha (RR_step hQ (fun u a ha hQ => ?_) (fun a ha hQ u => (by simp only [go_sem, VR_size, VR_trunc]; exact hQ (mkAlias s x))))
        simp only [go_sem, VR_size, VR_trunc]
        exact RR_ok hQ ha
      | false =>
        simp only [h3, Bool.false_eq_true, if_false] at hQ
        simp only [go_sem, take_yes hid hl ha h2, take_no hid hl (show a + 1 ≤ l.length by omega) h3]
        refine rvariable_ok hid hl hT (a + 1) _ (by omega) (RR_step hQ (fun f a ha hQ => ?_) (fun a ha hQ f => (by simp only [go_sem, VR_size, VR_trunc]; exact hQ (mkAlias s (mkName f)))))
        simp only [go_sem, VR_size, VR_trunc]
        exact RR_ok hQ ha
    | false =>
      simp only [h2, Bool.false_eq_true, if_false] at hQ
      simp only [go_sem, take_no hid hl ha h2, VR_size, VR_trunc]
      exact RR_ok hQ ha
theorem rbraces_ok (hid : id < st.size) (hl : l.length < 65536) (hT : ∀ t ∈ l, TokOk t) (n : Nat) (hn : n ≤ 65536) (he : RReads eX st id l 28 [.ptr id 0] e) : RReads eX st id l 295 [.ptr id 0] (spBraced l e n) := by
  intro a Q ha hQ
  refine callA_body (by rfl) (by rfl) rfl ?_
  unfold spBraced at hQ
  cases h : isS (tokAt l a) [124] with
  | true =>
    have hlt := isS_lt h
    simp only [h, if_true] at hQ
    cases h2 : isS (tokAt l (a + 1)) [124] with
    | true =>
      have hlt := isS_lt h2
      simp only [h2, if_true] at hQ
      simp only [b295, go_sem, take_yes hid hl ha h, take_yes hid hl (show a + 1 ≤ l.length by omega) h2]
      refine he (a + 2) _ (by omega) (RR_step hQ (fun x a ha hQ => ?_) (fun a ha hQ x => (by simp only [go_sem, rwant_f hid, VR_size, VR_trunc]; exact hQ (mkBlock [] x))))
      simp only [go_sem]
      refine rwant_ok hid hl _ a _ ha (RR_step hQ (fun u a ha hQ => ?_) (fun a ha hQ u => (by simp only [go_sem, VR_size, VR_trunc]; exact hQ (mkBlock [] x))))
      simp only [go_sem, VR_size, VR_trunc]
      exact RR_ok hQ ha
    | false =>
      simp only [h2, Bool.false_eq_true, if_false] at hQ
      simp only [b295, go_sem, take_yes hid hl ha h, take_no hid hl (show a + 1 ≤ l.length by omega) h2]
      refine rnames_ok hid hl hT n hn (a + 1) _ (by omega) (RR_step hQ (fun p a ha hQ => ?_) (fun a ha hQ p => ?_))
      · simp only [go_sem]
        refine rwant_ok hid hl _ a _ ha (RR_step hQ (fun u a ha hQ => ?_) (fun a ha hQ u => (by simp only [go_sem, rexpr_f hid, rwant_f hid, VR_size, VR_trunc]; exact hQ (mkBlock p zeroX))))
        simp only [go_sem]
        refine he a _ ha (RR_step hQ (fun x a ha hQ => ?_) (fun a ha hQ x => (by simp only [go_sem, rwant_f hid, VR_size, VR_trunc]; exact hQ (mkBlock p x))))
        simp only [go_sem]
        refine rwant_ok hid hl _ a _ ha (RR_step hQ (fun u a ha hQ => ?_) (fun a ha hQ u => (by simp only [go_sem, VR_size, VR_trunc]; exact hQ (mkBlock p x))))
        simp only [go_sem, VR_size, VR_trunc]
        exact RR_ok hQ ha
      · simp only [go_sem, rwant_f hid, rexpr_f hid, VR_size, VR_trunc]
        exact hQ (mkBlock p zeroX)
  | false =>
    simp only [h, Bool.false_eq_true, if_false] at hQ
    simp only [b295, go_sem, take_no hid hl ha h]
    refine rlist_ok hid hl n hn he a _ ha (RR_step hQ (fun x a ha hQ => ?_) (fun a ha hQ x => (by simp only [go_sem, rwant_f hid, VR_size, VR_trunc]; exact hQ (mkList x))))
    simp only [go_sem]
    refine rwant_ok hid hl _ a _ ha (RR_step hQ (fun u a ha hQ => ?_) (fun a ha hQ u => (by simp only [go_sem, VR_size, VR_trunc]; exact hQ (mkList x))))
    simp only [go_sem, VR_size, VR_trunc]
    exact RR_ok hQ ha
end
end Go.Proofs.YtelpkgbghhpgaaaGreatDoor.Sx
end
