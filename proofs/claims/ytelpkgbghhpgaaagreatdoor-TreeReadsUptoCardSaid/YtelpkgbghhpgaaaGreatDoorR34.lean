/- TreeReads returns true for all texts whose data are not larger than a bound. What ParseExpr comes to, on both sides. The document's lexer: the whole. TreeReads: the law's run. TreeReads: the row's contract, but for the soundness of the functions that are no plain code. -/
import Derived.Test.YtelpkgbghhpgaaaGreatDoorR13
import Derived.Test.YtelpkgbghhpgaaaGreatDoorR16
import Derived.Test.YtelpkgbghhpgaaaGreatDoorR19
import Derived.Test.YtelpkgbghhpgaaaGreatDoorR26
import Derived.Test.YtelpkgbghhpgaaaGreatDoorR27
import Derived.Test.YtelpkgbghhpgaaaGreatDoorR30
import Derived.Test.YtelpkgbghhpgaaaGreatDoorR33
import Derived.KernelRfl
import Derived.OpenShut
import Derived.Test.YtelpkgbghhpgaaaGreatDoorProg
import Derived.Test.YtelpkgbghhpgaaaGreatDoorRows
set_option linter.all false
section
set_option maxRecDepth 100000
namespace Go.Proofs.YtelpkgbghhpgaaaGreatDoor.Sx
theorem sp_le {l : List Tok} (hl : l.length < 65536) (hT : ∀ t ∈ l, TokOk t) {n : Nat} (hn : n ≤ 65536) {x : Xp} {a : Nat} (h : sp l n .expr 0 = .ok x a) : a ≤ l.length := by
  refine Nat.le_of_not_lt fun hc => ?_
  have := rsp_ok (st := ⟨[.cells []]⟩) (id := 0) (by simp [St.size]) hl hT n hn .expr 0 (fun _ _ => False) (Nat.zero_le _) (by
    rw [h]
    exact fun h2 => absurd h2 (by omega))
  obtain ⟨_, _, _, _, hf⟩ := this
  exact hf
def peR (s : List UInt8) : Xp × Int × Int :=
  if (lexP s).2.2 = 0 then
    match sp (lexP s).1 8192 .expr 0 with
    | .ok x a =>
      if (tokAt (lexP s).1 a).kind = 5 then
        (if (a : Int) + 1 < ((lexP s).1.length : Int) then (zeroX, (a : Int) + 1, 2)
        else if isLarge (szX x) = true then (zeroX, 0, 3) else (x, ((lexP s).1.length : Int), 0))
      else (zeroX, (a : Int), 2)
    | .fail a => (zeroX, (a : Int), 2)
    | .out => (zeroX, 0, 0)
  else (zeroX, ((lexP s).2.1 : Int), (lexP s).2.2)
theorem sp_small (s : List UInt8) : (sp (lexP s).1 8192 .expr 0).on (fun x a => a ≤ (lexP s).1.length ∧ wX x ≤ 1200) TT := by
  obtain ⟨k1, k2⟩ := lexP_ok s
  have := sp_good (l := (lexP s).1) 8192 .expr 0 (by simp only [ntC]; omega)
  cases h : sp (lexP s).1 8192 .expr 0 with
  | ok x a =>
    rw [h] at this
    have hle := sp_le (by omega) k2 (by omega) h
    exact ⟨hle, by have := this.2; omega⟩
  | fail a => trivial
  | out => rw [h] at this; exact this
theorem zeroX_bd : bdX zeroX := by simp [zeroX, bdX, bdXs, most]
theorem peR_bd (s : List UInt8) : bdX (peR s).1 := by
  have := sp_small s
  unfold peR
  split
  · split
    · rename_i x a h
      rw [h] at this
      have hb : bdX x := bdX_of_w x (by have := this.2; unfold most; omega)
      split
      · split
        · exact zeroX_bd
        · split
          · exact zeroX_bd
          · exact hb
      · exact zeroX_bd
    · exact zeroX_bd
    · exact zeroX_bd
  · exact zeroX_bd
section
variable {st : St} {Q : Res → St → Prop}
theorem parseExpr_eq (s : List UInt8) : CallA S 9 [.str s] st Q = Q (.ret (.tuple [.agg (encX (peR s).1), .int .i64 (peR s).2.1, .int .i64 (peR s).2.2])) st := by
  refine callA_eq (fun Q hQ => ?_) Q
  refine parseExpr_ok s 8192 (by omega) ?_
  have hs := sp_small s
  unfold peQ
  unfold peR at hQ
  by_cases he : (lexP s).2.2 = 0
  · rw [if_pos he] at hQ ⊢
    cases h : sp (lexP s).1 8192 .expr 0 with
    | out => rw [h] at hs; exact hs.elim
    | fail a =>
      rw [h] at hQ
      refine ⟨zeroX, rfl, ?_⟩
      rw [if_pos (by omega)]
      exact hQ
    | ok x a =>
      rw [h] at hQ hs
      have hb : bdX x := bdX_of_w x (by have := hs.2; unfold most; omega)
      refine ⟨x, rfl, ?_⟩
      by_cases hk : (tokAt (lexP s).1 a).kind = 5
      · simp only [hk, if_true] at hQ ⊢
        by_cases hlt : (a : Int) + 1 < ((lexP s).1.length : Int)
        · rw [if_pos hlt] at hQ ⊢
          rw [if_pos (by omega)]
          exact hQ
        · rw [if_neg hlt] at hQ ⊢
          rw [if_neg (by omega)]
          refine ⟨hb, ?_⟩
          split
          · rename_i h2; rw [if_pos h2] at hQ; exact hQ
          · rename_i h2; rw [if_neg h2] at hQ; exact hQ
      · simp only [hk, if_false] at hQ ⊢
        rw [if_pos (by omega)]
        exact hQ
  · rw [if_neg he] at hQ ⊢
    exact hQ
theorem rlexed_eq (s : List UInt8) (hlex : ∀ (st : St) (Q : Res → St → Prop), CallA S 59 [.str s] st Q = Q (.ret (lexRes (lexP s))) st) (hok : (lexP s).2.2 ≠ 0 → (lexP s).1 = []) (hlen : (lexP s).2.2 = 0 → (lexP s).2.1 = (lexP s).1.length) : CallA S 27 [.str s] st Q = Q (.ret (lexRes (lexP s))) st := by
  refine callA_eq (fun Q hQ => ?_) Q
  refine callA_body (by rfl) (by rfl) rfl ?_
  unfold lexRes at hQ
  by_cases he : (lexP s).2.2 = 0
  · rw [he, hlen he] at hQ
    simp only [b27, go_sem, hlex, lexRes, he, bne_self_eq_false, List.length_map, trunc_self]
    exact hQ
  · have e : encSl true 3 ((lexP s).1.map encT) = .nilslice := by rw [hok he]; rfl
    rw [e] at hQ
    simp only [b27, go_sem, hlex, lexRes, bne_iff_ne.2 he, trunc_self]
    exact hQ
theorem rparseExpr_eq (s : List UInt8) (hlexed : ∀ (st : St) (Q : Res → St → Prop), CallA S 27 [.str s] st Q = Q (.ret (lexRes (lexP s))) st) (hlen : (lexP s).2.2 = 0 → (lexP s).2.1 = (lexP s).1.length) :
    CallA S 10 [.str s] st Q = Q (.ret (.tuple [.agg (encX (peR s).1), .int .i64 (peR s).2.1, .int .i64 (peR s).2.2])) st := by
  refine callA_eq (fun Q hQ => ?_) Q
  refine callA_body (by rfl) (by rfl) rfl ?_
  have hs := sp_small s
  obtain ⟨k1, k2⟩ := lexP_ok s
  unfold peR at hQ
  by_cases he : (lexP s).2.2 = 0
  · rw [if_pos he] at hQ
    have hn := hlen he
    generalize hL : (lexP s).1 = l at *
    simp only [b10, go_sem, hlexed, lexRes, he, hL, hn, bne_self_eq_false]
    generalize hst1 : st.push (.cells [encSl true 3 (l.map encT), .int .i64 0, .bool false, .nilslice]) = st1
    have hs1 : st1.size = st.size + 1 := by rw [← hst1, size_push]
    have hid : st.size < st1.size := by omega
    have hV : st1 = VR st1 st.size l 0 false := by rw [← hst1]; unfold VR; rw [set_new]; rfl
    have htr : ∀ a f, (VR st1 st.size l a f).trunc st.size = st := by
      intro a f
      rw [← hst1]
      unfold VR
      rw [set_new, trunc_push]
    rw [show CallA S 28 [.ptr st.size 0] st1 = CallA S 28 [.ptr st.size 0] (VR st1 st.size l 0 false) by rw [← hV]]
    refine rsp_ok hid (by omega) k2 8192 (by omega) .expr 0 _ (Nat.zero_le _) ?_
    unfold RR
    cases h : sp l 8192 .expr 0 with
    | out => rw [h] at hs; exact hs.elim
    | fail a =>
      rw [h] at hQ
      refine fun ha y => ?_
      simp only [go_sem, rend_f hid, VR_cells hid, htr]
      exact hQ
    | ok x a =>
      rw [h] at hQ hs
      intro ha
      by_cases hk : (tokAt l a).kind = 5
      · simp only [hk, if_true] at hQ
        have hlt := tokAt_lt (l := l) (i := a) (by omega)
        simp only [go_sem, rend_eq hid (show l.length < 65536 by omega) ha, hk, if_true, VR_cells hid, List.length_map]
        by_cases hlt2 : (a : Int) + 1 < (l.length : Int)
        · rw [if_pos hlt2] at hQ
          have hlt3 : ((a + 1 : Nat) : Int) < (l.length : Int) := by omega
          simp only [go_sem, hlt3, htr]
          exact hQ
        · rw [if_neg hlt2] at hQ
          have hlt3 : ¬ ((a + 1 : Nat) : Int) < (l.length : Int) := by omega
          have hb : bdX x := bdX_of_w x (by have := hs.2; unfold most; omega)
          have hnx : nX x < 1000000 := by have := nX_le x; have := hs.2; omega
          generalize hst2 : (VR st1 st.size l (a + 1) false).push (.cells [.int .i64 0, .int .i64 0]) = st2
          have hs2 : st2.size = st1.size + 1 := by rw [← hst2, size_push, VR_size]
          have hid2 : st1.size < st2.size := by omega
          have hV2 : st2 = VC st2 st1.size (0, 0) := by
            rw [← hst2, show st1.size = (VR st1 st.size l (a + 1) false).size from VR_size.symm]
            unfold VC
            rw [set_new]
          have htr2 : ∀ c, (VC st2 st1.size c).trunc st.size = st := by
            intro c
            rw [← hst2, show st1.size = (VR st1 st.size l (a + 1) false).size from VR_size.symm]
            unfold VC
            rw [set_new]
            have : ((VR st1 st.size l (a + 1) false).push (.cells [.int .i64 c.1, .int .i64 c.2])).trunc st.size = ((VR st1 st.size l (a + 1) false)).trunc st.size := by
              have hz : st.size ≤ (VR st1 st.size l (a + 1) false).size := by rw [VR_size]; omega
              simp only [St.trunc, St.push, St.size] at hz ⊢
              rw [List.take_append_of_le_length hz]
            rw [this, htr]
          have hce : ∀ Q, CallA S 30 [.ptr st1.size 0, .slice 7 [encX x] .no, .int .i64 1] st2 Q = Q (.ret (.tuple [])) (VC st2 st1.size (cntXs (0, 0) 1 [x])) := fun Q => by
            have := cexprs_one (Q := Q) hid2 x hb hnx
            rwa [← hV2] at this
          have hlg := cnt_large x (by omega)
          cases hl : isLarge (szX x) with
          | true =>
            rw [hl] at hQ hlg
            simp only [if_true] at hQ
            simp only [go_sem, hlt3, VR_size, hst2, hce, cLarge_eq hid2, hlg, htr2]
            exact hQ
          | false =>
            rw [hl] at hQ hlg
            simp only [Bool.false_eq_true, if_false] at hQ
            simp only [go_sem, hlt3, VR_size, hst2, hce, cLarge_eq hid2, hlg, htr2]
            exact hQ
      · simp only [hk, if_false] at hQ
        simp only [go_sem, rend_eq hid (show l.length < 65536 by omega) ha, hk, if_false, VR_cells hid, htr]
        exact hQ
  · rw [if_neg he] at hQ
    simp only [b10, go_sem, hlexed, lexRes, bne_iff_ne.2 he, trunc_self]
    exact hQ
end
end Go.Proofs.YtelpkgbghhpgaaaGreatDoor.Sx
end
section
set_option maxRecDepth 100000
namespace Go.Proofs.YtelpkgbghhpgaaaGreatDoor.Sx
theorem lineEnd_is {s : List UInt8} : ∀ (n i : Nat), i + n = s.length → lineEnd s i < s.length → s[lineEnd s i]? = some 10
  | 0, i, h, hl => by rw [lineEnd_past (i := i) (by omega)] at hl; omega
  | n + 1, i, h, hl => by
    have hi : i < s.length := by omega
    by_cases h10 : s[i] = 10
    · have hla := lineEnd_at (s := s) (i := i) (by rw [getB hi, h10])
      rw [hla, getB hi, h10]
    · rw [lineEnd_step hi h10] at hl ⊢
      exact lineEnd_is n (i + 1) (by omega) hl
theorem first_after {s : List UInt8} {a : Nat} (h : s[a]? = some 10) : firstP s (a + 1) = true := by
  rw [firstP]
  have : isC s a 3 = false := by unfold isC; rw [h]; rfl
  rw [if_neg (by rw [this]; exact Bool.false_ne_true), decide_eq_true h]
def stepLine (s : List UInt8) : Step → Prop
  | .tok _ e l => lineOk s e l
  | .go e l => lineOk s e l
  | .fail _ => True
theorem step_line {s : List UInt8} {a : Nat} {line : Bool} (ha : a < s.length) (hok : lineOk s a line) : stepLine s (stepP s a line) := by
  unfold stepP
  by_cases h10 : s[a]? = some 10
  · rw [if_pos h10]
    split <;> exact fun _ => .inl (first_after h10)
  · rw [if_neg h10]
    by_cases h3 : isC s a 3 = true
    · rw [if_pos h3]
      intro hl
      left
      rw [firstP, if_pos h3]
      rcases hok hl with h | h | h
      · exact h
      · omega
      · exact absurd h h10
    · rw [if_neg h3]
      have heol : ∀ i, i ≤ s.length → s.length ≤ lineEnd s i ∨ s[lineEnd s i]? = some 10 := fun i hi => by
        by_cases hl : lineEnd s i < s.length
        · exact .inr (lineEnd_is (s.length - i) i (by omega) hl)
        · exact .inl (by omega)
      split
      · split
        · trivial
        · exact fun _ => .inr (heol a (by omega))
      · split
        · split
          · split
            · trivial
            · have hk := skipB_le (s := s) (a := a + 1) (by omega)
              intro _
              rcases heol (skipB s (a + 1)) hk.2 with h | h
              · rw [if_neg (by omega)]; exact .inr (.inl h)
              · have hlt := (List.getElem?_eq_some_iff.1 h).1
                rw [if_pos hlt]; exact .inl (first_after h)
          · trivial
        · split
          · exact fun h => by cases h
          · trivial
section
variable {st : St} {s : List UInt8} {Q : Res → St → Prop}
theorem lexP_err (s : List UInt8) : ((lexP s).2.2 ≠ 0 → (lexP s).1 = []) ∧ ((lexP s).2.2 = 0 → (lexP s).2.1 = (lexP s).1.length) := by
  unfold lexP
  split
  · exact ⟨fun _ => rfl, fun h => by simp at h⟩
  · split
    · split
      · exact ⟨fun _ => rfl, fun h => by simp at h⟩
      · exact ⟨fun h => by simp at h, fun _ => rfl⟩
    · exact ⟨fun _ => rfl, fun h => by simp at h⟩
    · exact ⟨fun _ => rfl, fun _ => rfl⟩
theorem rLex_eq : CallA S 59 [.str s] st Q = Q (.ret (lexRes (lexP s))) st := by
  refine callA_eq (fun Q hQ => ?_) Q
  refine callA_body (by rfl) (by rfl) rfl ?_
  unfold lexP lexRes at hQ
  by_cases hl : s.length > 4000
  · have g : (s.length : Int) > 4000 := by omega
    rw [if_pos hl] at hQ
    simp only [b59, go_sem, g, trunc_self]
    exact hQ
  · have g : ¬ (s.length : Int) > 4000 := by omega
    have hs : s.length < 65536 := by omega
    rw [if_neg hl] at hQ
    have hout := lexN_out hs (s.length + 1) 0 false [] (by omega) (by omega)
    obtain ⟨L, hL⟩ : ∃ L, L = lexN s (s.length + 1) 0 false [] := ⟨_, rfl⟩
    rw [← hL] at hQ hout
    simp only [b59, go_sem, g]
    generalize hst1 : st.push (.cells [.str s, .int .i64 0, .bool false, .int .i64 (-1), .nilslice]) = st1
    have hs1 : st1.size = st.size + 1 := by rw [← hst1, size_push]
    have hid : st.size < st1.size := by omega
    have hV : st1 = VL st1 st.size s 0 false (-1) [] := by rw [← hst1]; unfold VL; rw [set_new]; rfl
    have htr : ∀ a line wr acc, (VL st1 st.size s a line wr acc).trunc st.size = st := by
      intro a line wr acc
      rw [← hst1]
      unfold VL
      rw [set_new, trunc_push]
    refine wp_loop (fun n fr st' => ∃ (a : Nat) (line : Bool) (wr : Int) (acc : List Tok) (ser : Nat), st' = VL st1 st.size s a line wr acc ∧
      ((wr = -1 ∧ n + a = s.length ∧ (∃ m, L = lexN s m a line acc ∧ s.length < a + m) ∧ acc.length ≤ a ∧ lineOk s a line) ∨ (∃ p : Nat, wr = (p : Int) ∧ L = .fail p)) ∧
      fr = ⟨[(0, .str s), (5, .ptr st.size 0)], [], [], ser⟩) s.length ⟨0, false, -1, [], _, hV, .inl ⟨rfl, rfl, ⟨s.length + 1, hL, by omega⟩, Nat.le_refl _, fun _ => .inl rfl⟩, rfl⟩ ?_
    rintro n fr st' ⟨a, line, wr, acc, ser, rfl, hc, rfl⟩
    rcases hc with ⟨rfl, hna, ⟨m, hLm, hm⟩, hacc, hok⟩ | ⟨p, rfl, hp⟩
    · have hneg : ((-1 : Int) < 0) := by decide
      have hneg2 : ¬ ((-1 : Int) ≥ 0) := by decide
      by_cases h : (a : Int) < (s.length : Int)
      · have ha : a < s.length := by omega
        simp only [b59l0, go_sem, VL_cells hid, h, hneg]
        cases m with
        | zero => omega
        | succ m =>
          rw [lexN, if_neg (by omega)] at hLm
          refine rstep_ok hid hs (by omega) ha hok ?_
          have hle := step_le (line := line) hs ha
          have hsl := step_line (line := line) ha hok
          cases hsp : stepP s a line with
          | tok t e l' =>
            rw [hsp] at hle hLm hsl
            simp only at hLm
            simp only [spQ, go_sem]
            exact ⟨s.length - e, by have := hle.1; omega, e, l', -1, acc ++ [t], _, rfl, .inl ⟨rfl, by have := hle.2.1; omega, ⟨m, hLm, by have := hle.1; omega⟩, by have := hle.1; simp; omega, hsl⟩, rfl⟩
          | go e l' =>
            rw [hsp] at hle hLm hsl
            simp only at hLm
            simp only [spQ, go_sem]
            exact ⟨s.length - e, by have := hle.1; omega, e, l', -1, acc, _, rfl, .inl ⟨rfl, by have := hle.2; omega, ⟨m, hLm, by have := hle.1; omega⟩, by have := hle.1; omega, hsl⟩, rfl⟩
          | fail p =>
            rw [hsp] at hLm
            simp only at hLm
            intro a' l' acc'
            simp only [go_sem]
            exact ⟨n - 1, by omega, a', l', (p : Int), acc', _, rfl, .inr ⟨p, rfl, hLm⟩, rfl⟩
      · have ha : a = s.length := by omega
        cases m with
        | zero => omega
        | succ m =>
          rw [lexN, if_pos (by omega)] at hLm
          rw [hLm] at hQ
          simp only at hQ
          have hlen : (if line = true then acc ++ [⟨5, a, []⟩] else acc).length ≤ s.length + 1 := by split <;> (try simp) <;> omega
          simp only [b59l0, go_sem, VL_cells hid, h, hneg2, ends_eq hid (show acc.length < 1000000 by omega)]
          generalize (if line = true then acc ++ [⟨5, (a : Int), []⟩] else acc) = fin at *
          have hol : lenA .slice (outV st.size fin) = some (fin.length : Int) := by
            cases fin <;> simp [outV, lenA]
          by_cases h12 : fin.length > 1200
          · have g12 : (fin.length : Int) > 1200 := by omega
            rw [if_pos h12] at hQ
            simp only [go_sem, VL_cells hid, hol, g12, htr]
            exact hQ
          · have g12 : ¬ (fin.length : Int) > 1200 := by omega
            rw [if_neg h12] at hQ
            cases fin with
            | nil =>
              simp only [go_sem, VL_cells hid, hol, g12, outV_nil, htr]
              exact hQ
            | cons t r =>
              simp only [outV_cons] at hol ⊢
              have g12c : ¬ ((r.length + 1 : Nat) : Int) > 1200 := by simp only [List.length_cons] at g12; exact g12
              simp only [go_sem, VL_cells hid, hol, g12c, outV_cons, List.length_map, htr]
              exact hQ
    · have hneg : ¬ ((p : Int) < 0) := by omega
      have hge : (p : Int) ≥ 0 := by omega
      rw [hp] at hQ
      by_cases h : (a : Int) < (s.length : Int)
      · simp only [b59l0, go_sem, VL_cells hid, h, hneg, hge, htr]
        exact hQ
      · simp only [b59l0, go_sem, VL_cells hid, h, hge, htr]
        exact hQ
theorem rParseExpr_eq (s : List UInt8) : CallA S 10 [.str s] st Q = Q (.ret (.tuple [.agg (encX (peR s).1), .int .i64 (peR s).2.1, .int .i64 (peR s).2.2])) st :=
  rparseExpr_eq s (fun st Q => rlexed_eq s (fun st Q => rLex_eq) (lexP_err s).1 (lexP_err s).2) (lexP_err s).2
end
end Go.Proofs.YtelpkgbghhpgaaaGreatDoor.Sx
end
section
set_option maxRecDepth 100000
namespace Go.Proofs.YtelpkgbghhpgaaaGreatDoor.Sx
section
variable {st : St} {Q : Res → St → Prop}
theorem over_ok (s : List UInt8) (hQ : ∀ b : Bool, Q (.ret (.bool b)) st) : CallA S 7 [.str s] st Q := by
  refine callA_body (by rfl) (by rfl) rfl ?_
  by_cases h : (s.length : Int) > 16000
  · simp only [b7, go_sem, h, trunc_self]
    exact hQ _
  · simp only [b7, go_sem, h, trunc_self]
    exact hQ _
theorem treeReads (s : List UInt8) (hQ : Q (.ret (.bool true)) st) : CallA S 3 [.str s] st Q := by
  refine callA_body (by rfl) (by rfl) rfl ?_
  simp only [b3, go_sem]
  refine over_ok s (fun b => ?_)
  cases b with
  | true =>
    simp only [go_sem, known_eq, trunc_self]
    exact hQ
  | false =>
    have hsame : ∀ (st : St) (Q : Res → St → Prop), CallA S 11 [.agg (encX (peR s).1), .agg (encX (peR s).1)] st Q = Q (.ret (.bool true)) st := fun st Q => by
      rw [rSameExpr_eq _ (peR_bd s), sameX_refl]
    simp only [go_sem, parseExpr_eq, rParseExpr_eq, hsame, beq_self_eq_true, known_eq, trunc_self]
    exact hQ
end
end Go.Proofs.YtelpkgbghhpgaaaGreatDoor.Sx
end
section
set_option maxRecDepth 100000
namespace Go.Proofs.YtelpkgbghhpgaaaGreatDoor.Sx
open AV Go.Proofs.YtelpkgbghhpgaaaGreatDoor Go.ChangeShapes Go.WideShapes Go.RowKit
theorem laidOutB : laidOutB Tryz.prog = true := by kernel_rfl
theorem one_string {P : Program} {W : World} {base : Nat} {t : TypeId} {v : Value} (ht : P.underlying t = some .string) (h : Value.okWide P W .any base t v) : v.cells.toList = [v] := by
  cases v with
  | agg cs => simp [Value.okWide, Cell.okWide, Cell.ok, ht] at h
  | _ => rfl
section
variable {H : Type} {enc : TypeId × Value → H}
theorem rowTR (W : World) (args : Array Value) (ds gs : List (DataW H)) (before : List MemPlace) (hS : SimOk Tryz.prog W S)
    {base : Nat} (hval : ∀ (j : Nat) t v, Tryz.f3.params[j]? = some t → args[j]? = some v → Value.okWide Tryz.prog W .any base t v)
    (hW : DataW.Whole enc Tryz.prog Tryz.f3.params.toList Rows.treeReadsSpec.vars false W args.toList ds gs before) :
    Calls Tryz.prog 3 args W fun e W' => ∃ v, e = .returned v ∧ Rows.treeReadsSpec.post enc Tryz.prog Tryz.f3 false true false false W args v W' := by
  have hW' := hW
  obtain ⟨p, q, hA0, hV, rfl, hfz, hnd⟩ := hW
  have hA : DataW.TrodAll enc Tryz.prog W 0 (fun _ => true) true Tryz.f3.params.toList args.toList ds p := hA0
  rw [Tryz.params3] at hA
  obtain ⟨v0, vs0, d0, ds0, p0, q0, hargs, rfl, rfl, h0, r0⟩ := trodAll_cons hA
  obtain ⟨rfl, rfl, rfl⟩ := trodAll_nil r0
  obtain rfl : args = #[v0] := by cases args; simp_all
  obtain ⟨rfl, rfl⟩ := trodVars_none hV
  have hlt : ∀ x ∈ p0 ++ [] ++ [], x.block < W.heap.size := fun x hx => by simpa using hW'.lt x hx
  have h0k := h0
  obtain ⟨f0, h0⟩ := h0
  rw [one_string Tryz.underlying9 (hval 0 _ v0 (by rw [Tryz.params3]; rfl) rfl)] at h0
  obtain ⟨s, rs, _⟩ := str_read Tryz.underlying9 h0
  have walk := run_true hS (f := 3) (vs := [.str s]) (args := [v0]) rfl (fun i h h' => by
    match i, h with
    | 0, _ => exact .plain rs) (treeReads s rfl)
  refine walk.mono fun e W' ⟨he, hk⟩ => ?_
  refine ⟨_, he, _, _, _, [], p0 ++ [], [], hW', ?_, ?_, rfl, World.keptBut_mono (fun _ f => f.elim) hk.but, fun h => by cases h⟩
  · exact trodAll_mk1 (shut_bool Tryz.underlying4 _)
  · exact trodAll_cons_mk (Below.trod laidOutB (by kernel_rfl) (of_decide_eq_true (by kernel_rfl)) h0k hk.below (fun x hx => hlt x (by simp [hx]))) trodAll_mk0
end
end Go.Proofs.YtelpkgbghhpgaaaGreatDoor.Sx
end
section
set_option maxRecDepth 100000
namespace Go.Proofs.YtelpkgbghhpgaaaGreatDoor.Sx
theorem chk3 : chkFunc Tryz.prog 3 a3 = true := by kernel_rfl
theorem chk4 : chkFunc Tryz.prog 4 a4 = true := by kernel_rfl
theorem chk5 : chkFunc Tryz.prog 5 a5 = true := by kernel_rfl
theorem chk6 : chkFunc Tryz.prog 6 a6 = true := by kernel_rfl
theorem chk7 : chkFunc Tryz.prog 7 a7 = true := by kernel_rfl
theorem chk8 : chkFunc Tryz.prog 8 a8 = true := by kernel_rfl
theorem chk9 : chkFunc Tryz.prog 9 a9 = true := by kernel_rfl
theorem chk10 : chkFunc Tryz.prog 10 a10 = true := by kernel_rfl
theorem chk11 : chkFunc Tryz.prog 11 a11 = true := by kernel_rfl
theorem chk12 : chkFunc Tryz.prog 12 a12 = true := by kernel_rfl
theorem chk22 : chkFunc Tryz.prog 22 a22 = true := by kernel_rfl
theorem chk23 : chkFunc Tryz.prog 23 a23 = true := by kernel_rfl
theorem chk24 : chkFunc Tryz.prog 24 a24 = true := by kernel_rfl
theorem chk25 : chkFunc Tryz.prog 25 a25 = true := by kernel_rfl
theorem chk26 : chkFunc Tryz.prog 26 a26 = true := by kernel_rfl
theorem chk27 : chkFunc Tryz.prog 27 a27 = true := by kernel_rfl
theorem chk28 : chkFunc Tryz.prog 28 a28 = true := by kernel_rfl
theorem chk29 : chkFunc Tryz.prog 29 a29 = true := by kernel_rfl
theorem chk30 : chkFunc Tryz.prog 30 a30 = true := by kernel_rfl
theorem chk31 : chkFunc Tryz.prog 31 a31 = true := by kernel_rfl
theorem chk32 : chkFunc Tryz.prog 32 a32 = true := by kernel_rfl
theorem chk33 : chkFunc Tryz.prog 33 a33 = true := by kernel_rfl
theorem chk34 : chkFunc Tryz.prog 34 a34 = true := by kernel_rfl
theorem chk35 : chkFunc Tryz.prog 35 a35 = true := by kernel_rfl
theorem chk36 : chkFunc Tryz.prog 36 a36 = true := by kernel_rfl
theorem chk51 : chkFunc Tryz.prog 51 a51 = true := by kernel_rfl
theorem chk52 : chkFunc Tryz.prog 52 a52 = true := by kernel_rfl
theorem chk53 : chkFunc Tryz.prog 53 a53 = true := by kernel_rfl
theorem chk55 : chkFunc Tryz.prog 55 a55 = true := by kernel_rfl
theorem chk56 : chkFunc Tryz.prog 56 a56 = true := by kernel_rfl
theorem chk57 : chkFunc Tryz.prog 57 a57 = true := by kernel_rfl
theorem chk58 : chkFunc Tryz.prog 58 a58 = true := by kernel_rfl
theorem chk59 : chkFunc Tryz.prog 59 a59 = true := by kernel_rfl
theorem chk60 : chkFunc Tryz.prog 60 a60 = true := by kernel_rfl
theorem chk61 : chkFunc Tryz.prog 61 a61 = true := by kernel_rfl
theorem chk62 : chkFunc Tryz.prog 62 a62 = true := by kernel_rfl
theorem chk63 : chkFunc Tryz.prog 63 a63 = true := by kernel_rfl
theorem chk64 : chkFunc Tryz.prog 64 a64 = true := by kernel_rfl
theorem chk65 : chkFunc Tryz.prog 65 a65 = true := by kernel_rfl
theorem chk66 : chkFunc Tryz.prog 66 a66 = true := by kernel_rfl
theorem chk67 : chkFunc Tryz.prog 67 a67 = true := by kernel_rfl
theorem chk68 : chkFunc Tryz.prog 68 a68 = true := by kernel_rfl
theorem chk69 : chkFunc Tryz.prog 69 a69 = true := by kernel_rfl
theorem chk72 : chkFunc Tryz.prog 72 a72 = true := by kernel_rfl
theorem chk73 : chkFunc Tryz.prog 73 a73 = true := by kernel_rfl
theorem chk74 : chkFunc Tryz.prog 74 a74 = true := by kernel_rfl
theorem chk75 : chkFunc Tryz.prog 75 a75 = true := by kernel_rfl
theorem chk84 : chkFunc Tryz.prog 84 a84 = true := by kernel_rfl
theorem chk86 : chkFunc Tryz.prog 86 a86 = true := by kernel_rfl
theorem chk87 : chkFunc Tryz.prog 87 a87 = true := by kernel_rfl
theorem chk88 : chkFunc Tryz.prog 88 a88 = true := by kernel_rfl
theorem chk89 : chkFunc Tryz.prog 89 a89 = true := by kernel_rfl
theorem chk90 : chkFunc Tryz.prog 90 a90 = true := by kernel_rfl
theorem chk91 : chkFunc Tryz.prog 91 a91 = true := by kernel_rfl
theorem chk92 : chkFunc Tryz.prog 92 a92 = true := by kernel_rfl
theorem chk93 : chkFunc Tryz.prog 93 a93 = true := by kernel_rfl
theorem chk94 : chkFunc Tryz.prog 94 a94 = true := by kernel_rfl
theorem chk95 : chkFunc Tryz.prog 95 a95 = true := by kernel_rfl
theorem chk96 : chkFunc Tryz.prog 96 a96 = true := by kernel_rfl
theorem chk97 : chkFunc Tryz.prog 97 a97 = true := by kernel_rfl
end Go.Proofs.YtelpkgbghhpgaaaGreatDoor.Sx
end
section
set_option maxRecDepth 100000
namespace Go.Proofs.YtelpkgbghhpgaaaGreatDoor.Sx
theorem chk98 : chkFunc Tryz.prog 98 a98 = true := by kernel_rfl
theorem chk99 : chkFunc Tryz.prog 99 a99 = true := by kernel_rfl
theorem chk100 : chkFunc Tryz.prog 100 a100 = true := by kernel_rfl
theorem chk101 : chkFunc Tryz.prog 101 a101 = true := by kernel_rfl
theorem chk109 : chkFunc Tryz.prog 109 a109 = true := by kernel_rfl
theorem chk110 : chkFunc Tryz.prog 110 a110 = true := by kernel_rfl
theorem chk111 : chkFunc Tryz.prog 111 a111 = true := by kernel_rfl
theorem chk112 : chkFunc Tryz.prog 112 a112 = true := by kernel_rfl
theorem chk113 : chkFunc Tryz.prog 113 a113 = true := by kernel_rfl
theorem chk114 : chkFunc Tryz.prog 114 a114 = true := by kernel_rfl
theorem chk115 : chkFunc Tryz.prog 115 a115 = true := by kernel_rfl
theorem chk116 : chkFunc Tryz.prog 116 a116 = true := by kernel_rfl
theorem chk117 : chkFunc Tryz.prog 117 a117 = true := by kernel_rfl
theorem chk118 : chkFunc Tryz.prog 118 a118 = true := by kernel_rfl
theorem chk119 : chkFunc Tryz.prog 119 a119 = true := by kernel_rfl
theorem chk120 : chkFunc Tryz.prog 120 a120 = true := by kernel_rfl
theorem chk121 : chkFunc Tryz.prog 121 a121 = true := by kernel_rfl
theorem chk122 : chkFunc Tryz.prog 122 a122 = true := by kernel_rfl
theorem chk123 : chkFunc Tryz.prog 123 a123 = true := by kernel_rfl
theorem chk124 : chkFunc Tryz.prog 124 a124 = true := by kernel_rfl
theorem chk125 : chkFunc Tryz.prog 125 a125 = true := by kernel_rfl
theorem chk126 : chkFunc Tryz.prog 126 a126 = true := by kernel_rfl
theorem chk127 : chkFunc Tryz.prog 127 a127 = true := by kernel_rfl
theorem chk128 : chkFunc Tryz.prog 128 a128 = true := by kernel_rfl
theorem chk129 : chkFunc Tryz.prog 129 a129 = true := by kernel_rfl
theorem chk130 : chkFunc Tryz.prog 130 a130 = true := by kernel_rfl
theorem chk131 : chkFunc Tryz.prog 131 a131 = true := by kernel_rfl
theorem chk132 : chkFunc Tryz.prog 132 a132 = true := by kernel_rfl
theorem chk133 : chkFunc Tryz.prog 133 a133 = true := by kernel_rfl
theorem chk134 : chkFunc Tryz.prog 134 a134 = true := by kernel_rfl
theorem chk137 : chkFunc Tryz.prog 137 a137 = true := by kernel_rfl
theorem chk139 : chkFunc Tryz.prog 139 a139 = true := by kernel_rfl
theorem chk140 : chkFunc Tryz.prog 140 a140 = true := by kernel_rfl
theorem chk156 : chkFunc Tryz.prog 156 a156 = true := by kernel_rfl
theorem chk157 : chkFunc Tryz.prog 157 a157 = true := by kernel_rfl
theorem chk158 : chkFunc Tryz.prog 158 a158 = true := by kernel_rfl
theorem chk160 : chkFunc Tryz.prog 160 a160 = true := by kernel_rfl
theorem chk161 : chkFunc Tryz.prog 161 a161 = true := by kernel_rfl
theorem chk162 : chkFunc Tryz.prog 162 a162 = true := by kernel_rfl
theorem chk163 : chkFunc Tryz.prog 163 a163 = true := by kernel_rfl
theorem chk164 : chkFunc Tryz.prog 164 a164 = true := by kernel_rfl
theorem chk165 : chkFunc Tryz.prog 165 a165 = true := by kernel_rfl
theorem chk166 : chkFunc Tryz.prog 166 a166 = true := by kernel_rfl
theorem chk167 : chkFunc Tryz.prog 167 a167 = true := by kernel_rfl
theorem chk168 : chkFunc Tryz.prog 168 a168 = true := by kernel_rfl
theorem chk169 : chkFunc Tryz.prog 169 a169 = true := by kernel_rfl
theorem chk170 : chkFunc Tryz.prog 170 a170 = true := by kernel_rfl
theorem chk171 : chkFunc Tryz.prog 171 a171 = true := by kernel_rfl
theorem chk172 : chkFunc Tryz.prog 172 a172 = true := by kernel_rfl
theorem chk173 : chkFunc Tryz.prog 173 a173 = true := by kernel_rfl
theorem chk174 : chkFunc Tryz.prog 174 a174 = true := by kernel_rfl
theorem chk175 : chkFunc Tryz.prog 175 a175 = true := by kernel_rfl
theorem chk176 : chkFunc Tryz.prog 176 a176 = true := by kernel_rfl
theorem chk177 : chkFunc Tryz.prog 177 a177 = true := by kernel_rfl
theorem chk178 : chkFunc Tryz.prog 178 a178 = true := by kernel_rfl
theorem chk180 : chkFunc Tryz.prog 180 a180 = true := by kernel_rfl
theorem chk181 : chkFunc Tryz.prog 181 a181 = true := by kernel_rfl
theorem chk182 : chkFunc Tryz.prog 182 a182 = true := by kernel_rfl
theorem chk183 : chkFunc Tryz.prog 183 a183 = true := by kernel_rfl
theorem chk184 : chkFunc Tryz.prog 184 a184 = true := by kernel_rfl
end Go.Proofs.YtelpkgbghhpgaaaGreatDoor.Sx
end
section
set_option maxRecDepth 100000
namespace Go.Proofs.YtelpkgbghhpgaaaGreatDoor.Sx
theorem chk209 : chkFunc Tryz.prog 209 a209 = true := by kernel_rfl
theorem chk210 : chkFunc Tryz.prog 210 a210 = true := by kernel_rfl
theorem chk211 : chkFunc Tryz.prog 211 a211 = true := by kernel_rfl
theorem chk212 : chkFunc Tryz.prog 212 a212 = true := by kernel_rfl
theorem chk213 : chkFunc Tryz.prog 213 a213 = true := by kernel_rfl
theorem chk214 : chkFunc Tryz.prog 214 a214 = true := by kernel_rfl
theorem chk215 : chkFunc Tryz.prog 215 a215 = true := by kernel_rfl
theorem chk223 : chkFunc Tryz.prog 223 a223 = true := by kernel_rfl
theorem chk224 : chkFunc Tryz.prog 224 a224 = true := by kernel_rfl
theorem chk225 : chkFunc Tryz.prog 225 a225 = true := by kernel_rfl
theorem chk226 : chkFunc Tryz.prog 226 a226 = true := by kernel_rfl
theorem chk242 : chkFunc Tryz.prog 242 a242 = true := by kernel_rfl
theorem chk243 : chkFunc Tryz.prog 243 a243 = true := by kernel_rfl
theorem chk244 : chkFunc Tryz.prog 244 a244 = true := by kernel_rfl
theorem chk245 : chkFunc Tryz.prog 245 a245 = true := by kernel_rfl
theorem chk246 : chkFunc Tryz.prog 246 a246 = true := by kernel_rfl
theorem chk247 : chkFunc Tryz.prog 247 a247 = true := by kernel_rfl
theorem chk256 : chkFunc Tryz.prog 256 a256 = true := by kernel_rfl
theorem chk269 : chkFunc Tryz.prog 269 a269 = true := by kernel_rfl
theorem chk270 : chkFunc Tryz.prog 270 a270 = true := by kernel_rfl
theorem chk271 : chkFunc Tryz.prog 271 a271 = true := by kernel_rfl
theorem chk272 : chkFunc Tryz.prog 272 a272 = true := by kernel_rfl
theorem chk273 : chkFunc Tryz.prog 273 a273 = true := by kernel_rfl
theorem chk274 : chkFunc Tryz.prog 274 a274 = true := by kernel_rfl
theorem chk275 : chkFunc Tryz.prog 275 a275 = true := by kernel_rfl
theorem chk276 : chkFunc Tryz.prog 276 a276 = true := by kernel_rfl
theorem chk277 : chkFunc Tryz.prog 277 a277 = true := by kernel_rfl
theorem chk284 : chkFunc Tryz.prog 284 a284 = true := by kernel_rfl
theorem chk285 : chkFunc Tryz.prog 285 a285 = true := by kernel_rfl
theorem chk287 : chkFunc Tryz.prog 287 a287 = true := by kernel_rfl
theorem chk288 : chkFunc Tryz.prog 288 a288 = true := by kernel_rfl
theorem chk289 : chkFunc Tryz.prog 289 a289 = true := by kernel_rfl
theorem chk290 : chkFunc Tryz.prog 290 a290 = true := by kernel_rfl
theorem chk291 : chkFunc Tryz.prog 291 a291 = true := by kernel_rfl
theorem chk292 : chkFunc Tryz.prog 292 a292 = true := by kernel_rfl
theorem chk293 : chkFunc Tryz.prog 293 a293 = true := by kernel_rfl
theorem chk294 : chkFunc Tryz.prog 294 a294 = true := by kernel_rfl
theorem chk295 : chkFunc Tryz.prog 295 a295 = true := by kernel_rfl
theorem chk303 : chkFunc Tryz.prog 303 a303 = true := by kernel_rfl
end Go.Proofs.YtelpkgbghhpgaaaGreatDoor.Sx
end
section
set_option maxRecDepth 100000
namespace Go.Proofs.YtelpkgbghhpgaaaGreatDoor.Sx
theorem splitOk {c : Prop} [Decidable c] {x y z : Option AFunc} {G : Prop} (h : (if c then x else y) = z) (h1 : x = z → G) (h2 : y = z → G) : G := by
  by_cases e : c
  · rw [if_pos e] at h; exact h1 h
  · rw [if_neg e] at h; exact h2 h
theorem leafOk {P : Program} {i f : Nat} {a af : AFunc} (hc : chkFunc P i a = true) (h : (if f = i then some a else none) = some af) : chkFunc P f af = true := by
  by_cases e : f = i
  · rw [if_pos e] at h; cases h; rw [e]; exact hc
  · rw [if_neg e] at h; cases h
theorem codeOk (f : Nat) (af : AFunc) (h : codeTab f = some af) : chkFunc Tryz.prog f af = true := by
  unfold codeTab at h
  exact (splitOk h (fun h => (splitOk h (fun h => (splitOk h (fun h => (splitOk h (fun h => (splitOk h (fun h => (splitOk h (fun h => (splitOk h (fun h => (leafOk chk3 h)) fun h => (leafOk chk4 h))) fun h => (splitOk h (fun h => (leafOk chk5 h)) fun h => (leafOk chk6 h)))) fun h => (splitOk h (fun h => (splitOk h (fun h => (leafOk chk7 h)) fun h => (leafOk chk8 h))) fun h => (splitOk h (fun h => (leafOk chk9 h)) fun h => (splitOk h (fun h => (leafOk chk10 h)) fun h => (leafOk chk11 h)))))) fun h => (splitOk h (fun h => (splitOk h (fun h => (splitOk h (fun h => (leafOk chk12 h)) fun h => (leafOk chk22 h))) fun h => (splitOk h (fun h => (leafOk chk23 h)) fun h => (splitOk h (fun h => (leafOk chk24 h)) fun h => (leafOk chk25 h))))) fun h => (splitOk h (fun h => (splitOk h (fun h => (leafOk chk26 h)) fun h => (leafOk chk27 h))) fun h => (splitOk h (fun h => (leafOk chk28 h)) fun h => (splitOk h (fun h => (leafOk chk29 h)) fun h => (leafOk chk30 h))))))) fun h => (splitOk h (fun h => (splitOk h (fun h => (splitOk h (fun h => (splitOk h (fun h => (leafOk chk31 h)) fun h => (leafOk chk32 h))) fun h => (splitOk h (fun h => (leafOk chk33 h)) fun h => (splitOk h (fun h => (leafOk chk34 h)) fun h => (leafOk chk35 h))))) fun h => (splitOk h (fun h => (splitOk h (fun h => (leafOk chk36 h)) fun h => (leafOk chk51 h))) fun h => (splitOk h (fun h => (leafOk chk52 h)) fun h => (splitOk h (fun h => (leafOk chk53 h)) fun h => (leafOk chk55 h)))))) fun h => (splitOk h (fun h => (splitOk h (fun h => (splitOk h (fun h => (leafOk chk56 h)) fun h => (leafOk chk57 h))) fun h => (splitOk h (fun h => (leafOk chk58 h)) fun h => (splitOk h (fun h => (leafOk chk59 h)) fun h => (leafOk chk60 h))))) fun h => (splitOk h (fun h => (splitOk h (fun h => (leafOk chk61 h)) fun h => (leafOk chk62 h))) fun h => (splitOk h (fun h => (leafOk chk63 h)) fun h => (splitOk h (fun h => (leafOk chk64 h)) fun h => (leafOk chk65 h)))))))) fun h => (splitOk h (fun h => (splitOk h (fun h => (splitOk h (fun h => (splitOk h (fun h => (splitOk h (fun h => (leafOk chk66 h)) fun h => (leafOk chk67 h))) fun h => (splitOk h (fun h => (leafOk chk68 h)) fun h => (splitOk h (fun h => (leafOk chk69 h)) fun h => (leafOk chk72 h))))) fun h => (splitOk h (fun h => (splitOk h (fun h => (leafOk chk73 h)) fun h => (leafOk chk74 h))) fun h => (splitOk h (fun h => (leafOk chk75 h)) fun h => (splitOk h (fun h => (leafOk chk84 h)) fun h => (leafOk chk86 h)))))) fun h => (splitOk h (fun h => (splitOk h (fun h => (splitOk h (fun h => (leafOk chk87 h)) fun h => (leafOk chk88 h))) fun h => (splitOk h (fun h => (leafOk chk89 h)) fun h => (splitOk h (fun h => (leafOk chk90 h)) fun h => (leafOk chk91 h))))) fun h => (splitOk h (fun h => (splitOk h (fun h => (leafOk chk92 h)) fun h => (leafOk chk93 h))) fun h => (splitOk h (fun h => (leafOk chk94 h)) fun h => (splitOk h (fun h => (leafOk chk95 h)) fun h => (leafOk chk96 h))))))) fun h => (splitOk h (fun h => (splitOk h (fun h => (splitOk h (fun h => (splitOk h (fun h => (leafOk chk97 h)) fun h => (leafOk chk98 h))) fun h => (splitOk h (fun h => (leafOk chk99 h)) fun h => (splitOk h (fun h => (leafOk chk100 h)) fun h => (leafOk chk101 h))))) fun h => (splitOk h (fun h => (splitOk h (fun h => (leafOk chk109 h)) fun h => (leafOk chk110 h))) fun h => (splitOk h (fun h => (leafOk chk111 h)) fun h => (splitOk h (fun h => (leafOk chk112 h)) fun h => (leafOk chk113 h)))))) fun h => (splitOk h (fun h => (splitOk h (fun h => (splitOk h (fun h => (leafOk chk114 h)) fun h => (leafOk chk115 h))) fun h => (splitOk h (fun h => (leafOk chk116 h)) fun h => (splitOk h (fun h => (leafOk chk117 h)) fun h => (leafOk chk118 h))))) fun h => (splitOk h (fun h => (splitOk h (fun h => (leafOk chk119 h)) fun h => (leafOk chk120 h))) fun h => (splitOk h (fun h => (leafOk chk121 h)) fun h => (splitOk h (fun h => (leafOk chk122 h)) fun h => (leafOk chk123 h))))))))) fun h => (splitOk h (fun h => (splitOk h (fun h => (splitOk h (fun h => (splitOk h (fun h => (splitOk h (fun h => (splitOk h (fun h => (leafOk chk124 h)) fun h => (leafOk chk125 h))) fun h => (splitOk h (fun h => (leafOk chk126 h)) fun h => (splitOk h (fun h => (leafOk chk127 h)) fun h => (leafOk chk128 h))))) fun h => (splitOk h (fun h => (splitOk h (fun h => (leafOk chk129 h)) fun h => (leafOk chk130 h))) fun h => (splitOk h (fun h => (leafOk chk131 h)) fun h => (splitOk h (fun h => (leafOk chk132 h)) fun h => (leafOk chk133 h)))))) fun h => (splitOk h (fun h => (splitOk h (fun h => (splitOk h (fun h => (leafOk chk134 h)) fun h => (leafOk chk137 h))) fun h => (splitOk h (fun h => (leafOk chk139 h)) fun h => (splitOk h (fun h => (leafOk chk140 h)) fun h => (leafOk chk156 h))))) fun h => (splitOk h (fun h => (splitOk h (fun h => (leafOk chk157 h)) fun h => (leafOk chk158 h))) fun h => (splitOk h (fun h => (leafOk chk160 h)) fun h => (splitOk h (fun h => (leafOk chk161 h)) fun h => (leafOk chk162 h))))))) fun h => (splitOk h (fun h => (splitOk h (fun h => (splitOk h (fun h => (splitOk h (fun h => (leafOk chk163 h)) fun h => (leafOk chk164 h))) fun h => (splitOk h (fun h => (leafOk chk165 h)) fun h => (splitOk h (fun h => (leafOk chk166 h)) fun h => (leafOk chk167 h))))) fun h => (splitOk h (fun h => (splitOk h (fun h => (leafOk chk168 h)) fun h => (leafOk chk169 h))) fun h => (splitOk h (fun h => (leafOk chk170 h)) fun h => (splitOk h (fun h => (leafOk chk171 h)) fun h => (leafOk chk172 h)))))) fun h => (splitOk h (fun h => (splitOk h (fun h => (splitOk h (fun h => (leafOk chk173 h)) fun h => (leafOk chk174 h))) fun h => (splitOk h (fun h => (leafOk chk175 h)) fun h => (splitOk h (fun h => (leafOk chk176 h)) fun h => (leafOk chk177 h))))) fun h => (splitOk h (fun h => (splitOk h (fun h => (leafOk chk178 h)) fun h => (leafOk chk180 h))) fun h => (splitOk h (fun h => (leafOk chk181 h)) fun h => (splitOk h (fun h => (leafOk chk182 h)) fun h => (leafOk chk183 h)))))))) fun h => (splitOk h (fun h => (splitOk h (fun h => (splitOk h (fun h => (splitOk h (fun h => (splitOk h (fun h => (leafOk chk184 h)) fun h => (leafOk chk209 h))) fun h => (splitOk h (fun h => (leafOk chk210 h)) fun h => (splitOk h (fun h => (leafOk chk211 h)) fun h => (leafOk chk212 h))))) fun h => (splitOk h (fun h => (splitOk h (fun h => (leafOk chk213 h)) fun h => (leafOk chk214 h))) fun h => (splitOk h (fun h => (leafOk chk215 h)) fun h => (splitOk h (fun h => (leafOk chk223 h)) fun h => (leafOk chk224 h)))))) fun h => (splitOk h (fun h => (splitOk h (fun h => (splitOk h (fun h => (leafOk chk225 h)) fun h => (leafOk chk226 h))) fun h => (splitOk h (fun h => (leafOk chk242 h)) fun h => (splitOk h (fun h => (leafOk chk243 h)) fun h => (leafOk chk244 h))))) fun h => (splitOk h (fun h => (splitOk h (fun h => (leafOk chk245 h)) fun h => (leafOk chk246 h))) fun h => (splitOk h (fun h => (leafOk chk247 h)) fun h => (splitOk h (fun h => (leafOk chk256 h)) fun h => (leafOk chk269 h))))))) fun h => (splitOk h (fun h => (splitOk h (fun h => (splitOk h (fun h => (splitOk h (fun h => (leafOk chk270 h)) fun h => (leafOk chk271 h))) fun h => (splitOk h (fun h => (leafOk chk272 h)) fun h => (splitOk h (fun h => (leafOk chk273 h)) fun h => (leafOk chk274 h))))) fun h => (splitOk h (fun h => (splitOk h (fun h => (leafOk chk275 h)) fun h => (leafOk chk276 h))) fun h => (splitOk h (fun h => (leafOk chk277 h)) fun h => (splitOk h (fun h => (leafOk chk284 h)) fun h => (leafOk chk285 h)))))) fun h => (splitOk h (fun h => (splitOk h (fun h => (splitOk h (fun h => (leafOk chk287 h)) fun h => (leafOk chk288 h))) fun h => (splitOk h (fun h => (leafOk chk289 h)) fun h => (splitOk h (fun h => (leafOk chk290 h)) fun h => (leafOk chk291 h))))) fun h => (splitOk h (fun h => (splitOk h (fun h => (leafOk chk292 h)) fun h => (leafOk chk293 h))) fun h => (splitOk h (fun h => (leafOk chk294 h)) fun h => (splitOk h (fun h => (leafOk chk295 h)) fun h => (leafOk chk303 h)))))))))
end Go.Proofs.YtelpkgbghhpgaaaGreatDoor.Sx
end
