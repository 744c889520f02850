/- TreeReads returns true for all texts whose data are not larger than a bound. tree.Parse. When expressions are equal: the program's and the document's functions. When expressions are equal: the program's and the document's functions. known(): what the two readings come to. known() is true. The document's reader of tokens: what its small functions do. -/
import Derived.Test.YtelpkgbghhpgaaaGreatDoorR21
import Derived.Test.YtelpkgbghhpgaaaGreatDoorR26
set_option linter.all false
section
set_option maxRecDepth 100000
namespace Go.Proofs.YtelpkgbghhpgaaaGreatDoor.Sx
def hasTwice : List (List UInt8) → List Pd → Bool
  | _, [] => false
  | seen, x :: l => if seen.contains x.name = true then true else hasTwice (seen ++ [x.name]) l
def encSeen (l : List (List UInt8)) : List (AV × AV) := l.map fun s => (.str s, .bool true)
theorem lookE_seen (s : List UInt8) : ∀ l, lookE (.str s) (encSeen l) = some (if l.contains s = true then some (.bool true) else none)
  | [] => rfl
  | x :: l => by
    rw [encSeen, List.map_cons, lookE]
    by_cases h : x = s
    · subst h
      simp [keyEq]
    · have h2 : (x == s) = false := by simp [h]
      have h3 : (s == x) = false := by simp [Ne.symm h]
      have := lookE_seen s l
      rw [encSeen] at this
      simp [keyEq, h2, h3, this, Ne.symm h]
theorem setE_seen (s : List UInt8) : ∀ l, l.contains s = false → setE (.str s) (.bool true) (encSeen l) = some (encSeen (l ++ [s]))
  | [], _ => rfl
  | x :: l, h => by
    rw [encSeen, List.map_cons, setE]
    simp only [List.contains_cons, Bool.or_eq_false_iff] at h
    have h2 : (x == s) = false := by
      have := h.1
      simp only [beq_eq_false_iff_ne, ne_eq] at this ⊢
      exact Ne.symm this
    have := setE_seen s l h.2
    rw [encSeen] at this
    simp [keyEq, h.1, h2, this, encSeen]
theorem hasTwice_drop {l : List Pd} {i : Nat} (h : i < l.length) (seen : List (List UInt8)) :
    hasTwice seen (l.drop i) = if seen.contains l[i].name = true then true else hasTwice (seen ++ [l[i].name]) (l.drop (i + 1)) := by
  rw [List.drop_eq_getElem_cons h, hasTwice]
section
variable {st : St} {id a : Nat} {l : List Tok} {Q : Res → St → Prop}
theorem isTwice_eq (nb : Bool) (l : List Pd) (hl : l.length < most) : CallA S 35 [encSl nb 4 (encPds l)] st Q = Q (.ret (.bool (hasTwice [] l))) st := by
  refine callA_eq (fun Q hQ => ?_) Q
  refine callA_body (by rfl) (by rfl) rfl ?_
  unfold most at hl
  simp only [b35, go_sem, encPds_length]
  refine wp_loop (fun n fr st' => ∃ (seen : List (List UInt8)) (i ser : Nat) (lx : Nat × List AV), st' = st.push (.map (encSeen seen)) ∧ n + i = l.length ∧ hasTwice [] l = hasTwice seen (l.drop i) ∧
    fr = ⟨[(3, .mapr st.size), (7, encSl nb 4 (encPds l)), (8, .int .i64 (l.length : Int)), (9, .int .i64 (i : Int))], [lx], [], ser⟩) l.length ⟨[], 0, _, _, rfl, rfl, rfl, rfl⟩ ?_
  rintro n fr st' ⟨seen, i, ser, lx, rfl, hn, hsz, rfl⟩
  by_cases h : (i : Int) < (l.length : Int)
  · have hi : i < l.length := by omega
    rw [hasTwice_drop hi] at hsz
    cases hc : seen.contains l[i].name with
    | true =>
      rw [if_pos hc] at hsz
      rw [hsz] at hQ
      simp only [b35l0, go_sem, h, el_Pd nb l hi, encPd, entries_new, lookE_seen, hc, trunc_push]
      exact hQ
    | false =>
      rw [if_neg (by rw [hc]; exact Bool.false_ne_true)] at hsz
      simp only [b35l0, go_sem, h, el_Pd nb l hi, encPd, entries_new, lookE_seen, hc, setE_seen _ _ hc, setMap_new, wrap_one i (by omega)]
      exact ⟨n - 1, by omega, seen ++ [l[i].name], i + 1, _, _, rfl, by omega, hsz, rfl⟩
  · rw [List.drop_of_length_le (by omega), hasTwice] at hsz
    rw [hsz] at hQ
    simp only [b35l0, go_sem, h, trunc_push]
    exact hQ
def programQ (l : List Tok) (Q : List Pd → Int → Prop) (r : PR (List Pd)) : Prop :=
  r.on (fun x a => Q x (if (a : Int) < (l.length : Int) then (a : Int) else -1)) (fun a => Q [] (a : Int))
theorem syntaxProgram_ok (hl : l.length < 65536) (hT : ∀ t ∈ l, TokOk t) (r : PR (List Pd))
    (hP : ∀ (st : St) (id : Nat) Q, id < st.size → RK ePds st id l Q r → CallA S 67 [.ptr id 0] (V st id l 0) Q)
    (hQ : programQ l (fun v k => Q (.ret (.tuple [ePds v, .int .i64 k])) st) r) : CallA S 34 [encSl true 3 (l.map encT)] st Q := by
  refine callA_body (by rfl) (by rfl) rfl ?_
  simp only [b34, go_sem]
  generalize hst1 : st.push (.cells [.nilslice]) = st1
  have hs1 : st1.size = st.size + 1 := by rw [← hst1, size_push]
  have hbox : st1.cells st.size = some [.nilslice] := by rw [← hst1, cells_new]
  have htr : ∀ cs, (st1.setCells st.size cs).trunc st.size = st := by
    intro cs
    rw [← hst1, set_new, trunc_push]
  have htr0 : st1.trunc st.size = st := by rw [← hst1, trunc_push]
  refine run_ok _ _ _ (by rfl) (by rfl) ?_
  have hid : st1.size < (st1.push (.cells (pc l 0))).size := by rw [size_push]; omega
  have hbox2 : (st1.push (.cells (pc l 0))).cells st.size = some [.nilslice] := by rw [cells_push (by omega), hbox]
  generalize hst2 : st1.push (.cells (pc l 0)) = st2 at *
  have hs2 : st2.size = st1.size + 1 := by rw [← hst2, size_push]
  have hne : st1.size ≠ st.size := by omega
  refine callA_body (by rfl) (by rfl) rfl ?_
  simp only [b66, go_sem]
  refine hP st2 st1.size _ hid (PR.on_mono hQ (fun x a _ hQ ha => ?_) (fun a _ hQ => ?_))
  · have hle : (0 : Nat) ≤ st.size + 1 := Nat.zero_le _
    have hVset : ∀ b cs, (V st2 st1.size l b).setCells st.size cs = V (st2.setCells st.size cs) st1.size l b := by
      intro b cs
      unfold V
      simp only [St.setCells]
      rw [List.set_comm _ _ hne]
    have htr2 : ∀ b cs, (V (st2.setCells st.size cs) st1.size l b).trunc st1.size = st1.setCells st.size cs := by
      intro b cs
      rw [← hst2]
      unfold V
      rw [set_push (by omega), show st1.size = (st1.setCells st.size cs).size from size_set.symm, set_new, trunc_push]
    have hx1 : ∀ cs, (st1.setCells st.size cs).cells st.size = some cs := fun cs => cells_set (by omega)
    have hce : ∀ k cs, (V (st2.setCells st.size cs) st1.size l k).cells st1.size = some (pc l k) := fun k cs => cells_set (by rw [size_set]; omega)
    have hstr : ∀ k cs, (V (st2.setCells st.size cs) st1.size l k).trunc (V st2 st1.size l 0).size = V (st2.setCells st.size cs) st1.size l k := by
      intro k cs
      rw [V_size, ← size_set (st := st2) (id := st.size) (cs := cs), V_trunc]
    unfold ePds at hQ ⊢
    dsimp only at hQ
    rcases encSl_cases true 4 (encPds x) with ⟨e, _⟩ | e
    all_goals
      rw [e] at hQ ⊢
      simp only [go_sem, V_cells_ne hne, hbox2, hVset, hstr]
      refine ⟨a, hce _ _, ?_⟩
      rw [htr2]
      simp only [go_sem, hx1, htr]
      exact hQ
  · have htr3 : (V st2 st1.size l a).trunc st1.size = st1 := by
      rw [← hst2]
      unfold V
      rw [set_new, trunc_push]
    simp only [go_sem, V_size, V_trunc]
    refine ⟨a, rfl, ?_⟩
    rw [htr3]
    simp only [go_sem, hbox, htr0]
    exact hQ
def paQ (s : List UInt8) (Q : AV → Int → Int → Prop) (r : List Tok → PR (List Pd)) : Prop :=
  if (lexP s).2.2 = 0 then
    programQ (lexP s).1 (fun x k =>
      if k ≥ 0 then Q .nilslice k 2
      else bdPds x ∧ (if hasTwice [] x = true then Q .nilslice 0 5 else if isLarge (szPds (0, 0) x) = true then Q .nilslice 0 3 else Q (ePds x) ((lexP s).1.length : Int) 0)) (r (lexP s).1)
  else Q .nilslice ((lexP s).2.1 : Int) (lexP s).2.2
theorem parse_ok (s : List UInt8) (r : List Tok → PR (List Pd))
    (hP : ∀ (st : St) (id : Nat) Q, id < st.size → RK ePds st id (lexP s).1 Q (r (lexP s).1) → CallA S 67 [.ptr id 0] (V st id (lexP s).1 0) Q)
    (hQ : paQ s (fun v k e => Q (.ret (.tuple [v, .int .i64 k, .int .i64 e])) st) r) : CallA S 12 [.str s] st Q := by
  refine callA_body (by rfl) (by rfl) rfl ?_
  unfold paQ at hQ
  obtain ⟨k1, k2⟩ := lexP_ok s
  by_cases he : (lexP s).2.2 = 0
  · rw [if_pos he] at hQ
    simp only [b12, go_sem, lex_eq, lexRes, he, bne_self_eq_false]
    refine syntaxProgram_ok (by omega) k2 (r (lexP s).1) hP (PR.on_mono hQ (fun x a _ hQ => ?_) (fun a _ hQ => ?_))
    · dsimp only at hQ ⊢
      generalize hk : (if (a : Int) < ((lexP s).1.length : Int) then (a : Int) else -1) = k at hQ
      by_cases hpos : k ≥ 0
      · rw [if_pos hpos] at hQ
        simp only [go_sem, hpos, trunc_self]
        exact hQ
      · rw [if_neg hpos] at hQ
        obtain ⟨hb, hQ⟩ := hQ
        cases ht : hasTwice [] x with
        | true =>
          simp only [ht, if_true] at hQ
          simp only [go_sem, hpos, isTwice_eq true x hb.1, ht, trunc_self]
          exact hQ
        | false =>
          simp only [ht, Bool.false_eq_true, if_false] at hQ
          cases hlg : isLarge (szPds (0, 0) x) with
          | true =>
            simp only [hlg, if_true] at hQ
            simp only [go_sem, hpos, isTwice_eq true x hb.1, ht, ofProcs_eq true x hb, isLarge_eq, hlg, trunc_self]
            exact hQ
          | false =>
            simp only [hlg, Bool.false_eq_true, if_false] at hQ
            simp only [go_sem, hpos, isTwice_eq true x hb.1, ht, ofProcs_eq true x hb, isLarge_eq, hlg, List.length_map, trunc_self]
            exact hQ
    · have hpos : (a : Int) ≥ 0 := by omega
      dsimp only at hQ ⊢
      rw [if_pos hpos] at hQ
      simp only [go_sem, hpos, trunc_self]
      exact hQ
  · rw [if_neg he] at hQ
    simp only [b12, go_sem, lex_eq, lexRes, bne_iff_ne.2 he, trunc_self]
    exact hQ
end
end Go.Proofs.YtelpkgbghhpgaaaGreatDoor.Sx
end
section
set_option maxRecDepth 100000
namespace Go.Proofs.YtelpkgbghhpgaaaGreatDoor.Sx
mutual
def sameX : Xp → Xp → Bool
  | .mk op s vk vn vs _ p _ l, y => match y with
    | .mk op2 s2 vk2 vn2 vs2 _ p2 _ l2 => (op == op2) && ((s == s2) && ((vk == vk2 && (vn == vn2 && vs == vs2)) && ((p == p2) && sameXs l l2)))
def sameXs : List Xp → List Xp → Bool
  | [], l => l.isEmpty
  | x :: l, m => match m with
    | [] => false
    | y :: m => sameX x y && sameXs l m
end
mutual
theorem sameX_refl : ∀ x : Xp, sameX x x = true
  | .mk op s vk vn vs pn p ln l => by
    simp only [sameX, beq_self_eq_true, Bool.true_and]
    exact sameXs_refl l
theorem sameXs_refl : ∀ l : List Xp, sameXs l l = true
  | [] => rfl
  | x :: l => by
    simp only [sameXs, sameX_refl x, sameXs_refl l, Bool.and_self]
end
theorem sameXs_len : ∀ {l m : List Xp}, sameXs l m = true → l.length = m.length
  | [], [], _ => rfl
  | [], _ :: _, h => by simp [sameXs] at h
  | _ :: _, [], h => by simp [sameXs] at h
  | x :: l, y :: m, h => by
    simp only [sameXs, Bool.and_eq_true] at h
    simp [sameXs_len h.2]
theorem sameXs_drop {l m : List Xp} {i : Nat} (h1 : i < l.length) (h2 : i < m.length) : sameXs (l.drop i) (m.drop i) = (sameX l[i] m[i] && sameXs (l.drop (i + 1)) (m.drop (i + 1))) := by
  rw [List.drop_eq_getElem_cons h1, List.drop_eq_getElem_cons h2, sameXs]
theorem strs_drop {l m : List (List UInt8)} {i : Nat} (h1 : i < l.length) (h2 : i < m.length) : (l.drop i == m.drop i) = (l[i] == m[i] && (l.drop (i + 1)) == (m.drop (i + 1))) := by
  rw [List.drop_eq_getElem_cons h1, List.drop_eq_getElem_cons h2]; rfl
section
variable {st : St} {Q : Res → St → Prop}
theorem sameTexts6_eq (n1 n2 : Bool) (l m : List (List UInt8)) (hl : l.length < most) : CallA S 32 [encSl n1 1 (encStr l), encSl n2 1 (encStr m)] st Q = Q (.ret (.bool (l == m))) st := by
  refine callA_eq (fun Q hQ => ?_) Q
  refine callA_body (by rfl) (by rfl) rfl ?_
  unfold most at hl
  by_cases h0 : (l.length : Int) = (m.length : Int)
  · have h0' : l.length = m.length := by omega
    have hb : ((l.length : Int) != (m.length : Int)) = false := by simp [h0']
    simp only [b32, go_sem, encStr_length, hb]
    refine wp_loop (fun n fr st' => st' = st ∧ ∃ (i : Nat) (ser : Nat), n + i = l.length ∧ (l == m) = (l.drop i == m.drop i) ∧
      fr = ⟨[(0, encSl n1 1 (encStr l)), (1, encSl n2 1 (encStr m)), (5, .int .i64 (i : Int))], [], [], ser⟩) l.length ⟨rfl, 0, _, rfl, rfl, rfl⟩ ?_
    rintro n fr st' ⟨rfl, i, ser, hn, hsz, rfl⟩
    by_cases h : (i : Int) < (l.length : Int)
    · have hi : i < l.length := by omega
      have hi2 : i < m.length := by omega
      rw [strs_drop hi hi2] at hsz
      cases hc : (l[i] == m[i]) with
      | true =>
        simp only [hc, Bool.true_and] at hsz
        simp only [b32l0, go_sem, encStr_length, h, el_str n1 l hi, el_str n2 m hi2, hc, wrap_one i (by omega)]
        exact ⟨n - 1, by omega, i + 1, _, by omega, hsz, rfl⟩
      | false =>
        simp only [hc, Bool.false_and] at hsz
        rw [hsz] at hQ
        simp only [b32l0, go_sem, encStr_length, h, el_str n1 l hi, el_str n2 m hi2, hc, trunc_self]
        exact hQ
    · rw [List.drop_of_length_le (by omega), List.drop_of_length_le (by omega)] at hsz
      rw [hsz] at hQ
      simp only [b32l0, go_sem, encStr_length, h, trunc_self]
      exact hQ
  · have hb := bne_iff_ne.2 h0
    have he : (l == m) = false := by
      simp only [beq_eq_false_iff_ne, ne_eq]
      rintro rfl
      exact h0 rfl
    rw [he] at hQ
    simp only [b32, go_sem, encStr_length, hb, trunc_self]
    exact hQ
end
end Go.Proofs.YtelpkgbghhpgaaaGreatDoor.Sx
end
section
set_option maxRecDepth 100000
namespace Go.Proofs.YtelpkgbghhpgaaaGreatDoor.Sx
section
variable {st : St} {Q : Res → St → Prop}
theorem rSameExprs_of (n1 n2 : Bool) (l m : List Xp) (hl : l.length < most) (hf : ∀ (i : Nat) (h : i < l.length) (y : Xp) (st : St) (Q : Res → St → Prop), CallA S 11 [.agg (encX l[i]), .agg (encX y)] st Q = Q (.ret (.bool (sameX l[i] y))) st) :
    CallA S 33 [encSl n1 7 (encXs l), encSl n2 7 (encXs m)] st Q = Q (.ret (.bool (sameXs l m))) st := by
  refine callA_eq (fun Q hQ => ?_) Q
  refine callA_body (by rfl) (by rfl) rfl ?_
  unfold most at hl
  by_cases h0 : (l.length : Int) = (m.length : Int)
  · have h0' : l.length = m.length := by omega
    have hb : ((l.length : Int) != (m.length : Int)) = false := by simp [h0']
    simp only [b33, go_sem, encXs_length, hb]
    refine wp_loop (fun n fr st' => st' = st ∧ ∃ (i : Nat) (ser : Nat), n + i = l.length ∧ sameXs l m = sameXs (l.drop i) (m.drop i) ∧
      fr = ⟨[(0, encSl n1 7 (encXs l)), (1, encSl n2 7 (encXs m)), (5, .int .i64 (i : Int))], [], [], ser⟩) l.length ⟨rfl, 0, _, rfl, rfl, rfl⟩ ?_
    rintro n fr st' ⟨rfl, i, ser, hn, hsz, rfl⟩
    by_cases h : (i : Int) < (l.length : Int)
    · have hi : i < l.length := by omega
      have hi2 : i < m.length := by omega
      rw [sameXs_drop hi hi2] at hsz
      cases hc : sameX l[i] m[i] with
      | true =>
        simp only [hc, Bool.true_and] at hsz
        simp only [b33l0, go_sem, encXs_length, h, el_X n1 l hi, el_X n2 m hi2, hf i hi, hc, wrap_one i (by omega)]
        exact ⟨n - 1, by omega, i + 1, _, by omega, hsz, rfl⟩
      | false =>
        simp only [hc, Bool.false_and] at hsz
        rw [hsz] at hQ
        simp only [b33l0, go_sem, encXs_length, h, el_X n1 l hi, el_X n2 m hi2, hf i hi, hc, trunc_self]
        exact hQ
    · rw [List.drop_of_length_le (by omega), List.drop_of_length_le (by omega)] at hsz
      rw [hsz] at hQ
      simp only [b33l0, go_sem, encXs_length, h, trunc_self]
      exact hQ
  · have hb := bne_iff_ne.2 h0
    have he : sameXs l m = false := by
      cases h : sameXs l m with
      | false => rfl
      | true => exact absurd (by rw [sameXs_len h]) h0
    rw [he] at hQ
    simp only [b33, go_sem, encXs_length, hb, trunc_self]
    exact hQ
theorem rSameExpr_eq : ∀ (x : Xp), bdX x → ∀ (y : Xp) (st : St) (Q : Res → St → Prop), CallA S 11 [.agg (encX x), .agg (encX y)] st Q = Q (.ret (.bool (sameX x y))) st
  | .mk op s vk vn vs pn p ln l, hb, .mk op2 s2 vk2 vn2 vs2 pn2 p2 ln2 l2 => by
    simp only [bdX] at hb
    obtain ⟨hp, hl, hbl⟩ := hb
    have ih : ∀ (n1 n2 : Bool) (m : List Xp) (st : St) (Q : Res → St → Prop), CallA S 33 [encSl n1 7 (encXs l), encSl n2 7 (encXs m)] st Q = Q (.ret (.bool (sameXs l m))) st :=
      fun n1 n2 m st Q => rSameExprs_of n1 n2 l m hl (fun i h => rSameExpr_eq l[i] (bdXs_mem hbl _ (List.getElem_mem h)))
    intro st
    refine callA_eq (fun Q hQ => ?_)
    refine callA_body (by rfl) (by rfl) rfl ?_
    simp only [sameX] at hQ
    have heq : ∀ (st : St) (Q : Res → St → Prop), CallA S 32 [encSl pn 1 (p.map fun x => [.str x]), encSl pn2 1 (p2.map fun x => [.str x])] st Q = Q (.ret (.bool (p == p2))) st := fun st Q => sameTexts6_eq pn pn2 p p2 hp
    cases c1 : (op == op2) with
    | false =>
      simp only [c1, Bool.true_and, Bool.false_and, Bool.and_false] at hQ
      simp only [b11, go_sem, encX_mk, heq, ih, c1, trunc_self]
      exact hQ
    | true =>
    cases c2 : (s == s2) with
    | false =>
      simp only [c1, c2, Bool.true_and, Bool.false_and, Bool.and_false] at hQ
      simp only [b11, go_sem, encX_mk, heq, ih, c1, c2, trunc_self]
      exact hQ
    | true =>
    cases c3 : (vk == vk2) with
    | false =>
      simp only [c1, c2, c3, Bool.true_and, Bool.false_and, Bool.and_false] at hQ
      simp only [b11, go_sem, encX_mk, heq, ih, c1, c2, c3, trunc_self]
      exact hQ
    | true =>
    cases c4 : (vn == vn2) with
    | false =>
      simp only [c1, c2, c3, c4, Bool.true_and, Bool.false_and, Bool.and_false] at hQ
      simp only [b11, go_sem, encX_mk, heq, ih, c1, c2, c3, c4, trunc_self]
      exact hQ
    | true =>
    cases c5 : (vs == vs2) with
    | false =>
      simp only [c1, c2, c3, c4, c5, Bool.true_and, Bool.false_and, Bool.and_false] at hQ
      simp only [b11, go_sem, encX_mk, heq, ih, c1, c2, c3, c4, c5, trunc_self]
      exact hQ
    | true =>
    cases c6 : (p == p2) with
    | false =>
      simp only [c1, c2, c3, c4, c5, c6, Bool.true_and, Bool.false_and, Bool.and_false] at hQ
      simp only [b11, go_sem, encX_mk, heq, ih, c1, c2, c3, c4, c5, c6, trunc_self]
      exact hQ
    | true =>
    cases c7 : (sameXs l l2) with
    | false =>
      simp only [c1, c2, c3, c4, c5, c6, c7, Bool.true_and, Bool.false_and, Bool.and_false] at hQ
      simp only [b11, go_sem, encX_mk, heq, ih, c1, c2, c3, c4, c5, c6, c7, trunc_self]
      exact hQ
    | true =>
    simp only [c1, c2, c3, c4, c5, c6, c7, Bool.and_self] at hQ
    simp only [b11, go_sem, encX_mk, heq, ih, c1, c2, c3, c4, c5, c6, c7, trunc_self]
    exact hQ
termination_by x => SizeOf.sizeOf x
decreasing_by
  have := List.sizeOf_lt_of_mem (List.getElem_mem h)
  simp only [Xp.mk.sizeOf_spec]
  omega
end
end Go.Proofs.YtelpkgbghhpgaaaGreatDoor.Sx
end
section
set_option maxRecDepth 100000
namespace Go.Proofs.YtelpkgbghhpgaaaGreatDoor.Sx
def srcA : List UInt8 := [97, 45, 62, 98, 32, 43, 32, 49]
def srcB : List UInt8 := [105, 102, 32, 61, 32, 49]
def toksA : List Tok := [⟨0, 0, [65]⟩, ⟨4, 1, [45, 62]⟩, ⟨0, 3, [66]⟩, ⟨4, 5, [43]⟩, ⟨1, 7, [49]⟩, ⟨5, 8, []⟩]
def toksB : List Tok := [⟨0, 0, [73, 70]⟩, ⟨4, 3, [61]⟩, ⟨1, 5, [49]⟩, ⟨5, 6, []⟩]
theorem lexA : lexP srcA = (toksA, 6, 0) := by rfl
theorem lexB : lexP srcB = (toksB, 4, 0) := by rfl
def exprA : Xp := mkBin [43] (mkAlias [65] (mkName [66])) (mkC 2 1 [])
theorem spA : sp toksA 8 .expr 0 = .ok exprA 5 := by rfl
theorem kwB0 : kwAt toksB 0 = [] := by rfl
def bodyB : List Sm := [mkSet (mkName [73, 70]) (mkC 2 1 [])]
def progB : List Pd := [⟨[77, 65, 73, 78], false, true, [], true, bodyB⟩]
theorem sizeA : isLarge (szX exprA) = false := by rfl
theorem twiceB : hasTwice [] progB = false := by rfl
theorem sizeB : isLarge (szPds (0, 0) progB) = false := by rfl
theorem bdA : bdX exprA := by
  simp [exprA, mkBin, mkAlias, mkName, mkC, bdX, bdXs, most]
theorem bdB : bdPds progB := by
  refine ⟨by decide, fun x hx => ?_⟩
  simp only [progB, List.mem_cons, List.mem_nil_iff, or_false] at hx
  subst hx
  simp [bodyB, mkSet, mkName, mkC, bdSms, bdSm, bdXs, bdX, bdBls, most]
def blockB (a : Nat) : PR (List Sm) := spBlockL toksB (fun a => if a = 0 then spSet toksB (sp toksB 8 .expr) 0 else .out) 8 [] a
theorem programB : spProgram toksB blockB 8 0 = .ok progB 4 := by rfl
end Go.Proofs.YtelpkgbghhpgaaaGreatDoor.Sx
end
section
set_option maxRecDepth 100000
namespace Go.Proofs.YtelpkgbghhpgaaaGreatDoor.Sx
section
variable {st : St} {Q : Res → St → Prop}
theorem parseA_eq : CallA S 9 [.str srcA] st Q = Q (.ret (.tuple [.agg (encX exprA), .int .i64 6, .int .i64 0])) st := by
  refine callA_eq (fun Q hQ => ?_) Q
  refine parseExpr_ok srcA 8 (by omega) ?_
  unfold peQ
  rw [lexA, if_pos rfl, spA]
  refine ⟨exprA, rfl, ?_⟩
  rw [if_neg (by decide)]
  refine ⟨bdA, ?_⟩
  rw [sizeA]
  exact hQ
theorem tokB : ∀ t ∈ toksB, TokOk t := by
  have := (lexP_ok srcB).2
  rw [lexB] at this
  exact this
theorem parseB_eq : CallA S 12 [.str srcB] st Q = Q (.ret (.tuple [ePds progB, .int .i64 4, .int .i64 0])) st := by
  refine callA_eq (fun Q hQ => ?_) Q
  refine parse_ok srcB (fun _ => spProgram toksB blockB 8 0) (fun st id Q hid hQ => ?_) ?_
  · rw [lexB] at hQ ⊢
    have hl : toksB.length < 65536 := by decide
    refine program_ok hid hl tokB 8 (by omega) blockB (block_ok hid hl tokB 8 (by omega) _ (fun a Q ha h hQ => ?_)) 0 Q (Nat.zero_le _) hQ
    by_cases h0 : a = 0
    · subst h0
      rw [if_pos rfl] at hQ
      exact set_ok hid hl tokB (sp_ok hl tokB 8 (by omega) .expr st id hid) (Nat.zero_le _) kwB0 (by rfl) (by rfl) hQ
    · rw [if_neg h0] at hQ
      exact hQ.elim
  · unfold paQ
    rw [lexB, if_pos rfl, programB]
    unfold programQ
    rw [PR.on_ok, if_neg (by decide)]
    refine ⟨bdB, ?_⟩
    rw [twiceB, sizeB]
    exact hQ
theorem num_eq (n : Int) : CallA S 22 [.int .i64 n] st Q = Q (.ret (.agg [.int .i64 2, .int .i64 n, .str []])) st := by
  refine callA_eq (fun Q hQ => ?_) Q
  refine callA_body (by rfl) (by rfl) rfl ?_
  simp only [b22, go_sem, trunc_self]
  exact hQ
theorem known_eq : CallA S 8 [] st Q = Q (.ret (.bool true)) st := by
  refine callA_eq (fun Q hQ => ?_) Q
  refine callA_body (by rfl) (by rfl) rfl ?_
  have h1 := fun (st : St) (Q : Res → St → Prop) => parseA_eq (st := st) (Q := Q)
  have h2 := fun (st : St) (Q : Res → St → Prop) => parseB_eq (st := st) (Q := Q)
  unfold srcA at h1
  unfold srcB at h2
  have h3 : ∀ (st : St) (Q : Res → St → Prop), CallA S 11 [.agg (encX exprA), .agg (encX exprA)] st Q = Q (.ret (.bool true)) st := fun st Q => by
    rw [rSameExpr_eq exprA bdA, sameX_refl]
  have hx : encX exprA = [.int .i64 5, .str [43], .int .i64 0, .int .i64 0, .str [], .nilslice, .slice 7 [[.int .i64 2, .str [65], .int .i64 0, .int .i64 0, .str [], .nilslice, .slice 7 [[.int .i64 1, .str [66], .int .i64 0, .int .i64 0, .str [], .nilslice, .nilslice]] .no], [.int .i64 0, .str [], .int .i64 2, .int .i64 1, .str [], .nilslice, .nilslice]] .no] := by rfl
  rw [hx] at h1 h3
  have hp : ePds progB = .slice 4 [[.str [77, 65, 73, 78], .bool false, .nilslice, .slice 10 [encSm (mkSet (mkName [73, 70]) (mkC 2 1 []))] .no]] .no := by rfl
  have hs : encSm (mkSet (mkName [73, 70]) (mkC 2 1 [])) = [.int .i64 0, .str [], .str [], .nilslice, encSl false 7 (encXs [mkName [73, 70], mkC 2 1 []]), .nilslice, .int .i64 0, .nilslice, .nilslice, .nilslice] := by rfl
  rw [hp, hs] at h2
  simp only [b8, go_sem, h1, h2, num_eq, h3]
  rw [if_pos (by rfl), if_pos (by rfl), trunc_self]
  exact hQ
end
end Go.Proofs.YtelpkgbghhpgaaaGreatDoor.Sx
end
section
set_option maxRecDepth 100000
namespace Go.Proofs.YtelpkgbghhpgaaaGreatDoor.Sx
def rc (l : List Tok) (a : Nat) (f : Bool) : List AV := [encSl true 3 (l.map encT), .int .i64 (a : Int), .bool f, .nilslice]
def VR (st : St) (id : Nat) (l : List Tok) (a : Nat) (f : Bool) : St := st.setCells id (rc l a f)
def signOf (t : Tok) : List (List UInt8) → List UInt8
  | [] => []
  | w :: ws => if isS t w = true then w else signOf t ws
theorem signOf_lt {l : List Tok} {a : Nat} : ∀ {ws : List (List UInt8)}, signOf (tokAt l a) ws ≠ [] → a < l.length
  | [], h => absurd rfl h
  | w :: ws, h => by
    unfold signOf at h
    split at h
    · rename_i hs; exact isS_lt hs
    · exact signOf_lt h
section
variable {st : St} {id a : Nat} {l : List Tok} {f : Bool} {Q : Res → St → Prop} {o : HObj}
theorem VR_cells (hid : id < st.size) : (VR st id l a f).cells id = some [encSl true 3 (l.map encT), .int .i64 (a : Int), .bool f, .nilslice] := cells_set hid
theorem VR_set (b : Nat) (g : Bool) : (VR st id l a f).setCells id [encSl true 3 (l.map encT), .int .i64 (b : Int), .bool g, .nilslice] = VR st id l b g := set_set
theorem VR_size : (VR st id l a f).size = st.size := size_set
theorem VR_trunc : (VR st id l a f).trunc st.size = VR st id l a f := trunc_set
theorem rtoken_eq (hid : id < st.size) (hl : l.length < 65536) (ha : a ≤ l.length) (k : Nat) (hk : k < 1000) :
    CallA S 63 [.ptr id 0, .int .i64 (k : Int)] (VR st id l a f) Q = Q (.ret (.agg [.int .i64 (tokAt l (a + k)).kind, .int .i64 (tokAt l (a + k)).at_, .str (tokAt l (a + k)).text])) (VR st id l a f) := by
  refine callA_eq (fun Q hQ => ?_) Q
  refine callA_body (by rfl) (by rfl) rfl ?_
  simp only [b63, go_sem, VR_cells hid, wrap_add a k (by omega), elA_toks, List.length_map]
  by_cases h : ((a + k : Nat) : Int) < (l.length : Int)
  · rw [if_pos h, if_pos (by omega)]
    simp only [go_sem, encT, VR_cells hid, wrap_add a k (by omega), trunc_self]
    exact hQ
  · rw [if_neg h]
    simp only [go_sem, trunc_self]
    have : tokAt l (a + k) = noTok := by simp [tokAt, show l.length ≤ a + k by omega]
    rw [this] at hQ
    exact hQ
theorem rtoken0 (hid : id < st.size) (hl : l.length < 65536) (ha : a ≤ l.length) :
    CallA S 63 [.ptr id 0, .int .i64 0] (VR st id l a f) Q = Q (.ret (.agg [.int .i64 (tokAt l a).kind, .int .i64 (tokAt l a).at_, .str (tokAt l a).text])) (VR st id l a f) := rtoken_eq hid hl ha 0 (by omega)
theorem risSign_eq (hid : id < st.size) (hl : l.length < 65536) (ha : a ≤ l.length) (k : Nat) (hk : k < 1000) (s : List UInt8) :
    CallA S 94 [.ptr id 0, .int .i64 (k : Int), .str s] (VR st id l a f) Q = Q (.ret (.bool (isS (tokAt l (a + k)) s))) (VR st id l a f) := by
  refine callA_eq (fun Q hQ => ?_) Q
  refine callA_body (by rfl) (by rfl) rfl ?_
  unfold isS at hQ
  cases hk2 : ((tokAt l (a + k)).kind == 4)
  · simp only [hk2, Bool.false_and] at hQ
    simp only [b94, go_sem, rtoken_eq hid hl ha k hk, hk2, trunc_self]
    exact hQ
  · simp only [hk2, Bool.true_and] at hQ
    simp only [b94, go_sem, rtoken_eq hid hl ha k hk, hk2, trunc_self]
    exact hQ
theorem risSign0 (hid : id < st.size) (hl : l.length < 65536) (ha : a ≤ l.length) (s : List UInt8) :
    CallA S 94 [.ptr id 0, .int .i64 0, .str s] (VR st id l a f) Q = Q (.ret (.bool (isS (tokAt l a) s))) (VR st id l a f) := risSign_eq hid hl ha 0 (by omega) s
theorem risSign1 (hid : id < st.size) (hl : l.length < 65536) (ha : a ≤ l.length) (s : List UInt8) :
    CallA S 94 [.ptr id 0, .int .i64 1, .str s] (VR st id l a f) Q = Q (.ret (.bool (isS (tokAt l (a + 1)) s))) (VR st id l a f) := risSign_eq hid hl ha 1 (by omega) s
theorem wrong_eq (hid : id < st.size) : CallA S 64 [.ptr id 0] (VR st id l a f) Q = Q (.ret (.tuple [])) (VR st id l a true) := by
  refine callA_eq (fun Q hQ => ?_) Q
  refine callA_body (by rfl) (by rfl) rfl ?_
  simp only [b64, go_sem, VR_cells hid, VR_set, VR_size, VR_trunc]
  exact hQ
theorem take_f (hid : id < st.size) {s : List UInt8} : CallA S 61 [.ptr id 0, .str s] (VR st id l a true) Q = Q (.ret (.bool false)) (VR st id l a true) := by
  refine callA_eq (fun Q hQ => ?_) Q
  refine callA_body (by rfl) (by rfl) rfl ?_
  simp only [b61, go_sem, VR_cells hid, trunc_self]
  exact hQ
theorem take_no (hid : id < st.size) (hl : l.length < 65536) (ha : a ≤ l.length) {s : List UInt8} (hs : isS (tokAt l a) s = false) :
    CallA S 61 [.ptr id 0, .str s] (VR st id l a false) Q = Q (.ret (.bool false)) (VR st id l a false) := by
  refine callA_eq (fun Q hQ => ?_) Q
  refine callA_body (by rfl) (by rfl) rfl ?_
  simp only [b61, go_sem, VR_cells hid, risSign0 hid hl ha, hs, trunc_self]
  exact hQ
theorem take_yes (hid : id < st.size) (hl : l.length < 65536) (ha : a ≤ l.length) {s : List UInt8} (hs : isS (tokAt l a) s = true) :
    CallA S 61 [.ptr id 0, .str s] (VR st id l a false) Q = Q (.ret (.bool true)) (VR st id l (a + 1) false) := by
  have := isS_lt hs
  refine callA_eq (fun Q hQ => ?_) Q
  refine callA_body (by rfl) (by rfl) rfl ?_
  simp only [b61, go_sem, VR_cells hid, risSign0 hid hl ha, hs, wrap_one a (by omega), VR_set, VR_size, VR_trunc]
  exact hQ
theorem rwant_f (hid : id < st.size) {s : List UInt8} : CallA S 75 [.ptr id 0, .str s] (VR st id l a true) Q = Q (.ret (.tuple [])) (VR st id l a true) := by
  refine callA_eq (fun Q hQ => ?_) Q
  refine callA_body (by rfl) (by rfl) rfl ?_
  simp only [b75, go_sem, take_f hid, wrong_eq hid, VR_size, VR_trunc]
  exact hQ
theorem rwant_no (hid : id < st.size) (hl : l.length < 65536) (ha : a ≤ l.length) {s : List UInt8} (hs : isS (tokAt l a) s = false) :
    CallA S 75 [.ptr id 0, .str s] (VR st id l a false) Q = Q (.ret (.tuple [])) (VR st id l a true) := by
  refine callA_eq (fun Q hQ => ?_) Q
  refine callA_body (by rfl) (by rfl) rfl ?_
  simp only [b75, go_sem, take_no hid hl ha hs, wrong_eq hid, VR_size, VR_trunc]
  exact hQ
theorem rwant_yes (hid : id < st.size) (hl : l.length < 65536) (ha : a ≤ l.length) {s : List UInt8} (hs : isS (tokAt l a) s = true) :
    CallA S 75 [.ptr id 0, .str s] (VR st id l a false) Q = Q (.ret (.tuple [])) (VR st id l (a + 1) false) := by
  refine callA_eq (fun Q hQ => ?_) Q
  refine callA_body (by rfl) (by rfl) rfl ?_
  simp only [b75, go_sem, take_yes hid hl ha hs, VR_size, VR_trunc]
  exact hQ
theorem next_eq (hid : id < st.size) (ha : a < 65536) : CallA S 72 [.ptr id 0] (VR st id l a false) Q = Q (.ret (.tuple [])) (VR st id l (a + 1) false) := by
  refine callA_eq (fun Q hQ => ?_) Q
  refine callA_body (by rfl) (by rfl) rfl ?_
  simp only [b72, go_sem, VR_cells hid, wrap_one a (by omega), VR_set, VR_size, VR_trunc]
  exact hQ
theorem rname_f (hid : id < st.size) (hl : l.length < 65536) (ha : a ≤ l.length) : CallA S 73 [.ptr id 0] (VR st id l a true) Q = Q (.ret (.str [])) (VR st id l a true) := by
  refine callA_eq (fun Q hQ => ?_) Q
  refine callA_body (by rfl) (by rfl) rfl ?_
  simp only [b73, go_sem, VR_cells hid, rtoken0 hid hl ha, wrong_eq hid, VR_size, VR_trunc]
  exact hQ
theorem rsign_f (hid : id < st.size) (ws : List (List UInt8)) (hw : ws.length < 65536) :
    CallA S 126 [.ptr id 0, .slice 1 (encStr ws) .no] (VR st id l a true) Q = Q (.ret (.str [])) (VR st id l a true) := by
  refine callA_eq (fun Q hQ => ?_) Q
  refine callA_body (by rfl) (by rfl) rfl ?_
  simp only [b126, go_sem]
  refine wp_loop (fun n fr st' => st' = VR st id l a true ∧ ∃ (i : Nat) (ser : Nat), n + i = ws.length ∧
    fr = ⟨[(0, .ptr id 0), (1, .slice 1 (encStr ws) .no), (5, .int .i64 (i : Int))], [], [], ser⟩) ws.length ⟨rfl, 0, _, rfl, rfl⟩ ?_
  rintro n fr st' ⟨rfl, i, ser, hn, rfl⟩
  by_cases h : (i : Int) < (ws.length : Int)
  · have hi : i < ws.length := by omega
    have he : elA 1 (i : Int) (.slice 1 (encStr ws) .no) = some [.str ws[i]] := el_str false ws hi
    simp only [b126l0, go_sem, encStr_length, h, he, take_f hid, wrap_one i (by omega)]
    exact ⟨n - 1, by omega, i + 1, _, by omega, rfl⟩
  · simp only [b126l0, go_sem, encStr_length, h, VR_size, VR_trunc]
    exact hQ
theorem signOf_drop {t : Tok} {ws : List (List UInt8)} {i : Nat} (h : i < ws.length) : signOf t (ws.drop i) = if isS t ws[i] = true then ws[i] else signOf t (ws.drop (i + 1)) := by
  rw [List.drop_eq_getElem_cons h, signOf]
theorem rsign_eq (hid : id < st.size) (hl : l.length < 65536) (ha : a ≤ l.length) (ws : List (List UInt8)) (hw : ws.length < 65536) (hne : ∀ w ∈ ws, w ≠ []) :
    CallA S 126 [.ptr id 0, .slice 1 (encStr ws) .no] (VR st id l a false) Q = Q (.ret (.str (signOf (tokAt l a) ws))) (VR st id l (if signOf (tokAt l a) ws = [] then a else a + 1) false) := by
  refine callA_eq (fun Q hQ => ?_) Q
  refine callA_body (by rfl) (by rfl) rfl ?_
  simp only [b126, go_sem]
  refine wp_loop (fun n fr st' => st' = VR st id l a false ∧ ∃ (i : Nat) (ser : Nat), n + i = ws.length ∧ signOf (tokAt l a) ws = signOf (tokAt l a) (ws.drop i) ∧
    fr = ⟨[(0, .ptr id 0), (1, .slice 1 (encStr ws) .no), (5, .int .i64 (i : Int))], [], [], ser⟩) ws.length ⟨rfl, 0, _, rfl, rfl, rfl⟩ ?_
  rintro n fr st' ⟨rfl, i, ser, hn, hsz, rfl⟩
  by_cases h : (i : Int) < (ws.length : Int)
  · have hi : i < ws.length := by omega
    have he : elA 1 (i : Int) (.slice 1 (encStr ws) .no) = some [.str ws[i]] := el_str false ws hi
    rw [signOf_drop hi] at hsz
    cases hs : isS (tokAt l a) ws[i] with
    | true =>
      rw [if_pos hs] at hsz
      rw [hsz, if_neg (hne _ (List.getElem_mem hi))] at hQ
      simp only [b126l0, go_sem, encStr_length, h, he, take_yes hid hl ha hs, VR_size, VR_trunc]
      exact hQ
    | false =>
      rw [if_neg (by rw [hs]; exact Bool.false_ne_true)] at hsz
      simp only [b126l0, go_sem, encStr_length, h, he, take_no hid hl ha hs, wrap_one i (by omega)]
      exact ⟨n - 1, by omega, i + 1, _, by omega, hsz, rfl⟩
  · rw [List.drop_of_length_le (by omega), signOf] at hsz
    rw [hsz, if_pos rfl] at hQ
    simp only [b126l0, go_sem, encStr_length, h, VR_size, VR_trunc]
    exact hQ
theorem bin_eq (s : List UInt8) (x y : Xp) : CallA S 62 [.str s, .agg (encX x), .agg (encX y)] st Q = Q (.ret (eX (mkBin s x y))) st := by
  refine callA_eq (fun Q hQ => ?_) Q
  refine callA_body (by rfl) (by rfl) rfl ?_
  simp only [b62, go_sem, trunc_self]
  exact hQ
def RR {α : Type} (e : α → AV) (st : St) (id : Nat) (l : List Tok) (Q : Res → St → Prop) (r : PR α) : Prop :=
  r.on (fun x a' => a' ≤ l.length → Q (.ret (e x)) (VR st id l a' false)) (fun a' => a' ≤ l.length → ∀ y, Q (.ret (e y)) (VR st id l a' true))
def RReads {α : Type} (e : α → AV) (st : St) (id : Nat) (l : List Tok) (f : Nat) (args : List AV) (r : Nat → PR α) : Prop :=
  ∀ a (Q : Res → St → Prop), a ≤ l.length → RR e st id l Q (r a) → CallA S f args (VR st id l a false) Q
variable {α β : Type} {e : α → AV} {e' : β → AV}
theorem RR_step {r : PR α} {g : α → Nat → PR β} {Q' : Res → St → Prop} (h : RR e' st id l Q (r.bind g))
    (hk : ∀ x a, a ≤ l.length → RR e' st id l Q (g x a) → Q' (.ret (e x)) (VR st id l a false)) (hf : ∀ a, a ≤ l.length → (∀ y, Q (.ret (e' y)) (VR st id l a true)) → ∀ x, Q' (.ret (e x)) (VR st id l a true)) : RR e st id l Q' r := by
  unfold RR at h
  rw [PR.on_bind] at h
  exact PR.on_mono h (fun x a _ h ha => hk x a ha h) (fun a _ h ha x => hf a ha (h ha) x)
theorem RR_mono {r : PR α} {Q' : Res → St → Prop} (h : RR e st id l Q r)
    (hk : ∀ x a, a ≤ l.length → Q (.ret (e x)) (VR st id l a false) → Q' (.ret (e x)) (VR st id l a false)) (hf : ∀ a, a ≤ l.length → (∀ y, Q (.ret (e y)) (VR st id l a true)) → ∀ x, Q' (.ret (e x)) (VR st id l a true)) : RR e st id l Q' r :=
  PR.on_mono h (fun x a _ h ha => hk x a ha (h ha)) (fun a _ h ha x => hf a ha (h ha) x)
theorem RR_ok {x : α} (h : RR e st id l Q (.ok x a)) (ha : a ≤ l.length) : Q (.ret (e x)) (VR st id l a false) := h ha
theorem RR_fail (h : RR e st id l Q (.fail a)) (ha : a ≤ l.length) (y : α) : Q (.ret (e y)) (VR st id l a true) := h ha y
theorem rwant_ok (hid : id < st.size) (hl : l.length < 65536) (s : List UInt8) : RReads eU st id l 75 [.ptr id 0, .str s] (wantP l s) := by
  intro a Q ha hQ
  unfold wantP at hQ
  by_cases h : isS (tokAt l a) s = true
  · rw [if_pos h] at hQ
    have hlt := isS_lt h
    rw [rwant_yes hid hl ha h]
    exact RR_ok hQ (by omega)
  · rw [if_neg h] at hQ
    rw [rwant_no hid hl ha (by simpa using h)]
    exact RR_fail hQ ha ()
theorem nameTok_iff {t : Tok} (h : TokOk t) : isNameTok t = (t.kind == 0 && decide ((t.text.length : Int) ≤ 10)) := by
  unfold isNameTok
  cases hk : (t.kind == 0) with
  | false => rfl
  | true =>
    obtain ⟨b, r, h1, h2, h3⟩ := h.word (by simpa using hk)
    rw [h1] at h3 ⊢
    simp only [isNameT, h2, Bool.not_false, Bool.and_true, Bool.true_and]
    have : (b :: r).all isNameC = true := List.all_eq_true.2 h3
    rw [this, Bool.and_true]
    congr 1
    simp only [eq_iff_iff]
    omega
theorem rname_ok (hid : id < st.size) (hl : l.length < 65536) (hT : ∀ t ∈ l, TokOk t) : RReads eS st id l 73 [.ptr id 0] (nameP l) := by
  intro a Q ha hQ
  unfold nameP at hQ
  rw [nameTok_iff (tokOk_at hT a)] at hQ
  refine callA_body (by rfl) (by rfl) rfl ?_
  by_cases hk : (tokAt l a).kind = 0
  · have hlt := tokAt_lt (l := l) (i := a) (by omega)
    by_cases hn : ((tokAt l a).text.length : Int) > 10
    · have hn2 : ¬ ((tokAt l a).text.length : Int) ≤ 10 := by omega
      rw [if_neg (by simp [hn2])] at hQ
      simp only [b73, go_sem, VR_cells hid, rtoken0 hid hl ha, hk, bne_self_eq_false, hn, wrong_eq hid, VR_size, VR_trunc]
      exact RR_fail hQ ha []
    · have hn2 : ((tokAt l a).text.length : Int) ≤ 10 := by omega
      rw [if_pos (by simp [hn2, hk])] at hQ
      simp only [b73, go_sem, VR_cells hid, rtoken0 hid hl ha, hk, bne_self_eq_false, hn, wrap_one a (by omega), VR_set, VR_size, VR_trunc]
      exact RR_ok hQ (by omega)
  · have hb := bne_iff_ne.2 hk
    rw [if_neg (by simp [hk])] at hQ
    simp only [b73, go_sem, VR_cells hid, rtoken0 hid hl ha, hb, wrong_eq hid, VR_size, VR_trunc]
    exact RR_fail hQ ha []
end
end Go.Proofs.YtelpkgbghhpgaaaGreatDoor.Sx
end
