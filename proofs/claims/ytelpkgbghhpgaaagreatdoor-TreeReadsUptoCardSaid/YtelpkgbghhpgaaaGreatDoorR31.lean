/- TreeReads returns true for all texts whose data are not larger than a bound. Reading an expression from tokens comes to an end; what is read is no larger than the tokens it was read from. The document's count of nodes and levels of expressions. -/
import Derived.Test.YtelpkgbghhpgaaaGreatDoorR25
set_option linter.all false
section
namespace Go.Proofs.YtelpkgbghhpgaaaGreatDoor.Sx
mutual
def wX : Xp → Nat
  | .mk _ _ _ _ _ _ p _ l => 1 + p.length + wXs l
def wXs : List Xp → Nat
  | [] => 0
  | x :: l => wX x + wXs l
end
theorem wXs_append : ∀ (l m : List Xp), wXs (l ++ m) = wXs l + wXs m
  | [], m => by simp [wXs]
  | x :: l, m => by simp only [List.cons_append, wXs, wXs_append l m]; omega
theorem wX_pos (x : Xp) : 1 ≤ wX x := by cases x; simp only [wX]; omega
theorem wXs_len : ∀ l : List Xp, l.length ≤ wXs l
  | [] => Nat.zero_le _
  | x :: l => by
    have := wXs_len l
    have := wX_pos x
    simp only [wXs, List.length_cons]; omega
mutual
theorem bdX_of_w : ∀ x : Xp, wX x < most → bdX x
  | .mk op s vk vn vs pn p ln l, h => by
    simp only [wX] at h
    simp only [bdX]
    have := wXs_len l
    exact ⟨by omega, by omega, bdXs_of_w l (by omega)⟩
theorem bdXs_of_w : ∀ l : List Xp, wXs l < most → bdXs l
  | [], _ => trivial
  | x :: l, h => by
    simp only [wXs] at h
    exact ⟨bdX_of_w x (by omega), bdXs_of_w l (by omega)⟩
end
namespace PR
theorem on_bind' {α β : Type} {r : PR α} {f : α → Nat → PR β} {K0 : α → Nat → Prop} {K : β → Nat → Prop} {F : Nat → Prop} (h : r.on K0 F) (hf : ∀ x a, K0 x a → (f x a).on K F) : (r.bind f).on K F := by
  cases r with
  | ok x a => exact hf x a h
  | fail a => exact h
  | out => exact h
end PR
def TT : Nat → Prop := fun _ => True
def KX (a : Nat) (x : Xp) (a' : Nat) : Prop := a < a' ∧ wX x ≤ a' - a
section
variable {l : List Tok}
theorem nameP_good (a : Nat) : (nameP l a).on (fun _ a' => a' = a + 1 ∧ a < l.length) TT := by
  unfold nameP
  split
  · rename_i h
    refine ⟨rfl, tokAt_lt ?_⟩
    simp only [isNameTok, Bool.and_eq_true, beq_iff_eq] at h
    omega
  · trivial
theorem wantP_good (s : List UInt8) (a : Nat) : (wantP l s a).on (fun _ a' => a' = a + 1 ∧ a < l.length) TT := by
  unfold wantP
  split
  · rename_i h
    exact ⟨rfl, isS_lt h⟩
  · trivial
theorem spJoin_good {opnd : Nat → PR Xp} {k : Nat} {a0 : Nat} (hop : ∀ a, a0 ≤ a → (opnd a).on (KX a) TT) : ∀ (m : Nat) (x : Xp) (a : Nat), a0 ≤ a → l.length - a < m → (spJoin l opnd k m x a).on (fun y a' => a ≤ a' ∧ wX y ≤ wX x + (a' - a)) TT
  | 0, x, a, _, h => by omega
  | m + 1, x, a, ha, h => by
    rw [spJoin]
    by_cases ho : opOf k (tokAt l a) = []
    · rw [if_pos ho]; exact ⟨Nat.le_refl _, by omega⟩
    · rw [if_neg ho]
      have hlt := opOf_lt ho
      refine PR.on_bind' (hop (a + 1) (by omega)) (fun y a' ⟨h1, h2⟩ => ?_)
      refine PR.on_mono (spJoin_good hop m _ a' (by omega) (by omega)) (fun z a2 _ ⟨h3, h4⟩ => ?_) (fun _ _ _ => trivial)
      simp only [mkBin, wX, wXs, List.length_nil] at h4
      exact ⟨by omega, by omega⟩
theorem spJoined_good {opnd : Nat → PR Xp} {k n : Nat} (a : Nat) (hop : ∀ b, a ≤ b → (opnd b).on (KX b) TT) (hn : l.length - a < n) : (spJoined l opnd k n a).on (KX a) TT := by
  refine PR.on_bind' (hop a (Nat.le_refl _)) (fun x a' ⟨h1, h2⟩ => ?_)
  refine PR.on_mono (spJoin_good (a0 := a) hop n x a' (by omega) (by omega)) (fun y a2 _ ⟨h3, h4⟩ => ?_) (fun _ _ _ => trivial)
  exact ⟨by omega, by omega⟩
theorem spNamesL_good : ∀ (m : Nat) (acc : List (List UInt8)) (a : Nat), l.length - a < m → (spNamesL l m acc a).on (fun p a' => a ≤ a' ∧ p.length ≤ acc.length + (a' - a)) TT
  | 0, acc, a, h => by omega
  | m + 1, acc, a, h => by
    rw [spNamesL]
    by_cases hs : isS (tokAt l a) [44] = true
    · rw [if_pos hs]
      have hlt := isS_lt hs
      refine PR.on_bind' (nameP_good (a + 1)) (fun s a' ⟨h1, h2⟩ => ?_)
      refine PR.on_mono (spNamesL_good m _ a' (by omega)) (fun p a2 _ ⟨h3, h4⟩ => ?_) (fun _ _ _ => trivial)
      simp only [List.length_append, List.length_cons, List.length_nil] at h4
      exact ⟨by omega, by omega⟩
    · rw [if_neg hs]; exact ⟨Nat.le_refl _, by omega⟩
theorem spNames_good {n : Nat} (a : Nat) (hn : l.length - a < n) : (spNames l n a).on (fun p a' => a < a' ∧ p.length ≤ a' - a) TT := by
  refine PR.on_bind' (nameP_good a) (fun s a' ⟨h1, h2⟩ => ?_)
  refine PR.on_mono (spNamesL_good n [s] a' (by omega)) (fun p a2 _ ⟨h3, h4⟩ => ?_) (fun _ _ _ => trivial)
  simp only [List.length_cons, List.length_nil] at h4
  exact ⟨by omega, by omega⟩
theorem spListL_good {e : Nat → PR Xp} {a0 : Nat} (he : ∀ a, a0 ≤ a → (e a).on (KX a) TT) : ∀ (m : Nat) (acc : List Xp) (a : Nat), a0 ≤ a → l.length - a < m → (spListL l e m acc a).on (fun p a' => a ≤ a' ∧ wXs p ≤ wXs acc + (a' - a)) TT
  | 0, acc, a, _, h => by omega
  | m + 1, acc, a, ha, h => by
    rw [spListL]
    by_cases hs : isS (tokAt l a) [44] = true
    · rw [if_pos hs]
      have hlt := isS_lt hs
      refine PR.on_bind' (he (a + 1) (by omega)) (fun x a' ⟨h1, h2⟩ => ?_)
      refine PR.on_mono (spListL_good he m _ a' (by omega) (by omega)) (fun p a2 _ ⟨h3, h4⟩ => ?_) (fun _ _ _ => trivial)
      rw [wXs_append] at h4
      simp only [wXs] at h4
      exact ⟨by omega, by omega⟩
    · rw [if_neg hs]; exact ⟨Nat.le_refl _, by omega⟩
theorem spList_good {e : Nat → PR Xp} {n : Nat} (a : Nat) (he : ∀ b, a ≤ b → (e b).on (KX b) TT) (hn : l.length - a < n) : (spList l e n a).on (fun p a' => a < a' ∧ wXs p ≤ a' - a) TT := by
  refine PR.on_bind' (he a (Nat.le_refl _)) (fun x a' ⟨h1, h2⟩ => ?_)
  refine PR.on_mono (spListL_good (a0 := a) he n [x] a' (by omega) (by omega)) (fun p a2 _ ⟨h3, h4⟩ => ?_) (fun _ _ _ => trivial)
  simp only [wXs] at h4
  exact ⟨by omega, by omega⟩
section
variable {e : Nat → PR Xp} {a n : Nat}
theorem spMacro_good (he : ∀ b, a < b → (e b).on (KX b) TT) : (spMacro l e a).on (KX a) TT := by
  refine PR.on_bind' (wantP_good [38] a) (fun _ a1 ⟨h1, h2⟩ => ?_)
  by_cases hs : isS (tokAt l a1) [40] = true
  · rw [if_pos hs]
    refine PR.on_bind' (he (a1 + 1) (by omega)) (fun x a2 ⟨h3, h4⟩ => ?_)
    refine PR.on_bind' (wantP_good [41] a2) (fun _ a3 ⟨h5, h6⟩ => ?_)
    simp only [KX, PR.on_ok, mkMacroX, wX, wXs, List.length_nil]
    exact ⟨by omega, by omega⟩
  · rw [if_neg hs]
    refine PR.on_bind' (nameP_good a1) (fun s a2 ⟨h3, h4⟩ => ?_)
    simp only [KX, PR.on_ok, mkMacroN, wX, wXs, List.length_nil]
    split
    · exact ⟨by omega, by omega⟩
    · exact ⟨by omega, by omega⟩
theorem spCall_good (he : ∀ b, a < b → (e b).on (KX b) TT) (hn : l.length - a < n) : (spCall l e n a).on (KX a) TT := by
  refine PR.on_bind' (nameP_good a) (fun s a1 ⟨h1, h2⟩ => ?_)
  refine PR.on_bind' (wantP_good [40] a1) (fun _ a2 ⟨h3, h4⟩ => ?_)
  by_cases hs : isS (tokAt l a2) [41] = true
  · rw [if_pos hs]
    simp only [KX, PR.on_ok, mkCall, wX, wXs, List.length_nil]
    exact ⟨by omega, by omega⟩
  · rw [if_neg hs]
    refine PR.on_bind' (spList_good a2 (fun b hb => he b (by omega)) (by omega)) (fun x a3 ⟨h5, h6⟩ => ?_)
    refine PR.on_bind' (wantP_good [41] a3) (fun _ a4 ⟨h7, h8⟩ => ?_)
    simp only [KX, PR.on_ok, mkCall, wX, List.length_nil]
    exact ⟨by omega, by omega⟩
theorem spNamed_good (he : ∀ b, a < b → (e b).on (KX b) TT) (hn : l.length - a < n) : (spNamed l e n a).on (KX a) TT := by
  unfold spNamed
  by_cases h0 : isS (tokAt l (a + 1)) [40] = true
  · rw [if_pos h0]; exact spCall_good he hn
  · rw [if_neg h0]
    refine PR.on_bind' (nameP_good a) (fun s a1 ⟨h1, h2⟩ => ?_)
    by_cases hs : isS (tokAt l a1) [45, 62] = true
    · rw [if_pos hs]
      by_cases hp : isS (tokAt l (a1 + 1)) [40] = true
      · rw [if_pos hp]
        refine PR.on_bind' (he (a1 + 2) (by omega)) (fun x a2 ⟨h3, h4⟩ => ?_)
        refine PR.on_bind' (wantP_good [41] a2) (fun _ a3 ⟨h5, h6⟩ => ?_)
        simp only [KX, PR.on_ok, mkAlias, wX, wXs, List.length_nil]
        exact ⟨by omega, by omega⟩
      · rw [if_neg hp]
        refine PR.on_bind' (nameP_good (a1 + 1)) (fun f a2 ⟨h3, h4⟩ => ?_)
        simp only [KX, PR.on_ok, mkAlias, mkName, wX, wXs, List.length_nil]
        exact ⟨by omega, by omega⟩
    · rw [if_neg hs]
      simp only [KX, PR.on_ok, mkName, wX, wXs, List.length_nil]
      exact ⟨by omega, by omega⟩
theorem spBraced_good (he : ∀ b, a ≤ b → (e b).on (KX b) TT) (hn : l.length - a < n) : (spBraced l e n a).on (KX a) TT := by
  unfold spBraced
  by_cases h0 : isS (tokAt l a) [124] = true
  · have hlt := isS_lt h0
    rw [if_pos h0]
    by_cases h1 : isS (tokAt l (a + 1)) [124] = true
    · rw [if_pos h1]
      refine PR.on_bind' (he (a + 2) (by omega)) (fun x a2 ⟨h3, h4⟩ => ?_)
      refine PR.on_bind' (wantP_good [125] a2) (fun _ a3 ⟨h5, h6⟩ => ?_)
      simp only [KX, PR.on_ok, mkBlock, wX, wXs, List.length_nil]
      exact ⟨by omega, by omega⟩
    · rw [if_neg h1]
      refine PR.on_bind' (spNames_good (a + 1) (by omega)) (fun p a1 ⟨g1, g2⟩ => ?_)
      refine PR.on_bind' (wantP_good [124] a1) (fun _ a2 ⟨g3, g4⟩ => ?_)
      refine PR.on_bind' (he a2 (by omega)) (fun x a3 ⟨h3, h4⟩ => ?_)
      refine PR.on_bind' (wantP_good [125] a3) (fun _ a4 ⟨h5, h6⟩ => ?_)
      simp only [KX, PR.on_ok, mkBlock, wX, wXs]
      exact ⟨by omega, by omega⟩
  · rw [if_neg h0]
    refine PR.on_bind' (spList_good a he hn) (fun x a1 ⟨h3, h4⟩ => ?_)
    refine PR.on_bind' (wantP_good [125] a1) (fun _ a2 ⟨h5, h6⟩ => ?_)
    simp only [KX, PR.on_ok, mkList, wX, List.length_nil]
    exact ⟨by omega, by omega⟩
theorem mkC_w (k v : Int) (s : List UInt8) : wX (mkC k v s) = 1 := by simp [mkC, wX, wXs]
theorem spSigned_good (he : ∀ b, a < b → a < l.length → (e b).on (KX b) TT) (hn : l.length - a < n) : (spSigned l e n a).on (KX a) TT := by
  have he' : a < l.length → ∀ b, a < b → (e b).on (KX b) TT := fun h b hb => he b hb h
  unfold spSigned
  split
  · rename_i h; exact spMacro_good (he' (isS_lt h))
  split
  · simp only [KX, PR.on_ok, mkC_w]; omega
  split
  · simp only [KX, PR.on_ok, mkC_w]; omega
  split
  · simp only [KX, PR.on_ok, mkC_w]; omega
  split
  · rename_i h
    refine PR.on_bind' (he' (isS_lt h) (a + 1) (by omega)) (fun x a1 ⟨h3, h4⟩ => ?_)
    refine PR.on_bind' (wantP_good [41] a1) (fun _ a2 ⟨h5, h6⟩ => ?_)
    exact ⟨by omega, by omega⟩
  split
  · refine PR.on_bind' (nameP_good (a + 1)) (fun s a1 ⟨h3, h4⟩ => ?_)
    simp only [KX, PR.on_ok, mkRef, wX, wXs, List.length_nil]
    exact ⟨by omega, by omega⟩
  split
  · rename_i h
    have hlt := isS_lt h
    refine PR.on_mono (spBraced_good (a := a + 1) (fun b hb => he' (isS_lt h) b (by omega)) (by omega)) (fun x a1 _ ⟨h3, h4⟩ => ?_) (fun _ _ _ => trivial)
    exact ⟨by omega, by omega⟩
  · trivial
theorem spPrim_good (he : ∀ b, a < b → a < l.length → (e b).on (KX b) TT) (hn : l.length - a < n) : (spPrim l e n a).on (KX a) TT := by
  unfold spPrim
  split
  · simp only [KX, PR.on_ok, mkC_w]; omega
  split
  · split
    · trivial
    · simp only [KX, PR.on_ok, mkC_w]; omega
  split
  · simp only [KX, PR.on_ok, mkC_w]; omega
  split
  · rename_i h
    have hlt := tokAt_lt (l := l) (i := a) (by omega)
    exact spNamed_good (fun b hb => he b hb hlt) hn
  · exact spSigned_good he hn
theorem spIdx_good {a0 : Nat} (he : ∀ b, a0 < b → b ≤ l.length → (e b).on (KX b) TT) : ∀ (m : Nat) (x : Xp) (a : Nat), a0 ≤ a → l.length - a < m → (spIdx l e m x a).on (fun y a' => a ≤ a' ∧ wX y ≤ wX x + (a' - a)) TT
  | 0, x, a, _, h => by omega
  | m + 1, x, a, ha, h => by
    rw [spIdx]
    by_cases hs : isS (tokAt l a) [91] = true
    · have hlt := isS_lt hs
      rw [if_pos hs]
      refine PR.on_bind' (he (a + 1) (by omega) (by omega)) (fun i a1 ⟨h1, h2⟩ => ?_)
      refine PR.on_bind' (wantP_good [93] a1) (fun _ a2 ⟨h3, h4⟩ => ?_)
      refine PR.on_mono (spIdx_good he m _ a2 (by omega) (by omega)) (fun y a3 _ ⟨h5, h6⟩ => ?_) (fun _ _ _ => trivial)
      simp only [mkIndex, wX, wXs, List.length_nil] at h6
      exact ⟨by omega, by omega⟩
    · rw [if_neg hs]; exact ⟨Nat.le_refl _, by omega⟩
end
def ntC : Nt → Nat
  | .unary => 2
  | .pow => 3
  | .not => 4
  | .expr => 5
theorem sp_good : ∀ (n : Nat) (nt : Nt) (a : Nat), 4 * (l.length - a) + ntC nt ≤ n → (sp l n nt a).on (KX a) TT
  | 0, nt, a, h => by cases nt <;> simp [ntC] at h
  | n + 1, nt, a, h => by
    have ih := sp_good n
    rw [sp]
    cases nt with
    | expr =>
      simp only [ntC] at h
      exact spJoined_good a (fun b hb => spJoined_good b (fun c hc => ih .not c (by simp only [ntC]; omega)) (by omega)) (by omega)
    | not =>
      simp only [ntC] at h
      have hsum : ∀ b, a ≤ b → (spSum l (sp l n) n b).on (KX b) TT := fun b hb => spJoined_good b (fun c hc => spJoined_good c (fun d hd => ih .pow d (by simp only [ntC]; omega)) (by omega)) (by omega)
      simp only [spStep]
      by_cases h0 : isS (tokAt l a) [46, 78, 79, 84, 46] = true ∨ isS (tokAt l a) [33] = true
      · have hlt : a < l.length := h0.elim isS_lt isS_lt
        rw [if_pos h0]
        refine PR.on_bind' (ih .not (a + 1) (by simp only [ntC]; omega)) (fun x a1 ⟨h3, h4⟩ => ?_)
        simp only [KX, PR.on_ok, mkUn, wX, wXs, List.length_nil]
        exact ⟨by omega, by omega⟩
      · rw [if_neg h0]
        refine PR.on_bind' (hsum a (Nat.le_refl _)) (fun x a1 ⟨h3, h4⟩ => ?_)
        by_cases ho : opOf 2 (tokAt l a1) = []
        · rw [if_pos ho]; exact ⟨h3, h4⟩
        · rw [if_neg ho]
          refine PR.on_bind' (hsum (a1 + 1) (by omega)) (fun y a2 ⟨h5, h6⟩ => ?_)
          simp only [KX, PR.on_ok, mkBin, wX, wXs, List.length_nil]
          exact ⟨by omega, by omega⟩
    | pow =>
      simp only [ntC] at h
      simp only [spStep]
      refine PR.on_bind' (ih .unary a (by simp only [ntC]; omega)) (fun x a1 ⟨h3, h4⟩ => ?_)
      by_cases ho : opOf 5 (tokAt l a1) = []
      · rw [if_pos ho]; exact ⟨h3, h4⟩
      · rw [if_neg ho]
        have hlt := opOf_lt ho
        refine PR.on_bind' (ih .pow (a1 + 1) (by simp only [ntC]; omega)) (fun y a2 ⟨h5, h6⟩ => ?_)
        simp only [KX, PR.on_ok, mkBin, wX, wXs, List.length_nil]
        exact ⟨by omega, by omega⟩
    | unary =>
      simp only [ntC] at h
      simp only [spStep]
      by_cases h0 : isS (tokAt l a) [45] = true
      · have hlt := isS_lt h0
        rw [if_pos h0]
        refine PR.on_bind' (ih .unary (a + 1) (by simp only [ntC]; omega)) (fun x a1 ⟨h3, h4⟩ => ?_)
        simp only [KX, PR.on_ok, mkUn, wX, wXs, List.length_nil]
        exact ⟨by omega, by omega⟩
      · rw [if_neg h0]
        refine PR.on_bind' (spPrim_good (fun b hb hl => ih .expr b (by simp only [ntC]; omega)) (by omega)) (fun x a1 ⟨h3, h4⟩ => ?_)
        exact PR.on_mono (spIdx_good (a0 := a) (fun b hb hl => ih .expr b (by simp only [ntC]; omega)) n x a1 (by omega) (by omega)) (fun y a2 _ ⟨h5, h6⟩ => ⟨by omega, by omega⟩) (fun _ _ _ => trivial)
end
end Go.Proofs.YtelpkgbghhpgaaaGreatDoor.Sx
end
section
set_option maxRecDepth 100000
namespace Go.Proofs.YtelpkgbghhpgaaaGreatDoor.Sx
mutual
def nX : Xp → Nat
  | .mk _ _ _ _ _ _ _ _ l => 1 + nXs l
def nXs : List Xp → Nat
  | [] => 0
  | x :: l => nX x + nXs l
end
mutual
def dX : Xp → Nat
  | .mk _ _ _ _ _ _ _ _ l => 1 + dXs l
def dXs : List Xp → Nat
  | [] => 0
  | x :: l => max (dX x) (dXs l)
end
mutual
theorem nX_le : ∀ x : Xp, nX x ≤ wX x
  | .mk op s vk vn vs pn p ln l => by
    simp only [nX, wX]
    have := nXs_le l
    omega
theorem nXs_le : ∀ l : List Xp, nXs l ≤ wXs l
  | [] => Nat.le_refl _
  | x :: l => by
    simp only [nXs, wXs]
    have := nX_le x
    have := nXs_le l
    omega
end
mutual
theorem dX_le : ∀ x : Xp, dX x ≤ nX x
  | .mk op s vk vn vs pn p ln l => by
    simp only [nX, dX]
    have := dXs_le l
    omega
theorem dXs_le : ∀ l : List Xp, dXs l ≤ nXs l
  | [] => Nat.le_refl _
  | x :: l => by
    simp only [nXs, dXs]
    have := dX_le x
    have := dXs_le l
    omega
end
theorem mxI_nat (a b : Nat) : mxI (a : Int) (b : Int) = ((max a b : Nat) : Int) := by
  unfold mxI
  rw [Nat.max_def]
  split <;> split <;> omega
theorem mxI_cases (a b : Int) : (mxI a b = a ∧ b ≤ a) ∨ (mxI a b = b ∧ a < b) := by unfold mxI; split <;> omega
theorem w64_nat (n : Nat) (h : n < 9223372036854775808) : w64 ((n : Nat) : Int) = (n : Int) := wrap_nat n h
mutual
theorem szX_nd : ∀ x : Xp, nX x < 4611686018427387904 → szX x = ((nX x : Int), (dX x : Int))
  | .mk op s vk vn vs pn p ln l, h => by
    simp only [nX] at h
    rw [szX]
    have := szXs_nd l 1 1 (by omega) (by omega)
    simp only [nX, dX]
    rw [show ((1 : Int), (1 : Int)) = (((1 : Nat) : Int), ((1 : Nat) : Int)) from rfl, this]
    congr 1
    have := dXs_le l
    cases l with
    | nil => rfl
    | cons x l =>
      have : 1 ≤ dX x := by cases x; simp only [dX]; omega
      simp only [dXs, reduceCtorEq, if_false, Nat.max_def]
      split <;> split <;> omega
theorem szXs_nd : ∀ (l : List Xp) (n d : Nat), n + nXs l < 4611686018427387904 → d < 9223372036854775000 → szXs ((n : Int), (d : Int)) l = (((n + nXs l : Nat) : Int), ((max d (if l = [] then 0 else dXs l + 1) : Nat) : Int))
  | [], n, d, _, _ => by simp [szXs, nXs]
  | x :: l, n, d, h, hd => by
    simp only [nXs] at h
    have hdn := dX_le x
    have h1 := szX_nd x (by omega)
    rw [szXs, h1]
    have e : szIn ((n : Int), (d : Int)) ((nX x : Int), (dX x : Int)) = (((n + nX x : Nat) : Int), ((max d (dX x + 1) : Nat) : Int)) := by
      have e1 : w64 ((n : Int) + (nX x : Int)) = ((n + nX x : Nat) : Int) := by rw [← w64_nat (n + nX x) (by omega)]; simp
      have e2 : w64 ((dX x : Int) + 1) = ((dX x + 1 : Nat) : Int) := by rw [← w64_nat (dX x + 1) (by omega)]; simp
      show (w64 ((n : Int) + (nX x : Int)), mxI (d : Int) (w64 ((dX x : Int) + 1))) = _
      rw [e1, e2, mxI_nat]
    have hd2 : max d (dX x + 1) < 9223372036854775000 := by rw [Nat.max_def]; split <;> omega
    rw [e, szXs_nd l _ _ (by omega) hd2]
    simp only [nXs, dXs]
    congr 1
    · omega
    · cases l with
      | nil => simp [dXs]
      | cons y l =>
        simp only [reduceCtorEq, if_false]
        congr 1
        simp only [Nat.max_def]
        repeat' split
        all_goals omega
end
def cAt (c : Int × Int) (lv : Int) : Int × Int := (c.1 + 1, mxI c.2 lv)
mutual
def cntX (c : Int × Int) (lv : Int) : Xp → Int × Int
  | .mk _ _ _ _ _ _ _ _ l => cntXs c (lv + 1) l
def cntXs (c : Int × Int) (lv : Int) : List Xp → Int × Int
  | [] => c
  | x :: l => if isLarge (cAt c lv) = true then cAt c lv else cntXs (cntX (cAt c lv) lv x) lv l
end
theorem isLarge_mono {a b : Int × Int} (h1 : a.1 ≤ b.1) (h2 : a.2 ≤ b.2) (h : isLarge a = true) : isLarge b = true := by
  unfold isLarge at h ⊢
  simp only [Bool.or_eq_true, decide_eq_true_eq] at h ⊢
  omega
theorem mxI_le (a b : Int) : a ≤ mxI a b ∧ b ≤ mxI a b := by unfold mxI; split <;> omega
mutual
theorem cntX_ge : ∀ (x : Xp) (c : Int × Int) (lv : Int), c.1 ≤ (cntX c lv x).1 ∧ c.2 ≤ (cntX c lv x).2
  | .mk op s vk vn vs pn p ln l, c, lv => by rw [cntX]; exact cntXs_ge l c (lv + 1)
theorem cntXs_ge : ∀ (l : List Xp) (c : Int × Int) (lv : Int), c.1 ≤ (cntXs c lv l).1 ∧ c.2 ≤ (cntXs c lv l).2
  | [], c, lv => by rw [cntXs]; exact ⟨Int.le_refl _, Int.le_refl _⟩
  | x :: l, c, lv => by
    have hm := mxI_le c.2 lv
    rw [cntXs]
    split
    · simp only [cAt]; omega
    · have h1 := cntX_ge x (cAt c lv) lv
      have h2 := cntXs_ge l (cntX (cAt c lv) lv x) lv
      simp only [cAt] at h1 h2 ⊢
      omega
end
mutual
theorem cntX_le : ∀ (x : Xp) (c : Int × Int) (lv : Int), (cntX c lv x).1 + 1 ≤ c.1 + nX x
  | .mk op s vk vn vs pn p ln l, c, lv => by
    have := cntXs_le l c (lv + 1)
    rw [cntX]; simp only [nX]; omega
theorem cntXs_le : ∀ (l : List Xp) (c : Int × Int) (lv : Int), (cntXs c lv l).1 ≤ c.1 + nXs l
  | [], c, lv => by rw [cntXs]; simp [nXs]
  | x :: l, c, lv => by
    have : 1 ≤ nX x := by cases x; simp only [nX]; omega
    rw [cntXs]
    split
    · simp only [cAt, nXs]; omega
    · have h1 := cntX_le x (cAt c lv) lv
      have h2 := cntXs_le l (cntX (cAt c lv) lv x) lv
      simp only [cAt, nXs] at h1 h2 ⊢
      omega
end
def tot (c : Int × Int) (lv : Int) (n d : Nat) : Int × Int := (c.1 + n, mxI c.2 (lv - 1 + d))
mutual
theorem cntX_tot : ∀ (x : Xp) (c : Int × Int) (lv : Int), lv ≤ c.2 → (isLarge (cntX c lv x) = isLarge (tot c lv (nX x - 1) (dX x))) ∧ (isLarge (cntX c lv x) = false → cntX c lv x = tot c lv (nX x - 1) (dX x))
  | .mk op s vk vn vs pn p ln l, c, lv, h => by
    have := cntXs_tot l c (lv + 1) (by omega)
    rw [cntX]
    have e : tot c (lv + 1) (nXs l) (dXs l) = tot c lv (nX (.mk op s vk vn vs pn p ln l) - 1) (dX (.mk op s vk vn vs pn p ln l)) := by
      simp only [tot, nX, dX]
      congr 1
      · omega
      · congr 1; omega
    rwa [e] at this
theorem cntXs_tot : ∀ (l : List Xp) (c : Int × Int) (lv : Int), lv - 1 ≤ c.2 → (isLarge (cntXs c lv l) = isLarge (tot c lv (nXs l) (dXs l))) ∧ (isLarge (cntXs c lv l) = false → cntXs c lv l = tot c lv (nXs l) (dXs l))
  | [], c, lv, h => by
    have e : tot c lv 0 0 = c := by
      have : mxI c.2 (lv - 1 + (0 : Nat)) = c.2 := by unfold mxI; split <;> omega
      simp only [tot, this]
      simp
    simp only [cntXs, nXs, dXs, e]
    exact ⟨trivial, fun _ => trivial⟩
  | x :: l, c, lv, h => by
    have n1 : 1 ≤ nX x := by cases x; simp only [nX]; omega
    have d1 : 1 ≤ dX x := by cases x; simp only [dX]; omega
    have hm := mxI_le c.2 lv
    have hT : (tot c lv (nXs (x :: l)) (dXs (x :: l))).1 = c.1 + nX x + nXs l := by simp only [tot, nXs]; omega
    have hT2 : c.2 ≤ (tot c lv (nXs (x :: l)) (dXs (x :: l))).2 ∧ lv - 1 + dX x ≤ (tot c lv (nXs (x :: l)) (dXs (x :: l))).2 ∧ lv - 1 + dXs l ≤ (tot c lv (nXs (x :: l)) (dXs (x :: l))).2 := by
      have := mxI_le c.2 (lv - 1 + (dXs (x :: l) : Nat))
      have q5 : dX x ≤ dXs (x :: l) ∧ dXs l ≤ dXs (x :: l) := by simp only [dXs]; exact ⟨Nat.le_max_left _ _, Nat.le_max_right _ _⟩
      simp only [tot]
      omega
    rw [cntXs]
    by_cases h0 : isLarge (cAt c lv) = true
    · rw [if_pos h0]
      have : isLarge (tot c lv (nXs (x :: l)) (dXs (x :: l))) = true := by
        refine isLarge_mono ?_ ?_ h0
        · simp only [cAt]; omega
        · simp only [cAt]
          have := mxI_cases c.2 lv
          omega
      rw [h0, this]
      exact ⟨rfl, fun h => by cases h⟩
    · rw [if_neg h0]
      have h1 := cntX_tot x (cAt c lv) lv (by simp only [cAt]; omega)
      have hge := cntX_ge x (cAt c lv) lv
      have h2 := cntXs_tot l (cntX (cAt c lv) lv x) lv (by simp only [cAt] at hge ⊢; omega)
      cases hl : isLarge (cntX (cAt c lv) lv x) with
      | true =>
        have hge2 := cntXs_ge l (cntX (cAt c lv) lv x) lv
        have e1 := isLarge_mono hge2.1 hge2.2 hl
        have e2 : isLarge (tot c lv (nXs (x :: l)) (dXs (x :: l))) = true := by
          rw [h1.1] at hl
          refine isLarge_mono ?_ ?_ hl
          · simp only [tot, cAt, nXs]; omega
          · simp only [tot, cAt]
            simp only [tot] at hT2
            have q1 := mxI_cases c.2 lv
            have q2 := mxI_cases (mxI c.2 lv) (lv - 1 + (dX x : Nat))
            omega
        rw [e1, e2]
        exact ⟨rfl, fun h => by cases h⟩
      | false =>
        have e := h1.2 hl
        rw [e] at h2
        have et : tot (tot (cAt c lv) lv (nX x - 1) (dX x)) lv (nXs l) (dXs l) = tot c lv (nXs (x :: l)) (dXs (x :: l)) := by
          simp only [tot, cAt, nXs, dXs]
          congr 1
          · omega
          · have q1 := mxI_cases c.2 lv
            have q2 := mxI_cases (mxI c.2 lv) (lv - 1 + (dX x : Nat))
            have q3 := mxI_cases (mxI (mxI c.2 lv) (lv - 1 + (dX x : Nat))) (lv - 1 + (dXs l : Nat))
            have q4 := mxI_cases c.2 (lv - 1 + (max (dX x) (dXs l) : Nat))
            have q5 : (max (dX x) (dXs l) = dX x ∧ dXs l ≤ dX x) ∨ (max (dX x) (dXs l) = dXs l ∧ dX x ≤ dXs l) := by rw [Nat.max_def]; split <;> omega
            omega
        rw [et] at h2
        rw [e]
        exact h2
end
theorem cnt_large (x : Xp) (h : nX x < 4611686018427387904) : isLarge (cntXs (0, 0) 1 [x]) = isLarge (szX x) := by
  rw [(cntXs_tot [x] (0, 0) 1 (by simp)).1, szX_nd x h]
  congr 1
  have d1 : 1 ≤ dX x := by cases x; simp only [dX]; omega
  simp only [tot, nXs, dXs, Nat.max_zero]
  congr 1
  · omega
  · have := mxI_cases 0 (1 - 1 + (dX x : Int))
    omega
end Go.Proofs.YtelpkgbghhpgaaaGreatDoor.Sx
end
