/- TreeExprSames returns true for all expressions whose data are not larger than a bound. The program's scanner: the next token. Steps of cutting go forward; what the tokens are. lex.Lex comes to what `lexP` says. -/
import Derived.Test.YtelpkgbghhpgaaaGreatDoorK24
set_option linter.all false
section
/- The program's scanner: the next token. -/
set_option maxRecDepth 100000
namespace Go.Proofs.YtelpkgbghhpgaaaGreatDoor.Sx

/-- The next token: with the place behind it; the end; or a wrong place. -/
inductive NR where
  | tok (t : Tok) (a : Nat) (line : Bool)
  | fail (a : Nat)
  | done
  | out

def nxN (s : List UInt8) : Nat → Nat → Bool → NR
  | 0, _, _ => .out
  | n + 1, a, line =>
    if s.length ≤ a then (if line = true then .tok ⟨5, a, []⟩ a false else .done)
    else match stepP s a line with
      | .tok t e l => .tok t e l
      | .go e l => nxN s n e l
      | .fail p => .fail p

theorem cls3 {s : List UInt8} {a : Nat} (h : isC s a 3 = true) : s[a]? ≠ some 10 := by
  intro e
  unfold isC at h
  rw [e] at h
  exact absurd h (by decide)

theorem step_blank {s : List UInt8} {a : Nat} {line : Bool} (h : isC s a 3 = true) : stepP s a line = .go (a + 1) line := by
  unfold stepP
  rw [if_neg (cls3 h), if_pos h]

theorem nx_skip {s : List UInt8} {line : Bool} : ∀ (j n a : Nat), nxN s n a line ≠ .out → ∃ m, m ≤ n ∧ nxN s n a line = nxN s m (runTo (fun i => isC s i 3) j a) line
  | 0, n, a, _ => ⟨n, Nat.le_refl _, rfl⟩
  | j + 1, n, a, h => by
    simp only [runTo]
    split
    · rename_i hb
      cases n with
      | zero => exact absurd rfl h
      | succ n =>
        have hlt := isC_lt hb
        have e : nxN s (n + 1) a line = nxN s n (a + 1) line := by
          simp only [nxN]
          rw [if_neg (by omega), step_blank hb]
        rw [e] at h ⊢
        obtain ⟨m, h1, h2⟩ := nx_skip j n (a + 1) h
        exact ⟨m, by omega, h2⟩
    · exact ⟨n, Nat.le_refl _, rfl⟩

theorem runTo_end {p : Nat → Bool} {L : Nat} (hp : ∀ i, L ≤ i → p i = false) : ∀ (n a : Nat), L ≤ a + n → p (runTo p n a) = false
  | 0, a, h => hp a (by omega)
  | n + 1, a, h => by
    simp only [runTo]
    split
    · exact runTo_end hp n (a + 1) (by omega)
    · rename_i h1; simpa using h1
theorem skipB_end {s : List UInt8} {a : Nat} : isC s (skipB s a) 3 = false := by
  unfold skipB
  refine runTo_end (p := fun i => isC s i 3) (L := s.length) (fun i hi => ?_) _ a (by omega)
  unfold isC
  rw [List.getElem?_eq_none hi]

section
variable {st : St} {id a : Nat} {s : List UInt8} {line begun : Bool} {bad : Int} {Q : Res → St → Prop} {o : HObj}

def nxQ (st : St) (id : Nat) (s : List UInt8) (bad : Int) (Q : Res → St → Prop) : NR → Prop
  | .tok t e l => Q (.ret (.tuple [.agg [.int .i64 t.kind, .int .i64 t.at_, .str t.text], .bool true])) (W st id s e l l bad)
  | .fail p => failQ st id s p Q
  | .done => Q (.ret (.tuple [.agg [.int .i64 0, .int .i64 0, .str []], .bool false])) (W st id s s.length false false bad)
  | .out => False

theorem next_ok (hid : id < st.size) (hs : s.length < 65536) (ha : a ≤ s.length) (n : Nat) (hQ : nxQ st id s bad Q (nxN s n a line)) :
    CallA S 84 [.ptr id 0] (W st id s a line line bad) Q := by
  refine callA_body (by rfl) (by rfl) rfl ?_
  simp only [b84, go_sem, ↓reduceIte, reduceCtorEq, Nat.reduceLT, Nat.reduceLeDiff, Nat.reduceAdd, Nat.reduceMul, Nat.reduceSub, Nat.reduceEqDiff, Nat.reduceBEq, Int.reduceToNat, Int.reduceLE, Int.reduceLT]
  refine wp_loop (fun n fr st' => ∃ a line x ex ser, a ≤ s.length ∧ st' = W st id s a line line bad ∧ nxQ st id s bad Q (nxN s n a line) ∧
    fr = ⟨(0, .ptr id 0) :: (2, .lptr 0 1 0) :: ex, [(1, [.int .i64 0, .int .i64 0, .str []]), x], [], ser⟩) n ⟨a, line, _, [], _, ha, rfl, hQ, rfl⟩ ?_
  clear hQ ha
  rintro n fr st' ⟨a0, line, x, ex, ser, ha0, rfl, hQ, rfl⟩
  obtain ⟨x1, x2⟩ := x
  have hno : nxN s n a0 line ≠ .out := fun e => by rw [e] at hQ; exact hQ
  obtain ⟨m, hmn, hm⟩ := nx_skip (s.length - a0) n a0 hno
  have hk := skipB_le (s := s) (a := a0) ha0
  have hend := skipB_end (s := s) (a := a0)
  rw [hm] at hQ hno
  change nxQ st id s bad Q (nxN s m (skipB s a0) line) at hQ
  change nxN s m (skipB s a0) line ≠ .out at hno
  generalize hsk : skipB s a0 = a at *
  have hskip := fun Q => skip_eq (st := st) (id := id) (s := s) (a := a0) (line := line) (begun := line) (bad := bad) (Q := Q) hid hs ha0
  rw [hsk] at hskip
  cases m with
  | zero => exact absurd rfl hno
  | succ m =>
    simp only [nxN] at hQ
    by_cases hl : s.length ≤ a
    · have hae : a = s.length := by omega
      have e : ((a : Int) == (s.length : Int)) = true := by rw [beq_iff_eq]; omega
      rw [if_pos hl] at hQ
      have hen := fun Q => end_eq' (st := st) (id := id) (s := s) (a := a) (line := line) (bad := bad) (Q := Q) hid hs hk.2
      simp only [hae, decide_true, Bool.or_true, if_true] at hen
      cases line with
      | true =>
        simp only [if_true] at hQ hen
        rw [← hae] at hen
        simp only [b84l0, go_sem, ↓reduceIte, reduceCtorEq, Nat.reduceLT, Nat.reduceLeDiff, Nat.reduceAdd, Nat.reduceMul, Nat.reduceSub, Nat.reduceEqDiff, Nat.reduceBEq, Int.reduceToNat, Int.reduceLE, Int.reduceLT, hskip, W_cells hid, e, hen, W_size, W_trunc]
        exact hQ
      | false =>
        simp only [Bool.false_eq_true, if_false] at hQ hen
        rw [← hae] at hen
        have e5 : ((0 : Int) == 5) = false := rfl
        simp only [b84l0, go_sem, ↓reduceIte, reduceCtorEq, Nat.reduceLT, Nat.reduceLeDiff, Nat.reduceAdd, Nat.reduceMul, Nat.reduceSub, Nat.reduceEqDiff, Nat.reduceBEq, Int.reduceToNat, Int.reduceLE, Int.reduceLT, hskip, W_cells hid, e, hen, e5, W_size, W_trunc]
        rw [hae]
        exact hQ
    · have hlt : a < s.length := by omega
      rw [if_neg hl] at hQ
      have e : ((a : Int) == (s.length : Int)) = false := by rw [beq_eq_false_iff_ne]; omega
      have hg := getB hlt
      have e10 : ((s[a].toNat : Int) == 10) = decide (s[a] = 10) := beq_byte s[a] 10 (by omega)
      have e42 : ((s[a].toNat : Int) == 42) = decide (s[a] = 42) := beq_byte s[a] 42 (by omega)
      have e59 : ((s[a].toNat : Int) == 59) = decide (s[a] = 59) := beq_byte s[a] 59 (by omega)
      have h1 : (a : Int) ≤ (s.length : Int) := by omega
      have h2 : (s.length : Int) ≤ (s.length : Int) := by omega
      have ht : s.take s.length = s := List.take_length
      unfold stepP at hQ
      rw [hg, hend] at hQ
      simp only [Option.some.injEq, Bool.false_eq_true, if_false] at hQ
      by_cases c10 : s[a] = 10
      · rw [decide_eq_true c10] at e10
        rw [if_pos c10] at hQ
        have hen := fun Q => end_eq' (st := st) (id := id) (s := s) (a := a) (line := line) (bad := bad) (Q := Q) hid hs hk.2
        have hne : ¬ a = s.length := by omega
        simp only [hne, decide_false, Bool.or_false, if_false] at hen
        cases line with
        | true =>
          simp only [if_true] at hQ hen
          simp only [b84l0, go_sem, ↓reduceIte, reduceCtorEq, Nat.reduceLT, Nat.reduceLeDiff, Nat.reduceAdd, Nat.reduceMul, Nat.reduceSub, Nat.reduceEqDiff, Nat.reduceBEq, Int.reduceToNat, Int.reduceLE, Int.reduceLT, hskip, W_cells hid, e, hg, e10, hen, W_size, W_trunc]
          exact hQ
        | false =>
          simp only [Bool.false_eq_true, if_false] at hQ hen
          simp only [b84l0, go_sem, ↓reduceIte, reduceCtorEq, Nat.reduceLT, Nat.reduceLeDiff, Nat.reduceAdd, Nat.reduceMul, Nat.reduceSub, Nat.reduceEqDiff, Nat.reduceBEq, Int.reduceToNat, Int.reduceLE, Int.reduceLT, hskip, W_cells hid, e, hg, e10, hen]
          exact ⟨m, by omega, a + 1, false, _, _, _, by omega, rfl, hQ, rfl⟩
      · rw [decide_eq_false c10] at e10
        rw [if_neg c10] at hQ
        have comm : ∀ (hc : (s[a] = 42 ∧ line = false) ∨ hasPre (s.drop a) [38, 38] = true), (match (match commentP s a with | some p => Step.fail p | none => Step.go (lineEnd s a) line) with
            | .tok t e l => nxQ st id s bad Q (.tok t e l)
            | .go e l => nxQ st id s bad Q (nxN s m e l)
            | .fail p => nxQ st id s bad Q (.fail p)) := by
          intro hc
          rw [if_pos hc] at hQ
          revert hQ
          cases commentP s a <;> exact fun h => h
        have hle := lineEnd_le hk.2
        by_cases c42 : s[a] = 42 ∧ line = false
        · have hQ := comm (.inl c42)
          obtain ⟨c42, rfl⟩ := c42
          rw [decide_eq_true c42] at e42
          simp only [b84l0, go_sem, ↓reduceIte, reduceCtorEq, Nat.reduceLT, Nat.reduceLeDiff, Nat.reduceAdd, Nat.reduceMul, Nat.reduceSub, Nat.reduceEqDiff, Nat.reduceBEq, Int.reduceToNat, Int.reduceLE, Int.reduceLT, hskip, W_cells hid, e, hg, e10, e42]
          rw [comment_eq hid hs hk.2]
          cases hcp : commentP s a with
          | some p =>
            simp only [hcp] at hQ
            simp only [go_sem, ↓reduceIte, reduceCtorEq, Nat.reduceLT, Nat.reduceLeDiff, Nat.reduceAdd, Nat.reduceMul, Nat.reduceSub, Nat.reduceEqDiff, Nat.reduceBEq, Int.reduceToNat, Int.reduceLE, Int.reduceLT, W_size, W_trunc]
            exact hQ _ _ _ _ _ _
          | none =>
            simp only [hcp] at hQ
            simp only [go_sem, ↓reduceIte, reduceCtorEq, Nat.reduceLT, Nat.reduceLeDiff, Nat.reduceAdd, Nat.reduceMul, Nat.reduceSub, Nat.reduceEqDiff, Nat.reduceBEq, Int.reduceToNat, Int.reduceLE, Int.reduceLT]
            exact ⟨m, by omega, lineEnd s a, false, _, _, _, hle.2, rfl, hQ, rfl⟩
        · have n42 : (((s[a].toNat : Int) == 42) = false) ∨ (((s[a].toNat : Int) == 42) = true ∧ line = true) := by
            rw [e42]
            by_cases h : s[a] = 42
            · right
              exact ⟨decide_eq_true h, by cases line with | true => rfl | false => exact absurd ⟨h, rfl⟩ c42⟩
            · left; exact decide_eq_false h
          cases hp : hasPre (s.drop a) [38, 38] with
          | true =>
            have hQ := comm (.inr hp)
            rcases n42 with e42 | ⟨e42, rfl⟩
            · simp only [b84l0, go_sem, ↓reduceIte, reduceCtorEq, Nat.reduceLT, Nat.reduceLeDiff, Nat.reduceAdd, Nat.reduceMul, Nat.reduceSub, Nat.reduceEqDiff, Nat.reduceBEq, Int.reduceToNat, Int.reduceLE, Int.reduceLT, hskip, W_cells hid, e, hg, e10, e42, h1, h2, and_self, ht, hasPrefix_eq, hp]
              rw [comment_eq hid hs hk.2]
              cases hcp : commentP s a with
              | some p =>
                simp only [hcp] at hQ
                simp only [go_sem, ↓reduceIte, reduceCtorEq, Nat.reduceLT, Nat.reduceLeDiff, Nat.reduceAdd, Nat.reduceMul, Nat.reduceSub, Nat.reduceEqDiff, Nat.reduceBEq, Int.reduceToNat, Int.reduceLE, Int.reduceLT, W_size, W_trunc]
                exact hQ _ _ _ _ _ _
              | none =>
                simp only [hcp] at hQ
                simp only [go_sem, ↓reduceIte, reduceCtorEq, Nat.reduceLT, Nat.reduceLeDiff, Nat.reduceAdd, Nat.reduceMul, Nat.reduceSub, Nat.reduceEqDiff, Nat.reduceBEq, Int.reduceToNat, Int.reduceLE, Int.reduceLT]
                exact ⟨m, by omega, lineEnd s a, line, _, _, _, hle.2, rfl, hQ, rfl⟩
            · simp only [b84l0, go_sem, ↓reduceIte, reduceCtorEq, Nat.reduceLT, Nat.reduceLeDiff, Nat.reduceAdd, Nat.reduceMul, Nat.reduceSub, Nat.reduceEqDiff, Nat.reduceBEq, Int.reduceToNat, Int.reduceLE, Int.reduceLT, hskip, W_cells hid, e, hg, e10, e42, h1, h2, and_self, ht, hasPrefix_eq, hp]
              rw [comment_eq hid hs hk.2]
              cases hcp : commentP s a with
              | some p =>
                simp only [hcp] at hQ
                simp only [go_sem, ↓reduceIte, reduceCtorEq, Nat.reduceLT, Nat.reduceLeDiff, Nat.reduceAdd, Nat.reduceMul, Nat.reduceSub, Nat.reduceEqDiff, Nat.reduceBEq, Int.reduceToNat, Int.reduceLE, Int.reduceLT, W_size, W_trunc]
                exact hQ _ _ _ _ _ _
              | none =>
                simp only [hcp] at hQ
                simp only [go_sem, ↓reduceIte, reduceCtorEq, Nat.reduceLT, Nat.reduceLeDiff, Nat.reduceAdd, Nat.reduceMul, Nat.reduceSub, Nat.reduceEqDiff, Nat.reduceBEq, Int.reduceToNat, Int.reduceLE, Int.reduceLT]
                exact ⟨m, by omega, lineEnd s a, true, _, _, _, hle.2, rfl, hQ, rfl⟩
          | false =>
            rw [if_neg (by simp only [hp, Bool.false_eq_true, or_false]; exact c42)] at hQ
            by_cases c59 : s[a] = 59
            · rw [decide_eq_true c59] at e59
              rw [if_pos c59] at hQ
              have cont : contQ st id s a line bad (fun r st' => match r with
                  | .ret (.tuple [.bool true, .bool true]) => ∃ e, e ≤ s.length ∧ st' = W st id s e line line bad ∧ nxQ st id s bad Q (nxN s m e line)
                  | .ret (.tuple [.bool true, .bool false]) => ∃ p, st' = W st id s p line line (p : Int) ∧ failQ st id s p Q
                  | .ret (.tuple [.bool false, .bool true]) => st' = W st id s a line line bad ∧ failQ st id s a Q
                  | _ => False) := by
                unfold contQ
                by_cases hgo : goesOn s a = true
                · rw [if_pos hgo] at hQ ⊢
                  have hk2 := skipB_le (s := s) (a := a + 1) (by omega)
                  have hle2 := lineEnd_le hk2.2
                  cases hcp : commentP s (skipB s (a + 1)) with
                  | some p => simp only [hcp] at hQ; exact ⟨p, rfl, hQ⟩
                  | none => simp only [hcp] at hQ; exact ⟨_, by split <;> omega, rfl, hQ⟩
                · rw [if_neg hgo] at hQ ⊢
                  exact ⟨rfl, hQ⟩
              rcases n42 with e42 | ⟨e42, rfl⟩
              all_goals
                simp only [b84l0, go_sem, ↓reduceIte, reduceCtorEq, Nat.reduceLT, Nat.reduceLeDiff, Nat.reduceAdd, Nat.reduceMul, Nat.reduceSub, Nat.reduceEqDiff, Nat.reduceBEq, Int.reduceToNat, Int.reduceLE, Int.reduceLT, hskip, W_cells hid, e, hg, e10, e42, e59, h1, h2, and_self, ht, hasPrefix_eq, hp]
                refine CallA.mono (continues_ok hid hs hlt cont) ?_
                rintro r st' hr
                split at hr
                · obtain ⟨e', he', rfl, hq⟩ := hr
                  simp only [go_sem, ↓reduceIte, reduceCtorEq, Nat.reduceLT, Nat.reduceLeDiff, Nat.reduceAdd, Nat.reduceMul, Nat.reduceSub, Nat.reduceEqDiff, Nat.reduceBEq, Int.reduceToNat, Int.reduceLE, Int.reduceLT]
                  exact ⟨m, by omega, e', _, _, _, _, he', rfl, hq, rfl⟩
                · obtain ⟨p, rfl, hq⟩ := hr
                  simp only [go_sem, ↓reduceIte, reduceCtorEq, Nat.reduceLT, Nat.reduceLeDiff, Nat.reduceAdd, Nat.reduceMul, Nat.reduceSub, Nat.reduceEqDiff, Nat.reduceBEq, Int.reduceToNat, Int.reduceLE, Int.reduceLT, W_size, W_trunc]
                  exact hq _ _ _ _ _ _
                · obtain ⟨rfl, hq⟩ := hr
                  simp only [go_sem, ↓reduceIte, reduceCtorEq, Nat.reduceLT, Nat.reduceLeDiff, Nat.reduceAdd, Nat.reduceMul, Nat.reduceSub, Nat.reduceEqDiff, Nat.reduceBEq, Int.reduceToNat, Int.reduceLE, Int.reduceLT, W_cells hid, W_set, W_size, W_trunc]
                  exact hq _ _ _ _ _ _
                · exact hr.elim
            · rw [decide_eq_false c59] at e59
              rw [if_neg c59] at hQ
              have htk : ∀ Q' : Res → St → Prop, (∀ k m t w a l b bd, Q (.ret (.tuple [.agg [.int .i64 k, .int .i64 m, .str t], .bool w])) (W st id s a l b bd) → Q' (.ret (.tuple [.agg [.int .i64 k, .int .i64 m, .str t], .bool w])) (W st id s a l b bd)) → tokQ st id s true true bad Q' (tokenP s a) := by
                intro Q' hq
                revert hQ
                cases tokenP s a with
                | tok t e => exact fun h => hq _ _ _ _ _ _ _ _ h
                | fail p => exact fun h k m t a l b => hq _ _ _ _ _ _ _ _ (h k m t a l b)
              rcases n42 with e42 | ⟨e42, rfl⟩
              all_goals
                simp only [b84l0, go_sem, ↓reduceIte, reduceCtorEq, Nat.reduceLT, Nat.reduceLeDiff, Nat.reduceAdd, Nat.reduceMul, Nat.reduceSub, Nat.reduceEqDiff, Nat.reduceBEq, Int.reduceToNat, Int.reduceLE, Int.reduceLT, hskip, W_cells hid, e, hg, e10, e42, e59, h1, h2, and_self, ht, hasPrefix_eq, hp, W_set]
                refine token_ok hid hs hlt (by rw [hg]; simpa using c10) (htk _ (fun k m t w a' l' b' bd hq => ?_))
                simp only [go_sem, ↓reduceIte, reduceCtorEq, Nat.reduceLT, Nat.reduceLeDiff, Nat.reduceAdd, Nat.reduceMul, Nat.reduceSub, Nat.reduceEqDiff, Nat.reduceBEq, Int.reduceToNat, Int.reduceLE, Int.reduceLT, W_size, W_trunc]
                exact hq
end
end Go.Proofs.YtelpkgbghhpgaaaGreatDoor.Sx
end
section
/- Steps of cutting go forward; what the tokens are. -/
set_option maxRecDepth 100000
namespace Go.Proofs.YtelpkgbghhpgaaaGreatDoor.Sx
section
variable {s : List UInt8} {a : Nat} {line : Bool}

theorem lineEnd_gt (ha : a < s.length) (h : s[a] ≠ 10) : a < lineEnd s a := by
  unfold lineEnd
  rw [List.drop_eq_getElem_cons ha]
  simp only [indexB, h, if_false]
  rcases indexB_lt (b := 10) (s.drop (a + 1)) (0 + 1) with h | ⟨i, h1, h2⟩
  · rw [h]; simp; omega
  · rw [h2, if_pos (by omega)]; omega

theorem sign_mem {w : List UInt8} (h : signP s a = some w) : w ∈ allSigns ∧ a + w.length ≤ s.length ∧ 0 < w.length := by
  unfold signP at h
  have h1 := List.mem_of_find?_eq_some h
  have h2 := List.find?_some h
  unfold signFits at h2
  simp only [Bool.and_eq_true, decide_eq_true_eq] at h2
  exact ⟨h1, h2.1, (show ∀ w ∈ allSigns, 0 < w.length by decide) w h1⟩

theorem runTo_gt {p : Nat → Bool} {n a : Nat} (h : p a = true) (hn : 0 < n) : a < runTo p n a := by
  cases n with
  | zero => omega
  | succ n =>
    simp only [runTo, h, if_true]
    have := runTo_le (p := p) n (a + 1)
    omega

theorem text_le {q : UInt8} {t : Tok} {e : Nat} (ha : a < s.length) (h10 : s[a] ≠ 10) (h : textP s a q = .tok t e) : a < e ∧ e ≤ s.length ∧ t.kind = 2 ∧ t.text.length < s.length := by
  unfold textP at h
  have hle := lineEnd_le (s := s) (a := a) (by omega)
  have hgt := lineEnd_gt ha h10
  have hlen : (sub s (a + 1) (lineEnd s a)).length = lineEnd s a - (a + 1) := sub_length hle.2
  rcases indexB_lt (b := q) (sub s (a + 1) (lineEnd s a)) 0 with hi | ⟨k, hk, hi⟩
  · rw [hi] at h; simp at h
  · rw [hi, Nat.zero_add] at h
    rw [hlen] at hk
    simp only [show ¬ (k : Int) < 0 by omega, if_false, Int.toNat_natCast] at h
    split at h
    · cases h
    · cases h
      refine ⟨by omega, by omega, rfl, ?_⟩
      rw [sub_length (by omega)]
      omega

theorem dateP_two (h : (dateP s a).2.2 = true) : a + (dateP s a).2.1.toNat ≤ s.length ∧ 0 < (dateP s a).2.1.toNat ∧ (dateP s a).1.length ≤ 8 := by
  unfold dateP at h ⊢
  split
  · rename_i hp
    refine ⟨?_, Nat.lt_of_lt_of_le (by decide) (Nat.le_refl 2), by simp⟩
    unfold hasPre at hp
    have := (List.isPrefixOf_iff_prefix.1 hp).length_le
    simp at this
    simp only [show (2 : Int).toNat = 2 from rfl]
    omega
  · split
    · rename_i hl
      unfold dateLike at hl
      simp only [Bool.and_eq_true, decide_eq_true_eq, List.length_drop] at hl
      refine ⟨?_, Nat.lt_of_lt_of_le (by decide) (Nat.le_refl 13), ?_⟩
      · simp only [show (13 : Int).toNat = 13 from rfl]; omega
      · simp [dateDigits, sub]; omega
    · rename_i h1 h2; rw [if_neg h1, if_neg h2] at h; cases h

theorem isDig_cls {b : UInt8} (h : clsOf b.toNat = 2) : isDig b = true := by
  have := byte_all (p := fun b => !(clsOf b.toNat == 2) || isDig b) (by decide +kernel) b
  simpa [h] using this
theorem up_name {b : UInt8} (h : clsOf b.toNat = 1 ∨ clsOf b.toNat = 2) : isNameC (upB b) = true := by
  have := byte_all (p := fun b => !(clsOf b.toNat == 1 || clsOf b.toNat == 2) || isNameC (upB b)) (by decide +kernel) b
  rcases h with h | h <;> simpa [h] using this
theorem up_letter {b : UInt8} (h : clsOf b.toNat = 1) : isDig (upB b) = false := by
  have := byte_all (p := fun b => !(clsOf b.toNat == 1) || !isDig (upB b)) (by decide +kernel) b
  simpa [h] using this

/-- A token goes forward, and is as the reader wants it. -/
theorem token_le {t : Tok} {e : Nat} (hs : s.length < 65536) (ha : a < s.length) (h10 : s[a] ≠ 10) (h : tokenP s a = .tok t e) : a < e ∧ e ≤ s.length ∧ TokOk t := by
  unfold tokenP at h
  split at h
  · rename_i h1
    have hr := runTo_le (p := fun i => isC s i 1 || isC s i 2) (s.length - a) a
    have hgt := runTo_gt (p := fun i => isC s i 1 || isC s i 2) (n := s.length - a) (a := a) (by simp [h1]) (by omega)
    have hall := fun j h1 h2 => runTo_all (p := fun i => isC s i 1 || isC s i 2) (s.length - a) a j h1 h2
    generalize hee : runTo (fun i => isC s i 1 || isC s i 2) (s.length - a) a = ee at *
    simp only at h
    split at h
    · cases h
    · cases h
      have he : e ≤ s.length := by omega
      have hup := upperS_word he hall
      refine ⟨hgt, he, ⟨?_, fun _ => ?_, fun hk => by simp at hk⟩⟩
      · rw [hup]; simp [sub]; omega
      · rw [hup]
        have hcls : ∀ b ∈ sub s a e, clsOf b.toNat = 1 ∨ clsOf b.toNat = 2 := by
          intro b hb
          obtain ⟨i, h1, h2, h3⟩ := mem_sub he hb
          have := hall i h1 h2
          unfold isC at this
          rw [h3] at this
          simpa using this
        have hne : sub s a e = s[a] :: sub s (a + 1) e := by
          unfold sub
          rw [List.drop_eq_getElem_cons (by simp; omega)]
          simp
        have hfirst : clsOf s[a].toNat = 1 := by
          unfold isC at h1
          rw [getB ha] at h1
          simpa using h1
        refine ⟨upB s[a], (sub s (a + 1) e).map upB, by rw [hne]; rfl, up_letter hfirst, ?_⟩
        intro c hc
        obtain ⟨b, hb, rfl⟩ := List.mem_map.1 hc
        exact up_name (hcls b hb)
  · rename_i h1
    split at h
    · rename_i h2
      have hr := runTo_le (p := fun i => isC s i 2) (s.length - a) a
      have hgt := runTo_gt (p := fun i => isC s i 2) (n := s.length - a) (a := a) h2 (by omega)
      have hall := fun j h1 h2 => runTo_all (p := fun i => isC s i 2) (s.length - a) a j h1 h2
      generalize hee : runTo (fun i => isC s i 2) (s.length - a) a = ee at *
      simp only at h
      split at h
      · cases h
      · rename_i hlong
        cases h
        have he : e ≤ s.length := by omega
        have hl : (sub s a e).length = e - a := sub_length he
        refine ⟨hgt, he, ⟨by simp only; omega, fun hk => by simp at hk, fun _ => ⟨fun hn => by simp only at hn; rw [hn] at hl; simp at hl; omega, by simp only; omega, ?_⟩⟩⟩
        intro c hc
        obtain ⟨i, h1, h2, h3⟩ := mem_sub he hc
        have := hall i h1 h2
        unfold isC at this
        rw [h3] at this
        exact isDig_cls (by simpa using this)
    · have hn : ∀ {t : Tok}, t.kind = 2 ∨ t.kind = 3 ∨ t.kind = 4 → t.text.length < 65536 → TokOk t := fun hk hl => ⟨hl, fun h => by omega, fun h => by omega⟩
      have tx : ∀ q, textP s a q = .tok t e → a < e ∧ e ≤ s.length ∧ TokOk t := fun q h => by
        obtain ⟨x1, x2, x3, x4⟩ := text_le ha h10 h
        exact ⟨x1, x2, hn (.inl x3) (by omega)⟩
      split at h
      · exact tx _ h
      · split at h
        · exact tx _ h
        · split at h
          · rename_i hd
            have := dateP_two hd
            cases h
            exact ⟨by omega, by omega, hn (.inr (.inl rfl)) (by simp only; omega)⟩
          · split at h
            · rename_i w hw
              obtain ⟨x1, x2, x3⟩ := sign_mem hw
              cases h
              exact ⟨by omega, by omega, hn (.inr (.inr rfl)) (by simp only; omega)⟩
            · cases h

theorem tokOk_end (a : Nat) : TokOk ⟨5, a, []⟩ := ⟨by simp, fun h => by simp at h, fun h => by simp at h⟩

def StepLe (s : List UInt8) (a : Nat) : Step → Prop
  | .tok t e _ => a < e ∧ e ≤ s.length ∧ TokOk t
  | .go e _ => a < e ∧ e ≤ s.length
  | .fail _ => True

theorem step_le (hs : s.length < 65536) (ha : a < s.length) : StepLe s a (stepP s a line) := by
  unfold stepP
  rw [getB ha]
  simp only [Option.some.injEq]
  by_cases h10 : s[a] = 10
  · rw [if_pos h10]
    cases line
    · exact ⟨by omega, by omega⟩
    · exact ⟨by omega, by omega, tokOk_end a⟩
  · rw [if_neg h10]
    by_cases h3 : isC s a 3 = true
    · rw [if_pos h3]; exact ⟨by omega, by omega⟩
    · rw [if_neg h3]
      by_cases hc : s[a] = 42 ∧ line = false ∨ hasPre (s.drop a) [38, 38] = true
      · rw [if_pos hc]
        have := lineEnd_gt ha h10
        have := lineEnd_le (s := s) (a := a) (by omega)
        cases commentP s a with
        | none => exact ⟨by omega, by omega⟩
        | some p => trivial
      · rw [if_neg hc]
        by_cases h59 : s[a] = 59
        · rw [if_pos h59]
          by_cases hg : goesOn s a = true
          · rw [if_pos hg]
            have h1 := skipB_le (s := s) (a := a + 1) (by omega)
            have h2 := lineEnd_le h1.2
            cases commentP s (skipB s (a + 1)) with
            | none => refine ⟨?_, ?_⟩ <;> (split <;> omega)
            | some p => trivial
          · rw [if_neg hg]; trivial
        · rw [if_neg h59]
          cases h : tokenP s a with
          | tok t e => exact token_le hs ha h10 h
          | fail p => trivial

def LROk : LR → Prop
  | .ok l => ∀ t ∈ l, TokOk t
  | _ => True

/-- All tokens are as the reader wants them. -/
theorem lexN_ok (hs : s.length < 65536) : ∀ (n a : Nat) (line : Bool) (acc : List Tok), (∀ t ∈ acc, TokOk t) → LROk (lexN s n a line acc)
  | 0, a, line, acc, h => trivial
  | n + 1, a, line, acc, h => by
    simp only [lexN]
    by_cases hl : s.length ≤ a
    · rw [if_pos hl]
      cases line
      · exact h
      · intro t ht
        simp only [if_true] at ht
        rcases List.mem_append.1 ht with ht | ht
        · exact h t ht
        · simp at ht; rw [ht]; exact tokOk_end a
    · rw [if_neg hl]
      have hst := step_le (line := line) hs (show a < s.length by omega)
      cases hsp : stepP s a line with
      | tok t e l' =>
        rw [hsp] at hst
        refine lexN_ok hs n e l' _ fun x hx => ?_
        rcases List.mem_append.1 hx with hx | hx
        · exact h x hx
        · simp at hx; rw [hx]; exact hst.2.2
      | go e l' => exact lexN_ok hs n e l' acc h
      | fail p => trivial

/-- There is always an answer. -/
theorem lexN_out (hs : s.length < 65536) : ∀ (n a : Nat) (line : Bool) (acc : List Tok), a ≤ s.length → s.length < a + n → lexN s n a line acc ≠ .out
  | 0, a, line, acc, _, h => by omega
  | n + 1, a, line, acc, ha, h => by
    simp only [lexN]
    by_cases hl : s.length ≤ a
    · rw [if_pos hl]; simp
    · rw [if_neg hl]
      have hst := step_le (line := line) hs (show a < s.length by omega)
      cases hsp : stepP s a line with
      | tok t e l' => rw [hsp] at hst; exact lexN_out hs n e l' _ hst.2.1 (by have := hst.1; omega)
      | go e l' => rw [hsp] at hst; exact lexN_out hs n e l' acc hst.2 (by have := hst.1; omega)
      | fail p => simp
end
end Go.Proofs.YtelpkgbghhpgaaaGreatDoor.Sx
end
section
/- lex.Lex comes to what `lexP` says. -/
set_option maxRecDepth 100000
namespace Go.Proofs.YtelpkgbghhpgaaaGreatDoor.Sx

/-- What the next token says of all tokens. -/
def NxLex (s : List UInt8) (n a : Nat) (line : Bool) (acc : List Tok) : NR → Prop
  | .tok t e l => (∃ m, m < n ∧ a < e ∧ e ≤ s.length ∧ s.length < e + m ∧ lexN s n a line acc = lexN s m e l (acc ++ [t])) ∨ (e = s.length ∧ l = false ∧ lexN s n a line acc = .ok (acc ++ [t]))
  | .fail p => lexN s n a line acc = .fail p
  | .done => lexN s n a line acc = .ok acc
  | .out => False

theorem nx_lex {s : List UInt8} (hs : s.length < 65536) : ∀ (n a : Nat) (line : Bool) (acc : List Tok), a ≤ s.length → s.length < a + n → NxLex s n a line acc (nxN s n a line)
  | 0, a, line, acc, ha, h => by omega
  | n + 1, a, line, acc, ha, h => by
    simp only [nxN]
    by_cases hl : s.length ≤ a
    · rw [if_pos hl]
      cases line
      · simp only [Bool.false_eq_true, if_false, NxLex, lexN, hl, if_true]
      · simp only [if_true, NxLex, lexN, hl]
        exact .inr ⟨by omega, trivial, trivial⟩
    · rw [if_neg hl]
      have hst := step_le (line := line) hs (show a < s.length by omega)
      cases hsp : stepP s a line with
      | tok t e l' =>
        rw [hsp] at hst
        refine .inl ⟨n, Nat.lt_succ_self n, hst.1, hst.2.1, by have := hst.1; omega, ?_⟩
        simp only [lexN, hl, if_false, hsp]
      | go e l' =>
        rw [hsp] at hst
        have ih := nx_lex hs n e l' acc hst.2 (by have := hst.1; omega)
        have hlex : lexN s (n + 1) a line acc = lexN s n e l' acc := by simp only [lexN, hl, if_false, hsp]
        simp only
        revert ih
        cases nxN s n e l' with
        | tok t e2 l2 =>
          rintro (⟨m, h1, h2, h3, h4, h5⟩ | ⟨h1, h2, h3⟩)
          · exact .inl ⟨m, by omega, by have := hst.1; omega, h3, h4, by rw [hlex, h5]⟩
          · exact .inr ⟨h1, h2, by rw [hlex, h3]⟩
        | fail p => exact fun h => hlex.trans h
        | done => exact fun h => hlex.trans h
        | out => exact fun h => h
      | fail p => simp only [NxLex, lexN, hl, if_false, hsp]

section
variable {st : St} {id a : Nat} {s : List UInt8} {Q : Res → St → Prop}

def CollQ (st : St) (id : Nat) (s : List UInt8) (els : List (List AV)) (st' : St) : LR → Prop
  | .ok l => els = l.map encT ∧ st' = W st id s s.length false false (-1)
  | .fail p => (∃ l : List Tok, els = l.map encT) ∧ ∃ a l b, st' = W st id s a l b (p : Int)
  | .out => False

theorem collect_ok {box : Nat} (hbx : ∀ a line begun bad, boxIs (W st id s a line begun bad) box id 0 = true) (hid : id < st.size) (hs : s.length < 65536) : ∀ (n a : Nat) (line : Bool) (acc : List Tok) (N : Nat), a ≤ s.length → s.length < a + n → s.length + 2 ≤ a + N → acc.length + N ≤ 100000 →
    ∃ n0 els st', collectN (S.call n0) 84 box id 0 N (acc.map encT) (W st id s a line line (-1)) = some (els, st') ∧ CollQ st id s els st' (lexN s n a line acc) := by
  intro n
  induction n using Nat.strongRecOn with
  | ind n ih =>
    intro a line acc N ha hn hN hacc
    obtain ⟨N, rfl⟩ : ∃ M, N = M + 1 := ⟨N - 1, by omega⟩
    have hnx := nx_lex hs n a line acc ha hn
    have tokLen : ∀ t : Tok, (encT t).length = 3 ∧ (encT t).all AV.plain1 = true := fun t => ⟨rfl, rfl⟩
    have one : ∀ (n a : Nat) (line : Bool) t e l, a ≤ s.length → nxN s n a line = .tok t e l → ∃ n0, S.call n0 84 [.ptr id 0] (W st id s a line line (-1)) = some (.ret (.tuple [.agg (encT t), .bool true]), W st id s e l l (-1)) := by
      intro n a line t e l ha h
      obtain ⟨n0, r, st', h1, h2, h3⟩ := next_ok (st := st) (id := id) (s := s) (a := a) (line := line) (bad := -1) (Q := fun r st' => r = .ret (.tuple [.agg (encT t), .bool true]) ∧ st' = W st id s e l l (-1)) hid hs ha n (by rw [h]; exact ⟨rfl, rfl⟩)
      subst h2 h3
      exact ⟨n0, h1⟩
    have fin : ∀ (n a : Nat) (line : Bool) N (acc : List Tok), a ≤ s.length → nxN s n a line = .done → ∃ n0, collectN (S.call n0) 84 box id 0 (N + 1) (acc.map encT) (W st id s a line line (-1)) = some (acc.map encT, W st id s s.length false false (-1)) := by
      intro n a line N acc ha h
      obtain ⟨n0, r, st', h1, h2, h3⟩ := next_ok (st := st) (id := id) (s := s) (a := a) (line := line) (bad := -1) (Q := fun r st' => r = .ret (.tuple [.agg [.int .i64 0, .int .i64 0, .str []], .bool false]) ∧ st' = W st id s s.length false false (-1)) hid hs ha n (by rw [h]; exact ⟨rfl, rfl⟩)
      subst h2 h3
      exact ⟨n0, by simp [collectN, h1, W_size]⟩
    have cond : ∀ (t : Tok) e l, ((encT t).length = 3 ∧ (encT t).all AV.plain1 = true ∧ (W st id s e l l (-1)).size = (W st id s a line line (-1)).size ∧ ((acc.map encT).length + 1) * 72 ≤ 1099511627776 ∧ boxIs (W st id s e l l (-1)) box id 0 = true) := fun t e l => ⟨rfl, rfl, by rw [W_size, W_size], by simp; omega, hbx _ _ _ _⟩
    cases h : nxN s n a line with
    | tok t e l =>
      rw [h] at hnx
      obtain ⟨n0, h1⟩ := one n a line t e l ha h
      rcases hnx with ⟨m, k1, k2, k3, k4, k5⟩ | ⟨k1, k2, k3⟩
      · obtain ⟨n1, els, st', h2, h3⟩ := ih m k1 e l (acc ++ [t]) N k3 k4 (by omega) (by simp; omega)
        refine ⟨max n0 n1, els, st', ?_, by rw [k5]; exact h3⟩
        simp only [collectN, call_le S (Nat.le_max_left n0 n1) _ _ _ _ h1]
        rw [if_pos (cond t e l)]
        have := collectN_mono (call_le S (Nat.le_max_right n0 n1)) _ _ _ _ _ _ _ _ h2
        simpa using this
      · subst k1 k2
        obtain ⟨N, rfl⟩ : ∃ M, N = M + 1 := by
          refine ⟨N - 1, ?_⟩
          omega
        obtain ⟨n1, h2⟩ := fin 1 s.length false N (acc ++ [t]) (Nat.le_refl _) (by simp [nxN])
        refine ⟨max n0 n1, (acc ++ [t]).map encT, W st id s s.length false false (-1), ?_, by rw [k3]; exact ⟨rfl, rfl⟩⟩
        rw [collectN]
        simp only [call_le S (Nat.le_max_left n0 n1) _ _ _ _ h1]
        rw [if_pos (cond t s.length false)]
        have := collectN_mono (call_le S (Nat.le_max_right n0 n1)) _ _ _ _ _ _ _ _ h2
        simpa using this
    | fail p =>
      rw [h] at hnx
      obtain ⟨n0, r, st', h1, k, m, t, a', l', b', h2, h3⟩ := next_ok (st := st) (id := id) (s := s) (a := a) (line := line) (bad := -1) (Q := fun r st' => ∃ k m t a' l' b', r = .ret (.tuple [.agg [.int .i64 k, .int .i64 m, .str t], .bool false]) ∧ st' = W st id s a' l' b' (p : Int)) hid hs ha n (by rw [h]; exact fun k m t a' l' b' => ⟨k, m, t, a', l', b', rfl, rfl⟩)
      subst h2 h3
      refine ⟨n0, acc.map encT, W st id s a' l' b' (p : Int), by simp [collectN, h1, W_size], ?_⟩
      rw [hnx]
      exact ⟨⟨acc, rfl⟩, a', l', b', rfl⟩
    | done =>
      rw [h] at hnx
      obtain ⟨n0, h1⟩ := fin n a line N acc ha h
      exact ⟨n0, _, _, h1, by rw [hnx]; exact ⟨rfl, rfl⟩⟩
    | out => rw [h] at hnx; exact hnx.elim

/-- What the tokens of a source are handed back as. -/
def lexRes (r : List Tok × Nat × Int) : AV := .tuple [encSl true 3 (r.1.map encT), .int .i64 (r.2.1 : Int), .int .i64 r.2.2]

theorem sc_stripC (s : List UInt8) (a : Nat) (l b : Bool) (bad : Int) : (sc s a l b bad).map AV.stripC = sc s a l b bad := by
  simp [sc, clsList, AV.stripC, AV.strip1, Function.comp_def]
theorem sc_okC (s : List UInt8) (a : Nat) (l b : Bool) (bad : Int) : (sc s a l b bad).all AV.okC = true := by
  simp [sc, clsList, AV.okC, AV.out1, AV.out0]
theorem refs1L_zero {l : List AV} (h : ∀ v ∈ l, v.refs1 = 0) : AV.refs1L l = 0 := by
  induction l with
  | nil => rfl
  | cons v r ih => simp only [AV.refs1L, h v List.mem_cons_self, ih fun x hx => h x (List.mem_cons_of_mem _ hx), Nat.max_self]
theorem sc_refs (s : List UInt8) (a : Nat) (l b : Bool) (bad : Int) : AV.refs1L (sc s a l b bad) = 0 := by
  refine refs1L_zero fun v hv => ?_
  simp only [sc, clsList, List.mem_cons, List.mem_append, List.mem_map, List.not_mem_nil, or_false] at hv
  rcases hv with rfl | rfl | ⟨_, _, rfl⟩ | rfl | rfl | rfl <;> rfl

theorem lex_eq : CallA S 23 [.str s] st Q = Q (.ret (lexRes (lexP s))) st := by
  refine callA_eq (fun Q hQ => ?_) Q
  refine callA_body (by rfl) (by rfl) rfl ?_
  unfold lexP at hQ
  by_cases hl : s.length > 4000
  · have hl' : (s.length : Int) > 4000 := by omega
    rw [if_pos hl] at hQ
    simp only [b23, go_sem, ↓reduceIte, reduceCtorEq, Nat.reduceLT, Nat.reduceLeDiff, Nat.reduceAdd, Nat.reduceMul, Nat.reduceSub, Nat.reduceEqDiff, Nat.reduceBEq, Int.reduceToNat, Int.reduceLE, Int.reduceLT, hl', trunc_self]
    exact hQ
  · have hl' : ¬ (s.length : Int) > 4000 := by omega
    rw [if_neg hl] at hQ
    have f1 : (zs256 ++ [AV.bool false, .bool false, .int .i64 0]).length = 259 := by simp [zs256_length]
    have f3 : List.drop (2 + 256) (AV.str s :: AV.int .i64 0 :: (zs256 ++ [AV.bool false, .bool false, .int .i64 0])) = [AV.bool false, .bool false, .int .i64 0] := by
      show List.drop 256 (zs256 ++ _) = _
      rw [List.drop_append_of_le_length (by rw [zs256_length]; exact Nat.le_refl _), List.drop_of_length_le (by rw [zs256_length]; exact Nat.le_refl _)]; rfl
    have f4 : (clsList ++ [AV.bool false, .bool false, .int .i64 0]).length = 259 := by simp [clsList_length]
    have f5 : List.take 258 (clsList ++ [AV.bool false, .bool false, .int .i64 0]) = clsList ++ [AV.bool false, .bool false] := by
      rw [List.take_append, List.take_of_length_le (by rw [clsList_length]; omega), clsList_length]; rfl
    have f6 : List.drop 259 (clsList ++ [AV.bool false, .bool false, .int .i64 0]) = [] := List.drop_of_length_le (by simp [clsList_length])
    have f7 : (AV.str s :: AV.int .i64 0 :: (clsList ++ [AV.bool false, .bool false] ++ [.int .i64 (-1)])) = sc s 0 false false (-1) := by
      simp [sc]
    have g1 : st.size + 1 ≤ (st.push (.cells (sc s 0 false false (-1)))).size := by rw [size_push]; exact Nat.le_refl _
    have hall : ∀ Q : Res → St → Prop, CallA S 53 [.ptr st.size 0] (st.push (.cells (sc s 0 false false (-1)))) Q =
        Q (.ret (.func (.func 83) [] [.ptr (st.size + 1) 0])) ((st.push (.cells (sc s 0 false false (-1)))).push (.cells [.ptr st.size 0])) := by
      refine callA_eq (fun Q hQ => ?_)
      refine callA_body (by rfl) (by rfl) rfl ?_
      simp only [b53, go_sem, ↓reduceIte, reduceCtorEq, Nat.reduceLT, Nat.reduceLeDiff, Nat.reduceAdd, Nat.reduceMul, Nat.reduceSub, Nat.reduceEqDiff, Nat.reduceBEq, Int.reduceToNat, Int.reduceLE, Int.reduceLT, g1, size_push]
      have e : ∀ (x : St) (k : Nat), k = x.size → x.trunc k = x := by rintro x k rfl; exact trunc_self
      rw [e _ _ (by simp only [size_push]; omega)]
      exact hQ
    generalize hst2 : (st.push (.cells (sc s 0 false false (-1)))).push (.cells [.ptr st.size 0]) = st2 at hall
    have hs2 : st2.size = st.size + 2 := by rw [← hst2]; simp only [size_push]
    have hid : st.size < st2.size := by omega
    have hbox : st2.cells (st.size + 1) = some [.ptr st.size 0] := by
      rw [← hst2]
      have := cells_new (st := st.push (.cells (sc s 0 false false (-1)))) (cs := [.ptr st.size 0])
      rwa [size_push] at this
    have hW : st2 = W st2 st.size s 0 false false (-1) := by
      refine (set_same ?_).symm
      rw [← hst2, cells_push (by rw [size_push]; omega), cells_new]
    have htr : ∀ (a : Nat) (l b : Bool) (bad : Int), (W st2 st.size s a l b bad).trunc st.size = st := by
      intro a l b bad
      rw [← hst2]
      unfold W
      rw [set_push (by rw [size_push]; omega), set_new]
      cases st
      simp [St.push, St.trunc, St.size]
    have hbx : ∀ a line begun bad, boxIs (W st2 st.size s a line begun bad) (st.size + 1) st.size 0 = true := fun a line begun bad => by
      have e : (W st2 st.size s a line begun bad).cells (st.size + 1) = some [.ptr st.size 0] := by
        unfold W
        rw [cells_set_ne (by omega)]
        exact hbox
      unfold boxIs
      rw [e]
      simp
    obtain ⟨n0, els, st', h1, h2⟩ := collect_ok (st := st2) (id := st.size) (s := s) (box := st.size + 1) hbx hid (by omega) (s.length + 1) 0 false [] 4100 (Nat.zero_le _) (by omega) (by omega) (by simp)
    have hcoll : ∀ Q : Res → St → Prop, CallA S 82 [.nilslice, .func (.func 83) [] [.ptr (st.size + 1) 0]] st2 Q = Q (.ret (if els.isEmpty then .nilslice else .slice 3 els .no)) st' := by
      intro Q
      refine callA_intr (n := n0) (k := iAppendSeq 4100 83 84) (by rfl) ?_ Q
      rw [← hW] at h1
      simp only [iAppendSeq, if_true, hbox, List.map_nil] at h1 ⊢
      rw [h1]
    have hsl : (if els.isEmpty then .nilslice else .slice 3 els .no) = encSl true 3 els := by cases els <;> rfl
    rw [hsl] at hcoll
    have hcol2 : ∀ Q : Res → St → Prop, CallA S 52 [.func (.func 83) [] [.ptr (st.size + 1) 0]] st2 Q = Q (.ret (encSl true 3 els)) (st'.trunc st2.size) := by
      refine callA_eq (fun Q hQ => ?_)
      refine callA_body (by rfl) (by rfl) rfl ?_
      simp only [b52, go_sem, ↓reduceIte, reduceCtorEq, Nat.reduceLT, Nat.reduceLeDiff, Nat.reduceAdd, Nat.reduceMul, Nat.reduceSub, Nat.reduceEqDiff, Nat.reduceBEq, Int.reduceToNat, Int.reduceLE, Int.reduceLT, hcoll]
      exact hQ
    have hstr : ∀ (a : Nat) (l b : Bool) (bad : Int), (W st2 st.size s a l b bad).trunc st2.size = W st2 st.size s a l b bad := fun _ _ _ _ => W_trunc
    have hmax : max (st.size + 1) 0 = st.size + 1 := by omega
    cases hlex : lexN s (s.length + 1) 0 false [] with
    | ok l =>
      rw [hlex] at h2 hQ
      obtain ⟨rfl, rfl⟩ := h2
      simp only at hQ
      have hneg : ¬ ((-1 : Int) ≥ 0) := by omega
      by_cases hbig : l.length > 1200
      · have hbig' : (l.length : Int) > 1200 := by omega
        rw [if_pos hbig] at hQ
        simp only [b23, go_sem, ↓reduceIte, reduceCtorEq, Nat.reduceLT, Nat.reduceLeDiff, Nat.reduceAdd, Nat.reduceMul, Nat.reduceSub, Nat.reduceEqDiff, Nat.reduceBEq, Int.reduceToNat, Int.reduceLE, Int.reduceLT, hl', classes_eq, clsList_length, clsList_okIn, f1, f3, f4, f5, f6, f7, sc_stripC, sc_okC, sc_refs, hall, hcol2, hstr, W_cells hid, hneg, List.length_map, hbig', htr]
        exact hQ
      · have hbig' : ¬ (l.length : Int) > 1200 := by omega
        rw [if_neg hbig] at hQ
        simp only [b23, go_sem, ↓reduceIte, reduceCtorEq, Nat.reduceLT, Nat.reduceLeDiff, Nat.reduceAdd, Nat.reduceMul, Nat.reduceSub, Nat.reduceEqDiff, Nat.reduceBEq, Int.reduceToNat, Int.reduceLE, Int.reduceLT, hl', classes_eq, clsList_length, clsList_okIn, f1, f3, f4, f5, f6, f7, sc_stripC, sc_okC, sc_refs, hall, hcol2, hstr, W_cells hid, hneg, List.length_map, hbig', htr]
        exact hQ
    | fail p =>
      rw [hlex] at h2 hQ
      obtain ⟨_, a, l, b, rfl⟩ := h2
      simp only at hQ
      have hpos : (p : Int) ≥ 0 := by omega
      simp only [b23, go_sem, ↓reduceIte, reduceCtorEq, Nat.reduceLT, Nat.reduceLeDiff, Nat.reduceAdd, Nat.reduceMul, Nat.reduceSub, Nat.reduceEqDiff, Nat.reduceBEq, Int.reduceToNat, Int.reduceLE, Int.reduceLT, hl', classes_eq, clsList_length, clsList_okIn, f1, f3, f4, f5, f6, f7, sc_stripC, sc_okC, sc_refs, hall, hcol2, hstr, W_cells hid, hpos, htr]
      exact hQ
    | out => exact absurd hlex (lexN_out (by omega) _ _ _ _ (Nat.zero_le _) (by omega))
end
end Go.Proofs.YtelpkgbghhpgaaaGreatDoor.Sx
end
