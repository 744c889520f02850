/- TreeReads returns true for all texts whose data are not larger than a bound. Steps of cutting go forward; what the tokens are. lex.Lex comes to what `lexP` says. Runs of the reader: syntax.run, syntax.Line; sizes; tree.ParseExpr. Sizes of expressions; tree.ParseExpr. -/
import Derived.Test.YtelpkgbghhpgaaaGreatDoorR24
set_option linter.all false
section
set_option maxRecDepth 100000
namespace Go.Proofs.YtelpkgbghhpgaaaGreatDoor.Sx
section
variable {s : List UInt8} {a : Nat} {line : Bool}
theorem lineEnd_gt (ha : a < s.length) (h : s[a] ≠ 10) : a < lineEnd s a := by
  unfold lineEnd
  rw [List.drop_eq_getElem_cons ha]
  simp only [indexB, h, if_false]
  rcases indexB_lt (b := 10) (s.drop (a + 1)) (0 + 1) with h | ⟨i, h1, h2⟩
  · rw [h]; simp; omega
  · rw [h2, if_pos (by omega)]; omega
theorem sign_mem {w : List UInt8} (h : signP s a = some w) : w ∈ allSigns ∧ a + w.length ≤ s.length ∧ 0 < w.length := by
  unfold signP at h
  have h1 := List.mem_of_find?_eq_some h
  have h2 := List.find?_some h
  unfold signFits at h2
  simp only [Bool.and_eq_true, decide_eq_true_eq] at h2
  exact ⟨h1, h2.1, (show ∀ w ∈ allSigns, 0 < w.length by decide) w h1⟩
theorem runTo_gt {p : Nat → Bool} {n a : Nat} (h : p a = true) (hn : 0 < n) : a < runTo p n a := by
  cases n with
  | zero => omega
  | succ n =>
    simp only [runTo, h, if_true]
    have := runTo_le (p := p) n (a + 1)
    omega
theorem text_le {q : UInt8} {t : Tok} {e : Nat} (ha : a < s.length) (h10 : s[a] ≠ 10) (h : textP s a q = .tok t e) : a < e ∧ e ≤ s.length ∧ t.kind = 2 ∧ t.text.length < s.length := by
  unfold textP at h
  have hle := lineEnd_le (s := s) (a := a) (by omega)
  have hgt := lineEnd_gt ha h10
  have hlen : (sub s (a + 1) (lineEnd s a)).length = lineEnd s a - (a + 1) := sub_length hle.2
  rcases indexB_lt (b := q) (sub s (a + 1) (lineEnd s a)) 0 with hi | ⟨k, hk, hi⟩
  · rw [hi] at h; simp at h
  · rw [hi, Nat.zero_add] at h
    rw [hlen] at hk
    simp only [show ¬ (k : Int) < 0 by omega, if_false, Int.toNat_natCast] at h
    split at h
    · cases h
    · cases h
      refine ⟨by omega, by omega, rfl, ?_⟩
      rw [sub_length (by omega)]
      omega
theorem dateP_two (h : (dateP s a).2.2 = true) : a + (dateP s a).2.1.toNat ≤ s.length ∧ 0 < (dateP s a).2.1.toNat ∧ (dateP s a).1.length ≤ 8 := by
  unfold dateP at h ⊢
  split
  · rename_i hp
    refine ⟨?_, Nat.lt_of_lt_of_le (by decide) (Nat.le_refl 2), by simp⟩
    unfold hasPre at hp
    have := (List.isPrefixOf_iff_prefix.1 hp).length_le
    simp at this
    simp only [show (2 : Int).toNat = 2 from rfl]
    omega
  · split
    · rename_i hl
      unfold dateLike at hl
      simp only [Bool.and_eq_true, decide_eq_true_eq, List.length_drop] at hl
      refine ⟨?_, Nat.lt_of_lt_of_le (by decide) (Nat.le_refl 13), ?_⟩
      · simp only [show (13 : Int).toNat = 13 from rfl]; omega
      · simp [dateDigits, sub]; omega
    · rename_i h1 h2; rw [if_neg h1, if_neg h2] at h; cases h
theorem isDig_cls {b : UInt8} (h : clsOf b.toNat = 2) : isDig b = true := by
  have := byte_all (p := fun b => !(clsOf b.toNat == 2) || isDig b) (by decide +kernel) b
  simpa [h] using this
theorem up_name {b : UInt8} (h : clsOf b.toNat = 1 ∨ clsOf b.toNat = 2) : isNameC (upB b) = true := by
  have := byte_all (p := fun b => !(clsOf b.toNat == 1 || clsOf b.toNat == 2) || isNameC (upB b)) (by decide +kernel) b
  rcases h with h | h <;> simpa [h] using this
theorem up_letter {b : UInt8} (h : clsOf b.toNat = 1) : isDig (upB b) = false := by
  have := byte_all (p := fun b => !(clsOf b.toNat == 1) || !isDig (upB b)) (by decide +kernel) b
  simpa [h] using this
theorem token_le {t : Tok} {e : Nat} (hs : s.length < 65536) (ha : a < s.length) (h10 : s[a] ≠ 10) (h : tokenP s a = .tok t e) : a < e ∧ e ≤ s.length ∧ TokOk t := by
  unfold tokenP at h
  split at h
  · rename_i h1
    have hr := runTo_le (p := fun i => isC s i 1 || isC s i 2) (s.length - a) a
    have hgt := runTo_gt (p := fun i => isC s i 1 || isC s i 2) (n := s.length - a) (a := a) (by simp [h1]) (by omega)
    have hall := fun j h1 h2 => runTo_all (p := fun i => isC s i 1 || isC s i 2) (s.length - a) a j h1 h2
    generalize hee : runTo (fun i => isC s i 1 || isC s i 2) (s.length - a) a = ee at *
    simp only at h
    split at h
    · cases h
    · cases h
      have he : e ≤ s.length := by omega
      have hup := upperS_word he hall
      refine ⟨hgt, he, ⟨?_, fun _ => ?_, fun hk => by simp at hk⟩⟩
      · rw [hup]; simp [sub]; omega
      · rw [hup]
        have hcls : ∀ b ∈ sub s a e, clsOf b.toNat = 1 ∨ clsOf b.toNat = 2 := by
          intro b hb
          obtain ⟨i, h1, h2, h3⟩ := mem_sub he hb
          have := hall i h1 h2
          unfold isC at this
          rw [h3] at this
          simpa using this
        have hne : sub s a e = s[a] :: sub s (a + 1) e := by
          unfold sub
          rw [List.drop_eq_getElem_cons (by simp; omega)]
          simp
        have hfirst : clsOf s[a].toNat = 1 := by
          unfold isC at h1
          rw [getB ha] at h1
          simpa using h1
        refine ⟨upB s[a], (sub s (a + 1) e).map upB, by rw [hne]; rfl, up_letter hfirst, ?_⟩
        intro c hc
        obtain ⟨b, hb, rfl⟩ := List.mem_map.1 hc
        exact up_name (hcls b hb)
  · rename_i h1
    split at h
    · rename_i h2
      have hr := runTo_le (p := fun i => isC s i 2) (s.length - a) a
      have hgt := runTo_gt (p := fun i => isC s i 2) (n := s.length - a) (a := a) h2 (by omega)
      have hall := fun j h1 h2 => runTo_all (p := fun i => isC s i 2) (s.length - a) a j h1 h2
      generalize hee : runTo (fun i => isC s i 2) (s.length - a) a = ee at *
      simp only at h
      split at h
      · cases h
      · rename_i hlong
        cases h
        have he : e ≤ s.length := by omega
        have hl : (sub s a e).length = e - a := sub_length he
        refine ⟨hgt, he, ⟨by simp only; omega, fun hk => by simp at hk, fun _ => ⟨fun hn => by simp only at hn; rw [hn] at hl; simp at hl; omega, by simp only; omega, ?_⟩⟩⟩
        intro c hc
        obtain ⟨i, h1, h2, h3⟩ := mem_sub he hc
        have := hall i h1 h2
        unfold isC at this
        rw [h3] at this
        exact isDig_cls (by simpa using this)
    · have hn : ∀ {t : Tok}, t.kind = 2 ∨ t.kind = 3 ∨ t.kind = 4 → t.text.length < 65536 → TokOk t := fun hk hl => ⟨hl, fun h => by omega, fun h => by omega⟩
      have tx : ∀ q, textP s a q = .tok t e → a < e ∧ e ≤ s.length ∧ TokOk t := fun q h => by
        obtain ⟨x1, x2, x3, x4⟩ := text_le ha h10 h
        exact ⟨x1, x2, hn (.inl x3) (by omega)⟩
      split at h
      · exact tx _ h
      · split at h
        · exact tx _ h
        · split at h
          · rename_i hd
            have := dateP_two hd
            cases h
            exact ⟨by omega, by omega, hn (.inr (.inl rfl)) (by simp only; omega)⟩
          · split at h
            · rename_i w hw
              obtain ⟨x1, x2, x3⟩ := sign_mem hw
              cases h
              exact ⟨by omega, by omega, hn (.inr (.inr rfl)) (by simp only; omega)⟩
            · cases h
theorem tokOk_end (a : Nat) : TokOk ⟨5, a, []⟩ := ⟨by simp, fun h => by simp at h, fun h => by simp at h⟩
def StepLe (s : List UInt8) (a : Nat) : Step → Prop
  | .tok t e _ => a < e ∧ e ≤ s.length ∧ TokOk t
  | .go e _ => a < e ∧ e ≤ s.length
  | .fail _ => True
theorem step_le (hs : s.length < 65536) (ha : a < s.length) : StepLe s a (stepP s a line) := by
  unfold stepP
  rw [getB ha]
  simp only [Option.some.injEq]
  by_cases h10 : s[a] = 10
  · rw [if_pos h10]
    cases line
    · exact ⟨by omega, by omega⟩
    · exact ⟨by omega, by omega, tokOk_end a⟩
  · rw [if_neg h10]
    by_cases h3 : isC s a 3 = true
    · rw [if_pos h3]; exact ⟨by omega, by omega⟩
    · rw [if_neg h3]
      by_cases hc : s[a] = 42 ∧ line = false ∨ hasPre (s.drop a) [38, 38] = true
      · rw [if_pos hc]
        have := lineEnd_gt ha h10
        have := lineEnd_le (s := s) (a := a) (by omega)
        cases commentP s a with
        | none => exact ⟨by omega, by omega⟩
        | some p => trivial
      · rw [if_neg hc]
        by_cases h59 : s[a] = 59
        · rw [if_pos h59]
          by_cases hg : goesOn s a = true
          · rw [if_pos hg]
            have h1 := skipB_le (s := s) (a := a + 1) (by omega)
            have h2 := lineEnd_le h1.2
            cases commentP s (skipB s (a + 1)) with
            | none => refine ⟨?_, ?_⟩ <;> (split <;> omega)
            | some p => trivial
          · rw [if_neg hg]; trivial
        · rw [if_neg h59]
          cases h : tokenP s a with
          | tok t e => exact token_le hs ha h10 h
          | fail p => trivial
def LROk : LR → Prop
  | .ok l => ∀ t ∈ l, TokOk t
  | _ => True
theorem lexN_ok (hs : s.length < 65536) : ∀ (n a : Nat) (line : Bool) (acc : List Tok), (∀ t ∈ acc, TokOk t) → LROk (lexN s n a line acc)
  | 0, a, line, acc, h => trivial
  | n + 1, a, line, acc, h => by
    simp only [lexN]
    by_cases hl : s.length ≤ a
    · rw [if_pos hl]
      cases line
      · exact h
      · intro t ht
        simp only [if_true] at ht
        rcases List.mem_append.1 ht with ht | ht
        · exact h t ht
        · simp at ht; rw [ht]; exact tokOk_end a
    · rw [if_neg hl]
      have hst := step_le (line := line) hs (show a < s.length by omega)
      cases hsp : stepP s a line with
      | tok t e l' =>
        rw [hsp] at hst
        refine lexN_ok hs n e l' _ fun x hx => ?_
        rcases List.mem_append.1 hx with hx | hx
        · exact h x hx
        · simp at hx; rw [hx]; exact hst.2.2
      | go e l' => exact lexN_ok hs n e l' acc h
      | fail p => trivial
theorem lexN_out (hs : s.length < 65536) : ∀ (n a : Nat) (line : Bool) (acc : List Tok), a ≤ s.length → s.length < a + n → lexN s n a line acc ≠ .out
  | 0, a, line, acc, _, h => by omega
  | n + 1, a, line, acc, ha, h => by
    simp only [lexN]
    by_cases hl : s.length ≤ a
    · rw [if_pos hl]; simp
    · rw [if_neg hl]
      have hst := step_le (line := line) hs (show a < s.length by omega)
      cases hsp : stepP s a line with
      | tok t e l' => rw [hsp] at hst; exact lexN_out hs n e l' _ hst.2.1 (by have := hst.1; omega)
      | go e l' => rw [hsp] at hst; exact lexN_out hs n e l' acc hst.2 (by have := hst.1; omega)
      | fail p => simp
end
end Go.Proofs.YtelpkgbghhpgaaaGreatDoor.Sx
end
section
set_option maxRecDepth 100000
namespace Go.Proofs.YtelpkgbghhpgaaaGreatDoor.Sx
def NxLex (s : List UInt8) (n a : Nat) (line : Bool) (acc : List Tok) : NR → Prop
  | .tok t e l => (∃ m, m < n ∧ a < e ∧ e ≤ s.length ∧ s.length < e + m ∧ lexN s n a line acc = lexN s m e l (acc ++ [t])) ∨ (e = s.length ∧ l = false ∧ lexN s n a line acc = .ok (acc ++ [t]))
  | .fail p => lexN s n a line acc = .fail p
  | .done => lexN s n a line acc = .ok acc
  | .out => False
theorem nx_lex {s : List UInt8} (hs : s.length < 65536) : ∀ (n a : Nat) (line : Bool) (acc : List Tok), a ≤ s.length → s.length < a + n → NxLex s n a line acc (nxN s n a line)
  | 0, a, line, acc, ha, h => by omega
  | n + 1, a, line, acc, ha, h => by
    simp only [nxN]
    by_cases hl : s.length ≤ a
    · rw [if_pos hl]
      cases line
      · simp only [Bool.false_eq_true, if_false, NxLex, lexN, hl, if_true]
      · simp only [if_true, NxLex, lexN, hl]
        exact .inr ⟨by omega, trivial, trivial⟩
    · rw [if_neg hl]
      have hst := step_le (line := line) hs (show a < s.length by omega)
      cases hsp : stepP s a line with
      | tok t e l' =>
        rw [hsp] at hst
        refine .inl ⟨n, Nat.lt_succ_self n, hst.1, hst.2.1, by have := hst.1; omega, ?_⟩
        simp only [lexN, hl, if_false, hsp]
      | go e l' =>
        rw [hsp] at hst
        have ih := nx_lex hs n e l' acc hst.2 (by have := hst.1; omega)
        have hlex : lexN s (n + 1) a line acc = lexN s n e l' acc := by simp only [lexN, hl, if_false, hsp]
        simp only
        revert ih
        cases nxN s n e l' with
        | tok t e2 l2 =>
          rintro (⟨m, h1, h2, h3, h4, h5⟩ | ⟨h1, h2, h3⟩)
          · exact .inl ⟨m, by omega, by have := hst.1; omega, h3, h4, by rw [hlex, h5]⟩
          · exact .inr ⟨h1, h2, by rw [hlex, h3]⟩
        | fail p => exact fun h => hlex.trans h
        | done => exact fun h => hlex.trans h
        | out => exact fun h => h
      | fail p => simp only [NxLex, lexN, hl, if_false, hsp]
section
variable {st : St} {id a : Nat} {s : List UInt8} {Q : Res → St → Prop}
def CollQ (st : St) (id : Nat) (s : List UInt8) (els : List (List AV)) (st' : St) : LR → Prop
  | .ok l => els = l.map encT ∧ st' = W st id s s.length false false (-1)
  | .fail p => (∃ l : List Tok, els = l.map encT) ∧ ∃ a l b, st' = W st id s a l b (p : Int)
  | .out => False
theorem collect_ok {box : Nat} (hbx : ∀ a line begun bad, boxIs (W st id s a line begun bad) box id 0 = true) (hid : id < st.size) (hs : s.length < 65536) : ∀ (n a : Nat) (line : Bool) (acc : List Tok) (N : Nat), a ≤ s.length → s.length < a + n → s.length + 2 ≤ a + N → acc.length + N ≤ 100000 →
    ∃ n0 els st', collectN (S.call n0) 84 box id 0 N (acc.map encT) (W st id s a line line (-1)) = some (els, st') ∧ CollQ st id s els st' (lexN s n a line acc) := by
  intro n
  induction n using Nat.strongRecOn with
  | ind n ih =>
    intro a line acc N ha hn hN hacc
    obtain ⟨N, rfl⟩ : ∃ M, N = M + 1 := ⟨N - 1, by omega⟩
    have hnx := nx_lex hs n a line acc ha hn
    have tokLen : ∀ t : Tok, (encT t).length = 3 ∧ (encT t).all AV.plain1 = true := fun t => ⟨rfl, rfl⟩
    have one : ∀ (n a : Nat) (line : Bool) t e l, a ≤ s.length → nxN s n a line = .tok t e l → ∃ n0, S.call n0 84 [.ptr id 0] (W st id s a line line (-1)) = some (.ret (.tuple [.agg (encT t), .bool true]), W st id s e l l (-1)) := by
      intro n a line t e l ha h
      obtain ⟨n0, r, st', h1, h2, h3⟩ := next_ok (st := st) (id := id) (s := s) (a := a) (line := line) (bad := -1) (Q := fun r st' => r = .ret (.tuple [.agg (encT t), .bool true]) ∧ st' = W st id s e l l (-1)) hid hs ha n (by rw [h]; exact ⟨rfl, rfl⟩)
      subst h2 h3
      exact ⟨n0, h1⟩
    have fin : ∀ (n a : Nat) (line : Bool) N (acc : List Tok), a ≤ s.length → nxN s n a line = .done → ∃ n0, collectN (S.call n0) 84 box id 0 (N + 1) (acc.map encT) (W st id s a line line (-1)) = some (acc.map encT, W st id s s.length false false (-1)) := by
      intro n a line N acc ha h
      obtain ⟨n0, r, st', h1, h2, h3⟩ := next_ok (st := st) (id := id) (s := s) (a := a) (line := line) (bad := -1) (Q := fun r st' => r = .ret (.tuple [.agg [.int .i64 0, .int .i64 0, .str []], .bool false]) ∧ st' = W st id s s.length false false (-1)) hid hs ha n (by rw [h]; exact ⟨rfl, rfl⟩)
      subst h2 h3
      exact ⟨n0, by simp [collectN, h1, W_size]⟩
    have cond : ∀ (t : Tok) e l, ((encT t).length = 3 ∧ (encT t).all AV.plain1 = true ∧ (W st id s e l l (-1)).size = (W st id s a line line (-1)).size ∧ ((acc.map encT).length + 1) * 72 ≤ 1099511627776 ∧ boxIs (W st id s e l l (-1)) box id 0 = true) := fun t e l => ⟨rfl, rfl, by rw [W_size, W_size], by simp; omega, hbx _ _ _ _⟩
    cases h : nxN s n a line with
    | tok t e l =>
      rw [h] at hnx
      obtain ⟨n0, h1⟩ := one n a line t e l ha h
      rcases hnx with ⟨m, k1, k2, k3, k4, k5⟩ | ⟨k1, k2, k3⟩
      · obtain ⟨n1, els, st', h2, h3⟩ := ih m k1 e l (acc ++ [t]) N k3 k4 (by omega) (by simp; omega)
        refine ⟨max n0 n1, els, st', ?_, by rw [k5]; exact h3⟩
        simp only [collectN, call_le S (Nat.le_max_left n0 n1) _ _ _ _ h1]
        rw [if_pos (cond t e l)]
        have := collectN_mono (call_le S (Nat.le_max_right n0 n1)) _ _ _ _ _ _ _ _ h2
        simpa using this
      · subst k1 k2
        obtain ⟨N, rfl⟩ : ∃ M, N = M + 1 := by
          refine ⟨N - 1, ?_⟩
          omega
        obtain ⟨n1, h2⟩ := fin 1 s.length false N (acc ++ [t]) (Nat.le_refl _) (by simp [nxN])
        refine ⟨max n0 n1, (acc ++ [t]).map encT, W st id s s.length false false (-1), ?_, by rw [k3]; exact ⟨rfl, rfl⟩⟩
        rw [collectN]
        simp only [call_le S (Nat.le_max_left n0 n1) _ _ _ _ h1]
        rw [if_pos (cond t s.length false)]
        have := collectN_mono (call_le S (Nat.le_max_right n0 n1)) _ _ _ _ _ _ _ _ h2
        simpa using this
    | fail p =>
      rw [h] at hnx
      obtain ⟨n0, r, st', h1, k, m, t, a', l', b', h2, h3⟩ := next_ok (st := st) (id := id) (s := s) (a := a) (line := line) (bad := -1) (Q := fun r st' => ∃ k m t a' l' b', r = .ret (.tuple [.agg [.int .i64 k, .int .i64 m, .str t], .bool false]) ∧ st' = W st id s a' l' b' (p : Int)) hid hs ha n (by rw [h]; exact fun k m t a' l' b' => ⟨k, m, t, a', l', b', rfl, rfl⟩)
      subst h2 h3
      refine ⟨n0, acc.map encT, W st id s a' l' b' (p : Int), by simp [collectN, h1, W_size], ?_⟩
      rw [hnx]
      exact ⟨⟨acc, rfl⟩, a', l', b', rfl⟩
    | done =>
      rw [h] at hnx
      obtain ⟨n0, h1⟩ := fin n a line N acc ha h
      exact ⟨n0, _, _, h1, by rw [hnx]; exact ⟨rfl, rfl⟩⟩
    | out => rw [h] at hnx; exact hnx.elim
def lexRes (r : List Tok × Nat × Int) : AV := .tuple [encSl true 3 (r.1.map encT), .int .i64 (r.2.1 : Int), .int .i64 r.2.2]
theorem sc_stripC (s : List UInt8) (a : Nat) (l b : Bool) (bad : Int) : (sc s a l b bad).map AV.stripC = sc s a l b bad := by
  simp [sc, clsList, AV.stripC, AV.strip1, Function.comp_def]
theorem sc_okC (s : List UInt8) (a : Nat) (l b : Bool) (bad : Int) : (sc s a l b bad).all AV.okC = true := by
  simp [sc, clsList, AV.okC, AV.out1, AV.out0]
theorem refs1L_zero {l : List AV} (h : ∀ v ∈ l, v.refs1 = 0) : AV.refs1L l = 0 := by
  induction l with
  | nil => rfl
  | cons v r ih => simp only [AV.refs1L, h v List.mem_cons_self, ih fun x hx => h x (List.mem_cons_of_mem _ hx), Nat.max_self]
theorem sc_refs (s : List UInt8) (a : Nat) (l b : Bool) (bad : Int) : AV.refs1L (sc s a l b bad) = 0 := by
  refine refs1L_zero fun v hv => ?_
  simp only [sc, clsList, List.mem_cons, List.mem_append, List.mem_map, List.not_mem_nil, or_false] at hv
  rcases hv with rfl | rfl | ⟨_, _, rfl⟩ | rfl | rfl | rfl <;> rfl
theorem lex_eq : CallA S 23 [.str s] st Q = Q (.ret (lexRes (lexP s))) st := by
  refine callA_eq (fun Q hQ => ?_) Q
  refine callA_body (by rfl) (by rfl) rfl ?_
  unfold lexP at hQ
  by_cases hl : s.length > 4000
  · have hl' : (s.length : Int) > 4000 := by omega
    rw [if_pos hl] at hQ
    simp only [b23, go_sem, hl', trunc_self]
    exact hQ
  · have hl' : ¬ (s.length : Int) > 4000 := by omega
    rw [if_neg hl] at hQ
    have f1 : (zs256 ++ [AV.bool false, .bool false, .int .i64 0]).length = 259 := by simp [zs256_length]
    have f3 : List.drop (2 + 256) (AV.str s :: AV.int .i64 0 :: (zs256 ++ [AV.bool false, .bool false, .int .i64 0])) = [AV.bool false, .bool false, .int .i64 0] := by
      show List.drop 256 (zs256 ++ _) = _
      rw [List.drop_append_of_le_length (by rw [zs256_length]; exact Nat.le_refl _), List.drop_of_length_le (by rw [zs256_length]; exact Nat.le_refl _)]; rfl
    have f4 : (clsList ++ [AV.bool false, .bool false, .int .i64 0]).length = 259 := by simp [clsList_length]
    have f5 : List.take 258 (clsList ++ [AV.bool false, .bool false, .int .i64 0]) = clsList ++ [AV.bool false, .bool false] := by
      rw [List.take_append, List.take_of_length_le (by rw [clsList_length]; omega), clsList_length]; rfl
    have f6 : List.drop 259 (clsList ++ [AV.bool false, .bool false, .int .i64 0]) = [] := List.drop_of_length_le (by simp [clsList_length])
    have f7 : (AV.str s :: AV.int .i64 0 :: (clsList ++ [AV.bool false, .bool false] ++ [.int .i64 (-1)])) = sc s 0 false false (-1) := by
      simp [sc]
    have g1 : st.size + 1 ≤ (st.push (.cells (sc s 0 false false (-1)))).size := by rw [size_push]; exact Nat.le_refl _
    have hall : ∀ Q : Res → St → Prop, CallA S 53 [.ptr st.size 0] (st.push (.cells (sc s 0 false false (-1)))) Q =
        Q (.ret (.func (.func 83) [] [.ptr (st.size + 1) 0])) ((st.push (.cells (sc s 0 false false (-1)))).push (.cells [.ptr st.size 0])) := by
      refine callA_eq (fun Q hQ => ?_)
      refine callA_body (by rfl) (by rfl) rfl ?_
      simp only [b53, go_sem, g1, size_push]
      have e : ∀ (x : St) (k : Nat), k = x.size → x.trunc k = x := by rintro x k rfl; exact trunc_self
      rw [e _ _ (by simp only [size_push]; omega)]
      exact hQ
    generalize hst2 : (st.push (.cells (sc s 0 false false (-1)))).push (.cells [.ptr st.size 0]) = st2 at hall
    have hs2 : st2.size = st.size + 2 := by rw [← hst2]; simp only [size_push]
    have hid : st.size < st2.size := by omega
    have hbox : st2.cells (st.size + 1) = some [.ptr st.size 0] := by
      rw [← hst2]
      have := cells_new (st := st.push (.cells (sc s 0 false false (-1)))) (cs := [.ptr st.size 0])
      rwa [size_push] at this
    have hW : st2 = W st2 st.size s 0 false false (-1) := by
      refine (set_same ?_).symm
      rw [← hst2, cells_push (by rw [size_push]; omega), cells_new]
    have htr : ∀ (a : Nat) (l b : Bool) (bad : Int), (W st2 st.size s a l b bad).trunc st.size = st := by
      intro a l b bad
      rw [← hst2]
      unfold W
      rw [set_push (by rw [size_push]; omega), set_new]
      cases st
      simp [St.push, St.trunc, St.size]
    have hbx : ∀ a line begun bad, boxIs (W st2 st.size s a line begun bad) (st.size + 1) st.size 0 = true := fun a line begun bad => by
      have e : (W st2 st.size s a line begun bad).cells (st.size + 1) = some [.ptr st.size 0] := by
        unfold W
        rw [cells_set_ne (by omega)]
        exact hbox
      unfold boxIs
      rw [e]
      simp
    obtain ⟨n0, els, st', h1, h2⟩ := collect_ok (st := st2) (id := st.size) (s := s) (box := st.size + 1) hbx hid (by omega) (s.length + 1) 0 false [] 4100 (Nat.zero_le _) (by omega) (by omega) (by simp)
    have hcoll : ∀ Q : Res → St → Prop, CallA S 82 [.nilslice, .func (.func 83) [] [.ptr (st.size + 1) 0]] st2 Q = Q (.ret (if els.isEmpty then .nilslice else .slice 3 els .no)) st' := by
      intro Q
      refine callA_intr (n := n0) (k := iAppendSeq 4100 83 84) (by rfl) ?_ Q
      rw [← hW] at h1
      simp only [iAppendSeq, if_true, hbox, List.map_nil] at h1 ⊢
      rw [h1]
    have hsl : (if els.isEmpty then .nilslice else .slice 3 els .no) = encSl true 3 els := by cases els <;> rfl
    rw [hsl] at hcoll
    have hcol2 : ∀ Q : Res → St → Prop, CallA S 52 [.func (.func 83) [] [.ptr (st.size + 1) 0]] st2 Q = Q (.ret (encSl true 3 els)) (st'.trunc st2.size) := by
      refine callA_eq (fun Q hQ => ?_)
      refine callA_body (by rfl) (by rfl) rfl ?_
      simp only [b52, go_sem, hcoll]
      exact hQ
    have hstr : ∀ (a : Nat) (l b : Bool) (bad : Int), (W st2 st.size s a l b bad).trunc st2.size = W st2 st.size s a l b bad := fun _ _ _ _ => W_trunc
    have hmax : max (st.size + 1) 0 = st.size + 1 := by omega
    cases hlex : lexN s (s.length + 1) 0 false [] with
    | ok l =>
      rw [hlex] at h2 hQ
      obtain ⟨rfl, rfl⟩ := h2
      simp only at hQ
      have hneg : ¬ ((-1 : Int) ≥ 0) := by omega
      by_cases hbig : l.length > 1200
      · have hbig' : (l.length : Int) > 1200 := by omega
        rw [if_pos hbig] at hQ
        simp only [b23, go_sem, hl', classes_eq, clsList_length, clsList_okIn, f1, f3, f4, f5, f6, f7, sc_stripC, sc_okC, sc_refs, hall, hcol2, hstr, W_cells hid, hneg, List.length_map, hbig', htr]
        exact hQ
      · have hbig' : ¬ (l.length : Int) > 1200 := by omega
        rw [if_neg hbig] at hQ
        simp only [b23, go_sem, hl', classes_eq, clsList_length, clsList_okIn, f1, f3, f4, f5, f6, f7, sc_stripC, sc_okC, sc_refs, hall, hcol2, hstr, W_cells hid, hneg, List.length_map, hbig', htr]
        exact hQ
    | fail p =>
      rw [hlex] at h2 hQ
      obtain ⟨_, a, l, b, rfl⟩ := h2
      simp only at hQ
      have hpos : (p : Int) ≥ 0 := by omega
      simp only [b23, go_sem, hl', classes_eq, clsList_length, clsList_okIn, f1, f3, f4, f5, f6, f7, sc_stripC, sc_okC, sc_refs, hall, hcol2, hstr, W_cells hid, hpos, htr]
      exact hQ
    | out => exact absurd hlex (lexN_out (by omega) _ _ _ _ (Nat.zero_le _) (by omega))
end
end Go.Proofs.YtelpkgbghhpgaaaGreatDoor.Sx
end
section
set_option maxRecDepth 100000
namespace Go.Proofs.YtelpkgbghhpgaaaGreatDoor.Sx
def zeroX : Xp := .mk 0 [] 0 0 [] true [] true []
def runK (st : St) (l : List Tok) (Q : Res → St → Prop) : Res → St → Prop
  | .ret _, st2 => ∃ k, st2.cells st.size = some (pc l k) ∧ Q (.ret (.int .i64 (if (k : Int) < (l.length : Int) then (k : Int) else -1))) (st2.trunc st.size)
  | .panic v, st2 => ∃ k, v = thrown k ∧ Q (.ret (.int .i64 (k : Int))) (st2.trunc st.size)
section
variable {st : St} {id a : Nat} {l : List Tok} {Q : Res → St → Prop}
theorem pc_new (st : St) (l : List Tok) : st.push (.cells (pc l 0)) = V (st.push (.cells (pc l 0))) st.size l 0 := by
  refine (set_same ?_).symm
  exact cells_new
theorem run_ok (f : Nat) (first cap : List AV) (hf : first.all AV.out0 = true) (hc : cap.all AV.out0 = true) (h : CallA S f (first ++ [.ptr st.size 0] ++ cap) (V (st.push (.cells (pc l 0))) st.size l 0) (runK st l Q)) :
    CallA S 54 [encSl true 3 (l.map encT), .func (.func f) first cap] st Q := by
  rw [← pc_new] at h
  obtain ⟨n, r, st2, h1, h2⟩ := h
  have hl : elsOf 3 (encSl true 3 (l.map encT)) = some (l.map encT) := elsOf_sl
  have hp : AV.plain1 (encSl true 3 (l.map encT)) = true := plain1_sl
  have hwords : ∀ m, S.call (m + 1) 49 [] st = some (.ret (.slice 1 (theWords.map fun x => [.str x]) .no), st) := fun m => rfl
  unfold pc encW at h1
  rw [show ((0 : Nat) : Int) = 0 from rfl] at h1
  cases r with
  | ret v =>
    obtain ⟨k, h3, h4⟩ := h2
    have hid : st.size < st2.size := cells_lt h3
    have hst : V st2 st.size l k = st2 := set_same h3
    have hf2 : CallA S 86 [.ptr st.size 0] st2 (fun r s => r = .panic (thrown k) ∧ s = st2) := by
      have := fail_eq (st := st2) (id := st.size) (a := k) (l := l) (Q := fun r s => r = .panic (thrown k) ∧ s = st2) hid
      rw [hst] at this
      rw [this]
      exact ⟨rfl, rfl⟩
    obtain ⟨m, r', s', g1, rfl, rfl⟩ := hf2
    have h1 := call_le S (show n ≤ n + m + 1 by omega) _ _ _ _ h1
    have g1 := call_le S (show m ≤ n + m + 1 by omega) _ _ _ _ g1
    unfold pc encW at h3
    unfold thrown at g1
    rw [callA_intr (n := n + m + 1) (k := iRun 49 86 115) (by rfl) (st' := s'.trunc st.size) (r := .ret (.int .i64 (if (k : Int) < (l.length : Int) then (k : Int) else -1)))]
    · exact h4
    · by_cases hk : (k : Int) < (l.length : Int)
      · rw [if_pos hk]
        simp only [iRun, caught, hl, hf, hc, hp, Bool.and_self, if_true, hwords, h1, h3, List.length_map, hk, g1]
      · rw [if_neg hk]
        simp only [iRun, caught, hl, hf, hc, hp, Bool.and_self, if_true, hwords, h1, h3, List.length_map, hk, if_false]
  | panic v =>
    obtain ⟨k, rfl, h4⟩ := h2
    have h1 := call_le S (Nat.le_succ n) _ _ _ _ h1
    rw [callA_intr (n := n + 1) (k := iRun 49 86 115) (by rfl) (st' := st2.trunc st.size) (r := .ret (.int .i64 (k : Int)))]
    · exact h4
    · unfold thrown at h1
      simp only [iRun, caught, hl, hf, hc, hp, Bool.and_self, if_true, hwords, h1]
theorem inCells_zeroX (x : Xp) : inCells [.int .i64 0, .str [], .int .i64 0, .int .i64 0, .str [], .nilslice, .nilslice] (encX x) = some (encX x) := by
  obtain ⟨op, s, vk, vn, vs, pn, p, ln, l⟩ := x
  rw [encX_mk]
  rcases encSl_cases pn 1 (p.map fun x => [.str x]) with ⟨e1, _⟩ | e1 <;> rcases encSl_cases ln 7 (encXs l) with ⟨e2, _⟩ | e2 <;> rw [e1, e2] <;> rfl
def lineQ (l : List Tok) (Q : AV → Int → Prop) (r : PR Xp) : Prop :=
  r.on (fun x a => Q (.agg (encX x)) (if (tokAt l a).kind = 5 then (if (a : Int) + 1 < (l.length : Int) then (a : Int) + 1 else -1) else (a : Int))) (fun a => Q (.agg (encX zeroX)) (a : Int))
theorem line_ok (hl : l.length < 65536) (hT : ∀ t ∈ l, TokOk t) (n : Nat) (hn : n ≤ 65536) (hQ : lineQ l (fun v k => Q (.ret (.tuple [v, .int .i64 k])) st) (sp l n .expr 0)) :
    CallA S 24 [encSl true 3 (l.map encT)] st Q := by
  refine callA_body (by rfl) (by rfl) rfl ?_
  simp only [b24, go_sem]
  generalize hst1 : st.push (.cells [.int .i64 0, .str [], .int .i64 0, .int .i64 0, .str [], .nilslice, .nilslice]) = st1
  have hs1 : st1.size = st.size + 1 := by rw [← hst1, size_push]
  have hbox : st1.cells st.size = some [.int .i64 0, .str [], .int .i64 0, .int .i64 0, .str [], .nilslice, .nilslice] := by rw [← hst1, cells_new]
  have htr : ∀ cs, (st1.setCells st.size cs).trunc st.size = st := by
    intro cs
    rw [← hst1, set_new, trunc_push]
  have htr0 : st1.trunc st.size = st := by rw [← hst1, trunc_push]
  refine run_ok _ _ _ (by rfl) (by rfl) ?_
  have hid : st1.size < (st1.push (.cells (pc l 0))).size := by rw [size_push]; omega
  have hbox2 : (st1.push (.cells (pc l 0))).cells st.size = some [.int .i64 0, .str [], .int .i64 0, .int .i64 0, .str [], .nilslice, .nilslice] := by rw [cells_push (by omega), hbox]
  generalize hst2 : st1.push (.cells (pc l 0)) = st2 at *
  have hs2 : st2.size = st1.size + 1 := by rw [← hst2, size_push]
  have hne : st1.size ≠ st.size := by omega
  refine callA_body (by rfl) (by rfl) rfl ?_
  simp only [b55, go_sem]
  refine sp_ok hl hT n hn .expr st2 st1.size hid 0 _ (Nat.zero_le _) (PR.on_mono hQ (fun x a _ hQ ha => ?_) (fun a _ hQ => ?_))
  · have hle : (0 : Nat) ≤ st.size + 1 := Nat.zero_le _
    have hVset : ∀ b, (V st2 st1.size l b).setCells st.size (encX x) = V (st2.setCells st.size (encX x)) st1.size l b := by
      intro b
      unfold V
      simp only [St.setCells]
      rw [List.set_comm _ _ hne]
    have htr2 : ∀ b, (V (st2.setCells st.size (encX x)) st1.size l b).trunc st1.size = st1.setCells st.size (encX x) := by
      intro b
      rw [← hst2]
      unfold V
      rw [set_push (by omega), show st1.size = (st1.setCells st.size (encX x)).size from size_set.symm, set_new, trunc_push]
    have hid2 : st1.size < (st2.setCells st.size (encX x)).size := by rw [size_set]; omega
    have hce : ∀ k, (V (st2.setCells st.size (encX x)) st1.size l k).cells st1.size = some (pc l k) := fun k => cells_set hid2
    have hstr : ∀ k, (V (st2.setCells st.size (encX x)) st1.size l k).trunc (V st2 st1.size l 0).size = V (st2.setCells st.size (encX x)) st1.size l k := by
      intro k
      rw [V_size, ← size_set (st := st2) (id := st.size) (cs := encX x), V_trunc]
    have hx1 : (st1.setCells st.size (encX x)).cells st.size = some (encX x) := cells_set (by omega)
    by_cases h5 : (tokAt l a).kind = 5
    · have hlt := tokAt_lt (l := l) (i := a) (by omega)
      rw [if_pos h5] at hQ
      simp only [go_sem, V_cells_ne hne, hbox2, inCells_zeroX, hVset, end_yes hid2 hl ha h5, hstr]
      refine ⟨a + 1, hce _, ?_⟩
      rw [htr2]
      have e : (((a + 1 : Nat) : Int)) = (a : Int) + 1 := by omega
      simp only [e, go_sem, hx1, htr]
      exact hQ
    · rw [if_neg h5] at hQ
      simp only [go_sem, V_cells_ne hne, hbox2, inCells_zeroX, hVset, end_no hid2 hl ha h5, hstr]
      refine ⟨a, rfl, ?_⟩
      rw [htr2]
      simp only [go_sem, hx1, htr]
      exact hQ
  · have htr3 : (V st2 st1.size l a).trunc st1.size = st1 := by
      rw [← hst2]
      unfold V
      rw [set_new, trunc_push]
    simp only [go_sem, V_size, V_trunc]
    refine ⟨a, rfl, ?_⟩
    rw [htr3]
    simp only [go_sem, hbox, htr0]
    exact hQ
end
end Go.Proofs.YtelpkgbghhpgaaaGreatDoor.Sx
end
section
set_option maxRecDepth 100000
namespace Go.Proofs.YtelpkgbghhpgaaaGreatDoor.Sx
def w64 (n : Int) : Int := IntKind.i64.wrap n
def mxI (x y : Int) : Int := if y > x then y else x
def szIn (a b : Int × Int) : Int × Int := (w64 (a.1 + b.1), mxI a.2 (w64 (b.2 + 1)))
def szBeside (a b : Int × Int) : Int × Int := (w64 (a.1 + b.1), mxI a.2 b.2)
mutual
def szX : Xp → Int × Int
  | .mk _ _ _ _ _ _ _ _ l => szXs (1, 1) l
def szXs : Int × Int → List Xp → Int × Int
  | acc, [] => acc
  | acc, x :: l => szXs (szIn acc (szX x)) l
end
def isLarge (n : Int × Int) : Bool := decide (n.1 > 400) || decide (n.2 > 14)
def most : Nat := 1099511627776
mutual
def bdX : Xp → Prop
  | .mk _ _ _ _ _ _ p _ l => p.length < most ∧ l.length < most ∧ bdXs l
def bdXs : List Xp → Prop
  | [] => True
  | x :: l => bdX x ∧ bdXs l
end
theorem bdXs_mem : ∀ {l : List Xp}, bdXs l → ∀ x ∈ l, bdX x
  | [], _, x, h => by cases h
  | y :: l, h, x, hx => by
    simp only [bdXs] at h
    rcases List.mem_cons.1 hx with rfl | hx
    · exact h.1
    · exact bdXs_mem h.2 x hx
theorem bdXs_of : ∀ {l : List Xp}, (∀ x ∈ l, bdX x) → bdXs l
  | [], _ => trivial
  | y :: l, h => ⟨h y List.mem_cons_self, bdXs_of fun x hx => h x (List.mem_cons_of_mem _ hx)⟩
theorem szXs_drop {l : List Xp} {i : Nat} (h : i < l.length) (acc : Int × Int) : szXs acc (l.drop i) = szXs (szIn acc (szX l[i])) (l.drop (i + 1)) := by
  rw [List.drop_eq_getElem_cons h, szXs]
theorem el_X (ln : Bool) (l : List Xp) {i : Nat} (h : i < l.length) : elA 7 (i : Int) (encSl ln 7 (encXs l)) = some (encX l[i]) := by
  rw [elA_sl (by rw [encXs_length]; exact h)]
  simp [encXs_eq]
section
variable {st : St} {Q : Res → St → Prop}
theorem in_eq (a b : Int × Int) : CallA S 58 [.agg [.int .i64 a.1, .int .i64 a.2], .agg [.int .i64 b.1, .int .i64 b.2]] st Q = Q (.ret (.agg [.int .i64 (szIn a b).1, .int .i64 (szIn a b).2])) st := by
  refine callA_eq (fun Q hQ => ?_) Q
  refine callA_body (by rfl) (by rfl) rfl ?_
  simp only [b58, go_sem, trunc_self]
  exact hQ
theorem beside_eq (a b : Int × Int) : CallA S 68 [.agg [.int .i64 a.1, .int .i64 a.2], .agg [.int .i64 b.1, .int .i64 b.2]] st Q = Q (.ret (.agg [.int .i64 (szBeside a b).1, .int .i64 (szBeside a b).2])) st := by
  refine callA_eq (fun Q hQ => ?_) Q
  refine callA_body (by rfl) (by rfl) rfl ?_
  simp only [b68, go_sem, trunc_self]
  exact hQ
theorem isLarge_eq (a : Int × Int) : CallA S 25 [.agg [.int .i64 a.1, .int .i64 a.2]] st Q = Q (.ret (.bool (isLarge a))) st := by
  refine callA_eq (fun Q hQ => ?_) Q
  refine callA_body (by rfl) (by rfl) rfl ?_
  unfold isLarge at hQ
  by_cases h : a.1 > 400
  · rw [decide_eq_true h, Bool.true_or] at hQ
    simp only [b25, go_sem, h, trunc_self]
    exact hQ
  · rw [decide_eq_false h, Bool.false_or] at hQ
    simp only [b25, go_sem, h, trunc_self]
    exact hQ
theorem ofExpr_eq : ∀ (x : Xp), bdX x → ∀ (st : St) (Q : Res → St → Prop), CallA S 26 [.agg (encX x)] st Q = Q (.ret (.agg [.int .i64 (szX x).1, .int .i64 (szX x).2])) st
  | .mk op s vk vn vs pn p ln l, hb => by
    simp only [bdX] at hb
    obtain ⟨_, hl, hbl⟩ := hb
    unfold most at hl
    have ih : ∀ (i : Nat) (h : i < l.length) (st : St) (Q : Res → St → Prop), CallA S 26 [.agg (encX l[i])] st Q = Q (.ret (.agg [.int .i64 (szX l[i]).1, .int .i64 (szX l[i]).2])) st :=
      fun i h => ofExpr_eq l[i] (bdXs_mem hbl _ (List.getElem_mem h))
    intro st
    refine callA_eq (fun Q hQ => ?_)
    refine callA_body (by rfl) (by rfl) rfl ?_
    rw [szX] at hQ
    simp only [b26, go_sem, encX_mk, encXs_length]
    refine wp_loop (fun n fr st' => st' = st ∧ ∃ (i : Nat) (acc : Int × Int) (ser ser2 : Nat) (lx : Nat × List AV) (r1 : Nat × List AV), n + i = l.length ∧ szXs (1, 1) l = szXs acc (l.drop i) ∧
      fr = ⟨[(2, .lptr 1 1 0), (3, .lptr 2 ser 0), (8, encSl ln 7 (encXs l)), (9, .int .i64 (l.length : Int)), (10, .int .i64 (i : Int))], [r1, (1, [.int .i64 0, .int .i64 0]), (ser, [.int .i64 acc.1, .int .i64 acc.2]), lx], [], ser2⟩) l.length ⟨rfl, 0, (1, 1), _, _, _, _, rfl, rfl, rfl⟩ ?_
    rintro n fr st' ⟨rfl, i, acc, ser, ser2, lx, r1, hn, hsz, rfl⟩
    by_cases h : (i : Int) < (l.length : Int)
    · have hi : i < l.length := by omega
      rw [szXs_drop hi] at hsz
      simp only [b26l0, go_sem, h, el_X ln l hi, ih i hi, in_eq acc (szX l[i]), wrap_one i (by omega)]
      exact ⟨n - 1, by omega, i + 1, szIn acc (szX l[i]), ser, _, _, _, by omega, hsz, rfl⟩
    · rw [List.drop_of_length_le (by omega), szXs] at hsz
      rw [hsz] at hQ
      simp only [b26l0, go_sem, h, trunc_self]
      exact hQ
termination_by x => SizeOf.sizeOf x
decreasing_by
  have := List.sizeOf_lt_of_mem (List.getElem_mem h)
  simp only [Xp.mk.sizeOf_spec]
  omega
def peQ (s : List UInt8) (Q : AV → Int → Int → Prop) (n : Nat) : Prop :=
  if (lexP s).2.2 = 0 then
    lineQ (lexP s).1 (fun v k => ∃ x, v = .agg (encX x) ∧ (if k ≥ 0 then Q (.agg (encX zeroX)) k 2 else bdX x ∧ (if isLarge (szX x) = true then Q (.agg (encX zeroX)) 0 3 else Q (.agg (encX x)) ((lexP s).1.length : Int) 0))) (sp (lexP s).1 n .expr 0)
  else Q (.agg (encX zeroX)) ((lexP s).2.1 : Int) (lexP s).2.2
theorem lexP_ok (s : List UInt8) : (lexP s).1.length ≤ 1200 ∧ ∀ t ∈ (lexP s).1, TokOk t := by
  unfold lexP
  split
  · exact ⟨by simp, fun t h => by cases h⟩
  · have := lexN_ok (s := s) (by omega) (s.length + 1) 0 false [] (fun t h => by cases h)
    cases hl : lexN s (s.length + 1) 0 false [] with
    | ok l =>
      rw [hl] at this
      simp only
      split
      · exact ⟨by simp, fun t h => by cases h⟩
      · exact ⟨by simp only; omega, this⟩
    | fail p => exact ⟨by simp, fun t h => by cases h⟩
    | out => exact ⟨by simp, fun t h => by cases h⟩
theorem parseExpr_ok (s : List UInt8) (n : Nat) (hn : n ≤ 65536) (hQ : peQ s (fun v k e => Q (.ret (.tuple [v, .int .i64 k, .int .i64 e])) st) n) : CallA S 9 [.str s] st Q := by
  refine callA_body (by rfl) (by rfl) rfl ?_
  unfold peQ at hQ
  obtain ⟨k1, k2⟩ := lexP_ok s
  by_cases he : (lexP s).2.2 = 0
  · rw [if_pos he] at hQ
    simp only [b9, go_sem, lex_eq, lexRes, he, bne_self_eq_false]
    refine line_ok (by omega) k2 n hn (PR.on_mono hQ (fun x a _ hQ => ?_) (fun a _ hQ => ?_))
    · obtain ⟨y, hy, hQ⟩ := hQ
      rw [hy]
      generalize hk : (if (tokAt (lexP s).1 a).kind = 5 then (if (a : Int) + 1 < ((lexP s).1.length : Int) then (a : Int) + 1 else -1) else (a : Int)) = k at hQ
      by_cases hpos : k ≥ 0
      · rw [if_pos hpos] at hQ
        simp only [go_sem, hpos, trunc_self]
        exact hQ
      · rw [if_neg hpos] at hQ
        obtain ⟨hb, hQ⟩ := hQ
        cases hlg : isLarge (szX y) with
        | true =>
          simp only [hlg, if_true] at hQ
          simp only [go_sem, hpos, ofExpr_eq y hb, isLarge_eq, hlg, trunc_self]
          exact hQ
        | false =>
          simp only [hlg, Bool.false_eq_true, if_false] at hQ
          simp only [go_sem, hpos, ofExpr_eq y hb, isLarge_eq, hlg, List.length_map, trunc_self]
          exact hQ
    · obtain ⟨y, hy, hQ⟩ := hQ
      have hpos : (a : Int) ≥ 0 := by omega
      rw [if_pos hpos] at hQ
      simp only [go_sem, hpos, trunc_self]
      exact hQ
  · rw [if_neg he] at hQ
    simp only [b9, go_sem, lex_eq, lexRes, bne_iff_ne.2 he, trunc_self]
    exact hQ
end
end Go.Proofs.YtelpkgbghhpgaaaGreatDoor.Sx
end
