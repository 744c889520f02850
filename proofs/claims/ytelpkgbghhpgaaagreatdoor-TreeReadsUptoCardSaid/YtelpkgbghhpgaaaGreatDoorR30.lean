/- TreeReads returns true for all texts whose data are not larger than a bound. The document's lexer: quoted texts, tokens. The document's lexer: a token, a step. -/
import Derived.Test.YtelpkgbghhpgaaaGreatDoorR29
set_option linter.all false
section
set_option maxRecDepth 100000
namespace Go.Proofs.YtelpkgbghhpgaaaGreatDoor.Sx
def tkQ (st : St) (id : Nat) (s : List UInt8) (acc : List Tok) (Q : Res → St → Prop) : TR → Prop
  | .tok t e => Q (.ret (.tuple [])) (VL st id s e true (-1) (acc ++ [t]))
  | .fail p => ∀ a' l' acc', Q (.ret (.tuple [])) (VL st id s a' l' (p : Int) acc')
theorem sub_step {s : List UInt8} {j e : Nat} (hj : j < e) (he : e ≤ s.length) : sub s j e = s[j] :: sub s (j + 1) e := by
  unfold sub
  rw [List.drop_eq_getElem_cons (by simp; omega)]
  simp
theorem sub_self (s : List UInt8) (j : Nat) : sub s j j = [] := by simp [sub]
theorem isC_quote {s : List UInt8} {a : Nat} (ha : a < s.length) {q : UInt8} (hq : s[a] = q) (h : q = 34 ∨ q = 39) : isC s a 4 = false := by
  unfold isC
  rw [getB ha, hq]
  rcases h with rfl | rfl <;> rfl
section
variable {st : St} {id a : Nat} {s : List UInt8} {line : Bool} {wr : Int} {acc : List Tok} {Q : Res → St → Prop}
theorem quoted_ok (hid : id < st.size) (hs : s.length < 65536) (hacc : acc.length < 65536) (ha : a < s.length) (hq : s[a] = 34 ∨ s[a] = 39) (hQ : tkQ st id s acc Q (textP s a s[a])) :
    CallA S 174 [.ptr id 0] (VL st id s a line (-1) acc) Q := by
  refine callA_body (by rfl) (by rfl) rfl ?_
  have hw0 : ∀ i : Nat, (if (-1 : Int) < 0 ∨ (i : Int) < -1 then (i : Int) else -1) = (i : Int) := fun i => if_pos (.inl (by decide))
  have h10 : s[a] ≠ 10 := by rcases hq with h | h <;> rw [h] <;> decide
  have hle : lineEnd s a = lineEnd s (a + 1) := lineEnd_step ha h10
  have hb := lineEnd_le (s := s) (a := a) (by omega)
  unfold textP at hQ
  simp only [b174, go_sem, VL_cells hid, getB ha, wrap_one a (by omega)]
  generalize hqq : s[a] = q at *
  refine wp_loop (fun n fr st' => st' = VL st id s a line (-1) acc ∧ ∃ (k : Nat) (ser : Nat), n + (a + 1 + k) = s.length ∧ a + 1 + k ≤ lineEnd s a ∧ lineEnd s a = lineEnd s (a + 1 + k) ∧ indexB q (sub s (a + 1) (lineEnd s a)) 0 = indexB q (sub s (a + 1 + k) (lineEnd s a)) k ∧
    fr = ⟨[(0, .ptr id 0), (2, .int .u8 (q.toNat : Int)), (3, .int .i64 ((a + 1 + k : Nat) : Int))], [], [], ser⟩) (s.length - (a + 1)) ⟨rfl, 0, _, by omega, by have := lineEnd_gt ha (by rw [hqq]; exact h10); omega, hle, rfl, rfl⟩ ?_
  rintro n fr st' ⟨rfl, k, ser, hn, hke, hle2, hix, rfl⟩
  have stop10 : indexB q (sub s (a + 1) (lineEnd s a)) 0 < 0 → ∀ a' l' acc', Q (.ret (.tuple [])) (VL st id s a' l' (a : Int) acc') := by
    intro h
    rw [if_pos h] at hQ
    exact hQ
  by_cases h : ((a + 1 + k : Nat) : Int) < (s.length : Int)
  · have hj : a + 1 + k < s.length := by omega
    have g1 : ¬ ((a + 1 + k : Nat) : Int) ≥ (s.length : Int) := by omega
    have e10 : ((s[a + 1 + k].toNat : Int) == 10) = decide (s[a + 1 + k] = 10) := beqi_byte _ 10 (by omega) (by omega)
    by_cases c10 : s[a + 1 + k] = 10
    · rw [decide_eq_true c10] at e10
      have d10 := bneOf e10
      have hla := lineEnd_at (s := s) (i := a + 1 + k) (by rw [getB hj, c10])
      rw [hle2, hla, sub_self] at hix
      rw [hla] at hle2
      rw [← hle2] at hix
      have hneg : indexB q (sub s (a + 1) (lineEnd s a)) 0 < 0 := by rw [hle2]; rw [hle2] at hix; rw [hix]; simp [indexB]
      have hQ := stop10 hneg
      simp only [b174l0, go_sem, VL_cells hid, h, g1, getB hj, e10, d10, rfails_eq hid, hw0, VL_size, VL_trunc]
      exact hQ _ _ _
    · rw [decide_eq_false c10] at e10
      have d10 := bneOf e10
      have hlt : a + 1 + k < lineEnd s a := by
        rw [hle2]; exact lineEnd_gt hj c10
      have hnext : lineEnd s a = lineEnd s (a + 1 + k + 1) := hle2.trans (lineEnd_step hj c10)
      rw [sub_step hlt hb.2] at hix
      by_cases cq : s[a + 1 + k] = q
      · have eq1 : (((s[a + 1 + k].toNat : Int)) != (q.toNat : Int)) = false := by rw [cq]; simp
        rw [cq, indexB, if_pos rfl] at hix
        have hkn : ¬ ((k : Nat) : Int) < 0 := by omega
        simp only [hix, hkn, if_false, Int.toNat_natCast] at hQ
        simp only [b174l0, go_sem, VL_cells hid, h, g1, getB hj, e10, d10, eq1]
        obtain ⟨W, hW⟩ : ∃ W, W = wrongIn s (k + 1) a := ⟨_, rfl⟩
        refine wp_loop (fun n fr st' => ∃ (i : Nat) (w : Int) (ser : Nat), n + i = a + 1 + k ∧ a ≤ i ∧ st' = VL st id s a line w acc ∧ (w < 0 ∧ w = -1 ∧ W = wrongIn s (a + 1 + k - i) i ∨ 0 ≤ w ∧ w < (i : Int) ∧ wrV W = w) ∧
          fr = ⟨[(0, .ptr id 0), (3, .int .i64 ((a + 1 + k : Nat) : Int)), (4, .int .i64 (i : Int))], [], [], ser⟩) (k + 1) ⟨a, -1, _, by omega, Nat.le_refl _, rfl, .inl ⟨by omega, rfl, by rw [hW, show a + 1 + k - a = k + 1 by omega]⟩, rfl⟩ ?_
        rintro n2 fr st' ⟨i, w, ser2, hn2, hai, rfl, hw, rfl⟩
        by_cases hlt2 : (i : Int) < ((a + 1 + k : Nat) : Int)
        · have hi : i < s.length := by omega
          have hsp : a + 1 + k - i = (a + 1 + k - (i + 1)) + 1 := by omega
          cases hb4 : (clsOf s[i].toNat == 4) with
          | true =>
            have hc : isC s i 4 = true := by unfold isC; rw [getB hi]; exact hb4
            simp only [b174l1, go_sem, VL_cells hid, hlt2, getB hi, risByte_eq, hb4, rfails_eq hid, wrap_one i (by omega)]
            refine ⟨n2 - 1, by omega, i + 1, _, _, by omega, by omega, rfl, ?_, rfl⟩
            rcases hw with ⟨h1, h2, h3⟩ | ⟨h1, h2, h3⟩
            · right
              rw [if_pos (.inl h1)]
              rw [hsp, wrongIn, if_pos hc] at h3
              exact ⟨by omega, by omega, by rw [h3]; rfl⟩
            · right
              rw [if_neg (by omega)]
              exact ⟨h1, by omega, h3⟩
          | false =>
            have hc : isC s i 4 = false := by unfold isC; rw [getB hi]; exact hb4
            simp only [b174l1, go_sem, VL_cells hid, hlt2, getB hi, risByte_eq, hb4, wrap_one i (by omega)]
            refine ⟨n2 - 1, by omega, i + 1, w, _, by omega, by omega, rfl, ?_, rfl⟩
            rcases hw with ⟨h1, h2, h3⟩ | ⟨h1, h2, h3⟩
            · left
              rw [hsp, wrongIn, if_neg (by rw [hc]; exact Bool.false_ne_true)] at h3
              exact ⟨h1, h2, h3⟩
            · right
              exact ⟨h1, by omega, h3⟩
        · have e1 : i = a + 1 + k := by omega
          subst e1
          have hwv : w = wrV W := by
            rcases hw with ⟨h1, h2, h3⟩ | ⟨h1, h2, h3⟩
            · rw [h3, Nat.sub_self, wrongIn, h2]; rfl
            · exact h3.symm
          rw [hW, wrongIn, if_neg (by rw [isC_quote ha hqq hq]; exact Bool.false_ne_true)] at hwv
          have w1 : IntKind.i64.wrap (((a + 1 + k : Nat) : Int) + 1) = ((a + 1 + k + 1 : Nat) : Int) := wrap_one (a + 1 + k) (by omega)
          have w2 : IntKind.i64.wrap (((a + 1 + k + 1 : Nat) : Int) - (a : Int)) = ((k + 2 : Nat) : Int) := by rw [wrap_int _ (by omega) (by omega)]; omega
          have s1 : ((a + 1 : Nat) : Int) ≤ ((a + 1 + k : Nat) : Int) := by omega
          have s2 : ((a + 1 + k : Nat) : Int) ≤ (s.length : Int) := by omega
          have hsub : (s.take (a + 1 + k)).drop (a + 1) = sub s (a + 1) (a + 1 + k) := rfl
          simp only [b174l1, go_sem, VL_cells hid, hlt2, wrap_one a (by omega), w1, w2, s1, s2, hsub, put_eq hid 2 _ (k + 2) (show a + (k + 2) < 1000000 by omega) (show acc.length < 1000000 by omega), VL_size, VL_trunc]
          cases hwr : wrongIn s k (a + 1) with
          | none =>
            rw [hwr] at hQ hwv
            rw [hwv]
            exact hQ
          | some p =>
            rw [hwr] at hQ hwv
            rw [hwv]
            exact hQ _ _ _
      · have eq1 : (((s[a + 1 + k].toNat : Int)) != (q.toNat : Int)) = true := by
          rw [bne_iff_ne]
          intro h2
          exact cq (UInt8.toNat_inj.1 (by omega))
        rw [indexB, if_neg cq] at hix
        have ek : IntKind.i64.wrap (((a + 1 + k : Nat) : Int) + 1) = ((a + 1 + (k + 1) : Nat) : Int) := wrap_one (a + 1 + k) (by omega)
        simp only [b174l0, go_sem, VL_cells hid, h, getB hj, d10, eq1, ek]
        exact ⟨n - 1, by omega, k + 1, _, by omega, by omega, hnext, hix, rfl⟩
  · have g1 : ((a + 1 + k : Nat) : Int) ≥ (s.length : Int) := by omega
    have e : lineEnd s a = a + 1 + k := by omega
    rw [e, sub_self] at hix
    have hneg : indexB q (sub s (a + 1) (lineEnd s a)) 0 < 0 := by rw [e, hix]; simp [indexB]
    have hQ := stop10 hneg
    simp only [b174l0, go_sem, VL_cells hid, h, g1, rfails_eq hid, hw0, VL_size, VL_trunc]
    exact hQ _ _ _
end
end Go.Proofs.YtelpkgbghhpgaaaGreatDoor.Sx
end
section
set_option maxRecDepth 100000
namespace Go.Proofs.YtelpkgbghhpgaaaGreatDoor.Sx
theorem dateP_num {s : List UInt8} {a : Nat} (h : (dateP s a).2.2 = true) : (dateP s a).2.1 = (((dateP s a).2.1.toNat : Nat) : Int) ∧ 0 < (dateP s a).2.1 := by
  unfold dateP at h ⊢
  split
  · exact ⟨rfl, by decide⟩
  · split
    · exact ⟨rfl, show (0 : Int) < 13 by decide⟩
    · rename_i h1 h2; rw [if_neg h1, if_neg h2] at h; cases h
theorem semi_fails {s : List UInt8} {a : Nat} (ha : a < s.length) (h : s[a] = 59) : tokenP s a = .fail a := by
  have e1 : isC s a 1 = false := by unfold isC; rw [getB ha, h]; rfl
  have e2 : isC s a 2 = false := by unfold isC; rw [getB ha, h]; rfl
  have hp : ∀ x y : UInt8, x ≠ 59 → hasPre (s.drop a) [x, y] = false := by
    intro x y hx
    rw [hasPre2, getB ha, h]
    rw [decide_eq_false (fun e => hx (Option.some.inj e).symm), Bool.false_and]
  have hd : (dateP s a).2.2 = false := by
    unfold dateP
    rw [hp 123 125 (by decide)]
    have hdl : dateLike (s.drop a) = false := by
      unfold dateLike
      have := hp 123 94 (by decide)
      rw [← take_eq_pre] at this
      by_cases hl : ((s.drop a).length : Int) ≥ 13
      · rw [decide_eq_true (show ([123, 94] : List UInt8).length ≤ (s.drop a).length by simp only [List.length_cons, List.length_nil]; omega), Bool.true_and] at this
        rw [show (s.drop a).take 2 = (s.drop a).take ([123, 94] : List UInt8).length from rfl, this]
        simp only [Bool.and_false, Bool.false_and]
      · rw [decide_eq_false hl]; simp only [Bool.false_and]
    rw [hdl]; rfl
  have hsg : signP s a = none := by
    unfold signP
    refine List.find?_eq_none.2 fun w hw hf => ?_
    unfold signFits at hf
    rw [upperS_sign _ _ hw] at hf
    simp only [Bool.and_eq_true, decide_eq_true_eq, beq_iff_eq] at hf
    obtain ⟨h1, h2⟩ := hf
    have hw2 : w.head? ≠ some 59 ∧ 0 < w.length := (show ∀ w ∈ allSigns, w.head? ≠ some 59 ∧ 0 < w.length by decide) w hw
    rw [sub_step (by omega) h1, h] at h2
    rw [← h2] at hw2
    exact hw2.1 (by simp [upB])
  unfold tokenP
  rw [e1, e2, hd, hsg, getB ha, h]
  rfl
section
variable {st : St} {id a : Nat} {s : List UInt8} {line : Bool} {wr : Int} {acc : List Tok} {Q : Res → St → Prop}
theorem rtoken_ok (hid : id < st.size) (hs : s.length < 65536) (hacc : acc.length < 65536) (ha : a < s.length) (hQ : tkQ st id s acc Q (tokenP s a)) :
    CallA S 125 [.ptr id 0] (VL st id s a line (-1) acc) Q := by
  refine callA_body (by rfl) (by rfl) rfl ?_
  have hw0 : ∀ i : Nat, (if (-1 : Int) < 0 ∨ (i : Int) < -1 then (i : Int) else -1) = (i : Int) := fun i => if_pos (.inl (by decide))
  have e1 : isC s a 1 = (clsOf s[a].toNat == 1) := by unfold isC; rw [getB ha]
  have e2 : isC s a 2 = (clsOf s[a].toNat == 2) := by unfold isC; rw [getB ha]
  unfold tokenP at hQ
  cases c1 : (clsOf s[a].toNat == 1) with
  | true =>
    rw [e1, c1, if_pos rfl] at hQ
    have hr := fun (Q : Res → St → Prop) => run_eq (Q := Q) (st := st) (line := line) (wr := -1) (acc := acc) (s := s) (a := a) hid hs (by omega) true
    simp only [if_true] at hr
    have hre := runTo_le (p := fun i => isC s i 1 || isC s i 2) (s.length - a) a
    have hall := fun j h1 h2 => runTo_all (p := fun i => isC s i 1 || isC s i 2) (s.length - a) a j h1 h2
    generalize runTo (fun i => isC s i 1 || isC s i 2) (s.length - a) a = e at *
    try simp only at hQ
    by_cases h24 : e - a > 24
    · rw [if_pos h24] at hQ
      have g : ((e - a : Nat) : Int) > 24 := by omega
      simp only [b125, go_sem, VL_cells hid, getB ha, risLetter_eq, c1, hr, g, rfails_eq hid, hw0, VL_size, VL_trunc]
      exact hQ _ _ _
    · rw [if_neg h24] at hQ
      have g : ¬ ((e - a : Nat) : Int) > 24 := by omega
      have w1 : IntKind.i64.wrap ((a : Int) + ((e - a : Nat) : Int)) = ((e : Nat) : Int) := by rw [wrap_int _ (by omega) (by omega)]; omega
      have s1 : (a : Int) ≤ (e : Int) := by omega
      have s2 : (e : Int) ≤ (s.length : Int) := by omega
      have hcap := fun (st : St) (Q : Res → St → Prop) => caps_eq (st := st) (Q := Q) (sub s a e) (by rw [sub_length (by omega)]; omega)
      have hsub : (s.take e).drop a = sub s a e := rfl
      rw [upperS_word (by omega) hall] at hQ
      simp only [b125, go_sem, VL_cells hid, getB ha, risLetter_eq, c1, hr, g, w1, s1, s2, hsub, hcap, put_eq hid 0 _ (e - a) (show a + (e - a) < 1000000 by omega) (show acc.length < 1000000 by omega), VL_size, VL_trunc]
      rw [show a + (e - a) = e by omega]
      exact hQ
  | false =>
  rw [e1, c1] at hQ
  simp only [Bool.false_eq_true, if_false] at hQ
  cases c2 : (clsOf s[a].toNat == 2) with
  | true =>
    rw [e2, c2, if_pos rfl] at hQ
    have hr := fun (Q : Res → St → Prop) => run_eq (Q := Q) (st := st) (line := line) (wr := -1) (acc := acc) (s := s) (a := a) hid hs (by omega) false
    simp only [Bool.false_eq_true, if_false] at hr
    have hre := runTo_le (p := fun i => isC s i 2) (s.length - a) a
    generalize runTo (fun i => isC s i 2) (s.length - a) a = e at *
    try simp only at hQ
    by_cases h24 : e - a > 15
    · rw [if_pos h24] at hQ
      have g : ((e - a : Nat) : Int) > 15 := by omega
      simp only [b125, go_sem, VL_cells hid, getB ha, risLetter_eq, c1, risDigit_eq, isDig_is, c2, hr, g, rfails_eq hid, hw0, VL_size, VL_trunc]
      exact hQ _ _ _
    · rw [if_neg h24] at hQ
      have g : ¬ ((e - a : Nat) : Int) > 15 := by omega
      have w1 : IntKind.i64.wrap ((a : Int) + ((e - a : Nat) : Int)) = ((e : Nat) : Int) := by rw [wrap_int _ (by omega) (by omega)]; omega
      have s1 : (a : Int) ≤ (e : Int) := by omega
      have s2 : (e : Int) ≤ (s.length : Int) := by omega
      have hsub : (s.take e).drop a = sub s a e := rfl
      simp only [b125, go_sem, VL_cells hid, getB ha, risLetter_eq, c1, risDigit_eq, isDig_is, c2, hr, g, w1, s1, s2, hsub, put_eq hid 1 _ (e - a) (show a + (e - a) < 1000000 by omega) (show acc.length < 1000000 by omega), VL_size, VL_trunc]
      rw [show a + (e - a) = e by omega]
      exact hQ
  | false =>
  rw [e2, c2] at hQ
  simp only [Bool.false_eq_true, if_false, getB ha, Option.some.injEq] at hQ
  have q34 : ((s[a].toNat : Int) == 34) = decide (s[a] = 34) := beqi_byte _ 34 (by omega) (by omega)
  have q39 : ((s[a].toNat : Int) == 39) = decide (s[a] = 39) := beqi_byte _ 39 (by omega) (by omega)
  by_cases h34 : s[a] = 34
  · rw [if_pos h34] at hQ
    rw [decide_eq_true h34] at q34
    simp only [b125, go_sem, VL_cells hid, getB ha, risLetter_eq, c1, risDigit_eq, isDig_is, c2, q34]
    refine quoted_ok hid hs hacc ha (.inl h34) ?_
    rw [h34]
    cases ht : textP s a 34 with
    | tok t e =>
      rw [ht] at hQ
      simp only [tkQ, go_sem, VL_size, VL_trunc]
      exact hQ
    | fail p =>
      rw [ht] at hQ
      intro a' l' acc'
      simp only [go_sem, VL_size, VL_trunc]
      exact hQ _ _ _
  rw [if_neg h34] at hQ
  rw [decide_eq_false h34] at q34
  by_cases h39 : s[a] = 39
  · rw [if_pos h39] at hQ
    rw [decide_eq_true h39] at q39
    simp only [b125, go_sem, VL_cells hid, getB ha, risLetter_eq, c1, risDigit_eq, isDig_is, c2, q34, q39]
    refine quoted_ok hid hs hacc ha (.inr h39) ?_
    rw [h39]
    cases ht : textP s a 39 with
    | tok t e =>
      rw [ht] at hQ
      simp only [tkQ, go_sem, VL_size, VL_trunc]
      exact hQ
    | fail p =>
      rw [ht] at hQ
      intro a' l' acc'
      simp only [go_sem, VL_size, VL_trunc]
      exact hQ _ _ _
  rw [if_neg h39] at hQ
  rw [decide_eq_false h39] at q39
  have hda := fun (st : St) (Q : Res → St → Prop) => dateAt_eq (st := st) (Q := Q) (s := s) (a := a) hs (by omega)
  cases hdt : (dateP s a).2.2 with
  | true =>
    have hn := dateP_num hdt
    have h2 := dateP_two hdt
    rw [hdt, if_pos rfl] at hQ
    have hr1 : dateR s a = ((dateP s a).1, (((dateP s a).2.1.toNat : Nat) : Int)) := by unfold dateR; rw [hdt, if_pos rfl, ← hn.1]
    rw [hr1] at hda
    have g : (((dateP s a).2.1.toNat : Nat) : Int) > 0 := by omega
    simp only [b125, go_sem, VL_cells hid, getB ha, risLetter_eq, c1, risDigit_eq, isDig_is, c2, q34, q39, hda, g, put_eq hid 3 _ (dateP s a).2.1.toNat (show a + (dateP s a).2.1.toNat < 1000000 by omega) (show acc.length < 1000000 by omega), VL_size, VL_trunc]
    exact hQ
  | false =>
    rw [hdt] at hQ
    simp only [Bool.false_eq_true, if_false] at hQ
    have hr1 : dateR s a = ([], 0) := by unfold dateR; rw [hdt]; rfl
    rw [hr1] at hda
    have g : ¬ ((0 : Int) > 0) := by decide
    have hsa := fun (st : St) (Q : Res → St → Prop) => signAt_eq (st := st) (Q := Q) (s := s) (a := a) hs (by omega)
    cases hsg : signP s a with
    | none =>
      rw [hsg] at hQ hsa
      simp only [Option.getD_none] at hsa
      simp only [b125, go_sem, VL_cells hid, getB ha, risLetter_eq, c1, risDigit_eq, isDig_is, c2, q34, q39, hda, g, hsa, beqL_nn, rfails_eq hid, hw0, VL_size, VL_trunc]
      exact hQ _ _ _
    | some w =>
      rw [hsg] at hQ hsa
      simp only [Option.getD_some] at hsa
      obtain ⟨_, hm2, hm3⟩ := sign_mem hsg
      have hb : (w == []) = false := by cases w with | nil => simp at hm3 | cons => rfl
      simp only [b125, go_sem, VL_cells hid, getB ha, risLetter_eq, c1, risDigit_eq, isDig_is, c2, q34, q39, hda, g, hsa, hb, put_eq hid 4 _ w.length (show a + w.length < 1000000 by omega) (show acc.length < 1000000 by omega), VL_size, VL_trunc]
      exact hQ
def spQ (st : St) (id : Nat) (s : List UInt8) (acc : List Tok) (Q : Res → St → Prop) : Step → Prop
  | .tok t e l => Q (.ret (.tuple [])) (VL st id s e l (-1) (acc ++ [t]))
  | .go e l => Q (.ret (.tuple [])) (VL st id s e l (-1) acc)
  | .fail p => ∀ a' l' acc', Q (.ret (.tuple [])) (VL st id s a' l' (p : Int) acc')
def lineOk (s : List UInt8) (a : Nat) (line : Bool) : Prop := line = false → firstP s a = true ∨ s.length ≤ a ∨ s[a]? = some 10
theorem wrong_blank {s : List UInt8} {a e : Nat} (h : isC s a 4 = false) (hae : a < e) : wrongIn s (e - a) a = wrongIn s (e - (a + 1)) (a + 1) := by
  rw [show e - a = (e - (a + 1)) + 1 by omega, wrongIn, if_neg (by rw [h]; exact Bool.false_ne_true)]
theorem over_blanks {s : List UInt8} : ∀ (n i : Nat), i + n ≤ s.length → (∀ j, i ≤ j → j < i + n → isC s j 3 = true) → lineEnd s i = lineEnd s (i + n) ∧ wrongIn s (lineEnd s i - i) i = wrongIn s (lineEnd s (i + n) - (i + n)) (i + n)
  | 0, i, _, _ => ⟨rfl, rfl⟩
  | n + 1, i, hl, h => by
    have h3 := h i (Nat.le_refl _) (by omega)
    have hi : i < s.length := by omega
    have h10 : s[i] ≠ 10 := by
      have := cls3 h3
      rw [getB hi] at this
      exact fun e => this (by rw [e])
    have h4 : isC s i 4 = false := by
      unfold isC at h3 ⊢
      rw [getB hi] at h3 ⊢
      simp only at h3 ⊢
      rw [eq_of_beq h3]; rfl
    obtain ⟨g1, g2⟩ := over_blanks n (i + 1) (by omega) (fun j h1 h2 => h j (by omega) (by omega))
    have e1 := lineEnd_step hi h10
    have hgt := lineEnd_gt hi h10
    rw [show i + (n + 1) = i + 1 + n by omega]
    refine ⟨e1.trans g1, ?_⟩
    rw [wrong_blank h4 hgt, e1, g2]
theorem skipB_blanks {s : List UInt8} {a : Nat} (h : a ≤ s.length) : lineEnd s a = lineEnd s (skipB s a) ∧ wrongIn s (lineEnd s a - a) a = wrongIn s (lineEnd s (skipB s a) - skipB s a) (skipB s a) := by
  have hle := skipB_le h
  have := over_blanks (s := s) (skipB s a - a) a (by omega) (fun j h1 h2 => by
    unfold skipB at h2
    exact runTo_all (p := fun i => isC s i 3) (s.length - a) a j h1 (by omega))
  rwa [show a + (skipB s a - a) = skipB s a by omega] at this
theorem rstep_ok (hid : id < st.size) (hs : s.length < 65536) (hacc : acc.length < 65536) (ha : a < s.length) (hok : lineOk s a line) (hQ : spQ st id s acc Q (stepP s a line)) :
    CallA S 91 [.ptr id 0] (VL st id s a line (-1) acc) Q := by
  refine callA_body (by rfl) (by rfl) rfl ?_
  unfold stepP at hQ
  rw [getB ha] at hQ
  simp only [Option.some.injEq] at hQ
  have e10 : ((s[a].toNat : Int) == 10) = decide (s[a] = 10) := beqi_byte _ 10 (by omega) (by omega)
  have e42 : ((s[a].toNat : Int) == 42) = decide (s[a] = 42) := beqi_byte _ 42 (by omega) (by omega)
  have e59 : ((s[a].toNat : Int) == 59) = decide (s[a] = 59) := beqi_byte _ 59 (by omega) (by omega)
  have e3 : isC s a 3 = (clsOf s[a].toNat == 3) := by unfold isC; rw [getB ha]
  by_cases h10 : s[a] = 10
  · rw [if_pos h10] at hQ
    rw [decide_eq_true h10] at e10
    simp only [b91, go_sem, VL_cells hid, getB ha, e10, ends_eq hid (show acc.length < 1000000 by omega), wrap_one a (by omega), VL_set, VL_size, VL_trunc]
    cases line with
    | true => exact hQ
    | false => exact hQ
  rw [if_neg h10] at hQ
  rw [decide_eq_false h10] at e10
  cases c3 : (clsOf s[a].toNat == 3) with
  | true =>
    rw [e3, c3, if_pos rfl] at hQ
    simp only [b91, go_sem, VL_cells hid, getB ha, e10, risBlank_eq, c3, wrap_one a (by omega), VL_set, VL_size, VL_trunc]
    exact hQ
  | false =>
  rw [e3, c3] at hQ
  simp only [Bool.false_eq_true, if_false] at hQ
  have hend := fun (Q : Res → St → Prop) => rend_pos (st := st) (line := line) (wr := -1) (acc := acc) (Q := Q) (s := s) (a := a) hid hs a (by omega)
  have hle := lineEnd_le (s := s) (a := a) (by omega)
  have comm : (match commentP s a with | some p => Step.fail p | none => .go (lineEnd s a) line) = (match commentP s a with | some p => Step.fail p | none => .go (lineEnd s a) line) := rfl
  have fin : spQ st id s acc Q (match commentP s a with | some p => Step.fail p | none => .go (lineEnd s a) line) → Q (.ret (.tuple [])) (VL st id s (lineEnd s a) line (wrV (wrongIn s (lineEnd s a - a) a)) acc) := by
    intro h
    unfold commentP at h
    cases hc : wrongIn s (lineEnd s a - a) a with
    | none => rw [hc] at h; exact h
    | some p => rw [hc] at h; exact h _ _ _
  cases hcm : hasPre (s.drop a) [38, 38] with
  | true =>
    rw [if_pos (.inr hcm)] at hQ
    have hQ := fin hQ
    simp only [b91, go_sem, VL_cells hid, getB ha, e10, risBlank_eq, c3, risComment_eq hid hs ha, hcm, hend, skips_eq hid hs (lineEnd s a) hle.1 hle.2, VL_size, VL_trunc]
    exact hQ
  | false =>
  rw [hcm] at hQ
  simp only [Bool.false_eq_true, or_false] at hQ
  by_cases h42 : s[a] = 42
  · rw [decide_eq_true h42] at e42
    have hn59 : ¬ s[a] = 59 := by rw [h42]; decide
    rw [decide_eq_false hn59] at e59
    cases line with
    | false =>
      have hf : firstP s a = true := by
        rcases hok rfl with h | h | h
        · exact h
        · omega
        · rw [getB ha] at h; exact absurd (Option.some.inj h) h10
      rw [if_pos ⟨h42, rfl⟩] at hQ
      have hQ := fin hQ
      simp only [b91, go_sem, VL_cells hid, getB ha, e10, risBlank_eq, c3, risComment_eq hid hs ha, hcm, e42, rfirst_eq hid hs (show a ≤ s.length by omega), hf, hend, skips_eq hid hs (lineEnd s a) hle.1 hle.2, VL_size, VL_trunc]
      exact hQ
    | true =>
      rw [if_neg (by simp), if_neg hn59] at hQ
      simp only [b91, go_sem, VL_cells hid, getB ha, e10, risBlank_eq, c3, risComment_eq hid hs ha, hcm, e42, e59]
      refine rtoken_ok hid hs hacc ha ?_
      cases ht : tokenP s a with
      | tok t e =>
        rw [ht] at hQ
        simp only [tkQ, go_sem, VL_size, VL_trunc]
        exact hQ
      | fail p =>
        rw [ht] at hQ
        intro a' l' acc'
        simp only [go_sem, VL_size, VL_trunc]
        exact hQ _ _ _
  · rw [decide_eq_false h42] at e42
    rw [if_neg (fun h => h42 h.1)] at hQ
    by_cases h59 : s[a] = 59
    · rw [decide_eq_true h59] at e59
      rw [if_pos h59] at hQ
      cases hg : goesOn s a with
      | true =>
        rw [hg, if_pos rfl] at hQ
        have hsk := skipB_blanks (s := s) (a := a + 1) (by omega)
        have hle1 := lineEnd_le (s := s) (a := a + 1) (by omega)
        have hend1 := fun (Q : Res → St → Prop) => rend_pos (st := st) (line := line) (wr := -1) (acc := acc) (Q := Q) (s := s) (a := a + 1) hid hs (a + 1) (by omega)
        unfold commentP at hQ
        rw [← hsk.1] at hQ
        rw [show lineEnd s (a + 1) - skipB s (a + 1) = lineEnd s (skipB s (a + 1)) - skipB s (a + 1) by rw [hsk.1], ← hsk.2] at hQ
        simp only [b91, go_sem, VL_cells hid, getB ha, e10, risBlank_eq, c3, risComment_eq hid hs ha, hcm, e42, e59, rgoesOn_eq hid hs ha, hg, wrap_one a (by omega), VL_set, hend1, skips_eq hid hs (lineEnd s (a + 1)) hle1.1 hle1.2]
        by_cases hl : lineEnd s (a + 1) < s.length
        · have hl' : ((lineEnd s (a + 1) : Nat) : Int) < (s.length : Int) := by omega
          rw [if_pos hl] at hQ
          simp only [go_sem, hl', VL_cells hid, wrap_one (lineEnd s (a + 1)) (by omega), VL_set, VL_size, VL_trunc]
          cases hw : wrongIn s (lineEnd s (a + 1) - (a + 1)) (a + 1) with
          | none => rw [hw] at hQ; exact hQ
          | some p => rw [hw] at hQ; exact hQ _ _ _
        · have hl' : ¬ ((lineEnd s (a + 1) : Nat) : Int) < (s.length : Int) := by omega
          rw [if_neg hl] at hQ
          simp only [go_sem, hl', VL_cells hid, VL_size, VL_trunc]
          cases hw : wrongIn s (lineEnd s (a + 1) - (a + 1)) (a + 1) with
          | none => rw [hw] at hQ; exact hQ
          | some p => rw [hw] at hQ; exact hQ _ _ _
      | false =>
        rw [hg] at hQ
        simp only [Bool.false_eq_true, if_false] at hQ
        simp only [b91, go_sem, VL_cells hid, getB ha, e10, risBlank_eq, c3, risComment_eq hid hs ha, hcm, e42, e59, rgoesOn_eq hid hs ha, hg]
        refine rtoken_ok hid hs hacc ha ?_
        rw [semi_fails ha h59]
        intro a' l' acc'
        simp only [go_sem, VL_size, VL_trunc]
        exact hQ _ _ _
    · rw [decide_eq_false h59] at e59
      rw [if_neg h59] at hQ
      simp only [b91, go_sem, VL_cells hid, getB ha, e10, risBlank_eq, c3, risComment_eq hid hs ha, hcm, e42, e59]
      refine rtoken_ok hid hs hacc ha ?_
      cases ht : tokenP s a with
      | tok t e =>
        rw [ht] at hQ
        simp only [tkQ, go_sem, VL_size, VL_trunc]
        exact hQ
      | fail p =>
        rw [ht] at hQ
        intro a' l' acc'
        simp only [go_sem, VL_size, VL_trunc]
        exact hQ _ _ _
end
end Go.Proofs.YtelpkgbghhpgaaaGreatDoor.Sx
end
