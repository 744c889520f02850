/- TreeReads returns true for all texts whose data are not larger than a bound. The program's scanner: signs, dates, texts. The program's scanner: texts, tokens. The program's scanner: a token. The program's scanner: the next token. -/
import Derived.Test.YtelpkgbghhpgaaaGreatDoorR23
set_option linter.all false
section
set_option maxRecDepth 100000
namespace Go.Proofs.YtelpkgbghhpgaaaGreatDoor.Sx
section
variable {st : St} {id a : Nat} {s : List UInt8} {line begun : Bool} {bad : Int} {Q : Res → St → Prop} {o : HObj}
theorem toUpper_eq (t : List UInt8) (h : t.length < 1048576) : CallA S 159 [.str t] st Q = Q (.ret (.str (upperS t))) st := by
  refine callA_intr (n := 0) (k := iUpper) (by rfl) ?_ Q
  simp only [iUpper, if_pos h]
theorem signs_eq : CallA S 210 [] st Q = Q (.ret (.slice 1 (encStr allSigns) .no)) st := by
  refine callA_eq (fun Q hQ => ?_) Q
  refine callA_body (by rfl) (by rfl) rfl ?_
  have e : encStr allSigns = [[.str [46, 78, 85, 76, 76, 46]], [.str [46, 65, 78, 68, 46]], [.str [46, 78, 79, 84, 46]], [.str [46, 79, 82, 46]], [.str [46, 84, 46]], [.str [46, 70, 46]], [.str [58, 61]], [.str [61, 61]], [.str [60, 62]], [.str [33, 61]], [.str [60, 61]], [.str [62, 61]], [.str [45, 62]], [.str [40]], [.str [41]], [.str [91]], [.str [93]], [.str [123]], [.str [125]], [.str [44]], [.str [124]], [.str [58]], [.str [46]], [.str [61]], [.str [35]], [.str [60]], [.str [62]], [.str [43]], [.str [45]], [.str [42]], [.str [47]], [.str [37]], [.str [94]], [.str [36]], [.str [38]], [.str [63]], [.str [64]], [.str [33]]] := rfl
  rw [e] at hQ
  simp only [b210, go_sem, trunc_self]
  exact hQ
theorem signs_len : ∀ w ∈ allSigns, w.length ≤ 6 := by decide
def signQ (st : St) (id : Nat) (s : List UInt8) (a : Nat) (line begun : Bool) (bad : Int) (t : Tok) (Q : Res → St → Prop) : Prop :=
  match signP s a with
  | some w => Q (.ret (.tuple [.agg [.int .i64 4, .int .i64 t.at_, .str w], .bool true])) (W st id s (a + w.length) line begun bad)
  | none => Q (.ret (.tuple [.agg [.int .i64 4, .int .i64 t.at_, .str t.text], .bool false])) (W st id s a line begun (a : Int))
theorem sign_ok (hid : id < st.size) (hs : s.length < 65536) (ha : a ≤ s.length) (t : Tok) (hQ : signQ st id s a line begun bad t Q) :
    CallA S 163 [.ptr id 0, .agg [.int .i64 t.kind, .int .i64 t.at_, .str t.text]] (W st id s a line begun bad) Q := by
  refine callA_body (by rfl) (by rfl) rfl ?_
  unfold signQ signP at hQ
  simp only [b163, go_sem, signs_eq, encStr_length]
  refine wp_loop (fun n fr st' => ∃ i ser ser2, n + i = allSigns.length ∧ st' = W st id s a line begun bad ∧ allSigns.find? (signFits s a) = (allSigns.drop i).find? (signFits s a) ∧
    fr = ⟨[(0, .ptr id 0), (3, .lptr 0 ser 0), (4, .lptr 1 ser 0), (10, .slice 1 (encStr allSigns) .no), (11, .int .i64 (allSigns.length : Int)), (12, .int .i64 (i : Int))], [(ser, [.int .i64 4, .int .i64 t.at_, .str t.text]), (ser, [.int .i64 0, .int .i64 0, .str []])], [], ser2⟩) allSigns.length ⟨0, _, _, rfl, rfl, rfl, rfl⟩ ?_
  rintro n fr st' ⟨i, ser, ser2, hn, rfl, hf, rfl⟩
  rw [hf] at hQ
  by_cases hi : i < allSigns.length
  · have hi' : (i : Int) < (allSigns.length : Int) := by omega
    have hall : allSigns.length = 38 := rfl
    have hw := signs_len allSigns[i] (List.getElem_mem hi)
    have hel : (encStr allSigns)[i]? = some [.str allSigns[i]] := by simp [encStr, hi]
    generalize hgw : allSigns[i] = w at hw hel
    rw [List.drop_eq_getElem_cons hi, hgw] at hQ hf
    rw [List.find?_cons] at hQ hf
    have hadd := wrap_add a w.length (by omega)
    have hnext := wrap_one i (by omega)
    by_cases hle : ((a + w.length : Nat) : Int) ≤ (s.length : Int)
    · have h1 : (a : Int) ≤ ((a + w.length : Nat) : Int) := by omega
      have hsub : (s.take (a + w.length)).drop a = sub s a (a + w.length) := rfl
      have hlen : (sub s a (a + w.length)).length < 1048576 := by simp [sub]; omega
      have hfit : signFits s a w = (upperS (sub s a (a + w.length)) == w) := by
        unfold signFits
        rw [decide_eq_true (show a + w.length ≤ s.length by omega), Bool.true_and]
      rw [hfit] at hQ hf
      cases hb : (upperS (sub s a (a + w.length)) == w) with
      | true =>
        simp only [hb] at hQ
        simp only [b163l0, go_sem, hi', hel, W_cells hid, hadd, hle, h1, and_self, hsub, toUpper_eq _ hlen, hb, W_set, W_size, W_trunc]
        exact hQ
      | false =>
        simp only [hb] at hf
        simp only [b163l0, go_sem, hi', hel, W_cells hid, hadd, hle, h1, and_self, hsub, toUpper_eq _ hlen, hb, hnext]
        exact ⟨n - 1, by omega, i + 1, ser, _, by omega, hf, rfl⟩
    · have hfit : signFits s a w = false := by
        unfold signFits
        rw [decide_eq_false (show ¬ a + w.length ≤ s.length by omega), Bool.false_and]
      rw [hfit] at hf
      simp only [b163l0, go_sem, hi', hel, W_cells hid, hadd, hle, hnext]
      exact ⟨n - 1, by omega, i + 1, ser, _, by omega, hf, rfl⟩
  · have hi' : ¬ (i : Int) < (allSigns.length : Int) := by omega
    rw [List.drop_of_length_le (by omega)] at hQ
    simp only [b163l0, go_sem, hi', W_cells hid, W_set, W_size, W_trunc]
    exact hQ
theorem short_eq (hid : id < st.size) (t : Tok) (m : Int) :
    CallA S 160 [.ptr id 0, .agg [.int .i64 t.kind, .int .i64 t.at_, .str t.text], .int .i64 m] (W st id s a line begun bad) Q =
      Q (.ret (.bool (!decide ((t.text.length : Int) > m)))) (if (t.text.length : Int) > m then W st id s a line begun t.at_ else W st id s a line begun bad) := by
  refine callA_eq (fun Q hQ => ?_) Q
  refine callA_body (by rfl) (by rfl) rfl ?_
  by_cases h : (t.text.length : Int) > m
  · rw [if_pos h, decide_eq_true h] at hQ
    simp only [b160, go_sem, h, W_cells hid, W_set, W_size, W_trunc]
    exact hQ
  · rw [if_neg h, decide_eq_false h] at hQ
    simp only [b160, go_sem, h, W_size, W_trunc]
    exact hQ
theorem date_eq (hid : id < st.size) (hs : s.length < 65536) (ha : a ≤ s.length) :
    CallA S 162 [.ptr id 0] (W st id s a line begun bad) Q = Q (.ret (.tuple [.str (dateP s a).1, .int .i64 (dateP s a).2.1, .bool (dateP s a).2.2])) (W st id s a line begun bad) := by
  refine callA_eq (fun Q hQ => ?_) Q
  refine callA_body (by rfl) (by rfl) rfl ?_
  have h1 : (a : Int) ≤ (s.length : Int) := by omega
  have h2 : (s.length : Int) ≤ (s.length : Int) := by omega
  have ht : s.take s.length = s := List.take_length
  unfold dateP at hQ
  have htl : (s.drop a).length < 65536 := by simp; omega
  generalize hg : s.drop a = t at hQ htl
  cases hp : hasPre t [123, 125] with
  | true =>
    simp only [hp, if_true] at hQ
    simp only [b162, go_sem, W_cells hid, h1, h2, and_self, ht, hg, hasPrefix_eq, hp, W_size, W_trunc]
    exact hQ
  | false =>
    simp only [hp, Bool.false_eq_true, if_false] at hQ
    by_cases hl : (t.length : Int) < 13
    · have : dateLike t = false := by unfold dateLike; rw [decide_eq_false (by omega)]; rfl
      simp only [this, Bool.false_eq_true, if_false] at hQ
      simp only [b162, go_sem, W_cells hid, h1, h2, and_self, ht, hg, hasPrefix_eq, hp, hl, W_size, W_trunc]
      exact hQ
    · have q2 : (2 : Int) ≤ (t.length : Int) := by omega
      have q6 : (6 : Int) ≤ (t.length : Int) := by omega
      have q9 : (9 : Int) ≤ (t.length : Int) := by omega
      have q12 : (12 : Int) ≤ (t.length : Int) := by omega
      have g6 := getB (s := t) (i := 6) (by omega)
      have g9 := getB (s := t) (i := 9) (by omega)
      have g12 := getB (s := t) (i := 12) (by omega)
      have e6 : ((t[6].toNat : Int) != 45) = !decide (t[6] = 45) := congrArg (!·) (beq_byte t[6] 45 (by omega))
      have e9 : ((t[9].toNat : Int) != 45) = !decide (t[9] = 45) := congrArg (!·) (beq_byte t[9] 45 (by omega))
      have e12 : ((t[12].toNat : Int) != 125) = !decide (t[12] = 125) := congrArg (!·) (beq_byte t[12] 125 (by omega))
      have hlike : dateLike t = (t.take 2 == [123, 94] && decide (t[6] = 45) && decide (t[9] = 45) && decide (t[12] = 125)) := by
        unfold dateLike
        rw [decide_eq_true (by omega), Bool.true_and, g6, g9, g12]
        simp only [Option.some.injEq]
      generalize t[6] = b6 at *
      generalize t[9] = b9 at *
      generalize t[12] = b12 at *
      rw [hlike] at hQ
      cases f2 : (t.take 2 == [123, 94]) with
      | false =>
        simp only [f2, Bool.false_and, Bool.false_eq_true, if_false] at hQ
        simp only [b162, go_sem, W_cells hid, h1, h2, and_self, ht, hg, hasPrefix_eq, hp, hl, q2, f2, W_size, W_trunc]
        exact hQ
      | true =>
        by_cases f6 : b6 = 45
        case neg =>
          rw [decide_eq_false f6] at e6 hQ
          simp only [f2, Bool.and_false, Bool.false_and, Bool.false_eq_true, if_false, Bool.not_false] at hQ e6
          simp only [b162, go_sem, W_cells hid, h1, h2, and_self, ht, hg, hasPrefix_eq, hp, hl, q2, f2, g6, e6, W_size, W_trunc]
          exact hQ
        rw [decide_eq_true f6] at e6 hQ
        simp only [Bool.not_true] at e6
        by_cases f9 : b9 = 45
        case neg =>
          rw [decide_eq_false f9] at e9 hQ
          simp only [f2, Bool.and_false, Bool.false_and, Bool.false_eq_true, if_false, Bool.not_false] at hQ e9
          simp only [b162, go_sem, W_cells hid, h1, h2, and_self, ht, hg, hasPrefix_eq, hp, hl, q2, f2, g6, e6, g9, e9, W_size, W_trunc]
          exact hQ
        rw [decide_eq_true f9] at e9 hQ
        simp only [Bool.not_true] at e9
        by_cases f12 : b12 = 125
        case neg =>
          rw [decide_eq_false f12] at e12 hQ
          simp only [f2, Bool.and_false, Bool.false_and, Bool.false_eq_true, if_false, Bool.not_false] at hQ e12
          simp only [b162, go_sem, W_cells hid, h1, h2, and_self, ht, hg, hasPrefix_eq, hp, hl, q2, f2, g6, e6, g9, e9, g12, e12, W_size, W_trunc]
          exact hQ
        rw [decide_eq_true f12] at e12 hQ
        simp only [Bool.not_true] at e12
        simp only [f2, Bool.and_self, if_true] at hQ
        have s1 : (t.take 6).drop 2 = sub t 2 6 := rfl
        have s2 : (t.take 9).drop 7 = sub t 7 9 := rfl
        have s3 : (t.take 12).drop 10 = sub t 10 12 := rfl
        have l1 : (sub t 2 6).length = 4 := by simp [sub]; omega
        have l2 : (sub t 7 9).length = 2 := by simp [sub]; omega
        have l3 : (sub t 10 12).length = 2 := by simp [sub]; omega
        have l12 : (sub t 2 6 ++ sub t 7 9).length = 6 := by simp [l1, l2]
        have hd : sub t 2 6 ++ sub t 7 9 ++ sub t 10 12 = dateDigits t := rfl
        have hdl : (dateDigits t).length < 65536 := by unfold dateDigits; simp [l1, l2, l3]
        have i26 : (2 : Int) ≤ 6 := by omega
        have i79 : (7 : Int) ≤ 9 := by omega
        have i1012 : (10 : Int) ≤ 12 := by omega
        simp only [b162, go_sem, W_cells hid, h1, h2, and_self, ht, hg, hasPrefix_eq, hp, hl, q2, f2, g6, e6, g9, e9, g12, e12, q6, q9, q12, s1, s2, s3, l1, l2, l3, l12, hd, unstamp_eq _ hdl]
        cases hok : (dateDigits t == blanks8 || dayOk (dateDigits t)) with
        | false =>
          simp only [hok, Bool.false_and] at hQ
          simp only [hok, go_sem, W_size, W_trunc]
          exact hQ
        | true =>
          simp only [hok, Bool.true_and] at hQ
          simp only [hok, go_sem, W_size, W_trunc]
          exact hQ
end
end Go.Proofs.YtelpkgbghhpgaaaGreatDoor.Sx
end
section
set_option maxRecDepth 100000
namespace Go.Proofs.YtelpkgbghhpgaaaGreatDoor.Sx
theorem runTo_all {p : Nat → Bool} : ∀ (n a i : Nat), a ≤ i → i < runTo p n a → p i = true
  | 0, a, i, h1, h2 => by simp only [runTo] at h2; omega
  | n + 1, a, i, h1, h2 => by
    simp only [runTo] at h2
    split at h2
    · rename_i hp
      by_cases e : i = a
      · subst e; exact hp
      · exact runTo_all n (a + 1) i (by omega) h2
    · omega
theorem clsOf_ascii {c : Nat} (h : clsOf c = 1 ∨ clsOf c = 2) : c < 128 := by
  unfold clsOf at h
  repeat' split at h
  all_goals omega
theorem sub_get {s : List UInt8} {a e i : Nat} (h : i < e - a) (he : e ≤ s.length) : (sub s a e)[i]? = s[a + i]? := by
  unfold sub
  rw [List.getElem?_drop, List.getElem?_take, if_pos (by omega)]
theorem sub_length {s : List UInt8} {a e : Nat} (he : e ≤ s.length) : (sub s a e).length = e - a := by simp [sub]; omega
theorem mem_sub {s : List UInt8} {a e : Nat} (he : e ≤ s.length) {b : UInt8} (h : b ∈ sub s a e) : ∃ i, a ≤ i ∧ i < e ∧ s[i]? = some b := by
  obtain ⟨i, hi, rfl⟩ := List.getElem_of_mem h
  rw [sub_length he] at hi
  refine ⟨a + i, by omega, by omega, ?_⟩
  rw [← sub_get hi he]
  exact List.getElem?_eq_getElem _
theorem word_ascii {s : List UInt8} {a e : Nat} (he : e ≤ s.length) (h : ∀ i, a ≤ i → i < e → (isC s i 1 || isC s i 2) = true) : isAscii (sub s a e) = true := by
  unfold isAscii
  rw [List.all_eq_true]
  intro b hb
  obtain ⟨i, h1, h2, h3⟩ := mem_sub he hb
  have := h i h1 h2
  unfold isC at this
  rw [h3] at this
  simp only [Bool.or_eq_true, beq_iff_eq] at this
  have := clsOf_ascii this
  simp only [decide_eq_true_eq]
  exact this
theorem upperS_word {s : List UInt8} {a e : Nat} (he : e ≤ s.length) (h : ∀ i, a ≤ i → i < e → (isC s i 1 || isC s i 2) = true) : upperS (sub s a e) = (sub s a e).map upB := by
  unfold upperS; rw [if_pos (word_ascii he h)]
section
variable {st : St} {id a : Nat} {s : List UInt8} {line begun : Bool} {bad : Int} {Q : Res → St → Prop} {o : HObj}
def failQ (st : St) (id : Nat) (s : List UInt8) (p : Nat) (Q : Res → St → Prop) : Prop := ∀ (k m : Int) (t : List UInt8) (a : Nat) (l b : Bool), Q (.ret (.tuple [.agg [.int .i64 k, .int .i64 m, .str t], .bool false])) (W st id s a l b (p : Int))
def tokQ (st : St) (id : Nat) (s : List UInt8) (line begun : Bool) (bad : Int) (Q : Res → St → Prop) : TR → Prop
  | .tok t e => Q (.ret (.tuple [.agg [.int .i64 t.kind, .int .i64 t.at_, .str t.text], .bool true])) (W st id s e line begun bad)
  | .fail p => failQ st id s p Q
theorem text_ok (hid : id < st.size) (hs : s.length < 65536) (ha : a < s.length) (t : Tok) (htat : t.at_ = (a : Int)) (q : UInt8) (hq : s[a]? = some q) (hqn : q ≠ 10) (hQ : tokQ st id s line begun bad Q (textP s a q)) :
    CallA S 161 [.ptr id 0, .agg [.int .i64 t.kind, .int .i64 t.at_, .str t.text]] (W st id s a line begun bad) Q := by
  refine callA_body (by rfl) (by rfl) rfl ?_
  have hle := lineEnd_le (s := s) (a := a) (by omega)
  have hgt : a + 1 ≤ lineEnd s a := by
    unfold lineEnd
    rw [List.drop_eq_getElem_cons ha]
    have hq' : s[a] = q := by rw [getB ha] at hq; exact Option.some.inj hq
    rw [hq']
    simp only [indexB, hqn, if_false]
    rcases indexB_lt (b := 10) (s.drop (a + 1)) (0 + 1) with h | ⟨i, h1, h2⟩
    · rw [h]; simp; omega
    · rw [h2, if_pos (by omega)]; omega
  have c1 : ((a + 1 : Nat) : Int) ≤ (lineEnd s a : Int) := by omega
  have c2 : (lineEnd s a : Int) ≤ (s.length : Int) := by omega
  have hsub : (s.take (lineEnd s a)).drop (a + 1) = sub s (a + 1) (lineEnd s a) := rfl
  have hwa := wrap_one a (by omega)
  have hx := fun Q => indexByte_eq (st := W st id s a line begun bad) (Q := Q) (sub s (a + 1) (lineEnd s a)) q
  unfold textP at hQ
  have hlen : (sub s (a + 1) (lineEnd s a)).length = lineEnd s a - (a + 1) := sub_length hle.2
  rcases indexB_lt (b := q) (sub s (a + 1) (lineEnd s a)) 0 with h | ⟨k, hk, h⟩
  · have hneg : (-1 : Int) < 0 := by omega
    simp only [h, hneg, if_true] at hQ
    simp only [b161, go_sem, W_cells hid, lineEnd_eq hid hs a (Nat.le_of_lt ha), hwa, c1, c2, and_self, hsub, hq, hx, h, hneg, W_set, W_size, W_trunc]
    exact hQ _ _ _ _ _ _
  · rw [Nat.zero_add] at h
    rw [hlen] at hk
    have hneg : ¬ (k : Int) < 0 := by omega
    simp only [h, hneg, if_false, Int.toNat_natCast] at hQ
    have hak := wrap_add (a + 1) k (by omega)
    have c3 : ((a + 1 : Nat) : Int) ≤ ((a + 1 + k : Nat) : Int) := by omega
    have c4 : ((a + 1 + k : Nat) : Int) ≤ (s.length : Int) := by omega
    have hsub2 : (s.take (a + 1 + k)).drop (a + 1) = sub s (a + 1) (a + 1 + k) := rfl
    have hlen2 : (sub s (a + 1) (a + 1 + k)).length = k := by rw [sub_length (by omega)]; omega
    simp only [b161, go_sem, W_cells hid, lineEnd_eq hid hs a (Nat.le_of_lt ha), hwa, c1, c2, and_self, hsub, hq, hx, h, hneg, hak, c3, c4, hsub2, hlen2, htat]
    refine wp_loop (fun n fr st' => ∃ i ser ser2 ser3, n + i = k ∧ st' = W st id s a line begun bad ∧ wrongIn s k (a + 1) = wrongIn s n (a + 1 + i) ∧
      fr = ⟨[(0, .ptr id 0), (3, .lptr 0 ser 0), (4, .lptr 1 ser2 0), (7, .int .i64 (k : Int)), (67, .int .i64 (k : Int)), (68, .int .i64 (i : Int))], [(ser, [.int .i64 2, .int .i64 (a : Int), .str (sub s (a + 1) (a + 1 + k))]), (ser2, [.int .i64 0, .int .i64 0, .str []])], [], ser3⟩) k ⟨0, _, _, _, rfl, rfl, rfl, rfl⟩ ?_
    rintro n fr st' ⟨i, ser, ser2, ser3, hn, rfl, hr, rfl⟩
    rw [hr] at hQ
    cases n with
    | zero =>
      have hi : ¬ (i : Int) < (k : Int) := by omega
      simp only [wrongIn] at hQ
      have w2 : IntKind.i64.wrap ((k : Int) + 2) = ((k + 2 : Nat) : Int) := wrap_add k 2 (by omega)
      have w3 := wrap_add a (k + 2) (by omega)
      simp only [b161l0, go_sem, hi, W_cells hid, w2, w3, W_set, W_size, W_trunc]
      exact hQ
    | succ n =>
      have hi : (i : Int) < (k : Int) := by omega
      have hget : (sub s (a + 1) (a + 1 + k))[i]? = some s[a + 1 + i] := by
        rw [sub_get (by omega) (by omega)]
        exact getB (by omega)
      have hb := s[a + 1 + i].toNat_lt
      have b0 : (s[a + 1 + i].toNat : Int) < ((256 : Nat) : Int) := by omega
      have hcls : isC s (a + 1 + i) 4 = (clsOf s[a + 1 + i].toNat == 4) := by unfold isC; rw [getB (by omega)]
      simp only [wrongIn] at hr hQ
      rw [hcls] at hr hQ
      have hni := wrap_one i (by omega)
      have hwi := wrap_add (a + 1) i (by omega)
      cases hc : (clsOf s[a + 1 + i].toNat == 4) with
      | true =>
        simp only [hc, if_true] at hQ
        simp only [b161l0, go_sem, hi, W_cells hid, hget, b0, and_self, Nat.mul_one, sc_cls hb, hc, hwa, hwi, W_set, W_size, W_trunc]
        exact hQ _ _ _ _ _ _
      | false =>
        simp only [hc, Bool.false_eq_true, if_false] at hr
        simp only [b161l0, go_sem, hi, W_cells hid, hget, b0, and_self, Nat.mul_one, sc_cls hb, hc, hni]
        exact ⟨n, Nat.lt_succ_self n, i + 1, ser, ser2, _, by omega, hr, rfl⟩
end
end Go.Proofs.YtelpkgbghhpgaaaGreatDoor.Sx
end
section
set_option maxRecDepth 100000
namespace Go.Proofs.YtelpkgbghhpgaaaGreatDoor.Sx
section
variable {st : St} {id a : Nat} {s : List UInt8} {line begun : Bool} {bad : Int} {Q : Res → St → Prop} {o : HObj}
theorem token_ok (hid : id < st.size) (hs : s.length < 65536) (ha : a < s.length) (h10 : s[a]? ≠ some 10) (hQ : tokQ st id s line begun bad Q (tokenP s a)) :
    CallA S 114 [.ptr id 0] (W st id s a line begun bad) Q := by
  refine callA_body (by rfl) (by rfl) rfl ?_
  unfold tokenP at hQ
  cases h1 : isC s a 1 with
  | true =>
    simp only [h1, if_true] at hQ
    simp only [b114, go_sem, W_cells hid, is_eq hid hs, h1]
    refine wp_loop (fun n fr st' => ∃ i ser ex, a ≤ i ∧ n + i = s.length ∧ st' = W st id s i line begun bad ∧ runTo (fun i => isC s i 1 || isC s i 2) (s.length - a) a = runTo (fun i => isC s i 1 || isC s i 2) n i ∧
      fr = ⟨[(0, .ptr id 0), (2, .lptr 0 1 0), (4, .int .i64 (a : Int)), (5, .lptr 1 3 0)] ++ ex, [(1, [.int .i64 0, .int .i64 0, .str []]), (3, [.int .i64 0, .int .i64 (a : Int), .str []])], [], ser⟩) (s.length - a) ⟨a, _, [_], Nat.le_refl _, by omega, rfl, rfl, rfl⟩ ?_
    rintro n fr st' ⟨i, ser, ex, hai, hn, rfl, hr, rfl⟩
    cases hp : (isC s i 1 || isC s i 2) with
    | true =>
      have hlt : i < s.length := by
        rcases Bool.or_eq_true _ _ ▸ hp with h | h
        · exact isC_lt h
        · exact isC_lt h
      cases n with
      | zero => omega
      | succ n =>
        simp only [runTo, hp, if_true] at hr
        cases hl : isC s i 1 with
        | true =>
          simp only [b114l0, go_sem, W_cells hid, is_eq hid hs, hl, wrap_one i (by omega), W_set]
          exact ⟨n, Nat.lt_succ_self n, i + 1, _, [], by omega, by omega, rfl, hr, rfl⟩
        | false =>
          rw [hl, Bool.false_or] at hp
          simp only [b114l0, go_sem, W_cells hid, is_eq hid hs, hl, hp, wrap_one i (by omega), W_set]
          exact ⟨n, Nat.lt_succ_self n, i + 1, _, [], by omega, by omega, rfl, hr, rfl⟩
    | false =>
      have hk : runTo (fun i => isC s i 1 || isC s i 2) (s.length - a) a = i := by rw [hr]; cases n <;> simp only [runTo, hp, Bool.false_eq_true, if_false]
      have hile : i ≤ s.length := by omega
      have hall : ∀ j, a ≤ j → j < i → (isC s j 1 || isC s j 2) = true := fun j h1 h2 => runTo_all (p := fun i => isC s i 1 || isC s i 2) (s.length - a) a j h1 (by rw [hk]; exact h2)
      have hup := upperS_word hile hall
      have hlen : (upperS (sub s a i)).length = i - a := by rw [hup, List.length_map, sub_length hile]
      rw [hk] at hQ
      have hl1 : isC s i 1 = false := (Bool.or_eq_false_iff.1 hp).1
      have hl2 : isC s i 2 = false := (Bool.or_eq_false_iff.1 hp).2
      have c1 : (a : Int) ≤ (i : Int) := by omega
      have c2 : (i : Int) ≤ (s.length : Int) := by omega
      have hsub : (s.take i).drop a = sub s a i := rfl
      have hsl : (sub s a i).length < 1048576 := by rw [sub_length hile]; omega
      have hsh := fun (m : Int) (Q : Res → St → Prop) => short_eq (st := st) (id := id) (s := s) (a := i) (line := line) (begun := begun) (bad := bad) (Q := Q) hid ⟨0, (a : Int), upperS (sub s a i)⟩ m
      simp only [hlen] at hsh
      by_cases hlong : i - a > 24
      · have hlong' : ((i - a : Nat) : Int) > 24 := by omega
        simp only [hlong, if_true] at hQ
        simp only [b114l0, go_sem, W_cells hid, is_eq hid hs, hl1, hl2, c1, c2, and_self, hsub, toUpper_eq _ hsl, hsh, hlong', W_size, W_trunc]
        exact hQ _ _ _ _ _ _
      · have hlong' : ¬ ((i - a : Nat) : Int) > 24 := by omega
        simp only [hlong, if_false] at hQ
        simp only [b114l0, go_sem, W_cells hid, is_eq hid hs, hl1, hl2, c1, c2, and_self, hsub, toUpper_eq _ hsl, hsh, hlong', W_size, W_trunc]
        exact hQ
  | false =>
    simp only [h1, Bool.false_eq_true, if_false] at hQ
    cases h2 : isC s a 2 with
    | true =>
      simp only [h2, if_true] at hQ
      simp only [b114, go_sem, W_cells hid, is_eq hid hs, h1, h2]
      refine wp_loop (fun n fr st' => ∃ i ser ex, a ≤ i ∧ n + i = s.length ∧ st' = W st id s i line begun bad ∧ runTo (fun i => isC s i 2) (s.length - a) a = runTo (fun i => isC s i 2) n i ∧
        fr = ⟨[(0, .ptr id 0), (2, .lptr 0 1 0), (4, .int .i64 (a : Int)), (5, .lptr 1 3 0)] ++ ex, [(1, [.int .i64 0, .int .i64 0, .str []]), (3, [.int .i64 0, .int .i64 (a : Int), .str []])], [], ser⟩) (s.length - a) ⟨a, _, [_], Nat.le_refl _, by omega, rfl, rfl, rfl⟩ ?_
      rintro n fr st' ⟨i, ser, ex, hai, hn, rfl, hr, rfl⟩
      cases hp : isC s i 2 with
      | true =>
        have hlt := isC_lt hp
        cases n with
        | zero => omega
        | succ n =>
          simp only [runTo, hp, if_true] at hr
          simp only [b114l1, go_sem, W_cells hid, is_eq hid hs, hp, wrap_one i (by omega), W_set]
          exact ⟨n, Nat.lt_succ_self n, i + 1, _, [], by omega, by omega, rfl, hr, rfl⟩
      | false =>
        have hk : runTo (fun i => isC s i 2) (s.length - a) a = i := by rw [hr]; cases n <;> simp only [runTo, hp, Bool.false_eq_true, if_false]
        have hile : i ≤ s.length := by omega
        rw [hk] at hQ
        have hlen : (sub s a i).length = i - a := sub_length hile
        have c1 : (a : Int) ≤ (i : Int) := by omega
        have c2 : (i : Int) ≤ (s.length : Int) := by omega
        have hsub : (s.take i).drop a = sub s a i := rfl
        have hsh := fun (m : Int) (Q : Res → St → Prop) => short_eq (st := st) (id := id) (s := s) (a := i) (line := line) (begun := begun) (bad := bad) (Q := Q) hid ⟨1, (a : Int), sub s a i⟩ m
        simp only [hlen] at hsh
        by_cases hlong : i - a > 15
        · have hlong' : ((i - a : Nat) : Int) > 15 := by omega
          simp only [hlong, if_true] at hQ
          simp only [b114l1, go_sem, W_cells hid, is_eq hid hs, hp, c1, c2, and_self, hsub, hsh, hlong', W_size, W_trunc]
          exact hQ _ _ _ _ _ _
        · have hlong' : ¬ ((i - a : Nat) : Int) > 15 := by omega
          simp only [hlong, if_false] at hQ
          simp only [b114l1, go_sem, W_cells hid, is_eq hid hs, hp, c1, c2, and_self, hsub, hsh, hlong', W_size, W_trunc]
          exact hQ
    | false =>
      simp only [h2, Bool.false_eq_true, if_false] at hQ
      have hg := getB ha
      have e34 : ((s[a].toNat : Int) == 34) = decide (s[a] = 34) := beq_byte s[a] 34 (by omega)
      have e39 : ((s[a].toNat : Int) == 39) = decide (s[a] = 39) := beq_byte s[a] 39 (by omega)
      rw [hg] at hQ
      simp only [Option.some.injEq] at hQ
      have htx := fun (q : UInt8) (hq : s[a] = q) (hqn : q ≠ 10) (Q : Res → St → Prop) hQ => text_ok (st := st) (id := id) (s := s) (a := a) (line := line) (begun := begun) (bad := bad) (Q := Q) hid hs ha ⟨0, (a : Int), []⟩ rfl q (by rw [hg, hq]) hqn hQ
      have tq : ∀ (r : TR) (Q' : Res → St → Prop), tokQ st id s line begun bad Q r → (∀ k m t w a l b bd, Q (.ret (.tuple [.agg [.int .i64 k, .int .i64 m, .str t], .bool w])) (W st id s a l b bd) → Q' (.ret (.tuple [.agg [.int .i64 k, .int .i64 m, .str t], .bool w])) (W st id s a l b bd)) → tokQ st id s line begun bad Q' r := by
        intro r Q' h hq
        cases r with
        | tok t e => exact hq _ _ _ _ _ _ _ _ h
        | fail p => exact fun k m t a l b => hq _ _ _ _ _ _ _ _ (h k m t a l b)
      by_cases c34 : s[a] = 34
      · rw [decide_eq_true c34] at e34
        rw [if_pos c34] at hQ
        simp only [b114, go_sem, W_cells hid, is_eq hid hs, h1, h2, hg, e34]
        refine htx 34 c34 (by decide) _ (tq _ _ hQ (fun k m t w a' l' b' bd hq => ?_))
        simp only [go_sem, W_size, W_trunc]
        exact hq
      · rw [decide_eq_false c34] at e34
        rw [if_neg c34] at hQ
        by_cases c39 : s[a] = 39
        · rw [decide_eq_true c39] at e39
          rw [if_pos c39] at hQ
          simp only [b114, go_sem, W_cells hid, is_eq hid hs, h1, h2, hg, e34, e39]
          refine htx 39 c39 (by decide) _ (tq _ _ hQ (fun k m t w a' l' b' bd hq => ?_))
          simp only [go_sem, W_size, W_trunc]
          exact hq
        · rw [decide_eq_false c39] at e39
          rw [if_neg c39] at hQ
          cases hd : (dateP s a).2.2 with
          | true =>
            simp only [hd, if_true] at hQ
            have hn : (dateP s a).2.1 = 2 ∨ (dateP s a).2.1 = 13 := by
              unfold dateP at hd ⊢
              split
              · exact .inl rfl
              · split
                · exact .inr rfl
                · rename_i h1 h2; rw [if_neg h1, if_neg h2] at hd; cases hd
            have hw : IntKind.i64.wrap ((a : Int) + (dateP s a).2.1) = ((a + (dateP s a).2.1.toNat : Nat) : Int) := by
              rcases hn with h | h <;> rw [h]
              · exact wrap_add a 2 (by omega)
              · exact wrap_add a 13 (by omega)
            simp only [b114, go_sem, W_cells hid, is_eq hid hs, h1, h2, hg, e34, e39, date_eq hid hs (Nat.le_of_lt ha), hd, hw, W_set, W_size, W_trunc]
            exact hQ
          | false =>
            simp only [hd, Bool.false_eq_true, if_false] at hQ
            simp only [b114, go_sem, W_cells hid, is_eq hid hs, h1, h2, hg, e34, e39, date_eq hid hs (Nat.le_of_lt ha), hd]
            refine sign_ok hid hs (Nat.le_of_lt ha) ⟨0, (a : Int), []⟩ ?_
            unfold signQ
            cases hsg : signP s a with
            | some w =>
              simp only [hsg] at hQ
              simp only [go_sem, W_size, W_trunc]
              exact hQ
            | none =>
              simp only [hsg] at hQ
              simp only [go_sem, W_size, W_trunc]
              exact hQ _ _ _ _ _ _
end
end Go.Proofs.YtelpkgbghhpgaaaGreatDoor.Sx
end
section
set_option maxRecDepth 100000
namespace Go.Proofs.YtelpkgbghhpgaaaGreatDoor.Sx
inductive NR where
  | tok (t : Tok) (a : Nat) (line : Bool)
  | fail (a : Nat)
  | done
  | out
def nxN (s : List UInt8) : Nat → Nat → Bool → NR
  | 0, _, _ => .out
  | n + 1, a, line =>
    if s.length ≤ a then (if line = true then .tok ⟨5, a, []⟩ a false else .done)
    else match stepP s a line with
      | .tok t e l => .tok t e l
      | .go e l => nxN s n e l
      | .fail p => .fail p
theorem cls3 {s : List UInt8} {a : Nat} (h : isC s a 3 = true) : s[a]? ≠ some 10 := by
  intro e
  unfold isC at h
  rw [e] at h
  exact absurd h (by decide)
theorem step_blank {s : List UInt8} {a : Nat} {line : Bool} (h : isC s a 3 = true) : stepP s a line = .go (a + 1) line := by
  unfold stepP
  rw [if_neg (cls3 h), if_pos h]
theorem nx_skip {s : List UInt8} {line : Bool} : ∀ (j n a : Nat), nxN s n a line ≠ .out → ∃ m, m ≤ n ∧ nxN s n a line = nxN s m (runTo (fun i => isC s i 3) j a) line
  | 0, n, a, _ => ⟨n, Nat.le_refl _, rfl⟩
  | j + 1, n, a, h => by
    simp only [runTo]
    split
    · rename_i hb
      cases n with
      | zero => exact absurd rfl h
      | succ n =>
        have hlt := isC_lt hb
        have e : nxN s (n + 1) a line = nxN s n (a + 1) line := by
          simp only [nxN]
          rw [if_neg (by omega), step_blank hb]
        rw [e] at h ⊢
        obtain ⟨m, h1, h2⟩ := nx_skip j n (a + 1) h
        exact ⟨m, by omega, h2⟩
    · exact ⟨n, Nat.le_refl _, rfl⟩
theorem runTo_end {p : Nat → Bool} {L : Nat} (hp : ∀ i, L ≤ i → p i = false) : ∀ (n a : Nat), L ≤ a + n → p (runTo p n a) = false
  | 0, a, h => hp a (by omega)
  | n + 1, a, h => by
    simp only [runTo]
    split
    · exact runTo_end hp n (a + 1) (by omega)
    · rename_i h1; simpa using h1
theorem skipB_end {s : List UInt8} {a : Nat} : isC s (skipB s a) 3 = false := by
  unfold skipB
  refine runTo_end (p := fun i => isC s i 3) (L := s.length) (fun i hi => ?_) _ a (by omega)
  unfold isC
  rw [List.getElem?_eq_none hi]
section
variable {st : St} {id a : Nat} {s : List UInt8} {line begun : Bool} {bad : Int} {Q : Res → St → Prop} {o : HObj}
def nxQ (st : St) (id : Nat) (s : List UInt8) (bad : Int) (Q : Res → St → Prop) : NR → Prop
  | .tok t e l => Q (.ret (.tuple [.agg [.int .i64 t.kind, .int .i64 t.at_, .str t.text], .bool true])) (W st id s e l l bad)
  | .fail p => failQ st id s p Q
  | .done => Q (.ret (.tuple [.agg [.int .i64 0, .int .i64 0, .str []], .bool false])) (W st id s s.length false false bad)
  | .out => False
theorem next_ok (hid : id < st.size) (hs : s.length < 65536) (ha : a ≤ s.length) (n : Nat) (hQ : nxQ st id s bad Q (nxN s n a line)) :
    CallA S 84 [.ptr id 0] (W st id s a line line bad) Q := by
  refine callA_body (by rfl) (by rfl) rfl ?_
  simp only [b84, go_sem]
  refine wp_loop (fun n fr st' => ∃ a line x ex ser, a ≤ s.length ∧ st' = W st id s a line line bad ∧ nxQ st id s bad Q (nxN s n a line) ∧
    fr = ⟨(0, .ptr id 0) :: (2, .lptr 0 1 0) :: ex, [(1, [.int .i64 0, .int .i64 0, .str []]), x], [], ser⟩) n ⟨a, line, _, [], _, ha, rfl, hQ, rfl⟩ ?_
  clear hQ ha
  rintro n fr st' ⟨a0, line, x, ex, ser, ha0, rfl, hQ, rfl⟩
  obtain ⟨x1, x2⟩ := x
  have hno : nxN s n a0 line ≠ .out := fun e => by rw [e] at hQ; exact hQ
  obtain ⟨m, hmn, hm⟩ := nx_skip (s.length - a0) n a0 hno
  have hk := skipB_le (s := s) (a := a0) ha0
  have hend := skipB_end (s := s) (a := a0)
  rw [hm] at hQ hno
  change nxQ st id s bad Q (nxN s m (skipB s a0) line) at hQ
  change nxN s m (skipB s a0) line ≠ .out at hno
  generalize hsk : skipB s a0 = a at *
  have hskip := fun Q => skip_eq (st := st) (id := id) (s := s) (a := a0) (line := line) (begun := line) (bad := bad) (Q := Q) hid hs ha0
  rw [hsk] at hskip
  cases m with
  | zero => exact absurd rfl hno
  | succ m =>
    simp only [nxN] at hQ
    by_cases hl : s.length ≤ a
    · have hae : a = s.length := by omega
      have e : ((a : Int) == (s.length : Int)) = true := by rw [beq_iff_eq]; omega
      rw [if_pos hl] at hQ
      have hen := fun Q => end_eq' (st := st) (id := id) (s := s) (a := a) (line := line) (bad := bad) (Q := Q) hid hs hk.2
      simp only [hae, decide_true, Bool.or_true, if_true] at hen
      cases line with
      | true =>
        simp only [if_true] at hQ hen
        rw [← hae] at hen
        simp only [b84l0, go_sem, hskip, W_cells hid, e, hen, W_size, W_trunc]
        exact hQ
      | false =>
        simp only [Bool.false_eq_true, if_false] at hQ hen
        rw [← hae] at hen
        have e5 : ((0 : Int) == 5) = false := rfl
        simp only [b84l0, go_sem, hskip, W_cells hid, e, hen, e5, W_size, W_trunc]
        rw [hae]
        exact hQ
    · have hlt : a < s.length := by omega
      rw [if_neg hl] at hQ
      have e : ((a : Int) == (s.length : Int)) = false := by rw [beq_eq_false_iff_ne]; omega
      have hg := getB hlt
      have e10 : ((s[a].toNat : Int) == 10) = decide (s[a] = 10) := beq_byte s[a] 10 (by omega)
      have e42 : ((s[a].toNat : Int) == 42) = decide (s[a] = 42) := beq_byte s[a] 42 (by omega)
      have e59 : ((s[a].toNat : Int) == 59) = decide (s[a] = 59) := beq_byte s[a] 59 (by omega)
      have h1 : (a : Int) ≤ (s.length : Int) := by omega
      have h2 : (s.length : Int) ≤ (s.length : Int) := by omega
      have ht : s.take s.length = s := List.take_length
      unfold stepP at hQ
      rw [hg, hend] at hQ
      simp only [Option.some.injEq, Bool.false_eq_true, if_false] at hQ
      by_cases c10 : s[a] = 10
      · rw [decide_eq_true c10] at e10
        rw [if_pos c10] at hQ
        have hen := fun Q => end_eq' (st := st) (id := id) (s := s) (a := a) (line := line) (bad := bad) (Q := Q) hid hs hk.2
        have hne : ¬ a = s.length := by omega
        simp only [hne, decide_false, Bool.or_false, if_false] at hen
        cases line with
        | true =>
          simp only [if_true] at hQ hen
          simp only [b84l0, go_sem, hskip, W_cells hid, e, hg, e10, hen, W_size, W_trunc]
          exact hQ
        | false =>
          simp only [Bool.false_eq_true, if_false] at hQ hen
          simp only [b84l0, go_sem, hskip, W_cells hid, e, hg, e10, hen]
          exact ⟨m, by omega, a + 1, false, _, _, _, by omega, rfl, hQ, rfl⟩
      · rw [decide_eq_false c10] at e10
        rw [if_neg c10] at hQ
        have comm : ∀ (hc : (s[a] = 42 ∧ line = false) ∨ hasPre (s.drop a) [38, 38] = true), (match (match commentP s a with | some p => Step.fail p | none => Step.go (lineEnd s a) line) with
            | .tok t e l => nxQ st id s bad Q (.tok t e l)
            | .go e l => nxQ st id s bad Q (nxN s m e l)
            | .fail p => nxQ st id s bad Q (.fail p)) := by
          intro hc
          rw [if_pos hc] at hQ
          revert hQ
          cases commentP s a <;> exact fun h => h
        have hle := lineEnd_le hk.2
        by_cases c42 : s[a] = 42 ∧ line = false
        · have hQ := comm (.inl c42)
          obtain ⟨c42, rfl⟩ := c42
          rw [decide_eq_true c42] at e42
          simp only [b84l0, go_sem, hskip, W_cells hid, e, hg, e10, e42]
          rw [comment_eq hid hs hk.2]
          cases hcp : commentP s a with
          | some p =>
            simp only [hcp] at hQ
            simp only [go_sem, W_size, W_trunc]
            exact hQ _ _ _ _ _ _
          | none =>
            simp only [hcp] at hQ
            simp only [go_sem]
            exact ⟨m, by omega, lineEnd s a, false, _, _, _, hle.2, rfl, hQ, rfl⟩
        · have n42 : (((s[a].toNat : Int) == 42) = false) ∨ (((s[a].toNat : Int) == 42) = true ∧ line = true) := by
            rw [e42]
            by_cases h : s[a] = 42
            · right
              exact ⟨decide_eq_true h, by cases line with | true => rfl | false => exact absurd ⟨h, rfl⟩ c42⟩
            · left; exact decide_eq_false h
          cases hp : hasPre (s.drop a) [38, 38] with
          | true =>
            have hQ := comm (.inr hp)
            rcases n42 with e42 | ⟨e42, rfl⟩
            · simp only [b84l0, go_sem, hskip, W_cells hid, e, hg, e10, e42, h1, h2, and_self, ht, hasPrefix_eq, hp]
              rw [comment_eq hid hs hk.2]
              cases hcp : commentP s a with
              | some p =>
                simp only [hcp] at hQ
                simp only [go_sem, W_size, W_trunc]
                exact hQ _ _ _ _ _ _
              | none =>
                simp only [hcp] at hQ
                simp only [go_sem]
                exact ⟨m, by omega, lineEnd s a, line, _, _, _, hle.2, rfl, hQ, rfl⟩
            · simp only [b84l0, go_sem, hskip, W_cells hid, e, hg, e10, e42, h1, h2, and_self, ht, hasPrefix_eq, hp]
              rw [comment_eq hid hs hk.2]
              cases hcp : commentP s a with
              | some p =>
                simp only [hcp] at hQ
                simp only [go_sem, W_size, W_trunc]
                exact hQ _ _ _ _ _ _
              | none =>
                simp only [hcp] at hQ
                simp only [go_sem]
                exact ⟨m, by omega, lineEnd s a, true, _, _, _, hle.2, rfl, hQ, rfl⟩
          | false =>
            rw [if_neg (by simp only [hp, Bool.false_eq_true, or_false]; exact c42)] at hQ
            by_cases c59 : s[a] = 59
            · rw [decide_eq_true c59] at e59
              rw [if_pos c59] at hQ
              have cont : contQ st id s a line bad (fun r st' => match r with
                  | .ret (.tuple [.bool true, .bool true]) => ∃ e, e ≤ s.length ∧ st' = W st id s e line line bad ∧ nxQ st id s bad Q (nxN s m e line)
                  | .ret (.tuple [.bool true, .bool false]) => ∃ p, st' = W st id s p line line (p : Int) ∧ failQ st id s p Q
                  | .ret (.tuple [.bool false, .bool true]) => st' = W st id s a line line bad ∧ failQ st id s a Q
                  | _ => False) := by
                unfold contQ
                by_cases hgo : goesOn s a = true
                · rw [if_pos hgo] at hQ ⊢
                  have hk2 := skipB_le (s := s) (a := a + 1) (by omega)
                  have hle2 := lineEnd_le hk2.2
                  cases hcp : commentP s (skipB s (a + 1)) with
                  | some p => simp only [hcp] at hQ; exact ⟨p, rfl, hQ⟩
                  | none => simp only [hcp] at hQ; exact ⟨_, by split <;> omega, rfl, hQ⟩
                · rw [if_neg hgo] at hQ ⊢
                  exact ⟨rfl, hQ⟩
              rcases n42 with e42 | ⟨e42, rfl⟩
              all_goals
                simp only [b84l0, go_sem, hskip, W_cells hid, e, hg, e10, e42, e59, h1, h2, and_self, ht, hasPrefix_eq, hp]
                refine CallA.mono (continues_ok hid hs hlt cont) ?_
                rintro r st' hr
                split at hr
                · obtain ⟨e', he', rfl, hq⟩ := hr
                  simp only [go_sem]
                  exact ⟨m, by omega, e', _, _, _, _, he', rfl, hq, rfl⟩
                · obtain ⟨p, rfl, hq⟩ := hr
                  simp only [go_sem, W_size, W_trunc]
                  exact hq _ _ _ _ _ _
                · obtain ⟨rfl, hq⟩ := hr
                  simp only [go_sem, W_cells hid, W_set, W_size, W_trunc]
                  exact hq _ _ _ _ _ _
                · exact hr.elim
            · rw [decide_eq_false c59] at e59
              rw [if_neg c59] at hQ
              have htk : ∀ Q' : Res → St → Prop, (∀ k m t w a l b bd, Q (.ret (.tuple [.agg [.int .i64 k, .int .i64 m, .str t], .bool w])) (W st id s a l b bd) → Q' (.ret (.tuple [.agg [.int .i64 k, .int .i64 m, .str t], .bool w])) (W st id s a l b bd)) → tokQ st id s true true bad Q' (tokenP s a) := by
                intro Q' hq
                revert hQ
                cases tokenP s a with
                | tok t e => exact fun h => hq _ _ _ _ _ _ _ _ h
                | fail p => exact fun h k m t a l b => hq _ _ _ _ _ _ _ _ (h k m t a l b)
              rcases n42 with e42 | ⟨e42, rfl⟩
              all_goals
                simp only [b84l0, go_sem, hskip, W_cells hid, e, hg, e10, e42, e59, h1, h2, and_self, ht, hasPrefix_eq, hp, W_set]
                refine token_ok hid hs hlt (by rw [hg]; simpa using c10) (htk _ (fun k m t w a' l' b' bd hq => ?_))
                simp only [go_sem, W_size, W_trunc]
                exact hq
end
end Go.Proofs.YtelpkgbghhpgaaaGreatDoor.Sx
end
