/- TreeExprSames returns true for all expressions whose data are not larger than a bound. Sizes of statements and programs. tree.Parse. When expressions are equal: the program's and the document's functions. -/
import Derived.Test.YtelpkgbghhpgaaaGreatDoorK27
set_option linter.all false
section
/- Sizes of statements and programs. -/
set_option maxRecDepth 100000
namespace Go.Proofs.YtelpkgbghhpgaaaGreatDoor.Sx

mutual
def szSm : Sm → Int × Int
  | .mk _ _ _ _ _ _ x _ b _ _ n _ f _ w => szBls (szXs (1, 1) (x ++ n ++ f ++ w)) b
def szSms : Int × Int → List Sm → Int × Int
  | acc, [] => acc
  | acc, x :: l => szSms (szBeside acc (szSm x)) l
def szBls : Int × Int → List (Bool × List Sm) → Int × Int
  | acc, [] => acc
  | acc, (_, x) :: l => szBls (szIn acc (szSms (0, 0) x)) l
end
def szPds : Int × Int → List Pd → Int × Int
  | acc, [] => acc
  | acc, x :: l => szPds (szBeside acc (szSms (0, 0) x.body)) l

mutual
def bdSm : Sm → Prop
  | .mk _ _ _ _ p _ x _ b _ _ n _ f _ w => p.length < most ∧ b.length < most ∧ (x.length + n.length + f.length + w.length) * 168 ≤ 1099511627776 ∧ bdXs x ∧ bdXs n ∧ bdXs f ∧ bdXs w ∧ bdBls b
def bdSms : List Sm → Prop
  | [] => True
  | x :: l => bdSm x ∧ bdSms l
def bdBls : List (Bool × List Sm) → Prop
  | [] => True
  | (_, x) :: l => (x.length < most ∧ bdSms x) ∧ bdBls l
end
def bdPds (l : List Pd) : Prop := l.length < most ∧ ∀ x ∈ l, x.p.length < most ∧ x.body.length < most ∧ bdSms x.body

theorem bdSms_mem : ∀ {l : List Sm}, bdSms l → ∀ x ∈ l, bdSm x
  | [], _, x, h => by cases h
  | y :: l, h, x, hx => by
    simp only [bdSms] at h
    rcases List.mem_cons.1 hx with rfl | hx
    · exact h.1
    · exact bdSms_mem h.2 x hx
theorem bdBls_mem : ∀ {l : List (Bool × List Sm)}, bdBls l → ∀ x ∈ l, x.2.length < most ∧ bdSms x.2
  | [], _, x, h => by cases h
  | (n, y) :: l, h, x, hx => by
    simp only [bdBls] at h
    rcases List.mem_cons.1 hx with rfl | hx
    · exact h.1
    · exact bdBls_mem h.2 x hx
theorem bdXs_append {a b : List Xp} (ha : bdXs a) (hb : bdXs b) : bdXs (a ++ b) := bdXs_of fun x hx => (List.mem_append.1 hx).elim (bdXs_mem ha x) (bdXs_mem hb x)

theorem szSms_drop {l : List Sm} {i : Nat} (h : i < l.length) (acc : Int × Int) : szSms acc (l.drop i) = szSms (szBeside acc (szSm l[i])) (l.drop (i + 1)) := by
  rw [List.drop_eq_getElem_cons h, szSms]
theorem szBls_drop {l : List (Bool × List Sm)} {i : Nat} (h : i < l.length) (acc : Int × Int) : szBls acc (l.drop i) = szBls (szIn acc (szSms (0, 0) l[i].2)) (l.drop (i + 1)) := by
  rw [List.drop_eq_getElem_cons h, szBls]
theorem szPds_drop {l : List Pd} {i : Nat} (h : i < l.length) (acc : Int × Int) : szPds acc (l.drop i) = szPds (szBeside acc (szSms (0, 0) l[i].body)) (l.drop (i + 1)) := by
  rw [List.drop_eq_getElem_cons h, szPds]

theorem el_Sm (n : Bool) (l : List Sm) {i : Nat} (h : i < l.length) : elA 10 (i : Int) (encSl n 10 (encSms l)) = some (encSm l[i]) := by
  rw [elA_sl (by rw [encSms_length]; exact h)]
  simp [encSms_eq]
theorem el_Bl (n : Bool) (l : List (Bool × List Sm)) {i : Nat} (h : i < l.length) : elA 1 (i : Int) (encSl n 1 (encBls l)) = some [encSl l[i].1 10 (encSms l[i].2)] := by
  rw [elA_sl (by rw [encBls_length]; exact h)]
  simp [encBls_eq]
theorem el_Pd (n : Bool) (l : List Pd) {i : Nat} (h : i < l.length) : elA 4 (i : Int) (encSl n 4 (encPds l)) = some (encPd l[i]) := by
  rw [elA_sl (by rw [encPds_length]; exact h)]
  simp [encPds]

section
variable {st : St} {Q : Res → St → Prop}

theorem ofStmts_of (nb : Bool) (l : List Sm) (hl : l.length < most)
    (ih : ∀ (i : Nat) (h : i < l.length) (st : St) (Q : Res → St → Prop), CallA S 100 [.agg (encSm l[i])] st Q = Q (.ret (.agg [.int .i64 (szSm l[i]).1, .int .i64 (szSm l[i]).2])) st) :
    CallA S 69 [encSl nb 10 (encSms l)] st Q = Q (.ret (.agg [.int .i64 (szSms (0, 0) l).1, .int .i64 (szSms (0, 0) l).2])) st := by
  refine callA_eq (fun Q hQ => ?_) Q
  refine callA_body (by rfl) (by rfl) rfl ?_
  unfold most at hl
  simp only [b69, go_sem, ↓reduceIte, reduceCtorEq, Nat.reduceLT, Nat.reduceLeDiff, Nat.reduceAdd, Nat.reduceMul, Nat.reduceSub, Nat.reduceEqDiff, Nat.reduceBEq, Int.reduceToNat, Int.reduceLE, Int.reduceLT, encSms_length]
  refine wp_loop (fun n fr st' => st' = st ∧ ∃ (i : Nat) (acc : Int × Int) (ser ser2 : Nat) (lx : Nat × List AV), n + i = l.length ∧ szSms (0, 0) l = szSms acc (l.drop i) ∧
    fr = ⟨[(2, .lptr 0 1 0), (3, .lptr 1 ser 0), (6, encSl nb 10 (encSms l)), (7, .int .i64 (l.length : Int)), (8, .int .i64 (i : Int))], [(1, [.int .i64 0, .int .i64 0]), (ser, [.int .i64 acc.1, .int .i64 acc.2]), lx], [], ser2⟩) l.length ⟨rfl, 0, (0, 0), _, _, _, rfl, rfl, rfl⟩ ?_
  rintro n fr st' ⟨rfl, i, acc, ser, ser2, lx, hn, hsz, rfl⟩
  by_cases h : (i : Int) < (l.length : Int)
  · have hi : i < l.length := by omega
    rw [szSms_drop hi] at hsz
    simp only [b69l0, go_sem, ↓reduceIte, reduceCtorEq, Nat.reduceLT, Nat.reduceLeDiff, Nat.reduceAdd, Nat.reduceMul, Nat.reduceSub, Nat.reduceEqDiff, Nat.reduceBEq, Int.reduceToNat, Int.reduceLE, Int.reduceLT, h, el_Sm nb l hi, ih i hi, beside_eq acc (szSm l[i]), wrap_one i (by omega)]
    exact ⟨n - 1, by omega, i + 1, szBeside acc (szSm l[i]), ser, _, _, by omega, hsz, rfl⟩
  · rw [List.drop_of_length_le (by omega), szSms] at hsz
    rw [hsz] at hQ
    simp only [b69l0, go_sem, ↓reduceIte, reduceCtorEq, Nat.reduceLT, Nat.reduceLeDiff, Nat.reduceAdd, Nat.reduceMul, Nat.reduceSub, Nat.reduceEqDiff, Nat.reduceBEq, Int.reduceToNat, Int.reduceLE, Int.reduceLT, h, trunc_self]
    exact hQ

theorem ofProcs_of (nb : Bool) (l : List Pd) (hl : l.length < most)
    (ih : ∀ (i : Nat) (h : i < l.length) (st : St) (Q : Res → St → Prop), CallA S 69 [encSl l[i].bn 10 (encSms l[i].body)] st Q = Q (.ret (.agg [.int .i64 (szSms (0, 0) l[i].body).1, .int .i64 (szSms (0, 0) l[i].body).2])) st) :
    CallA S 36 [encSl nb 4 (encPds l)] st Q = Q (.ret (.agg [.int .i64 (szPds (0, 0) l).1, .int .i64 (szPds (0, 0) l).2])) st := by
  refine callA_eq (fun Q hQ => ?_) Q
  refine callA_body (by rfl) (by rfl) rfl ?_
  unfold most at hl
  simp only [b36, go_sem, ↓reduceIte, reduceCtorEq, Nat.reduceLT, Nat.reduceLeDiff, Nat.reduceAdd, Nat.reduceMul, Nat.reduceSub, Nat.reduceEqDiff, Nat.reduceBEq, Int.reduceToNat, Int.reduceLE, Int.reduceLT, encPds_length]
  refine wp_loop (fun n fr st' => st' = st ∧ ∃ (i : Nat) (acc : Int × Int) (ser ser2 : Nat) (lx : Nat × List AV), n + i = l.length ∧ szPds (0, 0) l = szPds acc (l.drop i) ∧
    fr = ⟨[(2, .lptr 0 1 0), (3, .lptr 1 ser 0), (6, encSl nb 4 (encPds l)), (7, .int .i64 (l.length : Int)), (8, .int .i64 (i : Int))], [(1, [.int .i64 0, .int .i64 0]), (ser, [.int .i64 acc.1, .int .i64 acc.2]), lx], [], ser2⟩) l.length ⟨rfl, 0, (0, 0), _, _, _, rfl, rfl, rfl⟩ ?_
  rintro n fr st' ⟨rfl, i, acc, ser, ser2, lx, hn, hsz, rfl⟩
  by_cases h : (i : Int) < (l.length : Int)
  · have hi : i < l.length := by omega
    rw [szPds_drop hi] at hsz
    simp only [b36l0, go_sem, ↓reduceIte, reduceCtorEq, Nat.reduceLT, Nat.reduceLeDiff, Nat.reduceAdd, Nat.reduceMul, Nat.reduceSub, Nat.reduceEqDiff, Nat.reduceBEq, Int.reduceToNat, Int.reduceLE, Int.reduceLT, h, el_Pd nb l hi, encPd, ih i hi, beside_eq acc (szSms (0, 0) l[i].body), wrap_one i (by omega)]
    exact ⟨n - 1, by omega, i + 1, szBeside acc (szSms (0, 0) l[i].body), ser, _, _, by omega, hsz, rfl⟩
  · rw [List.drop_of_length_le (by omega), szPds] at hsz
    rw [hsz] at hQ
    simp only [b36l0, go_sem, ↓reduceIte, reduceCtorEq, Nat.reduceLT, Nat.reduceLeDiff, Nat.reduceAdd, Nat.reduceMul, Nat.reduceSub, Nat.reduceEqDiff, Nat.reduceBEq, Int.reduceToNat, Int.reduceLE, Int.reduceLT, h, trunc_self]
    exact hQ

theorem concat4 {xn nn fn wn : Bool} {x n f w : List Xp} (hb : (x.length + n.length + f.length + w.length) * 168 ≤ 1099511627776) :
    CallA S 135 [.slice 1 [[encSl xn 7 (encXs x)], [encSl nn 7 (encXs n)], [encSl fn 7 (encXs f)], [encSl wn 7 (encXs w)]] .no] st Q = Q (.ret (encSl true 7 (encXs (x ++ n ++ f ++ w)))) st := by
  refine callA_intr (n := 0) (by rfl) ?_ Q
  have e : concatE 7 [[encSl xn 7 (encXs x)], [encSl nn 7 (encXs n)], [encSl fn 7 (encXs f)], [encSl wn 7 (encXs w)]] = some (encXs (x ++ n ++ f ++ w)) := by
    simp only [concatE, elsOf_sl, List.append_nil, Option.some.injEq, encXs_eq, List.map_append, List.append_assoc]
  have hl4 : [[encSl xn 7 (encXs x)], [encSl nn 7 (encXs n)], [encSl fn 7 (encXs f)], [encSl wn 7 (encXs w)]].length < 1099511627776 := by simp
  simp only [iConcat, e, hl4, if_true]
  cases h : x ++ n ++ f ++ w with
  | nil => rfl
  | cons y r =>
    have hl : (encXs (y :: r)).length * 168 ≤ 1099511627776 := by
      rw [← h, encXs_length, List.length_append, List.length_append, List.length_append]; exact hb
    rw [encXs] at hl ⊢
    simp only [hl, if_true]
    rfl

theorem ofStmt_eq : ∀ (x : Sm), bdSm x → ∀ (st : St) (Q : Res → St → Prop), CallA S 100 [.agg (encSm x)] st Q = Q (.ret (.agg [.int .i64 (szSm x).1, .int .i64 (szSm x).2])) st
  | .mk op s t pn p xn x bn b ck nn n fn f wn w, hb => by
    simp only [bdSm] at hb
    obtain ⟨_, hbl, hxl, hx, hn, hf, hw, hbb⟩ := hb
    have hbX : bdXs (x ++ n ++ f ++ w) := bdXs_append (bdXs_append (bdXs_append hx hn) hf) hw
    have hl : (x ++ n ++ f ++ w).length < 1099511627776 := by simp only [List.length_append]; omega
    unfold most at hbl
    have ih : ∀ (i : Nat) (h : i < b.length) (st : St) (Q : Res → St → Prop), CallA S 69 [encSl b[i].1 10 (encSms b[i].2)] st Q = Q (.ret (.agg [.int .i64 (szSms (0, 0) b[i].2).1, .int .i64 (szSms (0, 0) b[i].2).2])) st :=
      fun i h st Q => ofStmts_of b[i].1 b[i].2 (bdBls_mem hbb _ (List.getElem_mem h)).1 fun j hj => ofStmt_eq b[i].2[j] (bdSms_mem (bdBls_mem hbb _ (List.getElem_mem h)).2 _ (List.getElem_mem hj))
    intro st
    refine callA_eq (fun Q hQ => ?_)
    refine callA_body (by rfl) (by rfl) rfl ?_
    rw [szSm] at hQ
    simp only [b100, go_sem, ↓reduceIte, reduceCtorEq, Nat.reduceLT, Nat.reduceLeDiff, Nat.reduceAdd, Nat.reduceMul, Nat.reduceSub, Nat.reduceEqDiff, Nat.reduceBEq, Int.reduceToNat, Int.reduceLE, Int.reduceLT, encSm_mk, concat4 hxl, encXs_length]
    generalize hL : x ++ n ++ f ++ w = L at *
    refine wp_loop (fun m fr st' => st' = st ∧ ∃ (i : Nat) (acc : Int × Int) (ser ser2 : Nat) (lx : Nat × List AV), m + i = L.length ∧ szXs (1, 1) L = szXs acc (L.drop i) ∧
      fr = ⟨[(1, .lptr 0 1 0), (2, .lptr 1 1 0), (3, .lptr 2 ser 0), (21, encSl true 7 (encXs L)), (22, .int .i64 (L.length : Int)), (23, .int .i64 (i : Int))], [(1, encSm (.mk op s t pn p xn x bn b ck nn n fn f wn w)), (1, [.int .i64 0, .int .i64 0]), (ser, [.int .i64 acc.1, .int .i64 acc.2]), lx], [], ser2⟩) L.length ⟨rfl, 0, (1, 1), _, _, _, rfl, rfl, by rw [encSm_mk]; rfl⟩ ?_
    rintro m fr st' ⟨rfl, i, acc, ser, ser2, lx, hm, hsz, rfl⟩
    by_cases h : (i : Int) < (L.length : Int)
    · have hi : i < L.length := by omega
      rw [szXs_drop hi] at hsz
      simp only [b100l0, go_sem, ↓reduceIte, reduceCtorEq, Nat.reduceLT, Nat.reduceLeDiff, Nat.reduceAdd, Nat.reduceMul, Nat.reduceSub, Nat.reduceEqDiff, Nat.reduceBEq, Int.reduceToNat, Int.reduceLE, Int.reduceLT, h, el_X true L hi, ofExpr_eq L[i] (bdXs_mem hbX _ (List.getElem_mem hi)), in_eq acc (szX L[i]), wrap_one i (by omega)]
      exact ⟨m - 1, by omega, i + 1, szIn acc (szX L[i]), ser, _, _, by omega, hsz, rfl⟩
    · rw [List.drop_of_length_le (by omega), szXs] at hsz
      rw [hsz] at hQ
      simp only [b100l0, go_sem, ↓reduceIte, reduceCtorEq, Nat.reduceLT, Nat.reduceLeDiff, Nat.reduceAdd, Nat.reduceMul, Nat.reduceSub, Nat.reduceEqDiff, Nat.reduceBEq, Int.reduceToNat, Int.reduceLE, Int.reduceLT, h, encSm_mk, encBls_length]
      refine wp_loop (fun m fr st => st = st' ∧ ∃ (i : Nat) (acc2 : Int × Int) (ser ser2 : Nat) (lx lx2 : Nat × List AV), m + i = b.length ∧ szBls acc b = szBls acc2 (b.drop i) ∧
        fr = ⟨[(2, .lptr 1 1 0), (3, .lptr 2 ser 0), (33, encSl bn 1 (encBls b)), (34, .int .i64 (b.length : Int)), (35, .int .i64 (i : Int))], [lx, (1, [.int .i64 0, .int .i64 0]), (ser, [.int .i64 acc2.1, .int .i64 acc2.2]), lx2], [], ser2⟩) b.length ⟨rfl, 0, acc, _, _, _, _, rfl, rfl, rfl⟩ ?_
      rintro m fr st ⟨rfl, i, acc2, ser, ser2, lx, lx2, hm, hsz2, rfl⟩
      by_cases h : (i : Int) < (b.length : Int)
      · have hi : i < b.length := by omega
        rw [szBls_drop hi] at hsz2
        simp only [b100l1, go_sem, ↓reduceIte, reduceCtorEq, Nat.reduceLT, Nat.reduceLeDiff, Nat.reduceAdd, Nat.reduceMul, Nat.reduceSub, Nat.reduceEqDiff, Nat.reduceBEq, Int.reduceToNat, Int.reduceLE, Int.reduceLT, h, el_Bl bn b hi, ih i hi, in_eq acc2 (szSms (0, 0) b[i].2), wrap_one i (by omega)]
        exact ⟨m - 1, by omega, i + 1, szIn acc2 (szSms (0, 0) b[i].2), ser, _, _, _, by omega, hsz2, rfl⟩
      · rw [List.drop_of_length_le (by omega), szBls] at hsz2
        rw [hsz2] at hQ
        simp only [b100l1, go_sem, ↓reduceIte, reduceCtorEq, Nat.reduceLT, Nat.reduceLeDiff, Nat.reduceAdd, Nat.reduceMul, Nat.reduceSub, Nat.reduceEqDiff, Nat.reduceBEq, Int.reduceToNat, Int.reduceLE, Int.reduceLT, h, trunc_self]
        exact hQ
termination_by x => SizeOf.sizeOf x
decreasing_by
  have h1 := List.sizeOf_lt_of_mem (List.getElem_mem h)
  have h2 := List.sizeOf_lt_of_mem (List.getElem_mem hj)
  have h3 : SizeOf.sizeOf b[i] = 1 + SizeOf.sizeOf b[i].1 + SizeOf.sizeOf b[i].2 := by rfl
  simp only [Sm.mk.sizeOf_spec]
  omega

theorem ofStmts_eq (nb : Bool) (l : List Sm) (hl : l.length < most) (hb : bdSms l) : CallA S 69 [encSl nb 10 (encSms l)] st Q = Q (.ret (.agg [.int .i64 (szSms (0, 0) l).1, .int .i64 (szSms (0, 0) l).2])) st :=
  ofStmts_of nb l hl fun i h => ofStmt_eq _ (bdSms_mem hb _ (List.getElem_mem h))
theorem ofProcs_eq (nb : Bool) (l : List Pd) (hb : bdPds l) : CallA S 36 [encSl nb 4 (encPds l)] st Q = Q (.ret (.agg [.int .i64 (szPds (0, 0) l).1, .int .i64 (szPds (0, 0) l).2])) st :=
  ofProcs_of nb l hb.1 fun i h st Q => ofStmts_eq _ _ (hb.2 _ (List.getElem_mem h)).2.1 (hb.2 _ (List.getElem_mem h)).2.2
end
end Go.Proofs.YtelpkgbghhpgaaaGreatDoor.Sx
end
section
/- tree.Parse. -/
set_option maxRecDepth 100000
namespace Go.Proofs.YtelpkgbghhpgaaaGreatDoor.Sx

def hasTwice : List (List UInt8) → List Pd → Bool
  | _, [] => false
  | seen, x :: l => if seen.contains x.name = true then true else hasTwice (seen ++ [x.name]) l

def encSeen (l : List (List UInt8)) : List (AV × AV) := l.map fun s => (.str s, .bool true)
theorem lookE_seen (s : List UInt8) : ∀ l, lookE (.str s) (encSeen l) = some (if l.contains s = true then some (.bool true) else none)
  | [] => rfl
  | x :: l => by
    rw [encSeen, List.map_cons, lookE]
    by_cases h : x = s
    · subst h
      simp [keyEq]
    · have h2 : (x == s) = false := by simp [h]
      have h3 : (s == x) = false := by simp [Ne.symm h]
      have := lookE_seen s l
      rw [encSeen] at this
      simp [keyEq, h2, h3, this, Ne.symm h]
theorem setE_seen (s : List UInt8) : ∀ l, l.contains s = false → setE (.str s) (.bool true) (encSeen l) = some (encSeen (l ++ [s]))
  | [], _ => rfl
  | x :: l, h => by
    rw [encSeen, List.map_cons, setE]
    simp only [List.contains_cons, Bool.or_eq_false_iff] at h
    have h2 : (x == s) = false := by
      have := h.1
      simp only [beq_eq_false_iff_ne, ne_eq] at this ⊢
      exact Ne.symm this
    have := setE_seen s l h.2
    rw [encSeen] at this
    simp [keyEq, h.1, h2, this, encSeen]

theorem hasTwice_drop {l : List Pd} {i : Nat} (h : i < l.length) (seen : List (List UInt8)) :
    hasTwice seen (l.drop i) = if seen.contains l[i].name = true then true else hasTwice (seen ++ [l[i].name]) (l.drop (i + 1)) := by
  rw [List.drop_eq_getElem_cons h, hasTwice]

section
variable {st : St} {id a : Nat} {l : List Tok} {Q : Res → St → Prop}

theorem isTwice_eq (nb : Bool) (l : List Pd) (hl : l.length < most) : CallA S 35 [encSl nb 4 (encPds l)] st Q = Q (.ret (.bool (hasTwice [] l))) st := by
  refine callA_eq (fun Q hQ => ?_) Q
  refine callA_body (by rfl) (by rfl) rfl ?_
  unfold most at hl
  simp only [b35, go_sem, ↓reduceIte, reduceCtorEq, Nat.reduceLT, Nat.reduceLeDiff, Nat.reduceAdd, Nat.reduceMul, Nat.reduceSub, Nat.reduceEqDiff, Nat.reduceBEq, Int.reduceToNat, Int.reduceLE, Int.reduceLT, encPds_length]
  refine wp_loop (fun n fr st' => ∃ (seen : List (List UInt8)) (i ser : Nat) (lx : Nat × List AV), st' = st.push (.map (encSeen seen)) ∧ n + i = l.length ∧ hasTwice [] l = hasTwice seen (l.drop i) ∧
    fr = ⟨[(3, .mapr st.size), (7, encSl nb 4 (encPds l)), (8, .int .i64 (l.length : Int)), (9, .int .i64 (i : Int))], [lx], [], ser⟩) l.length ⟨[], 0, _, _, rfl, rfl, rfl, rfl⟩ ?_
  rintro n fr st' ⟨seen, i, ser, lx, rfl, hn, hsz, rfl⟩
  by_cases h : (i : Int) < (l.length : Int)
  · have hi : i < l.length := by omega
    rw [hasTwice_drop hi] at hsz
    cases hc : seen.contains l[i].name with
    | true =>
      rw [if_pos hc] at hsz
      rw [hsz] at hQ
      simp only [b35l0, go_sem, ↓reduceIte, reduceCtorEq, Nat.reduceLT, Nat.reduceLeDiff, Nat.reduceAdd, Nat.reduceMul, Nat.reduceSub, Nat.reduceEqDiff, Nat.reduceBEq, Int.reduceToNat, Int.reduceLE, Int.reduceLT, h, el_Pd nb l hi, encPd, entries_new, lookE_seen, hc, trunc_push]
      exact hQ
    | false =>
      rw [if_neg (by rw [hc]; exact Bool.false_ne_true)] at hsz
      simp only [b35l0, go_sem, ↓reduceIte, reduceCtorEq, Nat.reduceLT, Nat.reduceLeDiff, Nat.reduceAdd, Nat.reduceMul, Nat.reduceSub, Nat.reduceEqDiff, Nat.reduceBEq, Int.reduceToNat, Int.reduceLE, Int.reduceLT, h, el_Pd nb l hi, encPd, entries_new, lookE_seen, hc, setE_seen _ _ hc, setMap_new, wrap_one i (by omega)]
      exact ⟨n - 1, by omega, seen ++ [l[i].name], i + 1, _, _, rfl, by omega, hsz, rfl⟩
  · rw [List.drop_of_length_le (by omega), hasTwice] at hsz
    rw [hsz] at hQ
    simp only [b35l0, go_sem, ↓reduceIte, reduceCtorEq, Nat.reduceLT, Nat.reduceLeDiff, Nat.reduceAdd, Nat.reduceMul, Nat.reduceSub, Nat.reduceEqDiff, Nat.reduceBEq, Int.reduceToNat, Int.reduceLE, Int.reduceLT, h, trunc_push]
    exact hQ

/-- What `syntax.Program` comes to, from what reading does. -/
def programQ (l : List Tok) (Q : List Pd → Int → Prop) (r : PR (List Pd)) : Prop :=
  r.on (fun x a => Q x (if (a : Int) < (l.length : Int) then (a : Int) else -1)) (fun a => Q [] (a : Int))

theorem syntaxProgram_ok (hl : l.length < 65536) (hT : ∀ t ∈ l, TokOk t) (r : PR (List Pd))
    (hP : ∀ (st : St) (id : Nat) Q, id < st.size → RK ePds st id l Q r → CallA S 67 [.ptr id 0] (V st id l 0) Q)
    (hQ : programQ l (fun v k => Q (.ret (.tuple [ePds v, .int .i64 k])) st) r) : CallA S 34 [encSl true 3 (l.map encT)] st Q := by
  refine callA_body (by rfl) (by rfl) rfl ?_
  simp only [b34, go_sem, ↓reduceIte, reduceCtorEq, Nat.reduceLT, Nat.reduceLeDiff, Nat.reduceAdd, Nat.reduceMul, Nat.reduceSub, Nat.reduceEqDiff, Nat.reduceBEq, Int.reduceToNat, Int.reduceLE, Int.reduceLT]
  generalize hst1 : st.push (.cells [.nilslice]) = st1
  have hs1 : st1.size = st.size + 1 := by rw [← hst1, size_push]
  have hbox : st1.cells st.size = some [.nilslice] := by rw [← hst1, cells_new]
  have htr : ∀ cs, (st1.setCells st.size cs).trunc st.size = st := by
    intro cs
    rw [← hst1, set_new, trunc_push]
  have htr0 : st1.trunc st.size = st := by rw [← hst1, trunc_push]
  refine run_ok _ _ _ (by rfl) (by rfl) ?_
  have hid : st1.size < (st1.push (.cells (pc l 0))).size := by rw [size_push]; omega
  have hbox2 : (st1.push (.cells (pc l 0))).cells st.size = some [.nilslice] := by rw [cells_push (by omega), hbox]
  generalize hst2 : st1.push (.cells (pc l 0)) = st2 at *
  have hs2 : st2.size = st1.size + 1 := by rw [← hst2, size_push]
  have hne : st1.size ≠ st.size := by omega
  refine callA_body (by rfl) (by rfl) rfl ?_
  simp only [b66, go_sem, ↓reduceIte, reduceCtorEq, Nat.reduceLT, Nat.reduceLeDiff, Nat.reduceAdd, Nat.reduceMul, Nat.reduceSub, Nat.reduceEqDiff, Nat.reduceBEq, Int.reduceToNat, Int.reduceLE, Int.reduceLT]
  refine hP st2 st1.size _ hid (PR.on_mono hQ (fun x a _ hQ ha => ?_) (fun a _ hQ => ?_))
  · have hle : (0 : Nat) ≤ st.size + 1 := Nat.zero_le _
    have hVset : ∀ b cs, (V st2 st1.size l b).setCells st.size cs = V (st2.setCells st.size cs) st1.size l b := by
      intro b cs
      unfold V
      simp only [St.setCells]
      rw [List.set_comm _ _ hne]
    have htr2 : ∀ b cs, (V (st2.setCells st.size cs) st1.size l b).trunc st1.size = st1.setCells st.size cs := by
      intro b cs
      rw [← hst2]
      unfold V
      rw [set_push (by omega), show st1.size = (st1.setCells st.size cs).size from size_set.symm, set_new, trunc_push]
    have hx1 : ∀ cs, (st1.setCells st.size cs).cells st.size = some cs := fun cs => cells_set (by omega)
    have hce : ∀ k cs, (V (st2.setCells st.size cs) st1.size l k).cells st1.size = some (pc l k) := fun k cs => cells_set (by rw [size_set]; omega)
    have hstr : ∀ k cs, (V (st2.setCells st.size cs) st1.size l k).trunc (V st2 st1.size l 0).size = V (st2.setCells st.size cs) st1.size l k := by
      intro k cs
      rw [V_size, ← size_set (st := st2) (id := st.size) (cs := cs), V_trunc]
    unfold ePds at hQ ⊢
    dsimp only at hQ
    rcases encSl_cases true 4 (encPds x) with ⟨e, _⟩ | e
    all_goals
      rw [e] at hQ ⊢
      simp only [go_sem, ↓reduceIte, reduceCtorEq, Nat.reduceLT, Nat.reduceLeDiff, Nat.reduceAdd, Nat.reduceMul, Nat.reduceSub, Nat.reduceEqDiff, Nat.reduceBEq, Int.reduceToNat, Int.reduceLE, Int.reduceLT, V_cells_ne hne, hbox2, hVset, hstr]
      refine ⟨a, hce _ _, ?_⟩
      rw [htr2]
      simp only [go_sem, ↓reduceIte, reduceCtorEq, Nat.reduceLT, Nat.reduceLeDiff, Nat.reduceAdd, Nat.reduceMul, Nat.reduceSub, Nat.reduceEqDiff, Nat.reduceBEq, Int.reduceToNat, Int.reduceLE, Int.reduceLT, hx1, htr]
      exact hQ
  · have htr3 : (V st2 st1.size l a).trunc st1.size = st1 := by
      rw [← hst2]
      unfold V
      rw [set_new, trunc_push]
    simp only [go_sem, ↓reduceIte, reduceCtorEq, Nat.reduceLT, Nat.reduceLeDiff, Nat.reduceAdd, Nat.reduceMul, Nat.reduceSub, Nat.reduceEqDiff, Nat.reduceBEq, Int.reduceToNat, Int.reduceLE, Int.reduceLT, V_size, V_trunc]
    refine ⟨a, rfl, ?_⟩
    rw [htr3]
    simp only [go_sem, ↓reduceIte, reduceCtorEq, Nat.reduceLT, Nat.reduceLeDiff, Nat.reduceAdd, Nat.reduceMul, Nat.reduceSub, Nat.reduceEqDiff, Nat.reduceBEq, Int.reduceToNat, Int.reduceLE, Int.reduceLT, hbox, htr0]
    exact hQ

/-- What tree.Parse comes to, from what reading does. -/
def paQ (s : List UInt8) (Q : AV → Int → Int → Prop) (r : List Tok → PR (List Pd)) : Prop :=
  if (lexP s).2.2 = 0 then
    programQ (lexP s).1 (fun x k =>
      if k ≥ 0 then Q .nilslice k 2
      else bdPds x ∧ (if hasTwice [] x = true then Q .nilslice 0 5 else if isLarge (szPds (0, 0) x) = true then Q .nilslice 0 3 else Q (ePds x) ((lexP s).1.length : Int) 0)) (r (lexP s).1)
  else Q .nilslice ((lexP s).2.1 : Int) (lexP s).2.2

theorem parse_ok (s : List UInt8) (r : List Tok → PR (List Pd))
    (hP : ∀ (st : St) (id : Nat) Q, id < st.size → RK ePds st id (lexP s).1 Q (r (lexP s).1) → CallA S 67 [.ptr id 0] (V st id (lexP s).1 0) Q)
    (hQ : paQ s (fun v k e => Q (.ret (.tuple [v, .int .i64 k, .int .i64 e])) st) r) : CallA S 12 [.str s] st Q := by
  refine callA_body (by rfl) (by rfl) rfl ?_
  unfold paQ at hQ
  obtain ⟨k1, k2⟩ := lexP_ok s
  by_cases he : (lexP s).2.2 = 0
  · rw [if_pos he] at hQ
    simp only [b12, go_sem, ↓reduceIte, reduceCtorEq, Nat.reduceLT, Nat.reduceLeDiff, Nat.reduceAdd, Nat.reduceMul, Nat.reduceSub, Nat.reduceEqDiff, Nat.reduceBEq, Int.reduceToNat, Int.reduceLE, Int.reduceLT, lex_eq, lexRes, he, bne_self_eq_false]
    refine syntaxProgram_ok (by omega) k2 (r (lexP s).1) hP (PR.on_mono hQ (fun x a _ hQ => ?_) (fun a _ hQ => ?_))
    · dsimp only at hQ ⊢
      generalize hk : (if (a : Int) < ((lexP s).1.length : Int) then (a : Int) else -1) = k at hQ
      by_cases hpos : k ≥ 0
      · rw [if_pos hpos] at hQ
        simp only [go_sem, ↓reduceIte, reduceCtorEq, Nat.reduceLT, Nat.reduceLeDiff, Nat.reduceAdd, Nat.reduceMul, Nat.reduceSub, Nat.reduceEqDiff, Nat.reduceBEq, Int.reduceToNat, Int.reduceLE, Int.reduceLT, hpos, trunc_self]
        exact hQ
      · rw [if_neg hpos] at hQ
        obtain ⟨hb, hQ⟩ := hQ
        cases ht : hasTwice [] x with
        | true =>
          simp only [ht, if_true] at hQ
          simp only [go_sem, ↓reduceIte, reduceCtorEq, Nat.reduceLT, Nat.reduceLeDiff, Nat.reduceAdd, Nat.reduceMul, Nat.reduceSub, Nat.reduceEqDiff, Nat.reduceBEq, Int.reduceToNat, Int.reduceLE, Int.reduceLT, hpos, isTwice_eq true x hb.1, ht, trunc_self]
          exact hQ
        | false =>
          simp only [ht, Bool.false_eq_true, if_false] at hQ
          cases hlg : isLarge (szPds (0, 0) x) with
          | true =>
            simp only [hlg, if_true] at hQ
            simp only [go_sem, ↓reduceIte, reduceCtorEq, Nat.reduceLT, Nat.reduceLeDiff, Nat.reduceAdd, Nat.reduceMul, Nat.reduceSub, Nat.reduceEqDiff, Nat.reduceBEq, Int.reduceToNat, Int.reduceLE, Int.reduceLT, hpos, isTwice_eq true x hb.1, ht, ofProcs_eq true x hb, isLarge_eq, hlg, trunc_self]
            exact hQ
          | false =>
            simp only [hlg, Bool.false_eq_true, if_false] at hQ
            simp only [go_sem, ↓reduceIte, reduceCtorEq, Nat.reduceLT, Nat.reduceLeDiff, Nat.reduceAdd, Nat.reduceMul, Nat.reduceSub, Nat.reduceEqDiff, Nat.reduceBEq, Int.reduceToNat, Int.reduceLE, Int.reduceLT, hpos, isTwice_eq true x hb.1, ht, ofProcs_eq true x hb, isLarge_eq, hlg, List.length_map, trunc_self]
            exact hQ
    · have hpos : (a : Int) ≥ 0 := by omega
      dsimp only at hQ ⊢
      rw [if_pos hpos] at hQ
      simp only [go_sem, ↓reduceIte, reduceCtorEq, Nat.reduceLT, Nat.reduceLeDiff, Nat.reduceAdd, Nat.reduceMul, Nat.reduceSub, Nat.reduceEqDiff, Nat.reduceBEq, Int.reduceToNat, Int.reduceLE, Int.reduceLT, hpos, trunc_self]
      exact hQ
  · rw [if_neg he] at hQ
    simp only [b12, go_sem, ↓reduceIte, reduceCtorEq, Nat.reduceLT, Nat.reduceLeDiff, Nat.reduceAdd, Nat.reduceMul, Nat.reduceSub, Nat.reduceEqDiff, Nat.reduceBEq, Int.reduceToNat, Int.reduceLE, Int.reduceLT, lex_eq, lexRes, bne_iff_ne.2 he, trunc_self]
    exact hQ
end
end Go.Proofs.YtelpkgbghhpgaaaGreatDoor.Sx
end
section
/- When expressions are equal: the program's and the document's functions. -/
set_option maxRecDepth 100000
namespace Go.Proofs.YtelpkgbghhpgaaaGreatDoor.Sx

mutual
def sameX : Xp → Xp → Bool
  | .mk op s vk vn vs _ p _ l, y => match y with
    | .mk op2 s2 vk2 vn2 vs2 _ p2 _ l2 => (op == op2) && ((s == s2) && ((vk == vk2 && (vn == vn2 && vs == vs2)) && ((p == p2) && sameXs l l2)))
def sameXs : List Xp → List Xp → Bool
  | [], l => l.isEmpty
  | x :: l, m => match m with
    | [] => false
    | y :: m => sameX x y && sameXs l m
end

mutual
theorem sameX_refl : ∀ x : Xp, sameX x x = true
  | .mk op s vk vn vs pn p ln l => by
    simp only [sameX, beq_self_eq_true, Bool.true_and]
    exact sameXs_refl l
theorem sameXs_refl : ∀ l : List Xp, sameXs l l = true
  | [] => rfl
  | x :: l => by
    simp only [sameXs, sameX_refl x, sameXs_refl l, Bool.and_self]
end

theorem sameXs_len : ∀ {l m : List Xp}, sameXs l m = true → l.length = m.length
  | [], [], _ => rfl
  | [], _ :: _, h => by simp [sameXs] at h
  | _ :: _, [], h => by simp [sameXs] at h
  | x :: l, y :: m, h => by
    simp only [sameXs, Bool.and_eq_true] at h
    simp [sameXs_len h.2]
theorem sameXs_drop {l m : List Xp} {i : Nat} (h1 : i < l.length) (h2 : i < m.length) : sameXs (l.drop i) (m.drop i) = (sameX l[i] m[i] && sameXs (l.drop (i + 1)) (m.drop (i + 1))) := by
  rw [List.drop_eq_getElem_cons h1, List.drop_eq_getElem_cons h2, sameXs]
theorem strs_drop {l m : List (List UInt8)} {i : Nat} (h1 : i < l.length) (h2 : i < m.length) : (l.drop i == m.drop i) = (l[i] == m[i] && (l.drop (i + 1)) == (m.drop (i + 1))) := by
  rw [List.drop_eq_getElem_cons h1, List.drop_eq_getElem_cons h2]; rfl

section
variable {st : St} {Q : Res → St → Prop}

theorem slEqual_eq (n1 n2 : Bool) (l m : List (List UInt8)) (hl : l.length < most) : CallA S 42 [encSl n1 1 (encStr l), encSl n2 1 (encStr m)] st Q = Q (.ret (.bool (l == m))) st := by
  refine callA_eq (fun Q hQ => ?_) Q
  refine callA_body (by rfl) (by rfl) rfl ?_
  unfold most at hl
  by_cases h0 : (l.length : Int) = (m.length : Int)
  · have h0' : l.length = m.length := by omega
    have hb : ((l.length : Int) != (m.length : Int)) = false := by simp [h0']
    simp only [b42, go_sem, ↓reduceIte, reduceCtorEq, Nat.reduceLT, Nat.reduceLeDiff, Nat.reduceAdd, Nat.reduceMul, Nat.reduceSub, Nat.reduceEqDiff, Nat.reduceBEq, Int.reduceToNat, Int.reduceLE, Int.reduceLT, encStr_length, hb]
    refine wp_loop (fun n fr st' => st' = st ∧ ∃ (i : Nat) (ser : Nat), n + i = l.length ∧ (l == m) = (l.drop i == m.drop i) ∧
      fr = ⟨[(0, encSl n1 1 (encStr l)), (1, encSl n2 1 (encStr m)), (12, .int .i64 (l.length : Int)), (13, .int .i64 (i : Int))], [], [], ser⟩) l.length ⟨rfl, 0, _, rfl, rfl, rfl⟩ ?_
    rintro n fr st' ⟨rfl, i, ser, hn, hsz, rfl⟩
    by_cases h : (i : Int) < (l.length : Int)
    · have hi : i < l.length := by omega
      have hi2 : i < m.length := by omega
      rw [strs_drop hi hi2] at hsz
      cases hc : (l[i] == m[i]) with
      | true =>
        simp only [hc, Bool.true_and] at hsz
        simp only [b42l0, go_sem, ↓reduceIte, reduceCtorEq, Nat.reduceLT, Nat.reduceLeDiff, Nat.reduceAdd, Nat.reduceMul, Nat.reduceSub, Nat.reduceEqDiff, Nat.reduceBEq, Int.reduceToNat, Int.reduceLE, Int.reduceLT, h, el_str n1 l hi, el_str n2 m hi2, hc, wrap_one i (by omega)]
        exact ⟨n - 1, by omega, i + 1, _, by omega, hsz, rfl⟩
      | false =>
        simp only [hc, Bool.false_and] at hsz
        rw [hsz] at hQ
        simp only [b42l0, go_sem, ↓reduceIte, reduceCtorEq, Nat.reduceLT, Nat.reduceLeDiff, Nat.reduceAdd, Nat.reduceMul, Nat.reduceSub, Nat.reduceEqDiff, Nat.reduceBEq, Int.reduceToNat, Int.reduceLE, Int.reduceLT, h, el_str n1 l hi, el_str n2 m hi2, hc, trunc_self]
        exact hQ
    · rw [List.drop_of_length_le (by omega), List.drop_of_length_le (by omega)] at hsz
      rw [hsz] at hQ
      simp only [b42l0, go_sem, ↓reduceIte, reduceCtorEq, Nat.reduceLT, Nat.reduceLeDiff, Nat.reduceAdd, Nat.reduceMul, Nat.reduceSub, Nat.reduceEqDiff, Nat.reduceBEq, Int.reduceToNat, Int.reduceLE, Int.reduceLT, h, trunc_self]
      exact hQ
  · have hb := bne_iff_ne.2 h0
    have he : (l == m) = false := by
      simp only [beq_eq_false_iff_ne, ne_eq]
      rintro rfl
      exact h0 rfl
    rw [he] at hQ
    simp only [b42, go_sem, ↓reduceIte, reduceCtorEq, Nat.reduceLT, Nat.reduceLeDiff, Nat.reduceAdd, Nat.reduceMul, Nat.reduceSub, Nat.reduceEqDiff, Nat.reduceBEq, Int.reduceToNat, Int.reduceLE, Int.reduceLT, encStr_length, hb, trunc_self]
    exact hQ

theorem sameTexts6_eq (n1 n2 : Bool) (l m : List (List UInt8)) (hl : l.length < most) : CallA S 32 [encSl n1 1 (encStr l), encSl n2 1 (encStr m)] st Q = Q (.ret (.bool (l == m))) st := by
  refine callA_eq (fun Q hQ => ?_) Q
  refine callA_body (by rfl) (by rfl) rfl ?_
  unfold most at hl
  by_cases h0 : (l.length : Int) = (m.length : Int)
  · have h0' : l.length = m.length := by omega
    have hb : ((l.length : Int) != (m.length : Int)) = false := by simp [h0']
    simp only [b32, go_sem, ↓reduceIte, reduceCtorEq, Nat.reduceLT, Nat.reduceLeDiff, Nat.reduceAdd, Nat.reduceMul, Nat.reduceSub, Nat.reduceEqDiff, Nat.reduceBEq, Int.reduceToNat, Int.reduceLE, Int.reduceLT, encStr_length, hb]
    refine wp_loop (fun n fr st' => st' = st ∧ ∃ (i : Nat) (ser : Nat), n + i = l.length ∧ (l == m) = (l.drop i == m.drop i) ∧
      fr = ⟨[(0, encSl n1 1 (encStr l)), (1, encSl n2 1 (encStr m)), (5, .int .i64 (i : Int))], [], [], ser⟩) l.length ⟨rfl, 0, _, rfl, rfl, rfl⟩ ?_
    rintro n fr st' ⟨rfl, i, ser, hn, hsz, rfl⟩
    by_cases h : (i : Int) < (l.length : Int)
    · have hi : i < l.length := by omega
      have hi2 : i < m.length := by omega
      rw [strs_drop hi hi2] at hsz
      cases hc : (l[i] == m[i]) with
      | true =>
        simp only [hc, Bool.true_and] at hsz
        simp only [b32l0, go_sem, ↓reduceIte, reduceCtorEq, Nat.reduceLT, Nat.reduceLeDiff, Nat.reduceAdd, Nat.reduceMul, Nat.reduceSub, Nat.reduceEqDiff, Nat.reduceBEq, Int.reduceToNat, Int.reduceLE, Int.reduceLT, encStr_length, h, el_str n1 l hi, el_str n2 m hi2, hc, wrap_one i (by omega)]
        exact ⟨n - 1, by omega, i + 1, _, by omega, hsz, rfl⟩
      | false =>
        simp only [hc, Bool.false_and] at hsz
        rw [hsz] at hQ
        simp only [b32l0, go_sem, ↓reduceIte, reduceCtorEq, Nat.reduceLT, Nat.reduceLeDiff, Nat.reduceAdd, Nat.reduceMul, Nat.reduceSub, Nat.reduceEqDiff, Nat.reduceBEq, Int.reduceToNat, Int.reduceLE, Int.reduceLT, encStr_length, h, el_str n1 l hi, el_str n2 m hi2, hc, trunc_self]
        exact hQ
    · rw [List.drop_of_length_le (by omega), List.drop_of_length_le (by omega)] at hsz
      rw [hsz] at hQ
      simp only [b32l0, go_sem, ↓reduceIte, reduceCtorEq, Nat.reduceLT, Nat.reduceLeDiff, Nat.reduceAdd, Nat.reduceMul, Nat.reduceSub, Nat.reduceEqDiff, Nat.reduceBEq, Int.reduceToNat, Int.reduceLE, Int.reduceLT, encStr_length, h, trunc_self]
      exact hQ
  · have hb := bne_iff_ne.2 h0
    have he : (l == m) = false := by
      simp only [beq_eq_false_iff_ne, ne_eq]
      rintro rfl
      exact h0 rfl
    rw [he] at hQ
    simp only [b32, go_sem, ↓reduceIte, reduceCtorEq, Nat.reduceLT, Nat.reduceLeDiff, Nat.reduceAdd, Nat.reduceMul, Nat.reduceSub, Nat.reduceEqDiff, Nat.reduceBEq, Int.reduceToNat, Int.reduceLE, Int.reduceLT, encStr_length, hb, trunc_self]
    exact hQ
end
end Go.Proofs.YtelpkgbghhpgaaaGreatDoor.Sx
end
