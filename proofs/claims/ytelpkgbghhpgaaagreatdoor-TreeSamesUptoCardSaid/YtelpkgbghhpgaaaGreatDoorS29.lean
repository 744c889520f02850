/- TreeSames returns true for all programs whose data are not larger than a bound. Sizes of statements and programs. Statements and procedures that are read as data. tree.Parse. When expressions are equal: the program's and the document's functions. -/
import Derived.Test.YtelpkgbghhpgaaaGreatDoorS28
set_option linter.all false
section
/- Sizes of statements and programs. -/
set_option maxRecDepth 100000
namespace Go.Proofs.YtelpkgbghhpgaaaGreatDoor.Sx

mutual
def szSm : Sm → Int × Int
  | .mk _ _ _ _ _ _ x _ b _ _ n _ f _ w => szBls (szXs (1, 1) (x ++ n ++ f ++ w)) b
def szSms : Int × Int → List Sm → Int × Int
  | acc, [] => acc
  | acc, x :: l => szSms (szBeside acc (szSm x)) l
def szBls : Int × Int → List (Bool × List Sm) → Int × Int
  | acc, [] => acc
  | acc, (_, x) :: l => szBls (szIn acc (szSms (0, 0) x)) l
end
def szPds : Int × Int → List Pd → Int × Int
  | acc, [] => acc
  | acc, x :: l => szPds (szBeside acc (szSms (0, 0) x.body)) l

mutual
def bdSm : Sm → Prop
  | .mk _ _ _ _ p _ x _ b _ _ n _ f _ w => p.length < most ∧ b.length < most ∧ (x.length + n.length + f.length + w.length) * 168 ≤ 1099511627776 ∧ bdXs x ∧ bdXs n ∧ bdXs f ∧ bdXs w ∧ bdBls b
def bdSms : List Sm → Prop
  | [] => True
  | x :: l => bdSm x ∧ bdSms l
def bdBls : List (Bool × List Sm) → Prop
  | [] => True
  | (_, x) :: l => (x.length < most ∧ bdSms x) ∧ bdBls l
end
def bdPds (l : List Pd) : Prop := l.length < most ∧ ∀ x ∈ l, x.p.length < most ∧ x.body.length < most ∧ bdSms x.body

theorem bdSms_mem : ∀ {l : List Sm}, bdSms l → ∀ x ∈ l, bdSm x
  | [], _, x, h => by cases h
  | y :: l, h, x, hx => by
    simp only [bdSms] at h
    rcases List.mem_cons.1 hx with rfl | hx
    · exact h.1
    · exact bdSms_mem h.2 x hx
theorem bdBls_mem : ∀ {l : List (Bool × List Sm)}, bdBls l → ∀ x ∈ l, x.2.length < most ∧ bdSms x.2
  | [], _, x, h => by cases h
  | (n, y) :: l, h, x, hx => by
    simp only [bdBls] at h
    rcases List.mem_cons.1 hx with rfl | hx
    · exact h.1
    · exact bdBls_mem h.2 x hx
theorem bdXs_append {a b : List Xp} (ha : bdXs a) (hb : bdXs b) : bdXs (a ++ b) := bdXs_of fun x hx => (List.mem_append.1 hx).elim (bdXs_mem ha x) (bdXs_mem hb x)

theorem szSms_drop {l : List Sm} {i : Nat} (h : i < l.length) (acc : Int × Int) : szSms acc (l.drop i) = szSms (szBeside acc (szSm l[i])) (l.drop (i + 1)) := by
  rw [List.drop_eq_getElem_cons h, szSms]
theorem szBls_drop {l : List (Bool × List Sm)} {i : Nat} (h : i < l.length) (acc : Int × Int) : szBls acc (l.drop i) = szBls (szIn acc (szSms (0, 0) l[i].2)) (l.drop (i + 1)) := by
  rw [List.drop_eq_getElem_cons h, szBls]
theorem szPds_drop {l : List Pd} {i : Nat} (h : i < l.length) (acc : Int × Int) : szPds acc (l.drop i) = szPds (szBeside acc (szSms (0, 0) l[i].body)) (l.drop (i + 1)) := by
  rw [List.drop_eq_getElem_cons h, szPds]

theorem el_Sm (n : Bool) (l : List Sm) {i : Nat} (h : i < l.length) : elA 10 (i : Int) (encSl n 10 (encSms l)) = some (encSm l[i]) := by
  rw [elA_sl (by rw [encSms_length]; exact h)]
  simp [encSms_eq]
theorem el_Bl (n : Bool) (l : List (Bool × List Sm)) {i : Nat} (h : i < l.length) : elA 1 (i : Int) (encSl n 1 (encBls l)) = some [encSl l[i].1 10 (encSms l[i].2)] := by
  rw [elA_sl (by rw [encBls_length]; exact h)]
  simp [encBls_eq]
theorem el_Pd (n : Bool) (l : List Pd) {i : Nat} (h : i < l.length) : elA 4 (i : Int) (encSl n 4 (encPds l)) = some (encPd l[i]) := by
  rw [elA_sl (by rw [encPds_length]; exact h)]
  simp [encPds]

section
variable {st : St} {Q : Res → St → Prop}

theorem ofStmts_of (nb : Bool) (l : List Sm) (hl : l.length < most)
    (ih : ∀ (i : Nat) (h : i < l.length) (st : St) (Q : Res → St → Prop), CallA S 100 [.agg (encSm l[i])] st Q = Q (.ret (.agg [.int .i64 (szSm l[i]).1, .int .i64 (szSm l[i]).2])) st) :
    CallA S 69 [encSl nb 10 (encSms l)] st Q = Q (.ret (.agg [.int .i64 (szSms (0, 0) l).1, .int .i64 (szSms (0, 0) l).2])) st := by
  refine callA_eq (fun Q hQ => ?_) Q
  refine callA_body (by rfl) (by rfl) rfl ?_
  unfold most at hl
  simp only [b69, go_sem, encSms_length]
  refine wp_loop (fun n fr st' => st' = st ∧ ∃ (i : Nat) (acc : Int × Int) (ser ser2 : Nat) (lx : Nat × List AV), n + i = l.length ∧ szSms (0, 0) l = szSms acc (l.drop i) ∧
    fr = ⟨[(2, .lptr 0 1 0), (3, .lptr 1 ser 0), (6, encSl nb 10 (encSms l)), (7, .int .i64 (l.length : Int)), (8, .int .i64 (i : Int))], [(1, [.int .i64 0, .int .i64 0]), (ser, [.int .i64 acc.1, .int .i64 acc.2]), lx], [], ser2⟩) l.length ⟨rfl, 0, (0, 0), _, _, _, rfl, rfl, rfl⟩ ?_
  rintro n fr st' ⟨rfl, i, acc, ser, ser2, lx, hn, hsz, rfl⟩
  by_cases h : (i : Int) < (l.length : Int)
  · have hi : i < l.length := by omega
    rw [szSms_drop hi] at hsz
    simp only [b69l0, go_sem, h, el_Sm nb l hi, ih i hi, beside_eq acc (szSm l[i]), wrap_one i (by omega)]
    exact ⟨n - 1, by omega, i + 1, szBeside acc (szSm l[i]), ser, _, _, by omega, hsz, rfl⟩
  · rw [List.drop_of_length_le (by omega), szSms] at hsz
    rw [hsz] at hQ
    simp only [b69l0, go_sem, h, trunc_self]
    exact hQ

theorem ofProcs_of (nb : Bool) (l : List Pd) (hl : l.length < most)
    (ih : ∀ (i : Nat) (h : i < l.length) (st : St) (Q : Res → St → Prop), CallA S 69 [encSl l[i].bn 10 (encSms l[i].body)] st Q = Q (.ret (.agg [.int .i64 (szSms (0, 0) l[i].body).1, .int .i64 (szSms (0, 0) l[i].body).2])) st) :
    CallA S 36 [encSl nb 4 (encPds l)] st Q = Q (.ret (.agg [.int .i64 (szPds (0, 0) l).1, .int .i64 (szPds (0, 0) l).2])) st := by
  refine callA_eq (fun Q hQ => ?_) Q
  refine callA_body (by rfl) (by rfl) rfl ?_
  unfold most at hl
  simp only [b36, go_sem, encPds_length]
  refine wp_loop (fun n fr st' => st' = st ∧ ∃ (i : Nat) (acc : Int × Int) (ser ser2 : Nat) (lx : Nat × List AV), n + i = l.length ∧ szPds (0, 0) l = szPds acc (l.drop i) ∧
    fr = ⟨[(2, .lptr 0 1 0), (3, .lptr 1 ser 0), (6, encSl nb 4 (encPds l)), (7, .int .i64 (l.length : Int)), (8, .int .i64 (i : Int))], [(1, [.int .i64 0, .int .i64 0]), (ser, [.int .i64 acc.1, .int .i64 acc.2]), lx], [], ser2⟩) l.length ⟨rfl, 0, (0, 0), _, _, _, rfl, rfl, rfl⟩ ?_
  rintro n fr st' ⟨rfl, i, acc, ser, ser2, lx, hn, hsz, rfl⟩
  by_cases h : (i : Int) < (l.length : Int)
  · have hi : i < l.length := by omega
    rw [szPds_drop hi] at hsz
    simp only [b36l0, go_sem, h, el_Pd nb l hi, encPd, ih i hi, beside_eq acc (szSms (0, 0) l[i].body), wrap_one i (by omega)]
    exact ⟨n - 1, by omega, i + 1, szBeside acc (szSms (0, 0) l[i].body), ser, _, _, by omega, hsz, rfl⟩
  · rw [List.drop_of_length_le (by omega), szPds] at hsz
    rw [hsz] at hQ
    simp only [b36l0, go_sem, h, trunc_self]
    exact hQ

theorem concat4 {xn nn fn wn : Bool} {x n f w : List Xp} (hb : (x.length + n.length + f.length + w.length) * 168 ≤ 1099511627776) :
    CallA S 135 [.slice 1 [[encSl xn 7 (encXs x)], [encSl nn 7 (encXs n)], [encSl fn 7 (encXs f)], [encSl wn 7 (encXs w)]] .no] st Q = Q (.ret (encSl true 7 (encXs (x ++ n ++ f ++ w)))) st := by
  refine callA_intr (n := 0) (by rfl) ?_ Q
  have e : concatE 7 [[encSl xn 7 (encXs x)], [encSl nn 7 (encXs n)], [encSl fn 7 (encXs f)], [encSl wn 7 (encXs w)]] = some (encXs (x ++ n ++ f ++ w)) := by
    simp only [concatE, elsOf_sl, List.append_nil, Option.some.injEq, encXs_eq, List.map_append, List.append_assoc]
  have hl4 : [[encSl xn 7 (encXs x)], [encSl nn 7 (encXs n)], [encSl fn 7 (encXs f)], [encSl wn 7 (encXs w)]].length < 1099511627776 := by simp
  simp only [iConcat, e, hl4, if_true]
  cases h : x ++ n ++ f ++ w with
  | nil => rfl
  | cons y r =>
    have hl : (encXs (y :: r)).length * 168 ≤ 1099511627776 := by
      rw [← h, encXs_length, List.length_append, List.length_append, List.length_append]; exact hb
    rw [encXs] at hl ⊢
    simp only [hl, if_true]
    rfl

theorem ofStmt_eq : ∀ (x : Sm), bdSm x → ∀ (st : St) (Q : Res → St → Prop), CallA S 100 [.agg (encSm x)] st Q = Q (.ret (.agg [.int .i64 (szSm x).1, .int .i64 (szSm x).2])) st
  | .mk op s t pn p xn x bn b ck nn n fn f wn w, hb => by
    simp only [bdSm] at hb
    obtain ⟨_, hbl, hxl, hx, hn, hf, hw, hbb⟩ := hb
    have hbX : bdXs (x ++ n ++ f ++ w) := bdXs_append (bdXs_append (bdXs_append hx hn) hf) hw
    have hl : (x ++ n ++ f ++ w).length < 1099511627776 := by simp only [List.length_append]; omega
    unfold most at hbl
    have ih : ∀ (i : Nat) (h : i < b.length) (st : St) (Q : Res → St → Prop), CallA S 69 [encSl b[i].1 10 (encSms b[i].2)] st Q = Q (.ret (.agg [.int .i64 (szSms (0, 0) b[i].2).1, .int .i64 (szSms (0, 0) b[i].2).2])) st :=
      fun i h st Q => ofStmts_of b[i].1 b[i].2 (bdBls_mem hbb _ (List.getElem_mem h)).1 fun j hj => ofStmt_eq b[i].2[j] (bdSms_mem (bdBls_mem hbb _ (List.getElem_mem h)).2 _ (List.getElem_mem hj))
    intro st
    refine callA_eq (fun Q hQ => ?_)
    refine callA_body (by rfl) (by rfl) rfl ?_
    rw [szSm] at hQ
    simp only [b100, go_sem, encSm_mk, concat4 hxl, encXs_length]
    generalize hL : x ++ n ++ f ++ w = L at *
    refine wp_loop (fun m fr st' => st' = st ∧ ∃ (i : Nat) (acc : Int × Int) (ser ser2 : Nat) (lx : Nat × List AV), m + i = L.length ∧ szXs (1, 1) L = szXs acc (L.drop i) ∧
      fr = ⟨[(1, .lptr 0 1 0), (2, .lptr 1 1 0), (3, .lptr 2 ser 0), (21, encSl true 7 (encXs L)), (22, .int .i64 (L.length : Int)), (23, .int .i64 (i : Int))], [(1, encSm (.mk op s t pn p xn x bn b ck nn n fn f wn w)), (1, [.int .i64 0, .int .i64 0]), (ser, [.int .i64 acc.1, .int .i64 acc.2]), lx], [], ser2⟩) L.length ⟨rfl, 0, (1, 1), _, _, _, rfl, rfl, by rw [encSm_mk]; rfl⟩ ?_
    rintro m fr st' ⟨rfl, i, acc, ser, ser2, lx, hm, hsz, rfl⟩
    by_cases h : (i : Int) < (L.length : Int)
    · have hi : i < L.length := by omega
      rw [szXs_drop hi] at hsz
      simp only [b100l0, go_sem, h, el_X true L hi, ofExpr_eq L[i] (bdXs_mem hbX _ (List.getElem_mem hi)), in_eq acc (szX L[i]), wrap_one i (by omega)]
      exact ⟨m - 1, by omega, i + 1, szIn acc (szX L[i]), ser, _, _, by omega, hsz, rfl⟩
    · rw [List.drop_of_length_le (by omega), szXs] at hsz
      rw [hsz] at hQ
      simp only [b100l0, go_sem, h, encSm_mk, encBls_length]
      refine wp_loop (fun m fr st => st = st' ∧ ∃ (i : Nat) (acc2 : Int × Int) (ser ser2 : Nat) (lx lx2 : Nat × List AV), m + i = b.length ∧ szBls acc b = szBls acc2 (b.drop i) ∧
        fr = ⟨[(2, .lptr 1 1 0), (3, .lptr 2 ser 0), (33, encSl bn 1 (encBls b)), (34, .int .i64 (b.length : Int)), (35, .int .i64 (i : Int))], [lx, (1, [.int .i64 0, .int .i64 0]), (ser, [.int .i64 acc2.1, .int .i64 acc2.2]), lx2], [], ser2⟩) b.length ⟨rfl, 0, acc, _, _, _, _, rfl, rfl, rfl⟩ ?_
      rintro m fr st ⟨rfl, i, acc2, ser, ser2, lx, lx2, hm, hsz2, rfl⟩
      by_cases h : (i : Int) < (b.length : Int)
      · have hi : i < b.length := by omega
        rw [szBls_drop hi] at hsz2
        simp only [b100l1, go_sem, h, el_Bl bn b hi, ih i hi, in_eq acc2 (szSms (0, 0) b[i].2), wrap_one i (by omega)]
        exact ⟨m - 1, by omega, i + 1, szIn acc2 (szSms (0, 0) b[i].2), ser, _, _, _, by omega, hsz2, rfl⟩
      · rw [List.drop_of_length_le (by omega), szBls] at hsz2
        rw [hsz2] at hQ
        simp only [b100l1, go_sem, h, trunc_self]
        exact hQ
termination_by x => SizeOf.sizeOf x
decreasing_by
  have h1 := List.sizeOf_lt_of_mem (List.getElem_mem h)
  have h2 := List.sizeOf_lt_of_mem (List.getElem_mem hj)
  have h3 : SizeOf.sizeOf b[i] = 1 + SizeOf.sizeOf b[i].1 + SizeOf.sizeOf b[i].2 := by rfl
  simp only [Sm.mk.sizeOf_spec]
  omega

theorem ofStmts_eq (nb : Bool) (l : List Sm) (hl : l.length < most) (hb : bdSms l) : CallA S 69 [encSl nb 10 (encSms l)] st Q = Q (.ret (.agg [.int .i64 (szSms (0, 0) l).1, .int .i64 (szSms (0, 0) l).2])) st :=
  ofStmts_of nb l hl fun i h => ofStmt_eq _ (bdSms_mem hb _ (List.getElem_mem h))
theorem ofProcs_eq (nb : Bool) (l : List Pd) (hb : bdPds l) : CallA S 36 [encSl nb 4 (encPds l)] st Q = Q (.ret (.agg [.int .i64 (szPds (0, 0) l).1, .int .i64 (szPds (0, 0) l).2])) st :=
  ofProcs_of nb l hb.1 fun i h st Q => ofStmts_eq _ _ (hb.2 _ (List.getElem_mem h)).2.1 (hb.2 _ (List.getElem_mem h)).2.2
end
end Go.Proofs.YtelpkgbghhpgaaaGreatDoor.Sx
end
section
/- Statements and procedures that are read as data. -/
set_option maxRecDepth 100000
namespace Go.Proofs.YtelpkgbghhpgaaaGreatDoor.Sx
open AV Go.Proofs.YtelpkgbghhpgaaaGreatDoor

theorem cStmt : Tryz.prog.cellsOf 50 = 10 := by kernel_rfl
theorem cScope : Tryz.prog.cellsOf 48 = 4 := by kernel_rfl
theorem cStmts : Tryz.prog.cellsOf 43 = 1 := by kernel_rfl
theorem cStmtss : Tryz.prog.cellsOf 46 = 1 := by kernel_rfl
theorem cProc : Tryz.prog.cellsOf 45 = 4 := by kernel_rfl

section
variable {H : Type} {enc : TypeId × Value → H} {w : World} {sp : Nat → Bool} {held : Bool}

/-- What a slice that is read holds, of elements that bear bounds. -/
theorem slice_bd {α : Type} {P : α → Prop} {l : List α} {d : DataW H} (h : (l = [] ∧ d = .nil) ∨ ∃ es rest, d = .slice es rest ∧ es.length = l.length ∧ ∀ i (h : i < l.length) (h' : i < es.length), Rows.uptoBulk es[i] ≤ 1048576 → P l[i]) (hb : Rows.uptoBulk d ≤ 1048576) :
    l.length ≤ Rows.uptoBulk d ∧ ∀ x ∈ l, P x := by
  rcases h with ⟨rfl, rfl⟩ | ⟨es, rest, rfl, he, hi⟩
  · exact ⟨by simp [Rows.uptoBulk], fun x hx => by cases hx⟩
  · have := bulk_len es
    simp only [Rows.uptoBulk] at hb ⊢
    refine ⟨by omega, fun x hx => ?_⟩
    obtain ⟨i, h, rfl⟩ := List.mem_iff_getElem.1 hx
    have hi2 : i < es.length := by omega
    have hm := bulk_mem (List.getElem_mem hi2)
    exact hi i h hi2 (by omega)

theorem exprs_read {n : Nat} {c : Value} {d : DataW H} {ps : List MemPlace} (h : DataW.trod enc Tryz.prog w 0 sp held (n + 1) 27 [c] = some (d, ps)) :
    ∃ (nil : Bool) (l : List Xp), PRep w (Old0 w) (encSl nil 7 (encXs l)) c ∧ (Rows.uptoBulk d ≤ 1048576 → l.length ≤ Rows.uptoBulk d ∧ bdXs l) := by
  obtain ⟨ln, l, r6, b6⟩ := slice_read Tryz.underlying27 c29 (by omega) encX encX_length (fun x d => Rows.uptoBulk d ≤ 1048576 → bdX x) (fun cs d ps _ hd => by
    obtain ⟨x, h1, h2⟩ := readX n cs d ps hd
    exact ⟨x, h1, fun hb => h2 (by unfold most; omega)⟩) h
  refine ⟨ln, l, by rw [encXs_eq]; exact r6, fun hb => ?_⟩
  obtain ⟨h1, h2⟩ := slice_bd b6 hb
  exact ⟨h1, bdXs_of h2⟩

theorem strs_bd {l : List (List UInt8)} {d : DataW H} (b5 : (l = [] ∧ d = .nil) ∨ ∃ es rest, d = .slice es rest ∧ es.length = l.length ∧ ∀ i (h : i < l.length) (h' : i < es.length), es[i] = .lit (.string l[i])) : l.length ≤ Rows.uptoBulk d := by
  rcases b5 with ⟨rfl, rfl⟩ | ⟨es, rest, rfl, he, _⟩
  · simp [Rows.uptoBulk]
  · have := bulk_len es
    simp only [Rows.uptoBulk]
    omega

theorem bdBls_of : ∀ {l : List (Bool × List Sm)}, (∀ x ∈ l, x.2.length < most ∧ bdSms x.2) → bdBls l
  | [], _ => trivial
  | y :: l, h => ⟨h y List.mem_cons_self, bdBls_of fun x hx => h x (List.mem_cons_of_mem _ hx)⟩
theorem bdSms_of : ∀ {l : List Sm}, (∀ x ∈ l, bdSm x) → bdSms l
  | [], _ => trivial
  | y :: l, h => ⟨h y List.mem_cons_self, bdSms_of fun x hx => h x (List.mem_cons_of_mem _ hx)⟩

theorem readSm : ∀ (fuel : Nat) (cs : List Value) (d : DataW H) (ps : List MemPlace), DataW.trod enc Tryz.prog w 0 sp held fuel 50 cs = some (d, ps) →
    ∃ x, RepL w (encSm x) cs ∧ (Rows.uptoBulk d ≤ 1048576 → bdSm x)
  | 0, cs, d, ps, h => by simp [DataW.trod] at h
  | 1, cs, d, ps, h => by
    obtain ⟨_, xs, hx, _⟩ := struct_read Tryz.underlying50 h
    simp [DataW.trod] at hx
  | 2, cs, d, ps, h => by
    obtain ⟨hl, xs, hx, rfl⟩ := struct_read Tryz.underlying50 h
    rw [cStmt] at hl
    match cs, hl with
    | [c0, c1, c2, c3, c4, c5, c6, c7, c8, c9], _ =>
      simp only [List.mapM_cons, List.mapM_nil, cScope, cInt, cStr, cStrs, cXs, cStmtss, List.drop_succ_cons, List.drop_zero, List.take_succ_cons, List.take_zero, bind, Option.bind_eq_some_iff, pure, Option.some.injEq] at hx
      obtain ⟨⟨d0, p0⟩, h0, y1, ⟨⟨d1, p1⟩, h1, y2, ⟨⟨d2, p2⟩, h2, y3, ⟨⟨d3, p3⟩, h3, y4, ⟨⟨d4, p4⟩, h4, y5, ⟨⟨d5, p5⟩, h5, y6, ⟨⟨d6, p6⟩, h6, y7, rfl, rfl⟩, rfl⟩, rfl⟩, rfl⟩, rfl⟩, rfl⟩, rfl⟩ := hx
      obtain ⟨_, ys, hy, rfl⟩ := struct_read Tryz.underlying48 h6
      simp [DataW.trod] at hy
  | n + 3, cs, d, ps, h => by
    obtain ⟨hl, xs, hx, rfl⟩ := struct_read Tryz.underlying50 h
    rw [cStmt] at hl
    match cs, hl with
    | [c0, c1, c2, c3, c4, c5, c6, c7, c8, c9], _ =>
      simp only [List.mapM_cons, List.mapM_nil, cScope, cInt, cStr, cStrs, cXs, cStmtss, List.drop_succ_cons, List.drop_zero, List.take_succ_cons, List.take_zero, bind, Option.bind_eq_some_iff, pure, Option.some.injEq] at hx
      obtain ⟨⟨d0, p0⟩, h0, y1, ⟨⟨d1, p1⟩, h1, y2, ⟨⟨d2, p2⟩, h2, y3, ⟨⟨d3, p3⟩, h3, y4, ⟨⟨d4, p4⟩, h4, y5, ⟨⟨d5, p5⟩, h5, y6, ⟨⟨d6, p6⟩, h6, y7, rfl, rfl⟩, rfl⟩, rfl⟩, rfl⟩, rfl⟩, rfl⟩, rfl⟩ := hx
      obtain ⟨op, r0, rfl⟩ := int_read Tryz.underlying3 h0
      obtain ⟨s, r1, rfl⟩ := str_read Tryz.underlying9 h1
      obtain ⟨t, r2, rfl⟩ := str_read Tryz.underlying9 h2
      obtain ⟨pn, p, r3, b3⟩ := strs_read Tryz.underlying26 Tryz.underlying9 cStr h3
      obtain ⟨xn, x, r4, b4⟩ := exprs_read h4
      obtain ⟨bn, b, r5, b5⟩ := slice_read Tryz.underlying46 cStmts (by omega) (fun x : Bool × List Sm => [encSl x.1 10 (encSms x.2)]) (fun _ => rfl) (fun x d => Rows.uptoBulk d ≤ 1048576 → x.2.length < most ∧ bdSms x.2) (fun cs d ps hl hd => by
        match cs, hl with
        | [c], _ =>
          obtain ⟨ln, l, h1, h2⟩ := slice_read Tryz.underlying43 cStmt (by omega) encSm encSm_length (fun x d => Rows.uptoBulk d ≤ 1048576 → bdSm x) (fun cs d ps _ hd => readSm n cs d ps hd) hd
          refine ⟨(ln, l), .cons (by rw [encSms_eq]; exact h1) .nil, fun hb => ?_⟩
          obtain ⟨h3, h4⟩ := slice_bd h2 hb
          exact ⟨by unfold most; simp only; omega, bdSms_of h4⟩) h5
      obtain ⟨_, ys, hy, rfl⟩ := struct_read Tryz.underlying48 h6
      simp only [List.mapM_cons, List.mapM_nil, cInt, cXs, List.drop_succ_cons, List.drop_zero, List.take_succ_cons, List.take_zero, bind, Option.bind_eq_some_iff, pure, Option.some.injEq] at hy
      obtain ⟨⟨e0, q0⟩, g0, z1, ⟨⟨e1, q1⟩, g1, z2, ⟨⟨e2, q2⟩, g2, z3, ⟨⟨e3, q3⟩, g3, z4, rfl, rfl⟩, rfl⟩, rfl⟩, rfl⟩ := hy
      obtain ⟨ck, r6, rfl⟩ := int_read Tryz.underlying3 g0
      obtain ⟨nn, n', r7, b7⟩ := exprs_read g1
      obtain ⟨fn, f, r8, b8⟩ := exprs_read g2
      obtain ⟨wn, w', r9, b9⟩ := exprs_read g3
      refine ⟨.mk op s t pn p xn x bn b ck nn n' fn f wn w', ?_, fun hb => ?_⟩
      · rw [encSm_mk, encBls_eq]
        exact .cons r0 (.cons r1 (.cons r2 (.cons r3 (.cons r4 (.cons r5 (.cons r6 (.cons r7 (.cons r8 (.cons r9 .nil)))))))))
      · simp only [Rows.uptoBulk, Rows.uptoBulkAll, List.map_cons, List.map_nil] at hb
        have hp := strs_bd b3
        have hx := b4 (by omega)
        have hB := slice_bd (P := fun x : Bool × List Sm => x.2.length < most ∧ bdSms x.2) b5 (by omega)
        have hn := b7 (by omega)
        have hf := b8 (by omega)
        have hw := b9 (by omega)
        simp only [bdSm]
        exact ⟨by unfold most; omega, by unfold most; omega, by omega, hx.2, hn.2, hf.2, hw.2, bdBls_of hB.2⟩

theorem readPd (fuel : Nat) (cs : List Value) (d : DataW H) (ps : List MemPlace) (h : DataW.trod enc Tryz.prog w 0 sp held fuel 45 cs = some (d, ps)) :
    ∃ x, RepL w (encPd x) cs ∧ (Rows.uptoBulk d ≤ 1048576 → x.p.length < most ∧ x.body.length < most ∧ bdSms x.body) := by
  match fuel with
  | 0 => simp [DataW.trod] at h
  | 1 =>
    obtain ⟨_, xs, hx, _⟩ := struct_read Tryz.underlying45 h
    simp [DataW.trod] at hx
  | n + 2 =>
    obtain ⟨hl, xs, hx, rfl⟩ := struct_read Tryz.underlying45 h
    rw [cProc] at hl
    match cs, hl with
    | [c0, c1, c2, c3], _ =>
      simp only [List.mapM_cons, List.mapM_nil, cBool, cStr, cStrs, cStmts, List.drop_succ_cons, List.drop_zero, List.take_succ_cons, List.take_zero, bind, Option.bind_eq_some_iff, pure, Option.some.injEq] at hx
      obtain ⟨⟨d0, p0⟩, h0, y1, ⟨⟨d1, p1⟩, h1, y2, ⟨⟨d2, p2⟩, h2, y3, ⟨⟨d3, p3⟩, h3, y4, rfl, rfl⟩, rfl⟩, rfl⟩, rfl⟩ := hx
      obtain ⟨s, r0, rfl⟩ := str_read Tryz.underlying9 h0
      obtain ⟨b, r1, rfl⟩ := bool_read Tryz.underlying4 h1
      obtain ⟨pn, p, r2, b2⟩ := strs_read Tryz.underlying26 Tryz.underlying9 cStr h2
      obtain ⟨ln, l, r3, b3⟩ := slice_read Tryz.underlying43 cStmt (by omega) encSm encSm_length (fun x d => Rows.uptoBulk d ≤ 1048576 → bdSm x) (fun cs d ps _ hd => readSm n cs d ps hd) h3
      refine ⟨⟨s, b, pn, p, ln, l⟩, ?_, fun hb => ?_⟩
      · rw [encPd]
        simp only [encSms_eq]
        exact .cons r0 (.cons r1 (.cons r2 (.cons r3 .nil)))
      · simp only [Rows.uptoBulk, Rows.uptoBulkAll, List.map_cons, List.map_nil] at hb
        have hp := strs_bd b2
        have hB := slice_bd (P := bdSm) b3 (by omega)
        exact ⟨by unfold most; simp only; omega, by unfold most; simp only; omega, bdSms_of hB.2⟩

theorem readPds (fuel : Nat) (c : Value) (d : DataW H) (ps : List MemPlace) (h : DataW.trod enc Tryz.prog w 0 sp held fuel 34 [c] = some (d, ps)) :
    ∃ (nil : Bool) (l : List Pd), PRep w (Old0 w) (encSl nil 4 (encPds l)) c ∧ (Rows.uptoBulk d ≤ 1048576 → bdPds l) := by
  match fuel with
  | 0 => simp [DataW.trod] at h
  | n + 1 =>
    obtain ⟨ln, l, r, b⟩ := slice_read Tryz.underlying34 cProc (by omega) encPd encPd_length (fun x d => Rows.uptoBulk d ≤ 1048576 → x.p.length < most ∧ x.body.length < most ∧ bdSms x.body) (fun cs d ps _ hd => readPd n cs d ps hd) h
    refine ⟨ln, l, r, fun hb => ?_⟩
    obtain ⟨h1, h2⟩ := slice_bd (P := fun x : Pd => x.p.length < most ∧ x.body.length < most ∧ bdSms x.body) b hb
    exact ⟨by unfold most; omega, h2⟩
end
end Go.Proofs.YtelpkgbghhpgaaaGreatDoor.Sx
end
section
/- tree.Parse. -/
set_option maxRecDepth 100000
namespace Go.Proofs.YtelpkgbghhpgaaaGreatDoor.Sx

def hasTwice : List (List UInt8) → List Pd → Bool
  | _, [] => false
  | seen, x :: l => if seen.contains x.name = true then true else hasTwice (seen ++ [x.name]) l

def encSeen (l : List (List UInt8)) : List (AV × AV) := l.map fun s => (.str s, .bool true)
theorem lookE_seen (s : List UInt8) : ∀ l, lookE (.str s) (encSeen l) = some (if l.contains s = true then some (.bool true) else none)
  | [] => rfl
  | x :: l => by
    rw [encSeen, List.map_cons, lookE]
    by_cases h : x = s
    · subst h
      simp [keyEq]
    · have h2 : (x == s) = false := by simp [h]
      have h3 : (s == x) = false := by simp [Ne.symm h]
      have := lookE_seen s l
      rw [encSeen] at this
      simp [keyEq, h2, h3, this, Ne.symm h]
theorem setE_seen (s : List UInt8) : ∀ l, l.contains s = false → setE (.str s) (.bool true) (encSeen l) = some (encSeen (l ++ [s]))
  | [], _ => rfl
  | x :: l, h => by
    rw [encSeen, List.map_cons, setE]
    simp only [List.contains_cons, Bool.or_eq_false_iff] at h
    have h2 : (x == s) = false := by
      have := h.1
      simp only [beq_eq_false_iff_ne, ne_eq] at this ⊢
      exact Ne.symm this
    have := setE_seen s l h.2
    rw [encSeen] at this
    simp [keyEq, h.1, h2, this, encSeen]

theorem hasTwice_drop {l : List Pd} {i : Nat} (h : i < l.length) (seen : List (List UInt8)) :
    hasTwice seen (l.drop i) = if seen.contains l[i].name = true then true else hasTwice (seen ++ [l[i].name]) (l.drop (i + 1)) := by
  rw [List.drop_eq_getElem_cons h, hasTwice]

section
variable {st : St} {id a : Nat} {l : List Tok} {Q : Res → St → Prop}

theorem isTwice_eq (nb : Bool) (l : List Pd) (hl : l.length < most) : CallA S 35 [encSl nb 4 (encPds l)] st Q = Q (.ret (.bool (hasTwice [] l))) st := by
  refine callA_eq (fun Q hQ => ?_) Q
  refine callA_body (by rfl) (by rfl) rfl ?_
  unfold most at hl
  simp only [b35, go_sem, encPds_length]
  refine wp_loop (fun n fr st' => ∃ (seen : List (List UInt8)) (i ser : Nat) (lx : Nat × List AV), st' = st.push (.map (encSeen seen)) ∧ n + i = l.length ∧ hasTwice [] l = hasTwice seen (l.drop i) ∧
    fr = ⟨[(3, .mapr st.size), (7, encSl nb 4 (encPds l)), (8, .int .i64 (l.length : Int)), (9, .int .i64 (i : Int))], [lx], [], ser⟩) l.length ⟨[], 0, _, _, rfl, rfl, rfl, rfl⟩ ?_
  rintro n fr st' ⟨seen, i, ser, lx, rfl, hn, hsz, rfl⟩
  by_cases h : (i : Int) < (l.length : Int)
  · have hi : i < l.length := by omega
    rw [hasTwice_drop hi] at hsz
    cases hc : seen.contains l[i].name with
    | true =>
      rw [if_pos hc] at hsz
      rw [hsz] at hQ
      simp only [b35l0, go_sem, h, el_Pd nb l hi, encPd, entries_new, lookE_seen, hc, trunc_push]
      exact hQ
    | false =>
      rw [if_neg (by rw [hc]; exact Bool.false_ne_true)] at hsz
      simp only [b35l0, go_sem, h, el_Pd nb l hi, encPd, entries_new, lookE_seen, hc, setE_seen _ _ hc, setMap_new, wrap_one i (by omega)]
      exact ⟨n - 1, by omega, seen ++ [l[i].name], i + 1, _, _, rfl, by omega, hsz, rfl⟩
  · rw [List.drop_of_length_le (by omega), hasTwice] at hsz
    rw [hsz] at hQ
    simp only [b35l0, go_sem, h, trunc_push]
    exact hQ

/-- What `syntax.Program` comes to, from what reading does. -/
def programQ (l : List Tok) (Q : List Pd → Int → Prop) (r : PR (List Pd)) : Prop :=
  r.on (fun x a => Q x (if (a : Int) < (l.length : Int) then (a : Int) else -1)) (fun a => Q [] (a : Int))

theorem syntaxProgram_ok (hl : l.length < 65536) (hT : ∀ t ∈ l, TokOk t) (r : PR (List Pd))
    (hP : ∀ (st : St) (id : Nat) Q, id < st.size → RK ePds st id l Q r → CallA S 67 [.ptr id 0] (V st id l 0) Q)
    (hQ : programQ l (fun v k => Q (.ret (.tuple [ePds v, .int .i64 k])) st) r) : CallA S 34 [encSl true 3 (l.map encT)] st Q := by
  refine callA_body (by rfl) (by rfl) rfl ?_
  simp only [b34, go_sem]
  generalize hst1 : st.push (.cells [.nilslice]) = st1
  have hs1 : st1.size = st.size + 1 := by rw [← hst1, size_push]
  have hbox : st1.cells st.size = some [.nilslice] := by rw [← hst1, cells_new]
  have htr : ∀ cs, (st1.setCells st.size cs).trunc st.size = st := by
    intro cs
    rw [← hst1, set_new, trunc_push]
  have htr0 : st1.trunc st.size = st := by rw [← hst1, trunc_push]
  refine run_ok _ _ _ (by rfl) (by rfl) ?_
  have hid : st1.size < (st1.push (.cells (pc l 0))).size := by rw [size_push]; omega
  have hbox2 : (st1.push (.cells (pc l 0))).cells st.size = some [.nilslice] := by rw [cells_push (by omega), hbox]
  generalize hst2 : st1.push (.cells (pc l 0)) = st2 at *
  have hs2 : st2.size = st1.size + 1 := by rw [← hst2, size_push]
  have hne : st1.size ≠ st.size := by omega
  refine callA_body (by rfl) (by rfl) rfl ?_
  simp only [b66, go_sem]
  refine hP st2 st1.size _ hid (PR.on_mono hQ (fun x a _ hQ ha => ?_) (fun a _ hQ => ?_))
  · have hle : (0 : Nat) ≤ st.size + 1 := Nat.zero_le _
    have hVset : ∀ b cs, (V st2 st1.size l b).setCells st.size cs = V (st2.setCells st.size cs) st1.size l b := by
      intro b cs
      unfold V
      simp only [St.setCells]
      rw [List.set_comm _ _ hne]
    have htr2 : ∀ b cs, (V (st2.setCells st.size cs) st1.size l b).trunc st1.size = st1.setCells st.size cs := by
      intro b cs
      rw [← hst2]
      unfold V
      rw [set_push (by omega), show st1.size = (st1.setCells st.size cs).size from size_set.symm, set_new, trunc_push]
    have hx1 : ∀ cs, (st1.setCells st.size cs).cells st.size = some cs := fun cs => cells_set (by omega)
    have hce : ∀ k cs, (V (st2.setCells st.size cs) st1.size l k).cells st1.size = some (pc l k) := fun k cs => cells_set (by rw [size_set]; omega)
    have hstr : ∀ k cs, (V (st2.setCells st.size cs) st1.size l k).trunc (V st2 st1.size l 0).size = V (st2.setCells st.size cs) st1.size l k := by
      intro k cs
      rw [V_size, ← size_set (st := st2) (id := st.size) (cs := cs), V_trunc]
    unfold ePds at hQ ⊢
    dsimp only at hQ
    rcases encSl_cases true 4 (encPds x) with ⟨e, _⟩ | e
    all_goals
      rw [e] at hQ ⊢
      simp only [go_sem, V_cells_ne hne, hbox2, hVset, hstr]
      refine ⟨a, hce _ _, ?_⟩
      rw [htr2]
      simp only [go_sem, hx1, htr]
      exact hQ
  · have htr3 : (V st2 st1.size l a).trunc st1.size = st1 := by
      rw [← hst2]
      unfold V
      rw [set_new, trunc_push]
    simp only [go_sem, V_size, V_trunc]
    refine ⟨a, rfl, ?_⟩
    rw [htr3]
    simp only [go_sem, hbox, htr0]
    exact hQ

/-- What tree.Parse comes to, from what reading does. -/
def paQ (s : List UInt8) (Q : AV → Int → Int → Prop) (r : List Tok → PR (List Pd)) : Prop :=
  if (lexP s).2.2 = 0 then
    programQ (lexP s).1 (fun x k =>
      if k ≥ 0 then Q .nilslice k 2
      else bdPds x ∧ (if hasTwice [] x = true then Q .nilslice 0 5 else if isLarge (szPds (0, 0) x) = true then Q .nilslice 0 3 else Q (ePds x) ((lexP s).1.length : Int) 0)) (r (lexP s).1)
  else Q .nilslice ((lexP s).2.1 : Int) (lexP s).2.2

theorem parse_ok (s : List UInt8) (r : List Tok → PR (List Pd))
    (hP : ∀ (st : St) (id : Nat) Q, id < st.size → RK ePds st id (lexP s).1 Q (r (lexP s).1) → CallA S 67 [.ptr id 0] (V st id (lexP s).1 0) Q)
    (hQ : paQ s (fun v k e => Q (.ret (.tuple [v, .int .i64 k, .int .i64 e])) st) r) : CallA S 12 [.str s] st Q := by
  refine callA_body (by rfl) (by rfl) rfl ?_
  unfold paQ at hQ
  obtain ⟨k1, k2⟩ := lexP_ok s
  by_cases he : (lexP s).2.2 = 0
  · rw [if_pos he] at hQ
    simp only [b12, go_sem, lex_eq, lexRes, he, bne_self_eq_false]
    refine syntaxProgram_ok (by omega) k2 (r (lexP s).1) hP (PR.on_mono hQ (fun x a _ hQ => ?_) (fun a _ hQ => ?_))
    · dsimp only at hQ ⊢
      generalize hk : (if (a : Int) < ((lexP s).1.length : Int) then (a : Int) else -1) = k at hQ
      by_cases hpos : k ≥ 0
      · rw [if_pos hpos] at hQ
        simp only [go_sem, hpos, trunc_self]
        exact hQ
      · rw [if_neg hpos] at hQ
        obtain ⟨hb, hQ⟩ := hQ
        cases ht : hasTwice [] x with
        | true =>
          simp only [ht, if_true] at hQ
          simp only [go_sem, hpos, isTwice_eq true x hb.1, ht, trunc_self]
          exact hQ
        | false =>
          simp only [ht, Bool.false_eq_true, if_false] at hQ
          cases hlg : isLarge (szPds (0, 0) x) with
          | true =>
            simp only [hlg, if_true] at hQ
            simp only [go_sem, hpos, isTwice_eq true x hb.1, ht, ofProcs_eq true x hb, isLarge_eq, hlg, trunc_self]
            exact hQ
          | false =>
            simp only [hlg, Bool.false_eq_true, if_false] at hQ
            simp only [go_sem, hpos, isTwice_eq true x hb.1, ht, ofProcs_eq true x hb, isLarge_eq, hlg, List.length_map, trunc_self]
            exact hQ
    · have hpos : (a : Int) ≥ 0 := by omega
      dsimp only at hQ ⊢
      rw [if_pos hpos] at hQ
      simp only [go_sem, hpos, trunc_self]
      exact hQ
  · rw [if_neg he] at hQ
    simp only [b12, go_sem, lex_eq, lexRes, bne_iff_ne.2 he, trunc_self]
    exact hQ
end
end Go.Proofs.YtelpkgbghhpgaaaGreatDoor.Sx
end
section
/- When expressions are equal: the program's and the document's functions. -/
set_option maxRecDepth 100000
namespace Go.Proofs.YtelpkgbghhpgaaaGreatDoor.Sx

mutual
def sameX : Xp → Xp → Bool
  | .mk op s vk vn vs _ p _ l, y => match y with
    | .mk op2 s2 vk2 vn2 vs2 _ p2 _ l2 => (op == op2) && ((s == s2) && ((vk == vk2 && (vn == vn2 && vs == vs2)) && ((p == p2) && sameXs l l2)))
def sameXs : List Xp → List Xp → Bool
  | [], l => l.isEmpty
  | x :: l, m => match m with
    | [] => false
    | y :: m => sameX x y && sameXs l m
end

mutual
theorem sameX_refl : ∀ x : Xp, sameX x x = true
  | .mk op s vk vn vs pn p ln l => by
    simp only [sameX, beq_self_eq_true, Bool.true_and]
    exact sameXs_refl l
theorem sameXs_refl : ∀ l : List Xp, sameXs l l = true
  | [] => rfl
  | x :: l => by
    simp only [sameXs, sameX_refl x, sameXs_refl l, Bool.and_self]
end

theorem sameXs_len : ∀ {l m : List Xp}, sameXs l m = true → l.length = m.length
  | [], [], _ => rfl
  | [], _ :: _, h => by simp [sameXs] at h
  | _ :: _, [], h => by simp [sameXs] at h
  | x :: l, y :: m, h => by
    simp only [sameXs, Bool.and_eq_true] at h
    simp [sameXs_len h.2]
theorem sameXs_drop {l m : List Xp} {i : Nat} (h1 : i < l.length) (h2 : i < m.length) : sameXs (l.drop i) (m.drop i) = (sameX l[i] m[i] && sameXs (l.drop (i + 1)) (m.drop (i + 1))) := by
  rw [List.drop_eq_getElem_cons h1, List.drop_eq_getElem_cons h2, sameXs]
theorem strs_drop {l m : List (List UInt8)} {i : Nat} (h1 : i < l.length) (h2 : i < m.length) : (l.drop i == m.drop i) = (l[i] == m[i] && (l.drop (i + 1)) == (m.drop (i + 1))) := by
  rw [List.drop_eq_getElem_cons h1, List.drop_eq_getElem_cons h2]; rfl

section
variable {st : St} {Q : Res → St → Prop}

theorem slEqual_eq (n1 n2 : Bool) (l m : List (List UInt8)) (hl : l.length < most) : CallA S 42 [encSl n1 1 (encStr l), encSl n2 1 (encStr m)] st Q = Q (.ret (.bool (l == m))) st := by
  refine callA_eq (fun Q hQ => ?_) Q
  refine callA_body (by rfl) (by rfl) rfl ?_
  unfold most at hl
  by_cases h0 : (l.length : Int) = (m.length : Int)
  · have h0' : l.length = m.length := by omega
    have hb : ((l.length : Int) != (m.length : Int)) = false := by simp [h0']
    simp only [b42, go_sem, encStr_length, hb]
    refine wp_loop (fun n fr st' => st' = st ∧ ∃ (i : Nat) (ser : Nat), n + i = l.length ∧ (l == m) = (l.drop i == m.drop i) ∧
      fr = ⟨[(0, encSl n1 1 (encStr l)), (1, encSl n2 1 (encStr m)), (12, .int .i64 (l.length : Int)), (13, .int .i64 (i : Int))], [], [], ser⟩) l.length ⟨rfl, 0, _, rfl, rfl, rfl⟩ ?_
    rintro n fr st' ⟨rfl, i, ser, hn, hsz, rfl⟩
    by_cases h : (i : Int) < (l.length : Int)
    · have hi : i < l.length := by omega
      have hi2 : i < m.length := by omega
      rw [strs_drop hi hi2] at hsz
      cases hc : (l[i] == m[i]) with
      | true =>
        simp only [hc, Bool.true_and] at hsz
        simp only [b42l0, go_sem, h, el_str n1 l hi, el_str n2 m hi2, hc, wrap_one i (by omega)]
        exact ⟨n - 1, by omega, i + 1, _, by omega, hsz, rfl⟩
      | false =>
        simp only [hc, Bool.false_and] at hsz
        rw [hsz] at hQ
        simp only [b42l0, go_sem, h, el_str n1 l hi, el_str n2 m hi2, hc, trunc_self]
        exact hQ
    · rw [List.drop_of_length_le (by omega), List.drop_of_length_le (by omega)] at hsz
      rw [hsz] at hQ
      simp only [b42l0, go_sem, h, trunc_self]
      exact hQ
  · have hb := bne_iff_ne.2 h0
    have he : (l == m) = false := by
      simp only [beq_eq_false_iff_ne, ne_eq]
      rintro rfl
      exact h0 rfl
    rw [he] at hQ
    simp only [b42, go_sem, encStr_length, hb, trunc_self]
    exact hQ

theorem sameTexts6_eq (n1 n2 : Bool) (l m : List (List UInt8)) (hl : l.length < most) : CallA S 32 [encSl n1 1 (encStr l), encSl n2 1 (encStr m)] st Q = Q (.ret (.bool (l == m))) st := by
  refine callA_eq (fun Q hQ => ?_) Q
  refine callA_body (by rfl) (by rfl) rfl ?_
  unfold most at hl
  by_cases h0 : (l.length : Int) = (m.length : Int)
  · have h0' : l.length = m.length := by omega
    have hb : ((l.length : Int) != (m.length : Int)) = false := by simp [h0']
    simp only [b32, go_sem, encStr_length, hb]
    refine wp_loop (fun n fr st' => st' = st ∧ ∃ (i : Nat) (ser : Nat), n + i = l.length ∧ (l == m) = (l.drop i == m.drop i) ∧
      fr = ⟨[(0, encSl n1 1 (encStr l)), (1, encSl n2 1 (encStr m)), (5, .int .i64 (i : Int))], [], [], ser⟩) l.length ⟨rfl, 0, _, rfl, rfl, rfl⟩ ?_
    rintro n fr st' ⟨rfl, i, ser, hn, hsz, rfl⟩
    by_cases h : (i : Int) < (l.length : Int)
    · have hi : i < l.length := by omega
      have hi2 : i < m.length := by omega
      rw [strs_drop hi hi2] at hsz
      cases hc : (l[i] == m[i]) with
      | true =>
        simp only [hc, Bool.true_and] at hsz
        simp only [b32l0, go_sem, encStr_length, h, el_str n1 l hi, el_str n2 m hi2, hc, wrap_one i (by omega)]
        exact ⟨n - 1, by omega, i + 1, _, by omega, hsz, rfl⟩
      | false =>
        simp only [hc, Bool.false_and] at hsz
        rw [hsz] at hQ
        simp only [b32l0, go_sem, encStr_length, h, el_str n1 l hi, el_str n2 m hi2, hc, trunc_self]
        exact hQ
    · rw [List.drop_of_length_le (by omega), List.drop_of_length_le (by omega)] at hsz
      rw [hsz] at hQ
      simp only [b32l0, go_sem, encStr_length, h, trunc_self]
      exact hQ
  · have hb := bne_iff_ne.2 h0
    have he : (l == m) = false := by
      simp only [beq_eq_false_iff_ne, ne_eq]
      rintro rfl
      exact h0 rfl
    rw [he] at hQ
    simp only [b32, go_sem, encStr_length, hb, trunc_self]
    exact hQ
end
end Go.Proofs.YtelpkgbghhpgaaaGreatDoor.Sx
end
