/- TreeSames returns true for all programs whose data are not larger than a bound. Sizes of expressions; tree.ParseExpr. Expressions that are read as data. From a run of the plain machine to a row's contract. Statements and procedures as plain Lean data, and how they lie in the plain machine. The program's reader of statements: what ends a block, what is set, blocks, assignments. The program's reader of procedures. -/
import Derived.Test.YtelpkgbghhpgaaaGreatDoorS17
import Derived.Test.YtelpkgbghhpgaaaGreatDoorS27
import Derived.Carry
import Derived.ChangeSame
import Derived.Deep.DeepHandedRow
import Derived.KernelRfl
import Derived.Test.YtelpkgbghhpgaaaGreatDoorRows
set_option linter.all false
section
/- Sizes of expressions; tree.ParseExpr. -/
set_option maxRecDepth 100000
namespace Go.Proofs.YtelpkgbghhpgaaaGreatDoor.Sx

def w64 (n : Int) : Int := IntKind.i64.wrap n
def mxI (x y : Int) : Int := if y > x then y else x
def szIn (a b : Int × Int) : Int × Int := (w64 (a.1 + b.1), mxI a.2 (w64 (b.2 + 1)))
def szBeside (a b : Int × Int) : Int × Int := (w64 (a.1 + b.1), mxI a.2 b.2)
mutual
def szX : Xp → Int × Int
  | .mk _ _ _ _ _ _ _ _ l => szXs (1, 1) l
def szXs : Int × Int → List Xp → Int × Int
  | acc, [] => acc
  | acc, x :: l => szXs (szIn acc (szX x)) l
end
def isLarge (n : Int × Int) : Bool := decide (n.1 > 400) || decide (n.2 > 14)

/-- How long lists may be. -/
def most : Nat := 1099511627776
mutual
def bdX : Xp → Prop
  | .mk _ _ _ _ _ _ p _ l => p.length < most ∧ l.length < most ∧ bdXs l
def bdXs : List Xp → Prop
  | [] => True
  | x :: l => bdX x ∧ bdXs l
end
theorem bdXs_mem : ∀ {l : List Xp}, bdXs l → ∀ x ∈ l, bdX x
  | [], _, x, h => by cases h
  | y :: l, h, x, hx => by
    simp only [bdXs] at h
    rcases List.mem_cons.1 hx with rfl | hx
    · exact h.1
    · exact bdXs_mem h.2 x hx
theorem bdXs_of : ∀ {l : List Xp}, (∀ x ∈ l, bdX x) → bdXs l
  | [], _ => trivial
  | y :: l, h => ⟨h y List.mem_cons_self, bdXs_of fun x hx => h x (List.mem_cons_of_mem _ hx)⟩

theorem szXs_drop {l : List Xp} {i : Nat} (h : i < l.length) (acc : Int × Int) : szXs acc (l.drop i) = szXs (szIn acc (szX l[i])) (l.drop (i + 1)) := by
  rw [List.drop_eq_getElem_cons h, szXs]

theorem el_X (ln : Bool) (l : List Xp) {i : Nat} (h : i < l.length) : elA 7 (i : Int) (encSl ln 7 (encXs l)) = some (encX l[i]) := by
  rw [elA_sl (by rw [encXs_length]; exact h)]
  simp [encXs_eq]

section
variable {st : St} {Q : Res → St → Prop}

theorem in_eq (a b : Int × Int) : CallA S 58 [.agg [.int .i64 a.1, .int .i64 a.2], .agg [.int .i64 b.1, .int .i64 b.2]] st Q = Q (.ret (.agg [.int .i64 (szIn a b).1, .int .i64 (szIn a b).2])) st := by
  refine callA_eq (fun Q hQ => ?_) Q
  refine callA_body (by rfl) (by rfl) rfl ?_
  simp only [b58, go_sem, trunc_self]
  exact hQ

theorem beside_eq (a b : Int × Int) : CallA S 68 [.agg [.int .i64 a.1, .int .i64 a.2], .agg [.int .i64 b.1, .int .i64 b.2]] st Q = Q (.ret (.agg [.int .i64 (szBeside a b).1, .int .i64 (szBeside a b).2])) st := by
  refine callA_eq (fun Q hQ => ?_) Q
  refine callA_body (by rfl) (by rfl) rfl ?_
  simp only [b68, go_sem, trunc_self]
  exact hQ

theorem isLarge_eq (a : Int × Int) : CallA S 25 [.agg [.int .i64 a.1, .int .i64 a.2]] st Q = Q (.ret (.bool (isLarge a))) st := by
  refine callA_eq (fun Q hQ => ?_) Q
  refine callA_body (by rfl) (by rfl) rfl ?_
  unfold isLarge at hQ
  by_cases h : a.1 > 400
  · rw [decide_eq_true h, Bool.true_or] at hQ
    simp only [b25, go_sem, h, trunc_self]
    exact hQ
  · rw [decide_eq_false h, Bool.false_or] at hQ
    simp only [b25, go_sem, h, trunc_self]
    exact hQ

theorem ofExpr_eq : ∀ (x : Xp), bdX x → ∀ (st : St) (Q : Res → St → Prop), CallA S 26 [.agg (encX x)] st Q = Q (.ret (.agg [.int .i64 (szX x).1, .int .i64 (szX x).2])) st
  | .mk op s vk vn vs pn p ln l, hb => by
    simp only [bdX] at hb
    obtain ⟨_, hl, hbl⟩ := hb
    unfold most at hl
    have ih : ∀ (i : Nat) (h : i < l.length) (st : St) (Q : Res → St → Prop), CallA S 26 [.agg (encX l[i])] st Q = Q (.ret (.agg [.int .i64 (szX l[i]).1, .int .i64 (szX l[i]).2])) st :=
      fun i h => ofExpr_eq l[i] (bdXs_mem hbl _ (List.getElem_mem h))
    intro st
    refine callA_eq (fun Q hQ => ?_)
    refine callA_body (by rfl) (by rfl) rfl ?_
    rw [szX] at hQ
    simp only [b26, go_sem, encX_mk, encXs_length]
    refine wp_loop (fun n fr st' => st' = st ∧ ∃ (i : Nat) (acc : Int × Int) (ser ser2 : Nat) (lx : Nat × List AV) (r1 : Nat × List AV), n + i = l.length ∧ szXs (1, 1) l = szXs acc (l.drop i) ∧
      fr = ⟨[(2, .lptr 1 1 0), (3, .lptr 2 ser 0), (8, encSl ln 7 (encXs l)), (9, .int .i64 (l.length : Int)), (10, .int .i64 (i : Int))], [r1, (1, [.int .i64 0, .int .i64 0]), (ser, [.int .i64 acc.1, .int .i64 acc.2]), lx], [], ser2⟩) l.length ⟨rfl, 0, (1, 1), _, _, _, _, rfl, rfl, rfl⟩ ?_
    rintro n fr st' ⟨rfl, i, acc, ser, ser2, lx, r1, hn, hsz, rfl⟩
    by_cases h : (i : Int) < (l.length : Int)
    · have hi : i < l.length := by omega
      rw [szXs_drop hi] at hsz
      simp only [b26l0, go_sem, h, el_X ln l hi, ih i hi, in_eq acc (szX l[i]), wrap_one i (by omega)]
      exact ⟨n - 1, by omega, i + 1, szIn acc (szX l[i]), ser, _, _, _, by omega, hsz, rfl⟩
    · rw [List.drop_of_length_le (by omega), szXs] at hsz
      rw [hsz] at hQ
      simp only [b26l0, go_sem, h, trunc_self]
      exact hQ
termination_by x => SizeOf.sizeOf x
decreasing_by
  have := List.sizeOf_lt_of_mem (List.getElem_mem h)
  simp only [Xp.mk.sizeOf_spec]
  omega

/-- What tree.ParseExpr comes to, from what reading does. -/
def peQ (s : List UInt8) (Q : AV → Int → Int → Prop) (n : Nat) : Prop :=
  if (lexP s).2.2 = 0 then
    lineQ (lexP s).1 (fun v k => ∃ x, v = .agg (encX x) ∧ (if k ≥ 0 then Q (.agg (encX zeroX)) k 2 else bdX x ∧ (if isLarge (szX x) = true then Q (.agg (encX zeroX)) 0 3 else Q (.agg (encX x)) ((lexP s).1.length : Int) 0))) (sp (lexP s).1 n .expr 0)
  else Q (.agg (encX zeroX)) ((lexP s).2.1 : Int) (lexP s).2.2

theorem lexP_ok (s : List UInt8) : (lexP s).1.length ≤ 1200 ∧ ∀ t ∈ (lexP s).1, TokOk t := by
  unfold lexP
  split
  · exact ⟨by simp, fun t h => by cases h⟩
  · have := lexN_ok (s := s) (by omega) (s.length + 1) 0 false [] (fun t h => by cases h)
    cases hl : lexN s (s.length + 1) 0 false [] with
    | ok l =>
      rw [hl] at this
      simp only
      split
      · exact ⟨by simp, fun t h => by cases h⟩
      · exact ⟨by simp only; omega, this⟩
    | fail p => exact ⟨by simp, fun t h => by cases h⟩
    | out => exact ⟨by simp, fun t h => by cases h⟩

theorem parseExpr_ok (s : List UInt8) (n : Nat) (hn : n ≤ 65536) (hQ : peQ s (fun v k e => Q (.ret (.tuple [v, .int .i64 k, .int .i64 e])) st) n) : CallA S 9 [.str s] st Q := by
  refine callA_body (by rfl) (by rfl) rfl ?_
  unfold peQ at hQ
  obtain ⟨k1, k2⟩ := lexP_ok s
  by_cases he : (lexP s).2.2 = 0
  · rw [if_pos he] at hQ
    simp only [b9, go_sem, lex_eq, lexRes, he, bne_self_eq_false]
    refine line_ok (by omega) k2 n hn (PR.on_mono hQ (fun x a _ hQ => ?_) (fun a _ hQ => ?_))
    · obtain ⟨y, hy, hQ⟩ := hQ
      rw [hy]
      generalize hk : (if (tokAt (lexP s).1 a).kind = 5 then (if (a : Int) + 1 < ((lexP s).1.length : Int) then (a : Int) + 1 else -1) else (a : Int)) = k at hQ
      by_cases hpos : k ≥ 0
      · rw [if_pos hpos] at hQ
        simp only [go_sem, hpos, trunc_self]
        exact hQ
      · rw [if_neg hpos] at hQ
        obtain ⟨hb, hQ⟩ := hQ
        cases hlg : isLarge (szX y) with
        | true =>
          simp only [hlg, if_true] at hQ
          simp only [go_sem, hpos, ofExpr_eq y hb, isLarge_eq, hlg, trunc_self]
          exact hQ
        | false =>
          simp only [hlg, Bool.false_eq_true, if_false] at hQ
          simp only [go_sem, hpos, ofExpr_eq y hb, isLarge_eq, hlg, List.length_map, trunc_self]
          exact hQ
    · obtain ⟨y, hy, hQ⟩ := hQ
      have hpos : (a : Int) ≥ 0 := by omega
      rw [if_pos hpos] at hQ
      simp only [go_sem, hpos, trunc_self]
      exact hQ
  · rw [if_neg he] at hQ
    simp only [b9, go_sem, lex_eq, lexRes, bne_iff_ne.2 he, trunc_self]
    exact hQ
end
end Go.Proofs.YtelpkgbghhpgaaaGreatDoor.Sx
end
section
/- Expressions that are read as data. -/
set_option maxRecDepth 100000
namespace Go.Proofs.YtelpkgbghhpgaaaGreatDoor.Sx
open AV Go.Proofs.YtelpkgbghhpgaaaGreatDoor

theorem c29 : Tryz.prog.cellsOf 29 = 7 := by kernel_rfl
theorem c25 : Tryz.prog.cellsOf 25 = 3 := by kernel_rfl
theorem cInt : Tryz.prog.cellsOf 3 = 1 := by kernel_rfl
theorem cBool : Tryz.prog.cellsOf 4 = 1 := by kernel_rfl
theorem cStr : Tryz.prog.cellsOf 9 = 1 := by kernel_rfl
theorem cStrs : Tryz.prog.cellsOf 26 = 1 := by kernel_rfl
theorem cXs : Tryz.prog.cellsOf 27 = 1 := by kernel_rfl

section
variable {H : Type} {enc : TypeId × Value → H} {w : World} {sp : Nat → Bool} {held : Bool}

theorem uptoBulk_pos (d : DataW H) : 1 ≤ Rows.uptoBulk d := by
  cases d with
  | lit l => cases l <;> simp [Rows.uptoBulk]
  | _ => simp [Rows.uptoBulk]
theorem bulk_len : ∀ l : List (DataW H), l.length ≤ Rows.uptoBulkAll l
  | [] => Nat.zero_le _
  | d :: l => by
    have := bulk_len l
    have := uptoBulk_pos d
    simp only [Rows.uptoBulkAll, List.length_cons]
    omega
theorem bulk_mem : ∀ {l : List (DataW H)} {d : DataW H}, d ∈ l → Rows.uptoBulk d ≤ Rows.uptoBulkAll l
  | x :: l, d, h => by
    simp only [Rows.uptoBulkAll]
    rcases List.mem_cons.1 h with rfl | h
    · omega
    · have := bulk_mem h
      omega

theorem readX : ∀ (fuel : Nat) (cs : List Value) (d : DataW H) (ps : List MemPlace), DataW.trod enc Tryz.prog w 0 sp held fuel 29 cs = some (d, ps) →
    ∃ x, RepL w (encX x) cs ∧ (Rows.uptoBulk d < most → bdX x)
  | 0, cs, d, ps, h => by simp [DataW.trod] at h
  | 1, cs, d, ps, h => by
    obtain ⟨_, xs, hx, _⟩ := struct_read Tryz.underlying29 h
    simp [DataW.trod] at hx
  | n + 2, cs, d, ps, h => by
    obtain ⟨hl, xs, hx, rfl⟩ := struct_read Tryz.underlying29 h
    rw [c29] at hl
    match cs, hl with
    | [c0, c1, c2, c3, c4, c5, c6], _ =>
      simp only [List.mapM_cons, List.mapM_nil, c25, cInt, cStr, cStrs, cXs, List.drop_succ_cons, List.drop_zero, List.take_succ_cons, List.take_zero, bind, Option.bind_eq_some_iff, pure, Option.some.injEq] at hx
      obtain ⟨⟨d0, p0⟩, h0, y1, ⟨⟨d1, p1⟩, h1, y2, ⟨⟨d2, p2⟩, h2, y3, ⟨⟨d3, p3⟩, h3, y4, ⟨⟨d4, p4⟩, h4, y5, rfl, rfl⟩, rfl⟩, rfl⟩, rfl⟩, rfl⟩ := hx
      obtain ⟨op, r0, rfl⟩ := int_read Tryz.underlying3 h0
      obtain ⟨s, r1, rfl⟩ := str_read Tryz.underlying9 h1
      obtain ⟨_, ys, hy, rfl⟩ := struct_read Tryz.underlying25 h2
      simp only [List.mapM_cons, List.mapM_nil, cInt, cStr, List.drop_succ_cons, List.drop_zero, List.take_succ_cons, List.take_zero, bind, Option.bind_eq_some_iff, pure, Option.some.injEq] at hy
      obtain ⟨⟨e0, q0⟩, g0, z1, ⟨⟨e1, q1⟩, g1, z2, ⟨⟨e2, q2⟩, g2, z3, rfl, rfl⟩, rfl⟩, rfl⟩ := hy
      obtain ⟨vk, r2, rfl⟩ := int_read Tryz.underlying3 g0
      obtain ⟨vn, r3, rfl⟩ := int_read Tryz.underlying3 g1
      obtain ⟨vs, r4, rfl⟩ := str_read Tryz.underlying9 g2
      obtain ⟨pn, p, r5, b5⟩ := strs_read Tryz.underlying26 Tryz.underlying9 cStr h3
      obtain ⟨ln, l, r6, b6⟩ := slice_read Tryz.underlying27 c29 (by omega) encX encX_length (fun x d => Rows.uptoBulk d < most → bdX x) (fun cs d ps _ hd => readX n cs d ps hd) h4
      refine ⟨.mk op s vk vn vs pn p ln l, ?_, fun hb => ?_⟩
      · rw [encX_mk, encXs_eq]
        exact .cons r0 (.cons r1 (.cons r2 (.cons r3 (.cons r4 (.cons r5 (.cons r6 .nil))))))
      · simp only [Rows.uptoBulk, Rows.uptoBulkAll, List.map_cons, List.map_nil] at hb
        have hp : p.length ≤ Rows.uptoBulk d3 := by
          rcases b5 with ⟨rfl, rfl⟩ | ⟨es, rest, rfl, he, _⟩
          · simp [Rows.uptoBulk]
          · have := bulk_len es
            simp only [Rows.uptoBulk]
            omega
        have hll : l.length ≤ Rows.uptoBulk d4 ∧ bdXs l := by
          rcases b6 with ⟨rfl, rfl⟩ | ⟨es, rest, rfl, he, hi⟩
          · exact ⟨by simp [Rows.uptoBulk], trivial⟩
          · have := bulk_len es
            simp only [Rows.uptoBulk] at hb ⊢
            refine ⟨by omega, bdXs_of fun x hx => ?_⟩
            obtain ⟨i, h, rfl⟩ := List.mem_iff_getElem.1 hx
            have hi2 : i < es.length := by omega
            have hm := bulk_mem (List.getElem_mem hi2)
            exact hi i h hi2 (by omega)
        exact ⟨by omega, by omega, hll.2⟩
end
end Go.Proofs.YtelpkgbghhpgaaaGreatDoor.Sx
end
section
/- From a run of the plain machine to a row's contract. -/
set_option maxRecDepth 100000
namespace Go.Proofs.YtelpkgbghhpgaaaGreatDoor.Sx
open AV

/-- The ghosts at the start: no object; nobody writes what is there. -/
def gh0 (W : World) : Gh := ⟨fun _ => 0, Old0 W, fun _ _ _ => none⟩
def st0 : St := ⟨[]⟩

theorem noClaim (g : Gh) (o : Ow) (b : Nat) : ¬ HClaim g st0 o b := by
  intro h
  cases o with
  | obj id => exact absurd h.1 (by simp [st0, St.size])
  | row id off =>
    obtain ⟨cs, sz, els, c, h1, _⟩ := h
    simp [st0, St.cells] at h1
  | loc => exact h
  | tok => exact h

theorem hst0 (W : World) : HSt (gh0 W) st0 W := by
  refine ⟨⟨fun id o ho => by simp [st0] at ho, fun o b ho => absurd ho (noClaim _ _ _), fun id hi => by simp [st0, St.size] at hi, fun b o h => h, fun id cs off sz els h => by simp [st0, St.cells] at h, fun id off L x hi => by simp [st0, St.size] at hi⟩, fun o o' b h => absurd h (noClaim _ _ _)⟩

theorem old0 (W : World) : Old W (gh0 W) W := fun b o h => ⟨h, rfl⟩

/-- What is behind the call of what was there before. -/
structure Kept (W W' : World) : Prop where
  below : RowKit.Below W.heap.size W W'
  but : W.keptBut W' (fun _ => False)

theorem kept_of {W W' : World} {g' : Gh} {st' : St} (h : Ext (gh0 W) st0 W g' st' W') : Kept W W' := by
  have hb : ∀ b, b < W.heap.size → W'.heap[b]? = W.heap[b]? := fun b hb => h.block b hb fun o => noClaim _ _ _
  refine ⟨⟨h.os, h.tape, h.output, h.size, hb⟩, h.os, h.output, fun i hi => ?_⟩
  rw [hb i hi]
  cases W.heap[i]? with
  | none => rfl
  | some o => cases o <;> simp

theorem rep_agg {W : World} {vs : List AV} {cs : List Value} (h : RepL W vs cs) : Rep (gh0 W) Fh.none st0.size W (.agg vs) (.agg cs.toArray) :=
  .agg vs cs h.len (fun i h1 h2 => .plain (h.el i h1 h2)) (fun c hc => by
    obtain ⟨i, hi, rfl⟩ := List.mem_iff_getElem.1 hc
    exact (h.el i (by rw [h.len]; exact hi) hi).oneCell)

/-- A run that comes to true. -/
theorem run_true {P : Program} {S : Sim} {W : World} (hS : SimOk P W S) {f : Nat} {vs : List AV} {args : List Value} (hl : vs.length = args.length) (hr : ∀ i (h : i < vs.length) (h' : i < args.length), Rep (gh0 W) Fh.none st0.size W vs[i] args[i])
    (h : CallA S f vs st0 fun r _ => r = .ret (.bool true)) : Calls P f args.toArray W fun e W' => e = .returned (.bool true) ∧ Kept W W' := by
  obtain ⟨n, r, st', h1, rfl⟩ := h
  obtain ⟨_, h2⟩ := call_ok hS n (gh0 W) st0 W (old0 W) f vs st0 _ _ h1
  refine (h2 (gh0 W) W args (Grow.refl _ _ _) (hst0 W) hl hr).mono fun e W' hp => ?_
  cases e with
  | returned c =>
    obtain ⟨g', v, hv, _, he, hrep⟩ := hp
    cases hv
    exact ⟨by rw [hrep.bool_inv], kept_of he⟩
  | panicked c =>
    obtain ⟨g', v, c, hv, _⟩ := hp
    cases hv
  | outgrown => exact hp.elim
end Go.Proofs.YtelpkgbghhpgaaaGreatDoor.Sx
end
section
/- Statements and procedures as plain Lean data, and how they lie in the plain machine. -/
namespace Go.Proofs.YtelpkgbghhpgaaaGreatDoor.Sx

/-- Statements. `pn`, `xn` ..: whether an empty list is nil. -/
inductive Sm where
  | mk (op : Int) (s t : List UInt8) (pn : Bool) (p : List (List UInt8)) (xn : Bool) (x : List Xp) (bn : Bool) (b : List (Bool × List Sm)) (ck : Int) (nn : Bool) (n : List Xp) (fn : Bool) (f : List Xp) (wn : Bool) (w : List Xp)

mutual
def encSm : Sm → List AV
  | .mk op s t pn p xn x bn b ck nn n fn f wn w => [.int .i64 op, .str s, .str t, encSl pn 1 (encStr p), encSl xn 7 (encXs x), encSl bn 1 (encBls b), .int .i64 ck, encSl nn 7 (encXs n), encSl fn 7 (encXs f), encSl wn 7 (encXs w)]
def encSms : List Sm → List (List AV)
  | [] => []
  | x :: l => encSm x :: encSms l
def encBls : List (Bool × List Sm) → List (List AV)
  | [] => []
  | (n, x) :: l => [encSl n 10 (encSms x)] :: encBls l
end

structure Pd where
  name : List UInt8
  fn : Bool
  pn : Bool
  p : List (List UInt8)
  bn : Bool
  body : List Sm

def encPd (x : Pd) : List AV := [.str x.name, .bool x.fn, encSl x.pn 1 (encStr x.p), encSl x.bn 10 (encSms x.body)]
def encPds (l : List Pd) : List (List AV) := l.map encPd

theorem encSm_mk (op : Int) (s t : List UInt8) (pn : Bool) (p : List (List UInt8)) (xn : Bool) (x : List Xp) (bn : Bool) (b : List (Bool × List Sm)) (ck : Int) (nn : Bool) (n : List Xp) (fn : Bool) (f : List Xp) (wn : Bool) (w : List Xp) :
    encSm (.mk op s t pn p xn x bn b ck nn n fn f wn w) = [.int .i64 op, .str s, .str t, encSl pn 1 (encStr p), encSl xn 7 (encXs x), encSl bn 1 (encBls b), .int .i64 ck, encSl nn 7 (encXs n), encSl fn 7 (encXs f), encSl wn 7 (encXs w)] := by rw [encSm]
theorem encSms_eq : ∀ l : List Sm, encSms l = l.map encSm
  | [] => by rw [encSms]; rfl
  | x :: l => by rw [encSms, encSms_eq l]; rfl
theorem encBls_eq : ∀ l : List (Bool × List Sm), encBls l = l.map fun x => [encSl x.1 10 (encSms x.2)]
  | [] => by rw [encBls]; rfl
  | (n, x) :: l => by rw [encBls, encBls_eq l]; rfl
theorem encSms_length (l : List Sm) : (encSms l).length = l.length := by rw [encSms_eq, List.length_map]
theorem encBls_length (l : List (Bool × List Sm)) : (encBls l).length = l.length := by rw [encBls_eq, List.length_map]
theorem encPds_length (l : List Pd) : (encPds l).length = l.length := by rw [encPds, List.length_map]
theorem encSms_snoc (l : List Sm) (x : Sm) : encSms l ++ [encSm x] = encSms (l ++ [x]) := by rw [encSms_eq, encSms_eq, List.map_append]; rfl
theorem encPds_snoc (l : List Pd) (x : Pd) : encPds l ++ [encPd x] = encPds (l ++ [x]) := by rw [encPds, encPds, List.map_append]; rfl

theorem encSm_length (x : Sm) : (encSm x).length = 10 := by cases x; rw [encSm_mk]; rfl
theorem encSm_strip1 (x : Sm) : (encSm x).map AV.strip1 = encSm x := by cases x; simp only [encSm_mk, List.map_cons, List.map_nil, go_sem]
theorem encSm_stripC (x : Sm) : (encSm x).map AV.stripC = encSm x := by cases x; simp only [encSm_mk, List.map_cons, List.map_nil, go_sem]
theorem encSm_okIn (x : Sm) : (encSm x).all AV.okIn = true := by cases x; simp only [encSm_mk, go_sem]
theorem encSm_okC (x : Sm) : (encSm x).all AV.okC = true := by cases x; simp only [encSm_mk, go_sem]
theorem encSm_out1 (x : Sm) : (encSm x).all AV.out1 = true := by cases x; simp only [encSm_mk, go_sem]
theorem encSm_plain1 (x : Sm) : (encSm x).all AV.plain1 = true := by cases x; simp only [encSm_mk, go_sem]
theorem encSm_refs (x : Sm) : AV.refs1L (encSm x) = 0 := by cases x; simp only [encSm_mk, AV.refs1L_cons, AV.refs1L_nil, go_sem]
theorem encSm_take (x : Sm) : (encSm x).take 10 = encSm x := List.take_of_length_le (by rw [encSm_length]; exact Nat.le_refl _)
theorem encSm_drop (x : Sm) : (encSm x).drop 10 = [] := List.drop_of_length_le (by rw [encSm_length]; exact Nat.le_refl _)
attribute [go_sem] encSm_length encSm_strip1 encSm_stripC encSm_okIn encSm_okC encSm_out1 encSm_plain1 encSm_refs encSm_take encSm_drop
theorem encPd_length (x : Pd) : (encPd x).length = 4 := rfl
theorem encPd_strip1 (x : Pd) : (encPd x).map AV.strip1 = encPd x := by simp only [encPd, List.map_cons, List.map_nil, go_sem]
theorem encPd_stripC (x : Pd) : (encPd x).map AV.stripC = encPd x := by simp only [encPd, List.map_cons, List.map_nil, go_sem]
theorem encPd_okIn (x : Pd) : (encPd x).all AV.okIn = true := by simp only [encPd, go_sem]
theorem encPd_okC (x : Pd) : (encPd x).all AV.okC = true := by simp only [encPd, go_sem]
theorem encPd_out1 (x : Pd) : (encPd x).all AV.out1 = true := by simp only [encPd, go_sem]
theorem encPd_plain1 (x : Pd) : (encPd x).all AV.plain1 = true := by simp only [encPd, go_sem]
theorem encPd_refs (x : Pd) : AV.refs1L (encPd x) = 0 := by simp only [encPd, AV.refs1L_cons, AV.refs1L_nil, go_sem]
attribute [go_sem] encPd_length encPd_strip1 encPd_stripC encPd_okIn encPd_okC encPd_out1 encPd_plain1 encPd_refs

def eSm (x : Sm) : AV := .agg (encSm x)
def eSms (x : List Sm) : AV := encSl true 10 (encSms x)
def ePds (x : List Pd) : AV := encSl true 4 (encPds x)
attribute [go_sem] eSm eSms ePds
end Go.Proofs.YtelpkgbghhpgaaaGreatDoor.Sx
end
section
/- The program's reader of statements: what ends a block, what is set, blocks, assignments. -/
set_option maxRecDepth 100000
namespace Go.Proofs.YtelpkgbghhpgaaaGreatDoor.Sx

/-- The words that end a block. -/
def endWords : List (List UInt8) := [[69, 76, 83, 69, 73, 70], [69, 76, 83, 69], [69, 78, 68, 73, 70], [67, 65, 83, 69], [79, 84, 72, 69, 82, 87, 73, 83, 69], [69, 78, 68, 67, 65, 83, 69], [69, 78, 68, 68, 79], [78, 69, 88, 84], [82, 69, 67, 79, 86, 69, 82], [69, 78, 68], [80, 82, 79, 67, 69, 68, 85, 82, 69], [70, 85, 78, 67, 84, 73, 79, 78]]
def isEnding (s : List UInt8) : Bool := decide (idxP (s == ·) endWords 0 ≥ 0)
def endText : List UInt8 := [69, 76, 83, 69, 73, 70, 32, 69, 76, 83, 69, 32, 69, 78, 68, 73, 70, 32, 67, 65, 83, 69, 32, 79, 84, 72, 69, 82, 87, 73, 83, 69, 32, 69, 78, 68, 67, 65, 83, 69, 32, 69, 78, 68, 68, 79, 32, 78, 69, 88, 84, 32, 82, 69, 67, 79, 86, 69, 82, 32, 69, 78, 68, 32, 80, 82, 79, 67, 69, 68, 85, 82, 69, 32, 70, 85, 78, 67, 84, 73, 79, 78]
theorem endFields : Lib.fields endText = endWords := by rfl

section
variable (l : List Tok)
/-- What is set. -/
def spTarget (e : Nat → PR Xp) (a : Nat) : PR Xp :=
  if isS (tokAt l a) [38] = true then spMacro l e a
  else (nameP l a).bind fun s a =>
    if isS (tokAt l a) [91] = true then (e (a + 1)).bind fun i a => (wantP l [93] a).bind fun _ a => .ok (mkIndex (mkName s) i) a
    else if isS (tokAt l a) [45, 62] = true then (nameP l (a + 1)).bind fun f a => .ok (mkAlias s (mkName f)) a
    else .ok (mkName s) a
def endP (a : Nat) : PR Unit := if (tokAt l a).kind = 5 then .ok () (a + 1) else .fail a
def mkSet (x y : Xp) : Sm := .mk 0 [] [] true [] false [x, y] true [] 0 true [] true [] true []
/-- An assignment. -/
def spSet (e : Nat → PR Xp) (a : Nat) : PR Sm :=
  (spTarget l e a).bind fun x a => (if isS (tokAt l a) [61] = true then PR.ok () (a + 1) else wantP l [58, 61] a).bind fun _ a =>
    (e a).bind fun y a => (endP l a).bind fun _ a => .ok (mkSet x y) a
def spBlockL (stm : Nat → PR Sm) : Nat → List Sm → Nat → PR (List Sm)
  | 0, _, _ => .out
  | n + 1, acc, a => if a < l.length ∧ isEnding (kwAt l a) = false then (stm a).bind fun x a => spBlockL stm n (acc ++ [x]) a else .ok acc a
end

section
variable {st : St} {id a : Nat} {l : List Tok} {Q : Res → St → Prop} {o : HObj} {e : Nat → PR Xp}

theorem fields_end : CallA S 80 [.str endText] st Q = Q (.ret (.slice 1 (encStr endWords) .no)) st := by
  refine callA_intr (n := 0) (by rfl) ?_ Q
  simp only [iFields, endFields]
  rfl

theorem isEnding_eq (s : List UInt8) : CallA S 128 [.str s] st Q = Q (.ret (.bool (isEnding s))) st := by
  refine callA_eq (fun Q hQ => ?_) Q
  refine callA_body (by rfl) (by rfl) rfl ?_
  have h1 := fun (st : St) (Q : Res → St → Prop) => fields_end (st := st) (Q := Q)
  have h2 : ∀ (st : St) (Q : Res → St → Prop), CallA S 178 [.slice 1 (encStr endWords) .no, .str s] st Q = Q (.ret (.bool (decide (idxP (s == ·) endWords 0 ≥ 0)))) st := fun st Q => contains_eq (st := st) (Q := Q) false endWords s (by decide)
  unfold endText at h1
  unfold isEnding at hQ
  simp only [b128, go_sem, h1, h2, trunc_self]
  exact hQ

theorem end_ok (hid : id < st.size) (hl : l.length < 65536) : ReadsAt eU st id l 57 [.ptr id 0] (endP l) := by
  intro a Q ha hQ
  unfold endP at hQ
  by_cases h : (tokAt l a).kind = 5
  · rw [if_pos h] at hQ
    have hlt := tokAt_lt (l := l) (i := a) (by omega)
    rw [end_yes hid hl ha h]
    exact RK_ok hQ (by omega)
  · rw [if_neg h] at hQ
    rw [end_no hid hl ha h]
    exact RK_fail hQ

theorem target_ok (hid : id < st.size) (hl : l.length < 65536) (hT : ∀ t ∈ l, TokOk t) (he : ReadsAt eX st id l 56 [.ptr id 0] e) : ReadsAt eX st id l 182 [.ptr id 0] (spTarget l e) := by
  intro a Q ha hQ
  refine callA_body (by rfl) (by rfl) rfl ?_
  unfold spTarget at hQ
  cases h : isS (tokAt l a) [38] with
  | true =>
    simp only [h, if_true] at hQ
    simp only [b182, go_sem, ahead0 hid hl ha, isSign_eq, h]
    refine macro_ok hid hl hT he a _ ha (PR.on_mono hQ (fun x a _ hQ ha => ?_) (fun a _ hQ => (by simp only [go_sem, V_size, V_trunc]; exact hQ)))
    simp only [go_sem, V_size, V_trunc]
    exact hQ ha
  | false =>
    simp only [h, Bool.false_eq_true, if_false] at hQ
    simp only [b182, go_sem, ahead0 hid hl ha, isSign_eq, h]
    refine name_ok hid hl hT a _ ha (RK_step hQ (fun s a ha hQ => ?_) (fun a hQ => (by simp only [go_sem, V_size, V_trunc]; exact hQ)))
    cases h2 : isS (tokAt l a) [91] with
    | true =>
      have hlt := isS_lt h2
      simp only [h2, if_true] at hQ
      simp only [go_sem, sign_yes hid hl ha h2]
      refine he (a + 1) _ (by omega) (RK_step hQ (fun i a ha hQ => ?_) (fun a hQ => (by simp only [go_sem, V_size, V_trunc]; exact hQ)))
      simp only [go_sem]
      refine want_ok hid hl _ a _ ha (RK_step hQ (fun u a ha hQ => ?_) (fun a hQ => (by simp only [go_sem, V_size, V_trunc]; exact hQ)))
      simp only [go_sem, V_size, V_trunc]
      exact RK_ok hQ ha
    | false =>
      simp only [h2, Bool.false_eq_true, if_false] at hQ
      cases h3 : isS (tokAt l a) [45, 62] with
      | true =>
        have hlt := isS_lt h3
        simp only [h3, if_true] at hQ
        simp only [go_sem, sign_no hid hl ha h2, sign_yes hid hl ha h3]
        refine name_ok hid hl hT (a + 1) _ (by omega) (RK_step hQ (fun f a ha hQ => ?_) (fun a hQ => (by simp only [go_sem, V_size, V_trunc]; exact hQ)))
        simp only [go_sem, V_size, V_trunc]
        exact RK_ok hQ ha
      | false =>
        simp only [h3, Bool.false_eq_true, if_false] at hQ
        simp only [go_sem, sign_no hid hl ha h2, sign_no hid hl ha h3, V_size, V_trunc]
        exact RK_ok hQ ha

theorem set_ok (hid : id < st.size) (hl : l.length < 65536) (hT : ∀ t ∈ l, TokOk t) (he : ReadsAt eX st id l 56 [.ptr id 0] e) (ha : a ≤ l.length)
    (h1 : kwAt l a = []) (h2 : isS (tokAt l a) [63] = false) (h3 : isS (tokAt l (a + 1)) [40] = false) (hQ : RK eSm st id l Q (spSet l e a)) : CallA S 130 [.ptr id 0] (V st id l a) Q := by
  refine callA_body (by rfl) (by rfl) rfl ?_
  unfold spSet at hQ
  have hb := h1
  cases hk : ((tokAt l a).kind == 0)
  all_goals
    simp only [b130, go_sem, ahead0 hid hl ha, ahead1 hid hl ha, isSign_eq, keyword_eq hid hl ha hT, hb, beqL_nn, sign_no hid hl ha h2, hk, h3]
    refine target_ok hid hl hT he a _ ha (RK_step hQ (fun x a ha hQ => ?_) (fun a hQ => (by simp only [go_sem, V_size, V_trunc]; exact hQ)))
    cases h4 : isS (tokAt l a) [61] with
    | true =>
      have hlt := isS_lt h4
      simp only [h4, if_true] at hQ
      simp only [go_sem, sign_yes hid hl ha h4]
      refine he (a + 1) _ (by omega) (RK_step hQ (fun y a ha hQ => ?_) (fun a hQ => (by simp only [go_sem, V_size, V_trunc]; exact hQ)))
      simp only [go_sem]
      refine end_ok hid hl a _ ha (RK_step hQ (fun u a ha hQ => ?_) (fun a hQ => (by simp only [go_sem, V_size, V_trunc]; exact hQ)))
      simp only [go_sem, V_size, V_trunc]
      exact RK_ok hQ ha
    | false =>
      simp only [h4, Bool.false_eq_true, if_false] at hQ
      simp only [go_sem, sign_no hid hl ha h4]
      refine want_ok hid hl _ a _ ha (RK_step hQ (fun u a ha hQ => ?_) (fun a hQ => (by simp only [go_sem, V_size, V_trunc]; exact hQ)))
      simp only [go_sem]
      refine he a _ ha (RK_step hQ (fun y a ha hQ => ?_) (fun a hQ => (by simp only [go_sem, V_size, V_trunc]; exact hQ)))
      simp only [go_sem]
      refine end_ok hid hl a _ ha (RK_step hQ (fun u a ha hQ => ?_) (fun a hQ => (by simp only [go_sem, V_size, V_trunc]; exact hQ)))
      simp only [go_sem, V_size, V_trunc]
      exact RK_ok hQ ha

/-- A block, whose statements are read as `stm` says. -/
theorem block_ok (hid : id < st.size) (hl : l.length < 65536) (hT : ∀ t ∈ l, TokOk t) (n : Nat) (hn : n ≤ 65536) (stm : Nat → PR Sm) (hs : ∀ a Q, a < l.length → isEnding (kwAt l a) = false → RK eSm st id l Q (stm a) → CallA S 130 [.ptr id 0] (V st id l a) Q) :
    ReadsAt eSms st id l 95 [.ptr id 0] (spBlockL l stm n []) := by
  intro a Q ha hQ
  refine callA_body (by rfl) (by rfl) rfl ?_
  simp only [b95, go_sem]
  refine wp_loop (fun m fr st' => ∃ acc a own ft ser, RK eSms st id l Q (spBlockL l stm m acc a) ∧ a ≤ l.length ∧ acc.length + m = n ∧ st' = V st id l a ∧ ((acc = [] ∧ own = .nilslice ∧ ft = []) ∨ (acc ≠ [] ∧ own = .slice 10 (encSms acc) (.ftok 0) ∧ ft = [acc.length])) ∧
    fr = ⟨[(0, .ptr id 0), (3, own)], [], ft, ser⟩) n ⟨[], a, _, _, _, hQ, ha, by simp, rfl, .inl ⟨rfl, rfl, rfl⟩, rfl⟩ ?_
  rintro m fr st' ⟨acc, a, own, ft, ser, hQ, ha, hm, rfl, hown, rfl⟩
  cases m with
  | zero => exact hQ.elim
  | succ m =>
    have hend : own.strip2 = encSl true 10 (encSms acc) := by
      rcases hown with ⟨rfl, rfl, rfl⟩ | ⟨h1, rfl, rfl⟩
      · rw [encSms]; rfl
      · cases acc with
        | nil => exact absurd rfl h1
        | cons x acc => rw [encSms]; rfl
    simp only [spBlockL] at hQ
    by_cases h1 : (a : Int) < (l.length : Int)
    · cases h2 : isEnding (kwAt l a) with
      | true =>
        rw [if_neg (by simp [h2])] at hQ
        simp only [b95l0, go_sem, V_cells hid, List.length_map, h1, keyword_eq hid hl ha hT, isEnding_eq, h2, hend, V_size, V_trunc]
        exact RK_ok hQ ha
      | false =>
        have hlt : a < l.length := by omega
        rw [if_pos ⟨hlt, h2⟩] at hQ
        simp only [b95l0, go_sem, V_cells hid, List.length_map, h1, keyword_eq hid hl ha hT, isEnding_eq, h2]
        refine hs a _ hlt h2 (RK_step hQ (fun x a' ha' hQ => ?_) (fun a hQ => (by simp only [go_sem, V_size, V_trunc]; exact hQ)))
        have hb : (acc.length + 1) * 240 ≤ 1099511627776 := by omega
        rcases hown with ⟨rfl, rfl, rfl⟩ | ⟨h1, rfl, rfl⟩
        · simp only [go_sem, aappend, grow, elsOf, encSms_length, hb, List.isEmpty_cons]
          exact ⟨m, Nat.lt_succ_self m, [x], a', .slice 10 (encSms [x]) (.ftok 0), [1], _, hQ, ha', by simp at hm ⊢; omega, rfl, .inr ⟨by simp, rfl, rfl⟩, by simp only [encSms]; rfl⟩
        · have hne2 : ¬ encSms acc = [] := by cases acc with | nil => exact absurd rfl h1 | cons => simp [encSms]
          simp only [go_sem, aappend, grow, elsOf, encSms_length, hb, hne2, List.isEmpty_cons, ne_eq, not_false_eq_true, and_self]
          exact ⟨m, Nat.lt_succ_self m, acc ++ [x], a', .slice 10 (encSms (acc ++ [x])) (.ftok 0), [acc.length + 1], _, hQ, ha', by simp; omega, rfl, .inr ⟨by simp, rfl, by simp⟩, by rw [encSms_snoc]⟩
    · rw [if_neg (by omega)] at hQ
      simp only [b95l0, go_sem, V_cells hid, List.length_map, h1, hend, V_size, V_trunc]
      exact RK_ok hQ ha
end
end Go.Proofs.YtelpkgbghhpgaaaGreatDoor.Sx
end
section
/- The program's reader of procedures. -/
set_option maxRecDepth 100000
namespace Go.Proofs.YtelpkgbghhpgaaaGreatDoor.Sx

section
variable (l : List Tok)
def spParams (n a : Nat) : PR (List (List UInt8)) :=
  if isS (tokAt l a) [40] = true then
    if isS (tokAt l (a + 1)) [41] = true then .ok [] (a + 2)
    else (spNames l n (a + 1)).bind fun p a => (wantP l [41] a).bind fun _ a => .ok p a
  else .ok [] a
def wFunction : List UInt8 := [70, 85, 78, 67, 84, 73, 79, 78]
def wProcedure : List UInt8 := [80, 82, 79, 67, 69, 68, 85, 82, 69]
def spProcs (bl : Nat → PR (List Sm)) (k : Nat) : Nat → List Pd → Nat → PR (List Pd)
  | 0, _, _ => .out
  | n + 1, acc, a =>
    if a < l.length then
      (if (wordOf (tokAt l a) == wFunction || wordOf (tokAt l a) == wProcedure) = true then PR.ok (wordOf (tokAt l a) == wFunction) (a + 1) else .fail a).bind fun fn a =>
        (nameP l a).bind fun s a => (spParams l k a).bind fun p a => (endP l a).bind fun _ a => (bl a).bind fun b a => spProcs bl k n (acc ++ [⟨s, fn, true, p, true, b⟩]) a
    else .ok acc a
def spProgram (bl : Nat → PR (List Sm)) (n a : Nat) : PR (List Pd) := (bl a).bind fun b a => spProcs l bl n n [⟨[77, 65, 73, 78], false, true, [], true, b⟩] a
end

section
variable {st : St} {id a : Nat} {l : List Tok} {Q : Res → St → Prop} {o : HObj} {e : Nat → PR Xp}

theorem params_ok (hid : id < st.size) (hl : l.length < 65536) (hT : ∀ t ∈ l, TokOk t) (n : Nat) (hn : n ≤ 65536) : ReadsAt eNs st id l 99 [.ptr id 0] (spParams l n) := by
  intro a Q ha hQ
  refine callA_body (by rfl) (by rfl) rfl ?_
  unfold spParams at hQ
  cases h : isS (tokAt l a) [40] with
  | true =>
    have hlt := isS_lt h
    simp only [h, if_true] at hQ
    cases h2 : isS (tokAt l (a + 1)) [41] with
    | true =>
      have hlt := isS_lt h2
      simp only [h2, if_true] at hQ
      simp only [b99, go_sem, sign_yes hid hl ha h, sign_yes hid hl (show a + 1 ≤ l.length by omega) h2, V_size, V_trunc]
      exact RK_ok hQ (by omega)
    | false =>
      simp only [h2, Bool.false_eq_true, if_false] at hQ
      simp only [b99, go_sem, sign_yes hid hl ha h, sign_no hid hl (show a + 1 ≤ l.length by omega) h2]
      refine names_ok hid hl hT n hn (a + 1) _ (by omega) (RK_step hQ (fun p a ha hQ => ?_) (fun a hQ => (by simp only [go_sem, V_size, V_trunc]; exact hQ)))
      simp only [go_sem]
      refine want_ok hid hl _ a _ ha (RK_step hQ (fun u a ha hQ => ?_) (fun a hQ => (by simp only [go_sem, V_size, V_trunc]; exact hQ)))
      simp only [go_sem, V_size, V_trunc]
      exact RK_ok hQ ha
  | false =>
    simp only [h, Bool.false_eq_true, if_false] at hQ
    simp only [b99, go_sem, sign_no hid hl ha h, V_size, V_trunc]
    exact RK_ok hQ ha

theorem program_ok (hid : id < st.size) (hl : l.length < 65536) (hT : ∀ t ∈ l, TokOk t) (n : Nat) (hn : n ≤ 65536) (bl : Nat → PR (List Sm)) (hb : ReadsAt eSms st id l 95 [.ptr id 0] bl) :
    ReadsAt ePds st id l 67 [.ptr id 0] (spProgram l bl n) := by
  intro a Q ha hQ
  refine callA_body (by rfl) (by rfl) rfl ?_
  unfold spProgram at hQ
  simp only [b67, go_sem]
  refine hb a _ ha (RK_step hQ (fun b a ha hQ => ?_) (fun a hQ => (by simp only [go_sem, V_size, V_trunc]; exact hQ)))
  simp only [go_sem]
  refine wp_loop (fun m fr st' => ∃ acc a own ft lx ser ex, RK ePds st id l Q (spProcs l bl n m acc a) ∧ a ≤ l.length ∧ acc.length + m = n + 1 ∧ acc ≠ [] ∧ st' = V st id l a ∧ ((own = .tight ∧ ft = []) ∨ (own = .ftok 0 ∧ ft = [acc.length])) ∧
    fr = ⟨[(0, .ptr id 0), (3, .slice 4 (encPds acc) own)] ++ ex, [lx], ft, ser⟩) n ⟨[⟨[77, 65, 73, 78], false, true, [], true, b⟩], a, _, _, (0, []), _, [], hQ, ha, by simp; omega, by simp, rfl, .inl ⟨rfl, rfl⟩, rfl⟩ ?_
  rintro m fr st' ⟨acc, a, own, ft, lx, ser, ex, hQ, ha, hm, hne, rfl, hown, rfl⟩
  cases m with
  | zero => exact hQ.elim
  | succ m =>
    have hend : (AV.slice 4 (encPds acc) own).strip2 = encSl true 4 (encPds acc) := by
      cases acc with
      | nil => exact absurd rfl hne
      | cons x acc => rfl
    simp only [spProcs] at hQ
    by_cases h1 : (a : Int) < (l.length : Int)
    · rw [if_pos (by omega)] at hQ
      cases h2 : (wordOf (tokAt l a) == wFunction) with
      | true =>
        simp only [h2, Bool.true_or, if_true] at hQ
        unfold wFunction at h2
        simp only [b67l0, go_sem, V_cells hid, List.length_map, h1, word_yes hid hl ha hT h2 (by decide)]
        refine name_ok hid hl hT (a + 1) _ (by omega) (RK_step hQ (fun s a ha hQ => ?_) (fun a hQ => (by simp only [go_sem, V_size, V_trunc]; exact hQ)))
        simp only [go_sem]
        refine params_ok hid hl hT n hn a _ ha (RK_step hQ (fun p a ha hQ => ?_) (fun a hQ => (by simp only [go_sem, V_size, V_trunc]; exact hQ)))
        simp only [go_sem]
        refine end_ok hid hl a _ ha (RK_step hQ (fun u a ha hQ => ?_) (fun a hQ => (by simp only [go_sem, V_size, V_trunc]; exact hQ)))
        simp only [go_sem]
        refine hb a _ ha (RK_step hQ (fun b a' ha' hQ => ?_) (fun a hQ => (by simp only [go_sem, V_size, V_trunc]; exact hQ)))
        have hb : (acc.length + 1) * 96 ≤ 1099511627776 := by omega
        have hne2 : ¬ encPds acc = [] := by cases acc with | nil => exact absurd rfl hne | cons => simp [encPds]
        rcases hown with ⟨rfl, rfl⟩ | ⟨rfl, rfl⟩
        · simp only [go_sem, aappend, grow, elsOf, encPds_length, hb, List.isEmpty_cons]
          exact ⟨m, Nat.lt_succ_self m, acc ++ [⟨s, true, true, p, true, b⟩], a', .ftok 0, [acc.length + 1], _, _, [], hQ, ha', by simp; omega, by simp, rfl, .inr ⟨rfl, by simp⟩, by rw [← encPds_snoc]; rfl⟩
        · simp only [go_sem, aappend, grow, elsOf, encPds_length, hb, hne2, List.isEmpty_cons, ne_eq, not_false_eq_true, and_self]
          exact ⟨m, Nat.lt_succ_self m, acc ++ [⟨s, true, true, p, true, b⟩], a', .ftok 0, [acc.length + 1], _, _, [], hQ, ha', by simp; omega, by simp, rfl, .inr ⟨rfl, by simp⟩, by rw [← encPds_snoc]; rfl⟩
      | false =>
        simp only [h2, Bool.false_or] at hQ
        unfold wFunction at h2
        cases h3 : (wordOf (tokAt l a) == wProcedure) with
        | true =>
          simp only [h3, if_true] at hQ
          unfold wProcedure at h3
          simp only [b67l0, go_sem, V_cells hid, List.length_map, h1, word_no hid hl ha hT h2, wantWord_yes hid hl ha hT h3 (by decide)]
          refine name_ok hid hl hT (a + 1) _ (by omega) (RK_step hQ (fun s a ha hQ => ?_) (fun a hQ => (by simp only [go_sem, V_size, V_trunc]; exact hQ)))
          simp only [go_sem]
          refine params_ok hid hl hT n hn a _ ha (RK_step hQ (fun p a ha hQ => ?_) (fun a hQ => (by simp only [go_sem, V_size, V_trunc]; exact hQ)))
          simp only [go_sem]
          refine end_ok hid hl a _ ha (RK_step hQ (fun u a ha hQ => ?_) (fun a hQ => (by simp only [go_sem, V_size, V_trunc]; exact hQ)))
          simp only [go_sem]
          refine hb a _ ha (RK_step hQ (fun b a' ha' hQ => ?_) (fun a hQ => (by simp only [go_sem, V_size, V_trunc]; exact hQ)))
          have hb : (acc.length + 1) * 96 ≤ 1099511627776 := by omega
          have hne2 : ¬ encPds acc = [] := by cases acc with | nil => exact absurd rfl hne | cons => simp [encPds]
          rcases hown with ⟨rfl, rfl⟩ | ⟨rfl, rfl⟩
          · simp only [go_sem, aappend, grow, elsOf, encPds_length, hb, List.isEmpty_cons]
            exact ⟨m, Nat.lt_succ_self m, acc ++ [⟨s, false, true, p, true, b⟩], a', .ftok 0, [acc.length + 1], _, _, [], hQ, ha', by simp; omega, by simp, rfl, .inr ⟨rfl, by simp⟩, by rw [← encPds_snoc]; rfl⟩
          · simp only [go_sem, aappend, grow, elsOf, encPds_length, hb, hne2, List.isEmpty_cons, ne_eq, not_false_eq_true, and_self]
            exact ⟨m, Nat.lt_succ_self m, acc ++ [⟨s, false, true, p, true, b⟩], a', .ftok 0, [acc.length + 1], _, _, [], hQ, ha', by simp; omega, by simp, rfl, .inr ⟨rfl, by simp⟩, by rw [← encPds_snoc]; rfl⟩
        | false =>
          simp only [h3, Bool.false_eq_true, if_false] at hQ
          unfold wProcedure at h3
          simp only [b67l0, go_sem, V_cells hid, List.length_map, h1, word_no hid hl ha hT h2, wantWord_no hid hl ha hT h3, V_size, V_trunc]
          exact hQ
    · rw [if_neg (by omega)] at hQ
      simp only [b67l0, go_sem, V_cells hid, List.length_map, h1, V_size, V_trunc, hend]
      exact RK_ok hQ ha
end
end Go.Proofs.YtelpkgbghhpgaaaGreatDoor.Sx
end
