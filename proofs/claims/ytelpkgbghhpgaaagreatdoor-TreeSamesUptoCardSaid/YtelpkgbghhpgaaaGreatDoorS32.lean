/- TreeSames returns true for all programs whose data are not larger than a bound. TreeSames: how much is in a program; the law's run. TreeSames: the row's contract, but for the soundness of the functions that are no plain code.     The functions that are no plain code: what their contracts give the plain machine. -/
import Derived.Test.YtelpkgbghhpgaaaGreatDoorS14
import Derived.Test.YtelpkgbghhpgaaaGreatDoorS20
import Derived.Test.YtelpkgbghhpgaaaGreatDoorS28
import Derived.Test.YtelpkgbghhpgaaaGreatDoorS29
import Derived.Test.YtelpkgbghhpgaaaGreatDoorS31
import Derived.KernelRfl
import Derived.OpenShut
import Derived.Test.YtelpkgbghhpgaaaGreatDoorProg
import Derived.Test.YtelpkgbghhpgaaaGreatDoorRows
set_option linter.all false
section
/- TreeSames: how much is in a program; the law's run. -/
set_option maxRecDepth 100000
namespace Go.Proofs.YtelpkgbghhpgaaaGreatDoor.Sx

/-- What is shown of every end: there is one answer. -/
theorem callA_ex {β : Type} {S : Sim} {f : Nat} {args : List AV} {st : St} (g : β → Res) (h : ∀ Q : Res → St → Prop, (∀ b, Q (g b) st) → CallA S f args st Q) : ∃ b, ∀ Q, CallA S f args st Q = Q (g b) st := by
  obtain ⟨k, r, st', h1, ⟨b, rfl⟩, rfl⟩ := h (fun r s => (∃ b, r = g b) ∧ s = st) (fun b => ⟨⟨b, rfl⟩, rfl⟩)
  exact ⟨b, fun Q => CallA.iff_of h1 Q⟩

section
variable {st : St} {Q : Res → St → Prop}

theorem heavy_ex (nb : Bool) (l : List Xp) (hl : l.length < most) (hp : bdXs l) (st : St) : ∃ n : Int, ∀ Q, CallA S 41 [encSl nb 7 (encXs l)] st Q = Q (.ret (.int .i64 n)) st :=
  callA_ex (fun n : Int => .ret (.int .i64 n)) fun Q hQ => heavy_ok nb l hl hp hQ

theorem heavyStmts_of (nb : Bool) (l : List Sm) (hl : l.length < most) (hp : ∀ x ∈ l, bdSm x)
    (ih : ∀ (i : Nat) (h : i < l.length) (op : Int) (s t : List UInt8) (pn : Bool) (p : List (List UInt8)) (xn : Bool) (x : List Xp) (bn : Bool) (b : List (Bool × List Sm)) (ck : Int) (nn : Bool) (n : List Xp) (fn : Bool) (f : List Xp) (wn : Bool) (w : List Xp), l[i] = .mk op s t pn p xn x bn b ck nn n fn f wn w → ∀ (k : Nat) (hk : k < b.length) (st : St) (Q : Res → St → Prop), (∀ n : Int, Q (.ret (.int .i64 n)) st) → CallA S 44 [encSl b[k].1 10 (encSms b[k].2)] st Q)
    (hQ : ∀ n : Int, Q (.ret (.int .i64 n)) st) : CallA S 44 [encSl nb 10 (encSms l)] st Q := by
  refine callA_body (by rfl) (by rfl) rfl ?_
  unfold most at hl
  simp only [b44, go_sem, encSms_length]
  refine wp_loop (fun m fr st' => st' = st ∧ ∃ (i : Nat) (n : Int) (ser : Nat), m + i = l.length ∧
    fr = ⟨[(0, encSl nb 10 (encSms l)), (3, .int .i64 n), (4, .int .i64 (i : Int))], [], [], ser⟩) l.length ⟨rfl, 0, _, _, rfl, rfl⟩ ?_
  rintro m fr st' ⟨rfl, i, n, ser, hm, rfl⟩
  by_cases h : (i : Int) < (l.length : Int)
  · by_cases h2 : n < 65536
    · have hi : i < l.length := by omega
      obtain ⟨op, s, t, pn, p, xn, x, bn, b, ck, nn, n', fn, f, wn, w, he⟩ := sm_cases l[i]
      have hel := el_Sm nb l hi
      rw [he, encSm_mk] at hel
      have hb := hp _ (List.getElem_mem hi)
      have ihi := ih i hi _ _ _ _ _ _ _ _ _ _ _ _ _ _ _ _ he
      rw [he] at hb
      simp only [bdSm] at hb
      obtain ⟨hpl, hbl, hxl, hx, hnn, hf, hw, hbb⟩ := hb
      obtain ⟨a1, e1⟩ := heavy_ex xn x (by unfold most; omega) hx st'
      obtain ⟨a2, e2⟩ := heavy_ex nn n' (by unfold most; omega) hnn st'
      obtain ⟨a3, e3⟩ := heavy_ex fn f (by unfold most; omega) hf st'
      obtain ⟨a4, e4⟩ := heavy_ex wn w (by unfold most; omega) hw st'
      unfold most at hpl hbl
      simp only [b44l2, go_sem, encSms_length, h, h2, hel, e1, e2, e3, e4]
      refine wp_loop (fun m2 fr st => st = st' ∧ ∃ (k : Nat) (n : Int) (ser : Nat), m2 + k = p.length ∧
        fr = ⟨[(0, encSl nb 10 (encSms l)), (3, .int .i64 n), (4, .int .i64 (i : Int)), (5, .int .i64 (k : Int))], [], [], ser⟩) p.length ⟨rfl, 0, _, _, rfl, rfl⟩ ?_
      rintro m2 fr st ⟨rfl, k, n, ser, hm2, rfl⟩
      by_cases h3 : (k : Int) < (p.length : Int)
      · have hk : k < p.length := by omega
        simp only [b44l0, go_sem, hel, encStr_length, h3, el_str pn p hk, wrap_one k (by omega)]
        exact ⟨m2 - 1, by omega, k + 1, _, _, by omega, rfl⟩
      · simp only [b44l0, go_sem, hel, encStr_length, h3]
        refine wp_loop (fun m2 fr st' => st' = st ∧ ∃ (k : Nat) (n : Int) (ser : Nat), m2 + k = b.length ∧
          fr = ⟨[(0, encSl nb 10 (encSms l)), (3, .int .i64 n), (4, .int .i64 (i : Int)), (6, .int .i64 (k : Int))], [], [], ser⟩) b.length ⟨rfl, 0, _, _, rfl, rfl⟩ ?_
        rintro m2 fr st' ⟨rfl, k, n, ser, hm2, rfl⟩
        by_cases h3 : (k : Int) < (b.length : Int)
        · have hk : k < b.length := by omega
          simp only [b44l1, go_sem, hel, encBls_length, h3, el_Bl bn b hk]
          refine ihi k hk _ _ (fun n2 => ?_)
          simp only [go_sem, wrap_one k (by omega)]
          exact ⟨m2 - 1, by omega, k + 1, _, _, by omega, rfl⟩
        · simp only [b44l1, go_sem, hel, encBls_length, h3, wrap_one i (by omega)]
          exact ⟨m - 1, by omega, i + 1, _, _, by omega, rfl⟩
    · simp only [b44l2, go_sem, encSms_length, h, h2, trunc_self]
      exact hQ _
  · simp only [b44l2, go_sem, encSms_length, h, trunc_self]
    exact hQ _

theorem heavySm_ok : ∀ (x : Sm), bdSm x → ∀ (op : Int) (s t : List UInt8) (pn : Bool) (p : List (List UInt8)) (xn : Bool) (x' : List Xp) (bn : Bool) (b : List (Bool × List Sm)) (ck : Int) (nn : Bool) (n : List Xp) (fn : Bool) (f : List Xp) (wn : Bool) (w : List Xp), x = .mk op s t pn p xn x' bn b ck nn n fn f wn w → ∀ (k : Nat) (hk : k < b.length) (st : St) (Q : Res → St → Prop), (∀ n : Int, Q (.ret (.int .i64 n)) st) → CallA S 44 [encSl b[k].1 10 (encSms b[k].2)] st Q
  | .mk op s t pn p xn x bn b ck nn n fn f wn w, hb => by
    intro _ _ _ _ _ _ _ _ b' _ _ _ _ _ _ _ he
    injection he with _ _ _ _ _ _ _ _ h1
    subst h1
    intro k hk st Q hQ
    simp only [bdSm] at hb
    obtain ⟨_, _, _, _, _, _, _, hbb⟩ := hb
    have h3 := bdBls_mem hbb _ (List.getElem_mem hk)
    exact heavyStmts_of _ _ h3.1 (bdSms_mem h3.2) (fun j hj => heavySm_ok b[k].2[j] (bdSms_mem h3.2 _ (List.getElem_mem hj))) hQ
termination_by x => SizeOf.sizeOf x
decreasing_by
  have h1 := List.sizeOf_lt_of_mem (List.getElem_mem hk)
  have h2 := List.sizeOf_lt_of_mem (List.getElem_mem hj)
  have h3 : SizeOf.sizeOf b[k] = 1 + SizeOf.sizeOf b[k].1 + SizeOf.sizeOf b[k].2 := by rfl
  simp only [Sm.mk.sizeOf_spec]
  omega

theorem heavyStmts_ok (nb : Bool) (l : List Sm) (hl : l.length < most) (hp : bdSms l) (hQ : ∀ n : Int, Q (.ret (.int .i64 n)) st) : CallA S 44 [encSl nb 10 (encSms l)] st Q :=
  heavyStmts_of nb l hl (bdSms_mem hp) (fun i h => heavySm_ok l[i] (bdSms_mem hp _ (List.getElem_mem h))) hQ

theorem overProgram_ok (nb : Bool) (l : List Pd) (hb : bdPds l) (hQ : ∀ b : Bool, Q (.ret (.bool b)) st) : CallA S 17 [encSl nb 4 (encPds l)] st Q := by
  refine callA_body (by rfl) (by rfl) rfl ?_
  obtain ⟨hl, hb⟩ := hb
  unfold most at hl
  simp only [b17, go_sem, encPds_length]
  refine wp_loop (fun m fr st' => st' = st ∧ ∃ (i : Nat) (n : Int) (ser : Nat), m + i = l.length ∧
    fr = ⟨[(0, encSl nb 4 (encPds l)), (3, .int .i64 n), (4, .int .i64 (i : Int))], [], [], ser⟩) l.length ⟨rfl, 0, _, _, rfl, rfl⟩ ?_
  rintro m fr st' ⟨rfl, i, n, ser, hm, rfl⟩
  by_cases h : (i : Int) < (l.length : Int)
  · by_cases h2 : n < 65536
    · have hi : i < l.length := by omega
      have hel := el_Pd nb l hi
      have hbi := hb _ (List.getElem_mem hi)
      generalize l[i] = x at *
      obtain ⟨name, fn, pn, p, bn, b⟩ := x
      simp only [encPd] at hel
      simp only at hbi
      obtain ⟨hpl, hbl, hbb⟩ := hbi
      unfold most at hpl
      simp only [b17l1, go_sem, encPds_length, h, h2, hel]
      refine heavyStmts_ok bn b hbl hbb (fun n2 => ?_)
      simp only [go_sem]
      refine wp_loop (fun m2 fr st => st = st' ∧ ∃ (k : Nat) (n : Int) (ser : Nat), m2 + k = p.length ∧
        fr = ⟨[(0, encSl nb 4 (encPds l)), (3, .int .i64 n), (4, .int .i64 (i : Int)), (5, .int .i64 (k : Int))], [], [], ser⟩) p.length ⟨rfl, 0, _, _, rfl, rfl⟩ ?_
      rintro m2 fr st ⟨rfl, k, n, ser, hm2, rfl⟩
      by_cases h3 : (k : Int) < (p.length : Int)
      · have hk : k < p.length := by omega
        simp only [b17l0, go_sem, hel, encStr_length, h3, el_str pn p hk, wrap_one k (by omega)]
        exact ⟨m2 - 1, by omega, k + 1, _, _, by omega, rfl⟩
      · simp only [b17l0, go_sem, hel, encStr_length, h3, wrap_one i (by omega)]
        exact ⟨m - 1, by omega, i + 1, _, _, by omega, rfl⟩
    · simp only [b17l1, go_sem, encPds_length, h, h2]
      by_cases h4 : n ≥ 65536
      · simp only [go_sem, h4, trunc_self]
        exact hQ _
      · simp only [go_sem, h4, trunc_self]
        exact hQ _
  · simp only [b17l1, go_sem, encPds_length, h]
    by_cases h4 : n ≥ 65536
    · simp only [go_sem, h4, trunc_self]
      exact hQ _
    · simp only [go_sem, h4, trunc_self]
      exact hQ _

theorem sameTexts_eq (n1 n2 : Bool) (l m : List (List UInt8)) (hl : l.length < most) : CallA S 19 [encSl n1 1 (encStr l), encSl n2 1 (encStr m)] st Q = Q (.ret (.bool (l == m))) st := by
  refine callA_eq (fun Q hQ => ?_) Q
  refine callA_body (by rfl) (by rfl) rfl ?_
  unfold most at hl
  by_cases h0 : (l.length : Int) = (m.length : Int)
  · have h0' : l.length = m.length := by omega
    have hb : ((l.length : Int) != (m.length : Int)) = false := by simp [h0']
    simp only [b19, go_sem, encStr_length, hb]
    refine wp_loop (fun n fr st' => st' = st ∧ ∃ (i : Nat) (ser : Nat), n + i = l.length ∧ (l == m) = (l.drop i == m.drop i) ∧
      fr = ⟨[(0, encSl n1 1 (encStr l)), (1, encSl n2 1 (encStr m)), (5, .int .i64 (i : Int))], [], [], ser⟩) l.length ⟨rfl, 0, _, rfl, rfl, rfl⟩ ?_
    rintro n fr st' ⟨rfl, i, ser, hn, hsz, rfl⟩
    by_cases h : (i : Int) < (l.length : Int)
    · have hi : i < l.length := by omega
      have hi2 : i < m.length := by omega
      rw [strs_drop hi hi2] at hsz
      cases hc : (l[i] == m[i]) with
      | true =>
        simp only [hc, Bool.true_and] at hsz
        simp only [b19l0, go_sem, encStr_length, h, el_str n1 l hi, el_str n2 m hi2, hc, wrap_one i (by omega)]
        exact ⟨n - 1, by omega, i + 1, _, by omega, hsz, rfl⟩
      | false =>
        simp only [hc, Bool.false_and] at hsz
        rw [hsz] at hQ
        simp only [b19l0, go_sem, encStr_length, h, el_str n1 l hi, el_str n2 m hi2, hc, trunc_self]
        exact hQ
    · rw [List.drop_of_length_le (by omega), List.drop_of_length_le (by omega)] at hsz
      rw [hsz] at hQ
      simp only [b19l0, go_sem, encStr_length, h, trunc_self]
      exact hQ
  · have hb := bne_iff_ne.2 h0
    have he : (l == m) = false := by
      simp only [beq_eq_false_iff_ne, ne_eq]
      rintro rfl
      exact h0 rfl
    rw [he] at hQ
    simp only [b19, go_sem, encStr_length, hb, trunc_self]
    exact hQ

theorem tWords_eq : CallA S 20 [] st Q = Q (.ret (.slice 1 (theWords.map fun x => [.str x]) .no)) st := by
  refine callA_eq (fun Q hQ => ?_) Q
  refine callA_body (by rfl) (by rfl) rfl ?_
  have h : ∀ (st : St) (Q : Res → St → Prop), CallA S 49 [] st Q = Q (.ret (.slice 1 (theWords.map fun x => [.str x]) .no)) st := fun st Q => callA_intr (n := 0) (by rfl) (by rfl) Q
  simp only [b20, go_sem, h, trunc_self]
  exact hQ
theorem rWords_eq : CallA S 21 [] st Q = Q (.ret (.slice 1 (theWords.map fun x => [.str x]) .no)) st := callA_intr (n := 0) (by rfl) (by rfl) Q

theorem treeSames (n1 n2 : Bool) (x y : List Pd) (hx : bdPds x) (hy : bdPds y) (hQ : Q (.ret (.bool true)) st) : CallA S 6 [encSl n1 4 (encPds x), encSl n2 4 (encPds y)] st Q := by
  refine callA_body (by rfl) (by rfl) rfl ?_
  simp only [b6, go_sem]
  refine overProgram_ok n1 x hx (fun b => ?_)
  cases b with
  | true =>
    simp only [go_sem, known_eq, trunc_self]
    exact hQ
  | false =>
    simp only [go_sem]
    refine overProgram_ok n2 y hy (fun b => ?_)
    cases b with
    | true =>
      simp only [go_sem, known_eq, trunc_self]
      exact hQ
    | false =>
      have hb : ∀ b : Bool, (b == b) = true := fun b => by cases b <;> rfl
      have hw := fun (st : St) (Q : Res → St → Prop) => sameTexts_eq (st := st) (Q := Q) false false theWords theWords (by decide)
      have e : encSl false 1 (encStr theWords) = .slice 1 (theWords.map fun x => [.str x]) .no := rfl
      rw [e, beq_self_eq_true] at hw
      simp only [go_sem, tSame_eq n1 n2 x y hx, tSame_eq n1 n1 x x hx, rSame_eq n1 n2 x y hx, samePds_refl, hb, tWords_eq, rWords_eq, hw, known_eq, trunc_self]
      exact hQ
end
end Go.Proofs.YtelpkgbghhpgaaaGreatDoor.Sx
end
section
/- TreeSames: the row's contract, but for the soundness of the functions that are no plain code. -/
set_option maxRecDepth 100000
namespace Go.Proofs.YtelpkgbghhpgaaaGreatDoor.Sx
open AV Go.Proofs.YtelpkgbghhpgaaaGreatDoor Go.ChangeShapes Go.WideShapes Go.RowKit

theorem laidOutB : laidOutB Tryz.prog = true := by kernel_rfl

theorem one_slice {P : Program} {W : World} {base : Nat} {t e : TypeId} {v : Value} (ht : P.underlying t = some (.slice e)) (h : Value.okWide P W .any base t v) : v.cells.toList = [v] := by
  cases v with
  | agg cs => simp [Value.okWide, Cell.okWide, Cell.ok, ht] at h
  | _ => rfl

section
variable {H : Type} {enc : TypeId × Value → H}

theorem rowTS (W : World) (args : Array Value) (ds gs : List (DataW H)) (before : List MemPlace) (hS : SimOk Tryz.prog W S)
    {base : Nat} (hval : ∀ (j : Nat) t v, Tryz.f6.params[j]? = some t → args[j]? = some v → Value.okWide Tryz.prog W .any base t v)
    (hW : DataW.Whole enc Tryz.prog Tryz.f6.params.toList Rows.treeSamesSpec.vars false W args.toList ds gs before) (hb : Rows.uptoBulkAll ds ≤ 1048576) :
    Calls Tryz.prog 6 args W fun e W' => ∃ v, e = .returned v ∧ Rows.treeSamesSpec.post enc Tryz.prog Tryz.f6 false true false false W args v W' := by
  have hW' := hW
  obtain ⟨p, q, hA0, hV, rfl, hfz, hnd⟩ := hW
  have hA : DataW.TrodAll enc Tryz.prog W 0 (fun _ => true) true Tryz.f6.params.toList args.toList ds p := hA0
  rw [Tryz.params6] at hA
  obtain ⟨v0, vs0, d0, ds0, p0, q0, hargs, rfl, rfl, h0, r0⟩ := trodAll_cons hA
  obtain ⟨v1, vs1, d1, ds1, p1, q1, rfl, rfl, rfl, h1, r1⟩ := trodAll_cons r0
  obtain ⟨rfl, rfl, rfl⟩ := trodAll_nil r1
  obtain rfl : args = #[v0, v1] := by cases args; simp_all
  obtain ⟨rfl, rfl⟩ := trodVars_none hV
  have hlt : ∀ x ∈ p0 ++ (p1 ++ []) ++ [], x.block < W.heap.size := fun x hx => by simpa using hW'.lt x hx
  have h0k := h0
  have h1k := h1
  obtain ⟨f0, h0⟩ := h0
  obtain ⟨f1, h1⟩ := h1
  rw [one_slice Tryz.underlying34 (hval 0 _ v0 (by rw [Tryz.params6]; rfl) rfl)] at h0
  rw [one_slice Tryz.underlying34 (hval 1 _ v1 (by rw [Tryz.params6]; rfl) rfl)] at h1
  obtain ⟨n0, x, rx, bx⟩ := readPds f0 _ _ _ h0
  obtain ⟨n1, y, ry, by_⟩ := readPds f1 _ _ _ h1
  simp only [Rows.uptoBulkAll] at hb
  have hbx := bx (by omega)
  have hby := by_ (by omega)
  have walk := run_true hS (f := 6) (vs := [encSl n0 4 (encPds x), encSl n1 4 (encPds y)]) (args := [v0, v1]) rfl (fun i h h' => by
    match i, h with
    | 0, _ => exact .plain rx
    | 1, _ => exact .plain ry) (treeSames n0 n1 x y hbx hby rfl)
  refine walk.mono fun e W' ⟨he, hk⟩ => ?_
  refine ⟨_, he, _, _, _, [], p0 ++ (p1 ++ []), [], hW', ?_, ?_, rfl, World.keptBut_mono (fun _ f => f.elim) hk.but, fun h => by cases h⟩
  · exact trodAll_mk1 (shut_bool Tryz.underlying4 _)
  · refine trodAll_cons_mk (Below.trod laidOutB (by kernel_rfl) (of_decide_eq_true (by kernel_rfl)) h0k hk.below (fun x hx => hlt x (by simp [hx]))) ?_
    exact trodAll_cons_mk (Below.trod laidOutB (by kernel_rfl) (of_decide_eq_true (by kernel_rfl)) h1k hk.below (fun x hx => hlt x (by simp [hx]))) trodAll_mk0
end
end Go.Proofs.YtelpkgbghhpgaaaGreatDoor.Sx
end
section
set_option maxRecDepth 100000
namespace Go.Proofs.YtelpkgbghhpgaaaGreatDoor.Sx
theorem chk6 : chkFunc Tryz.prog 6 a6 = true := by kernel_rfl
theorem chk8 : chkFunc Tryz.prog 8 a8 = true := by kernel_rfl
theorem chk9 : chkFunc Tryz.prog 9 a9 = true := by kernel_rfl
theorem chk11 : chkFunc Tryz.prog 11 a11 = true := by kernel_rfl
theorem chk12 : chkFunc Tryz.prog 12 a12 = true := by kernel_rfl
theorem chk14 : chkFunc Tryz.prog 14 a14 = true := by kernel_rfl
theorem chk16 : chkFunc Tryz.prog 16 a16 = true := by kernel_rfl
theorem chk17 : chkFunc Tryz.prog 17 a17 = true := by kernel_rfl
theorem chk18 : chkFunc Tryz.prog 18 a18 = true := by kernel_rfl
theorem chk19 : chkFunc Tryz.prog 19 a19 = true := by kernel_rfl
theorem chk20 : chkFunc Tryz.prog 20 a20 = true := by kernel_rfl
theorem chk21 : chkFunc Tryz.prog 21 a21 = true := by kernel_rfl
theorem chk22 : chkFunc Tryz.prog 22 a22 = true := by kernel_rfl
theorem chk23 : chkFunc Tryz.prog 23 a23 = true := by kernel_rfl
theorem chk24 : chkFunc Tryz.prog 24 a24 = true := by kernel_rfl
theorem chk25 : chkFunc Tryz.prog 25 a25 = true := by kernel_rfl
theorem chk26 : chkFunc Tryz.prog 26 a26 = true := by kernel_rfl
theorem chk32 : chkFunc Tryz.prog 32 a32 = true := by kernel_rfl
theorem chk33 : chkFunc Tryz.prog 33 a33 = true := by kernel_rfl
theorem chk34 : chkFunc Tryz.prog 34 a34 = true := by kernel_rfl
theorem chk35 : chkFunc Tryz.prog 35 a35 = true := by kernel_rfl
theorem chk36 : chkFunc Tryz.prog 36 a36 = true := by kernel_rfl
theorem chk40 : chkFunc Tryz.prog 40 a40 = true := by kernel_rfl
theorem chk41 : chkFunc Tryz.prog 41 a41 = true := by kernel_rfl
theorem chk42 : chkFunc Tryz.prog 42 a42 = true := by kernel_rfl
theorem chk43 : chkFunc Tryz.prog 43 a43 = true := by kernel_rfl
theorem chk44 : chkFunc Tryz.prog 44 a44 = true := by kernel_rfl
theorem chk45 : chkFunc Tryz.prog 45 a45 = true := by kernel_rfl
theorem chk46 : chkFunc Tryz.prog 46 a46 = true := by kernel_rfl
theorem chk47 : chkFunc Tryz.prog 47 a47 = true := by kernel_rfl
theorem chk48 : chkFunc Tryz.prog 48 a48 = true := by kernel_rfl
theorem chk49 : chkFunc Tryz.prog 49 a49 = true := by kernel_rfl
theorem chk51 : chkFunc Tryz.prog 51 a51 = true := by kernel_rfl
theorem chk52 : chkFunc Tryz.prog 52 a52 = true := by kernel_rfl
theorem chk53 : chkFunc Tryz.prog 53 a53 = true := by kernel_rfl
theorem chk55 : chkFunc Tryz.prog 55 a55 = true := by kernel_rfl
theorem chk56 : chkFunc Tryz.prog 56 a56 = true := by kernel_rfl
theorem chk57 : chkFunc Tryz.prog 57 a57 = true := by kernel_rfl
theorem chk58 : chkFunc Tryz.prog 58 a58 = true := by kernel_rfl
theorem chk66 : chkFunc Tryz.prog 66 a66 = true := by kernel_rfl
theorem chk67 : chkFunc Tryz.prog 67 a67 = true := by kernel_rfl
theorem chk68 : chkFunc Tryz.prog 68 a68 = true := by kernel_rfl
theorem chk69 : chkFunc Tryz.prog 69 a69 = true := by kernel_rfl
theorem chk77 : chkFunc Tryz.prog 77 a77 = true := by kernel_rfl
theorem chk78 : chkFunc Tryz.prog 78 a78 = true := by kernel_rfl
theorem chk79 : chkFunc Tryz.prog 79 a79 = true := by kernel_rfl
theorem chk83 : chkFunc Tryz.prog 83 a83 = true := by kernel_rfl
theorem chk84 : chkFunc Tryz.prog 84 a84 = true := by kernel_rfl
theorem chk86 : chkFunc Tryz.prog 86 a86 = true := by kernel_rfl
theorem chk87 : chkFunc Tryz.prog 87 a87 = true := by kernel_rfl
theorem chk88 : chkFunc Tryz.prog 88 a88 = true := by kernel_rfl
theorem chk89 : chkFunc Tryz.prog 89 a89 = true := by kernel_rfl
theorem chk90 : chkFunc Tryz.prog 90 a90 = true := by kernel_rfl
theorem chk95 : chkFunc Tryz.prog 95 a95 = true := by kernel_rfl
theorem chk96 : chkFunc Tryz.prog 96 a96 = true := by kernel_rfl
theorem chk97 : chkFunc Tryz.prog 97 a97 = true := by kernel_rfl
theorem chk98 : chkFunc Tryz.prog 98 a98 = true := by kernel_rfl
theorem chk99 : chkFunc Tryz.prog 99 a99 = true := by kernel_rfl
theorem chk100 : chkFunc Tryz.prog 100 a100 = true := by kernel_rfl
theorem chk109 : chkFunc Tryz.prog 109 a109 = true := by kernel_rfl
end Go.Proofs.YtelpkgbghhpgaaaGreatDoor.Sx
end
section
set_option maxRecDepth 100000
namespace Go.Proofs.YtelpkgbghhpgaaaGreatDoor.Sx
theorem chk110 : chkFunc Tryz.prog 110 a110 = true := by kernel_rfl
theorem chk111 : chkFunc Tryz.prog 111 a111 = true := by kernel_rfl
theorem chk112 : chkFunc Tryz.prog 112 a112 = true := by kernel_rfl
theorem chk113 : chkFunc Tryz.prog 113 a113 = true := by kernel_rfl
theorem chk114 : chkFunc Tryz.prog 114 a114 = true := by kernel_rfl
theorem chk115 : chkFunc Tryz.prog 115 a115 = true := by kernel_rfl
theorem chk116 : chkFunc Tryz.prog 116 a116 = true := by kernel_rfl
theorem chk117 : chkFunc Tryz.prog 117 a117 = true := by kernel_rfl
theorem chk118 : chkFunc Tryz.prog 118 a118 = true := by kernel_rfl
theorem chk128 : chkFunc Tryz.prog 128 a128 = true := by kernel_rfl
theorem chk129 : chkFunc Tryz.prog 129 a129 = true := by kernel_rfl
theorem chk130 : chkFunc Tryz.prog 130 a130 = true := by kernel_rfl
theorem chk131 : chkFunc Tryz.prog 131 a131 = true := by kernel_rfl
theorem chk132 : chkFunc Tryz.prog 132 a132 = true := by kernel_rfl
theorem chk133 : chkFunc Tryz.prog 133 a133 = true := by kernel_rfl
theorem chk134 : chkFunc Tryz.prog 134 a134 = true := by kernel_rfl
theorem chk135 : chkFunc Tryz.prog 135 a135 = true := by kernel_rfl
theorem chk156 : chkFunc Tryz.prog 156 a156 = true := by kernel_rfl
theorem chk157 : chkFunc Tryz.prog 157 a157 = true := by kernel_rfl
theorem chk158 : chkFunc Tryz.prog 158 a158 = true := by kernel_rfl
theorem chk159 : chkFunc Tryz.prog 159 a159 = true := by kernel_rfl
theorem chk160 : chkFunc Tryz.prog 160 a160 = true := by kernel_rfl
theorem chk161 : chkFunc Tryz.prog 161 a161 = true := by kernel_rfl
theorem chk162 : chkFunc Tryz.prog 162 a162 = true := by kernel_rfl
theorem chk163 : chkFunc Tryz.prog 163 a163 = true := by kernel_rfl
theorem chk164 : chkFunc Tryz.prog 164 a164 = true := by kernel_rfl
theorem chk165 : chkFunc Tryz.prog 165 a165 = true := by kernel_rfl
theorem chk166 : chkFunc Tryz.prog 166 a166 = true := by kernel_rfl
theorem chk167 : chkFunc Tryz.prog 167 a167 = true := by kernel_rfl
theorem chk178 : chkFunc Tryz.prog 178 a178 = true := by kernel_rfl
theorem chk180 : chkFunc Tryz.prog 180 a180 = true := by kernel_rfl
theorem chk181 : chkFunc Tryz.prog 181 a181 = true := by kernel_rfl
theorem chk182 : chkFunc Tryz.prog 182 a182 = true := by kernel_rfl
theorem chk183 : chkFunc Tryz.prog 183 a183 = true := by kernel_rfl
theorem chk184 : chkFunc Tryz.prog 184 a184 = true := by kernel_rfl
theorem chk202 : chkFunc Tryz.prog 202 a202 = true := by kernel_rfl
theorem chk209 : chkFunc Tryz.prog 209 a209 = true := by kernel_rfl
theorem chk210 : chkFunc Tryz.prog 210 a210 = true := by kernel_rfl
theorem chk211 : chkFunc Tryz.prog 211 a211 = true := by kernel_rfl
theorem chk215 : chkFunc Tryz.prog 215 a215 = true := by kernel_rfl
theorem chk223 : chkFunc Tryz.prog 223 a223 = true := by kernel_rfl
theorem chk224 : chkFunc Tryz.prog 224 a224 = true := by kernel_rfl
theorem chk225 : chkFunc Tryz.prog 225 a225 = true := by kernel_rfl
theorem chk226 : chkFunc Tryz.prog 226 a226 = true := by kernel_rfl
theorem chk227 : chkFunc Tryz.prog 227 a227 = true := by kernel_rfl
theorem chk237 : chkFunc Tryz.prog 237 a237 = true := by kernel_rfl
theorem chk242 : chkFunc Tryz.prog 242 a242 = true := by kernel_rfl
theorem chk243 : chkFunc Tryz.prog 243 a243 = true := by kernel_rfl
theorem chk244 : chkFunc Tryz.prog 244 a244 = true := by kernel_rfl
theorem chk256 : chkFunc Tryz.prog 256 a256 = true := by kernel_rfl
theorem chk258 : chkFunc Tryz.prog 258 a258 = true := by kernel_rfl
theorem chk259 : chkFunc Tryz.prog 259 a259 = true := by kernel_rfl
theorem chk261 : chkFunc Tryz.prog 261 a261 = true := by kernel_rfl
theorem chk269 : chkFunc Tryz.prog 269 a269 = true := by kernel_rfl
theorem chk270 : chkFunc Tryz.prog 270 a270 = true := by kernel_rfl
theorem chk271 : chkFunc Tryz.prog 271 a271 = true := by kernel_rfl
theorem chk272 : chkFunc Tryz.prog 272 a272 = true := by kernel_rfl
theorem chk273 : chkFunc Tryz.prog 273 a273 = true := by kernel_rfl
theorem chk274 : chkFunc Tryz.prog 274 a274 = true := by kernel_rfl
theorem chk275 : chkFunc Tryz.prog 275 a275 = true := by kernel_rfl
end Go.Proofs.YtelpkgbghhpgaaaGreatDoor.Sx
end
section
set_option maxRecDepth 100000
namespace Go.Proofs.YtelpkgbghhpgaaaGreatDoor.Sx
theorem chk278 : chkFunc Tryz.prog 278 a278 = true := by kernel_rfl
theorem chk279 : chkFunc Tryz.prog 279 a279 = true := by kernel_rfl
theorem chk284 : chkFunc Tryz.prog 284 a284 = true := by kernel_rfl
theorem chk285 : chkFunc Tryz.prog 285 a285 = true := by kernel_rfl
theorem chk287 : chkFunc Tryz.prog 287 a287 = true := by kernel_rfl
theorem chk288 : chkFunc Tryz.prog 288 a288 = true := by kernel_rfl
theorem chk289 : chkFunc Tryz.prog 289 a289 = true := by kernel_rfl
end Go.Proofs.YtelpkgbghhpgaaaGreatDoor.Sx
end
section
set_option maxRecDepth 100000
namespace Go.Proofs.YtelpkgbghhpgaaaGreatDoor.Sx
theorem splitOk {c : Prop} [Decidable c] {x y z : Option AFunc} {G : Prop} (h : (if c then x else y) = z) (h1 : x = z → G) (h2 : y = z → G) : G := by
  by_cases e : c
  · rw [if_pos e] at h; exact h1 h
  · rw [if_neg e] at h; exact h2 h
theorem leafOk {P : Program} {i f : Nat} {a af : AFunc} (hc : chkFunc P i a = true) (h : (if f = i then some a else none) = some af) : chkFunc P f af = true := by
  by_cases e : f = i
  · rw [if_pos e] at h; cases h; rw [e]; exact hc
  · rw [if_neg e] at h; cases h
theorem codeOk (f : Nat) (af : AFunc) (h : codeTab f = some af) : chkFunc Tryz.prog f af = true := by
  unfold codeTab at h
  exact (splitOk h (fun h => (splitOk h (fun h => (splitOk h (fun h => (splitOk h (fun h => (splitOk h (fun h => (splitOk h (fun h => (leafOk chk6 h)) fun h => (splitOk h (fun h => (leafOk chk8 h)) fun h => (leafOk chk9 h)))) fun h => (splitOk h (fun h => (splitOk h (fun h => (leafOk chk11 h)) fun h => (leafOk chk12 h))) fun h => (splitOk h (fun h => (leafOk chk14 h)) fun h => (leafOk chk16 h))))) fun h => (splitOk h (fun h => (splitOk h (fun h => (splitOk h (fun h => (leafOk chk17 h)) fun h => (leafOk chk18 h))) fun h => (splitOk h (fun h => (leafOk chk19 h)) fun h => (leafOk chk20 h)))) fun h => (splitOk h (fun h => (splitOk h (fun h => (leafOk chk21 h)) fun h => (leafOk chk22 h))) fun h => (splitOk h (fun h => (leafOk chk23 h)) fun h => (leafOk chk24 h)))))) fun h => (splitOk h (fun h => (splitOk h (fun h => (splitOk h (fun h => (splitOk h (fun h => (leafOk chk25 h)) fun h => (leafOk chk26 h))) fun h => (splitOk h (fun h => (leafOk chk32 h)) fun h => (leafOk chk33 h)))) fun h => (splitOk h (fun h => (splitOk h (fun h => (leafOk chk34 h)) fun h => (leafOk chk35 h))) fun h => (splitOk h (fun h => (leafOk chk36 h)) fun h => (leafOk chk40 h))))) fun h => (splitOk h (fun h => (splitOk h (fun h => (splitOk h (fun h => (leafOk chk41 h)) fun h => (leafOk chk42 h))) fun h => (splitOk h (fun h => (leafOk chk43 h)) fun h => (leafOk chk44 h)))) fun h => (splitOk h (fun h => (splitOk h (fun h => (leafOk chk45 h)) fun h => (leafOk chk46 h))) fun h => (splitOk h (fun h => (leafOk chk47 h)) fun h => (leafOk chk48 h))))))) fun h => (splitOk h (fun h => (splitOk h (fun h => (splitOk h (fun h => (splitOk h (fun h => (splitOk h (fun h => (leafOk chk49 h)) fun h => (leafOk chk51 h))) fun h => (splitOk h (fun h => (leafOk chk52 h)) fun h => (leafOk chk53 h)))) fun h => (splitOk h (fun h => (splitOk h (fun h => (leafOk chk55 h)) fun h => (leafOk chk56 h))) fun h => (splitOk h (fun h => (leafOk chk57 h)) fun h => (leafOk chk58 h))))) fun h => (splitOk h (fun h => (splitOk h (fun h => (splitOk h (fun h => (leafOk chk66 h)) fun h => (leafOk chk67 h))) fun h => (splitOk h (fun h => (leafOk chk68 h)) fun h => (leafOk chk69 h)))) fun h => (splitOk h (fun h => (splitOk h (fun h => (leafOk chk77 h)) fun h => (leafOk chk78 h))) fun h => (splitOk h (fun h => (leafOk chk79 h)) fun h => (leafOk chk83 h)))))) fun h => (splitOk h (fun h => (splitOk h (fun h => (splitOk h (fun h => (splitOk h (fun h => (leafOk chk84 h)) fun h => (leafOk chk86 h))) fun h => (splitOk h (fun h => (leafOk chk87 h)) fun h => (leafOk chk88 h)))) fun h => (splitOk h (fun h => (splitOk h (fun h => (leafOk chk89 h)) fun h => (leafOk chk90 h))) fun h => (splitOk h (fun h => (leafOk chk95 h)) fun h => (leafOk chk96 h))))) fun h => (splitOk h (fun h => (splitOk h (fun h => (splitOk h (fun h => (leafOk chk97 h)) fun h => (leafOk chk98 h))) fun h => (splitOk h (fun h => (leafOk chk99 h)) fun h => (leafOk chk100 h)))) fun h => (splitOk h (fun h => (splitOk h (fun h => (leafOk chk109 h)) fun h => (leafOk chk110 h))) fun h => (splitOk h (fun h => (leafOk chk111 h)) fun h => (leafOk chk112 h)))))))) fun h => (splitOk h (fun h => (splitOk h (fun h => (splitOk h (fun h => (splitOk h (fun h => (splitOk h (fun h => (splitOk h (fun h => (leafOk chk113 h)) fun h => (leafOk chk114 h))) fun h => (splitOk h (fun h => (leafOk chk115 h)) fun h => (leafOk chk116 h)))) fun h => (splitOk h (fun h => (splitOk h (fun h => (leafOk chk117 h)) fun h => (leafOk chk118 h))) fun h => (splitOk h (fun h => (leafOk chk128 h)) fun h => (leafOk chk129 h))))) fun h => (splitOk h (fun h => (splitOk h (fun h => (splitOk h (fun h => (leafOk chk130 h)) fun h => (leafOk chk131 h))) fun h => (splitOk h (fun h => (leafOk chk132 h)) fun h => (leafOk chk133 h)))) fun h => (splitOk h (fun h => (splitOk h (fun h => (leafOk chk134 h)) fun h => (leafOk chk135 h))) fun h => (splitOk h (fun h => (leafOk chk156 h)) fun h => (leafOk chk157 h)))))) fun h => (splitOk h (fun h => (splitOk h (fun h => (splitOk h (fun h => (splitOk h (fun h => (leafOk chk158 h)) fun h => (leafOk chk159 h))) fun h => (splitOk h (fun h => (leafOk chk160 h)) fun h => (leafOk chk161 h)))) fun h => (splitOk h (fun h => (splitOk h (fun h => (leafOk chk162 h)) fun h => (leafOk chk163 h))) fun h => (splitOk h (fun h => (leafOk chk164 h)) fun h => (leafOk chk165 h))))) fun h => (splitOk h (fun h => (splitOk h (fun h => (splitOk h (fun h => (leafOk chk166 h)) fun h => (leafOk chk167 h))) fun h => (splitOk h (fun h => (leafOk chk178 h)) fun h => (leafOk chk180 h)))) fun h => (splitOk h (fun h => (splitOk h (fun h => (leafOk chk181 h)) fun h => (leafOk chk182 h))) fun h => (splitOk h (fun h => (leafOk chk183 h)) fun h => (leafOk chk184 h))))))) fun h => (splitOk h (fun h => (splitOk h (fun h => (splitOk h (fun h => (splitOk h (fun h => (splitOk h (fun h => (leafOk chk202 h)) fun h => (leafOk chk209 h))) fun h => (splitOk h (fun h => (leafOk chk210 h)) fun h => (leafOk chk211 h)))) fun h => (splitOk h (fun h => (splitOk h (fun h => (leafOk chk215 h)) fun h => (leafOk chk223 h))) fun h => (splitOk h (fun h => (leafOk chk224 h)) fun h => (leafOk chk225 h))))) fun h => (splitOk h (fun h => (splitOk h (fun h => (splitOk h (fun h => (leafOk chk226 h)) fun h => (leafOk chk227 h))) fun h => (splitOk h (fun h => (leafOk chk237 h)) fun h => (leafOk chk242 h)))) fun h => (splitOk h (fun h => (splitOk h (fun h => (leafOk chk243 h)) fun h => (leafOk chk244 h))) fun h => (splitOk h (fun h => (leafOk chk256 h)) fun h => (leafOk chk258 h)))))) fun h => (splitOk h (fun h => (splitOk h (fun h => (splitOk h (fun h => (splitOk h (fun h => (leafOk chk259 h)) fun h => (leafOk chk261 h))) fun h => (splitOk h (fun h => (leafOk chk269 h)) fun h => (leafOk chk270 h)))) fun h => (splitOk h (fun h => (splitOk h (fun h => (leafOk chk271 h)) fun h => (leafOk chk272 h))) fun h => (splitOk h (fun h => (leafOk chk273 h)) fun h => (leafOk chk274 h))))) fun h => (splitOk h (fun h => (splitOk h (fun h => (splitOk h (fun h => (leafOk chk275 h)) fun h => (leafOk chk278 h))) fun h => (splitOk h (fun h => (leafOk chk279 h)) fun h => (leafOk chk284 h)))) fun h => (splitOk h (fun h => (splitOk h (fun h => (leafOk chk285 h)) fun h => (leafOk chk287 h))) fun h => (splitOk h (fun h => (leafOk chk288 h)) fun h => (leafOk chk289 h))))))))
end Go.Proofs.YtelpkgbghhpgaaaGreatDoor.Sx
end
section
/- The functions that are no plain code: what their contracts give the plain machine. -/
namespace Go.Proofs.YtelpkgbghhpgaaaGreatDoor.Sx
open AV
theorem cell_new (w : World) (cs : Array Value) (e : TypeId) (k : Nat) : (w.alloc (.cells cs e)).cell? ⟨w.heap.size, k, none⟩ = cs[k]? := by
  have h : (w.alloc (.cells cs e)).heap[w.heap.size]? = some (.cells cs e) := by
    show (w.heap.push _)[w.heap.size]? = _
    rw [Array.getElem?_push_size]
  unfold World.cell?
  rw [h]
  rfl

section
variable {g : Gh} {st : St} {w w' : World}

/-- The cells that nobody writes, and those that are new. -/
def Fresh (g : Gh) (w w' : World) : Nat → Nat → Prop := fun b o => g.imm b o ∨ (w.heap.size ≤ b ∧ b < w'.heap.size)

theorem fresh_hst (h : HSt g st w) (hc : Chg (fun _ => False) w w') : HSt (g.wide (Fresh g w w')) st w' ∧ Ext g st w (g.wide (Fresh g w w')) st w' := by
  have hi : ∀ b o, g.imm b o → Fresh g w w' b o := fun _ _ h => .inl h
  have hcell : ∀ b o, g.imm b o → w'.cell? ⟨b, o, none⟩ = w.cell? ⟨b, o, none⟩ := fun b o hb => cell_of_block (hc.block b (h.1.immlt b o hb) id) o
  have hlt : ∀ b o, Fresh g w w' b o → b < w'.heap.size := fun b o hb => by
    rcases hb with h' | h'
    · exact Nat.lt_of_lt_of_le (h.1.immlt b o h') hc.size
    · exact h'.2
  refine ⟨⟨h.1.trans hc hi (fun _ _ _ => id) hcell (fun b o hb => ?_) hlt, ?_⟩, ?_⟩
  · rcases hb with h' | h'
    · exact .inl h'
    · exact .inr fun ow ho => by have := h.1.lt _ _ ho; omega
  · intro o o' b ho ho'
    exact h.2 o o' b (by cases o <;> exact ho) (by cases o' <;> exact ho')
  · refine ⟨Grow.wide hi hcell, hc.os, hc.tape, hc.output, hc.size, fun b hb _ => hc.block b hb id, fun b o hb hlt' _ => ?_, fun o b ho _ => ⟨o, by cases o <;> exact ho⟩⟩
    rcases hb with h' | h'
    · exact h'
    · omega

/-- A call that lays new memory at most and gives back a plain value. -/
theorem pure_post {v : AV} {c : Value} (h : HSt g st w) (hc : Chg (fun _ => False) w w') (hv : PRep w' (Fresh g w w') v c) : CallPost g st w (.ret v) st (.returned c) w' :=
  ⟨g.wide (Fresh g w w'), v, rfl, (fresh_hst h hc).1, (fresh_hst h hc).2, .plain hv⟩

/-- The values that come in, where plain. -/
theorem rep_str {f : Fh} {n : Nat} {s : List UInt8} {c : Value} (h : Rep g f n w (.str s) c) : c = .string ⟨s.toArray⟩ := h.str_inv

theorem args2 {f : Fh} {n : Nat} {a b : AV} {args : List Value} (hl : [a, b].length = args.length) (hr : ∀ i (h : i < [a, b].length) (h' : i < args.length), Rep g f n w [a, b][i] args[i]) : ∃ x y, args = [x, y] ∧ Rep g f n w a x ∧ Rep g f n w b y := by
  match args, hl with
  | [x, y], _ => exact ⟨x, y, rfl, hr 0 (by simp) (by simp), hr 1 (by simp) (by simp)⟩
theorem args1 {f : Fh} {n : Nat} {a : AV} {args : List Value} (hl : [a].length = args.length) (hr : ∀ i (h : i < [a].length) (h' : i < args.length), Rep g f n w [a][i] args[i]) : ∃ x, args = [x] ∧ Rep g f n w a x := by
  match args, hl with
  | [x], _ => exact ⟨x, rfl, hr 0 (by simp) (by simp)⟩

end

/-- What `SimOk` asks of a function that is no plain code. -/
def IntrOk (P : Program) (W0 : World) (f : Nat) (k : IntrFn) : Prop :=
  ∀ call vs st r st', k call vs st = some (r, st') → Enters P f ∧ ∀ g w (args : List Value), Old W0 g w → CallOk P g st w call → HSt g st w → vs.length = args.length →
    (∀ i (h : i < vs.length) (h' : i < args.length), Rep g Fh.none st.size w vs[i] args[i]) → Calls P f args.toArray w (CallPost g st w r st')

end Go.Proofs.YtelpkgbghhpgaaaGreatDoor.Sx
end
