/- TreeReads returns true for all texts whose data are not larger than a bound. Expressions that are read as data. From a run of the plain machine to a row's contract. Statements and procedures as plain Lean data, and how they lie in the plain machine. The program's reader of statements: what ends a block, what is set, blocks, assignments. The program's reader of procedures. Sizes of statements and programs. -/
import Derived.Test.YtelpkgbghhpgaaaGreatDoorR16
import Derived.Test.YtelpkgbghhpgaaaGreatDoorR25
import Derived.Carry
import Derived.ChangeSame
import Derived.Deep.DeepHandedRow
import Derived.KernelRfl
import Derived.Test.YtelpkgbghhpgaaaGreatDoorRows
set_option linter.all false
section
set_option maxRecDepth 100000
namespace Go.Proofs.YtelpkgbghhpgaaaGreatDoor.Sx
open AV Go.Proofs.YtelpkgbghhpgaaaGreatDoor
section
variable {H : Type} {enc : TypeId × Value → H} {w : World} {sp : Nat → Bool} {held : Bool}
end
end Go.Proofs.YtelpkgbghhpgaaaGreatDoor.Sx
end
section
set_option maxRecDepth 100000
namespace Go.Proofs.YtelpkgbghhpgaaaGreatDoor.Sx
open AV
def gh0 (W : World) : Gh := ⟨fun _ => 0, Old0 W, fun _ _ _ => none⟩
def st0 : St := ⟨[]⟩
theorem noClaim (g : Gh) (o : Ow) (b : Nat) : ¬ HClaim g st0 o b := by
  intro h
  cases o with
  | obj id => exact absurd h.1 (by simp [st0, St.size])
  | row id off =>
    obtain ⟨cs, sz, els, c, h1, _⟩ := h
    simp [st0, St.cells] at h1
  | loc => exact h
  | tok => exact h
theorem hst0 (W : World) : HSt (gh0 W) st0 W := by
  refine ⟨⟨fun id o ho => by simp [st0] at ho, fun o b ho => absurd ho (noClaim _ _ _), fun id hi => by simp [st0, St.size] at hi, fun b o h => h, fun id cs off sz els h => by simp [st0, St.cells] at h, fun id off L x hi => by simp [st0, St.size] at hi⟩, fun o o' b h => absurd h (noClaim _ _ _)⟩
theorem old0 (W : World) : Old W (gh0 W) W := fun b o h => ⟨h, rfl⟩
structure Kept (W W' : World) : Prop where
  below : RowKit.Below W.heap.size W W'
  but : W.keptBut W' (fun _ => False)
theorem kept_of {W W' : World} {g' : Gh} {st' : St} (h : Ext (gh0 W) st0 W g' st' W') : Kept W W' := by
  have hb : ∀ b, b < W.heap.size → W'.heap[b]? = W.heap[b]? := fun b hb => h.block b hb fun o => noClaim _ _ _
  refine ⟨⟨h.os, h.tape, h.output, h.size, hb⟩, h.os, h.output, fun i hi => ?_⟩
  rw [hb i hi]
  cases W.heap[i]? with
  | none => rfl
  | some o => cases o <;> simp
theorem run_true {P : Program} {S : Sim} {W : World} (hS : SimOk P W S) {f : Nat} {vs : List AV} {args : List Value} (hl : vs.length = args.length) (hr : ∀ i (h : i < vs.length) (h' : i < args.length), Rep (gh0 W) Fh.none st0.size W vs[i] args[i])
    (h : CallA S f vs st0 fun r _ => r = .ret (.bool true)) : Calls P f args.toArray W fun e W' => e = .returned (.bool true) ∧ Kept W W' := by
  obtain ⟨n, r, st', h1, rfl⟩ := h
  obtain ⟨_, h2⟩ := call_ok hS n (gh0 W) st0 W (old0 W) f vs st0 _ _ h1
  refine (h2 (gh0 W) W args (Grow.refl _ _ _) (hst0 W) hl hr).mono fun e W' hp => ?_
  cases e with
  | returned c =>
    obtain ⟨g', v, hv, _, he, hrep⟩ := hp
    cases hv
    exact ⟨by rw [hrep.bool_inv], kept_of he⟩
  | panicked c =>
    obtain ⟨g', v, c, hv, _⟩ := hp
    cases hv
  | outgrown => exact hp.elim
end Go.Proofs.YtelpkgbghhpgaaaGreatDoor.Sx
end
section
namespace Go.Proofs.YtelpkgbghhpgaaaGreatDoor.Sx
inductive Sm where
  | mk (op : Int) (s t : List UInt8) (pn : Bool) (p : List (List UInt8)) (xn : Bool) (x : List Xp) (bn : Bool) (b : List (Bool × List Sm)) (ck : Int) (nn : Bool) (n : List Xp) (fn : Bool) (f : List Xp) (wn : Bool) (w : List Xp)
mutual
def encSm : Sm → List AV
  | .mk op s t pn p xn x bn b ck nn n fn f wn w => [.int .i64 op, .str s, .str t, encSl pn 1 (encStr p), encSl xn 7 (encXs x), encSl bn 1 (encBls b), .int .i64 ck, encSl nn 7 (encXs n), encSl fn 7 (encXs f), encSl wn 7 (encXs w)]
def encSms : List Sm → List (List AV)
  | [] => []
  | x :: l => encSm x :: encSms l
def encBls : List (Bool × List Sm) → List (List AV)
  | [] => []
  | (n, x) :: l => [encSl n 10 (encSms x)] :: encBls l
end
structure Pd where
  name : List UInt8
  fn : Bool
  pn : Bool
  p : List (List UInt8)
  bn : Bool
  body : List Sm
def encPd (x : Pd) : List AV := [.str x.name, .bool x.fn, encSl x.pn 1 (encStr x.p), encSl x.bn 10 (encSms x.body)]
def encPds (l : List Pd) : List (List AV) := l.map encPd
theorem encSm_mk (op : Int) (s t : List UInt8) (pn : Bool) (p : List (List UInt8)) (xn : Bool) (x : List Xp) (bn : Bool) (b : List (Bool × List Sm)) (ck : Int) (nn : Bool) (n : List Xp) (fn : Bool) (f : List Xp) (wn : Bool) (w : List Xp) :
    encSm (.mk op s t pn p xn x bn b ck nn n fn f wn w) = [.int .i64 op, .str s, .str t, encSl pn 1 (encStr p), encSl xn 7 (encXs x), encSl bn 1 (encBls b), .int .i64 ck, encSl nn 7 (encXs n), encSl fn 7 (encXs f), encSl wn 7 (encXs w)] := by rw [encSm]
theorem encSms_eq : ∀ l : List Sm, encSms l = l.map encSm
  | [] => by rw [encSms]; rfl
  | x :: l => by rw [encSms, encSms_eq l]; rfl
theorem encBls_eq : ∀ l : List (Bool × List Sm), encBls l = l.map fun x => [encSl x.1 10 (encSms x.2)]
  | [] => by rw [encBls]; rfl
  | (n, x) :: l => by rw [encBls, encBls_eq l]; rfl
theorem encSms_length (l : List Sm) : (encSms l).length = l.length := by rw [encSms_eq, List.length_map]
theorem encBls_length (l : List (Bool × List Sm)) : (encBls l).length = l.length := by rw [encBls_eq, List.length_map]
theorem encPds_length (l : List Pd) : (encPds l).length = l.length := by rw [encPds, List.length_map]
theorem encSms_snoc (l : List Sm) (x : Sm) : encSms l ++ [encSm x] = encSms (l ++ [x]) := by rw [encSms_eq, encSms_eq, List.map_append]; rfl
theorem encPds_snoc (l : List Pd) (x : Pd) : encPds l ++ [encPd x] = encPds (l ++ [x]) := by rw [encPds, encPds, List.map_append]; rfl
theorem encSm_length (x : Sm) : (encSm x).length = 10 := by cases x; rw [encSm_mk]; rfl
theorem encSm_strip1 (x : Sm) : (encSm x).map AV.strip1 = encSm x := by cases x; simp only [encSm_mk, List.map_cons, List.map_nil, go_sem]
theorem encSm_stripC (x : Sm) : (encSm x).map AV.stripC = encSm x := by cases x; simp only [encSm_mk, List.map_cons, List.map_nil, go_sem]
theorem encSm_okIn (x : Sm) : (encSm x).all AV.okIn = true := by cases x; simp only [encSm_mk, go_sem]
theorem encSm_okC (x : Sm) : (encSm x).all AV.okC = true := by cases x; simp only [encSm_mk, go_sem]
theorem encSm_out1 (x : Sm) : (encSm x).all AV.out1 = true := by cases x; simp only [encSm_mk, go_sem]
theorem encSm_plain1 (x : Sm) : (encSm x).all AV.plain1 = true := by cases x; simp only [encSm_mk, go_sem]
theorem encSm_refs (x : Sm) : AV.refs1L (encSm x) = 0 := by cases x; simp only [encSm_mk, AV.refs1L_cons, AV.refs1L_nil, go_sem]
theorem encSm_take (x : Sm) : (encSm x).take 10 = encSm x := List.take_of_length_le (by rw [encSm_length]; exact Nat.le_refl _)
theorem encSm_drop (x : Sm) : (encSm x).drop 10 = [] := List.drop_of_length_le (by rw [encSm_length]; exact Nat.le_refl _)
attribute [go_sem] encSm_length encSm_strip1 encSm_stripC encSm_okIn encSm_okC encSm_out1 encSm_plain1 encSm_refs encSm_take encSm_drop
theorem encPd_length (x : Pd) : (encPd x).length = 4 := rfl
theorem encPd_strip1 (x : Pd) : (encPd x).map AV.strip1 = encPd x := by simp only [encPd, List.map_cons, List.map_nil, go_sem]
theorem encPd_stripC (x : Pd) : (encPd x).map AV.stripC = encPd x := by simp only [encPd, List.map_cons, List.map_nil, go_sem]
theorem encPd_okIn (x : Pd) : (encPd x).all AV.okIn = true := by simp only [encPd, go_sem]
theorem encPd_okC (x : Pd) : (encPd x).all AV.okC = true := by simp only [encPd, go_sem]
theorem encPd_out1 (x : Pd) : (encPd x).all AV.out1 = true := by simp only [encPd, go_sem]
theorem encPd_plain1 (x : Pd) : (encPd x).all AV.plain1 = true := by simp only [encPd, go_sem]
theorem encPd_refs (x : Pd) : AV.refs1L (encPd x) = 0 := by simp only [encPd, AV.refs1L_cons, AV.refs1L_nil, go_sem]
attribute [go_sem] encPd_length encPd_strip1 encPd_stripC encPd_okIn encPd_okC encPd_out1 encPd_plain1 encPd_refs
def eSm (x : Sm) : AV := .agg (encSm x)
def eSms (x : List Sm) : AV := encSl true 10 (encSms x)
def ePds (x : List Pd) : AV := encSl true 4 (encPds x)
attribute [go_sem] eSm eSms ePds
end Go.Proofs.YtelpkgbghhpgaaaGreatDoor.Sx
end
section
set_option maxRecDepth 100000
namespace Go.Proofs.YtelpkgbghhpgaaaGreatDoor.Sx
def endWords : List (List UInt8) := [[69, 76, 83, 69, 73, 70], [69, 76, 83, 69], [69, 78, 68, 73, 70], [67, 65, 83, 69], [79, 84, 72, 69, 82, 87, 73, 83, 69], [69, 78, 68, 67, 65, 83, 69], [69, 78, 68, 68, 79], [78, 69, 88, 84], [82, 69, 67, 79, 86, 69, 82], [69, 78, 68], [80, 82, 79, 67, 69, 68, 85, 82, 69], [70, 85, 78, 67, 84, 73, 79, 78]]
def isEnding (s : List UInt8) : Bool := decide (idxP (s == ·) endWords 0 ≥ 0)
def endText : List UInt8 := [69, 76, 83, 69, 73, 70, 32, 69, 76, 83, 69, 32, 69, 78, 68, 73, 70, 32, 67, 65, 83, 69, 32, 79, 84, 72, 69, 82, 87, 73, 83, 69, 32, 69, 78, 68, 67, 65, 83, 69, 32, 69, 78, 68, 68, 79, 32, 78, 69, 88, 84, 32, 82, 69, 67, 79, 86, 69, 82, 32, 69, 78, 68, 32, 80, 82, 79, 67, 69, 68, 85, 82, 69, 32, 70, 85, 78, 67, 84, 73, 79, 78]
theorem endFields : Lib.fields endText = endWords := by rfl
section
variable (l : List Tok)
def spTarget (e : Nat → PR Xp) (a : Nat) : PR Xp :=
  if isS (tokAt l a) [38] = true then spMacro l e a
  else (nameP l a).bind fun s a =>
    if isS (tokAt l a) [91] = true then (e (a + 1)).bind fun i a => (wantP l [93] a).bind fun _ a => .ok (mkIndex (mkName s) i) a
    else if isS (tokAt l a) [45, 62] = true then (nameP l (a + 1)).bind fun f a => .ok (mkAlias s (mkName f)) a
    else .ok (mkName s) a
def endP (a : Nat) : PR Unit := if (tokAt l a).kind = 5 then .ok () (a + 1) else .fail a
def mkSet (x y : Xp) : Sm := .mk 0 [] [] true [] false [x, y] true [] 0 true [] true [] true []
def spSet (e : Nat → PR Xp) (a : Nat) : PR Sm :=
  (spTarget l e a).bind fun x a => (if isS (tokAt l a) [61] = true then PR.ok () (a + 1) else wantP l [58, 61] a).bind fun _ a =>
    (e a).bind fun y a => (endP l a).bind fun _ a => .ok (mkSet x y) a
def spBlockL (stm : Nat → PR Sm) : Nat → List Sm → Nat → PR (List Sm)
  | 0, _, _ => .out
  | n + 1, acc, a => if a < l.length ∧ isEnding (kwAt l a) = false then (stm a).bind fun x a => spBlockL stm n (acc ++ [x]) a else .ok acc a
end
section
variable {st : St} {id a : Nat} {l : List Tok} {Q : Res → St → Prop} {o : HObj} {e : Nat → PR Xp}
theorem fields_end : CallA S 80 [.str endText] st Q = Q (.ret (.slice 1 (encStr endWords) .no)) st := by
  refine callA_intr (n := 0) (by rfl) ?_ Q
  simp only [iFields, endFields]
  rfl
theorem isEnding_eq (s : List UInt8) : CallA S 128 [.str s] st Q = Q (.ret (.bool (isEnding s))) st := by
  refine callA_eq (fun Q hQ => ?_) Q
  refine callA_body (by rfl) (by rfl) rfl ?_
  have h1 := fun (st : St) (Q : Res → St → Prop) => fields_end (st := st) (Q := Q)
  have h2 : ∀ (st : St) (Q : Res → St → Prop), CallA S 178 [.slice 1 (encStr endWords) .no, .str s] st Q = Q (.ret (.bool (decide (idxP (s == ·) endWords 0 ≥ 0)))) st := fun st Q => contains_eq (st := st) (Q := Q) false endWords s (by decide)
  unfold endText at h1
  unfold isEnding at hQ
  simp only [b128, go_sem, h1, h2, trunc_self]
  exact hQ
theorem end_ok (hid : id < st.size) (hl : l.length < 65536) : ReadsAt eU st id l 57 [.ptr id 0] (endP l) := by
  intro a Q ha hQ
  unfold endP at hQ
  by_cases h : (tokAt l a).kind = 5
  · rw [if_pos h] at hQ
    have hlt := tokAt_lt (l := l) (i := a) (by omega)
    rw [end_yes hid hl ha h]
    exact RK_ok hQ (by omega)
  · rw [if_neg h] at hQ
    rw [end_no hid hl ha h]
    exact RK_fail hQ
theorem target_ok (hid : id < st.size) (hl : l.length < 65536) (hT : ∀ t ∈ l, TokOk t) (he : ReadsAt eX st id l 56 [.ptr id 0] e) : ReadsAt eX st id l 182 [.ptr id 0] (spTarget l e) := by
  intro a Q ha hQ
  refine callA_body (by rfl) (by rfl) rfl ?_
  unfold spTarget at hQ
  cases h : isS (tokAt l a) [38] with
  | true =>
    simp only [h, if_true] at hQ
    simp only [b182, go_sem, ahead0 hid hl ha, isSign_eq, h]
    refine macro_ok hid hl hT he a _ ha (PR.on_mono hQ (fun x a _ hQ ha => ?_) (fun a _ hQ => (by simp only [go_sem, V_size, V_trunc]; exact hQ)))
    simp only [go_sem, V_size, V_trunc]
    exact hQ ha
  | false =>
    simp only [h, Bool.false_eq_true, if_false] at hQ
    simp only [b182, go_sem, ahead0 hid hl ha, isSign_eq, h]
    refine name_ok hid hl hT a _ ha (RK_step hQ (fun s a ha hQ => ?_) (fun a hQ => (by simp only [go_sem, V_size, V_trunc]; exact hQ)))
    cases h2 : isS (tokAt l a) [91] with
    | true =>
      have hlt := isS_lt h2
      simp only [h2, if_true] at hQ
      simp only [go_sem, sign_yes hid hl ha h2]
      refine he (a + 1) _ (by omega) (RK_step hQ (fun i a ha hQ => ?_) (fun a hQ => (by simp only [go_sem, V_size, V_trunc]; exact hQ)))
      simp only [go_sem]
      refine want_ok hid hl _ a _ ha (RK_step hQ (fun u a ha hQ => ?_) (fun a hQ => (by simp only [go_sem, V_size, V_trunc]; exact hQ)))
      simp only [go_sem, V_size, V_trunc]
      exact RK_ok hQ ha
    | false =>
      simp only [h2, Bool.false_eq_true, if_false] at hQ
      cases h3 : isS (tokAt l a) [45, 62] with
      | true =>
        have hlt := isS_lt h3
        simp only [h3, if_true] at hQ
        simp only [go_sem, sign_no hid hl ha h2, sign_yes hid hl ha h3]
        refine name_ok hid hl hT (a + 1) _ (by omega) (RK_step hQ (fun f a ha hQ => ?_) (fun a hQ => (by simp only [go_sem, V_size, V_trunc]; exact hQ)))
        simp only [go_sem, V_size, V_trunc]
        exact RK_ok hQ ha
      | false =>
        simp only [h3, Bool.false_eq_true, if_false] at hQ
        simp only [go_sem, sign_no hid hl ha h2, sign_no hid hl ha h3, V_size, V_trunc]
        exact RK_ok hQ ha
theorem set_ok (hid : id < st.size) (hl : l.length < 65536) (hT : ∀ t ∈ l, TokOk t) (he : ReadsAt eX st id l 56 [.ptr id 0] e) (ha : a ≤ l.length)
    (h1 : kwAt l a = []) (h2 : isS (tokAt l a) [63] = false) (h3 : isS (tokAt l (a + 1)) [40] = false) (hQ : RK eSm st id l Q (spSet l e a)) : CallA S 130 [.ptr id 0] (V st id l a) Q := by
  refine callA_body (by rfl) (by rfl) rfl ?_
  unfold spSet at hQ
  have hb := h1
  cases hk : ((tokAt l a).kind == 0)
  all_goals
    simp only [b130, go_sem, ahead0 hid hl ha, ahead1 hid hl ha, isSign_eq, keyword_eq hid hl ha hT, hb, beqL_nn, sign_no hid hl ha h2, hk, h3]
    refine target_ok hid hl hT he a _ ha (RK_step hQ (fun x a ha hQ => ?_) (fun a hQ => (by simp only [go_sem, V_size, V_trunc]; exact hQ)))
    cases h4 : isS (tokAt l a) [61] with
    | true =>
      have hlt := isS_lt h4
      simp only [h4, if_true] at hQ
      simp only [go_sem, sign_yes hid hl ha h4]
      refine he (a + 1) _ (by omega) (RK_step hQ (fun y a ha hQ => ?_) (fun a hQ => (by simp only [go_sem, V_size, V_trunc]; exact hQ)))
      simp only [go_sem]
      refine end_ok hid hl a _ ha (RK_step hQ (fun u a ha hQ => ?_) (fun a hQ => (by simp only [go_sem, V_size, V_trunc]; exact hQ)))
      simp only [go_sem, V_size, V_trunc]
      exact RK_ok hQ ha
    | false =>
      simp only [h4, Bool.false_eq_true, if_false] at hQ
      simp only [go_sem, sign_no hid hl ha h4]
      refine want_ok hid hl _ a _ ha (RK_step hQ (fun u a ha hQ => ?_) (fun a hQ => (by simp only [go_sem, V_size, V_trunc]; exact hQ)))
      simp only [go_sem]
      refine he a _ ha (RK_step hQ (fun y a ha hQ => ?_) (fun a hQ => (by simp only [go_sem, V_size, V_trunc]; exact hQ)))
      simp only [go_sem]
      refine end_ok hid hl a _ ha (RK_step hQ (fun u a ha hQ => ?_) (fun a hQ => (by simp only [go_sem, V_size, V_trunc]; exact hQ)))
      simp only [go_sem, V_size, V_trunc]
      exact RK_ok hQ ha
theorem block_ok (hid : id < st.size) (hl : l.length < 65536) (hT : ∀ t ∈ l, TokOk t) (n : Nat) (hn : n ≤ 65536) (stm : Nat → PR Sm) (hs : ∀ a Q, a < l.length → isEnding (kwAt l a) = false → RK eSm st id l Q (stm a) → CallA S 130 [.ptr id 0] (V st id l a) Q) :
    ReadsAt eSms st id l 95 [.ptr id 0] (spBlockL l stm n []) := by
  intro a Q ha hQ
  refine callA_body (by rfl) (by rfl) rfl ?_
  simp only [b95, go_sem]
  refine wp_loop (fun m fr st' => ∃ acc a own ft ser, RK eSms st id l Q (spBlockL l stm m acc a) ∧ a ≤ l.length ∧ acc.length + m = n ∧ st' = V st id l a ∧ ((acc = [] ∧ own = .nilslice ∧ ft = []) ∨ (acc ≠ [] ∧ own = .slice 10 (encSms acc) (.ftok 0) ∧ ft = [acc.length])) ∧
    fr = ⟨[(0, .ptr id 0), (3, own)], [], ft, ser⟩) n ⟨[], a, _, _, _, hQ, ha, by simp, rfl, .inl ⟨rfl, rfl, rfl⟩, rfl⟩ ?_
  rintro m fr st' ⟨acc, a, own, ft, ser, hQ, ha, hm, rfl, hown, rfl⟩
  cases m with
  | zero => exact hQ.elim
  | succ m =>
    have hend : own.strip2 = encSl true 10 (encSms acc) := by
      rcases hown with ⟨rfl, rfl, rfl⟩ | ⟨h1, rfl, rfl⟩
      · rw [encSms]; rfl
      · cases acc with
        | nil => exact absurd rfl h1
        | cons x acc => rw [encSms]; rfl
    simp only [spBlockL] at hQ
    by_cases h1 : (a : Int) < (l.length : Int)
    · cases h2 : isEnding (kwAt l a) with
      | true =>
        rw [if_neg (by simp [h2])] at hQ
        simp only [b95l0, go_sem, V_cells hid, List.length_map, h1, keyword_eq hid hl ha hT, isEnding_eq, h2, hend, V_size, V_trunc]
        exact RK_ok hQ ha
      | false =>
        have hlt : a < l.length := by omega
        rw [if_pos ⟨hlt, h2⟩] at hQ
        simp only [b95l0, go_sem, V_cells hid, List.length_map, h1, keyword_eq hid hl ha hT, isEnding_eq, h2]
        refine hs a _ hlt h2 (RK_step hQ (fun x a' ha' hQ => ?_) (fun a hQ => (by simp only [go_sem, V_size, V_trunc]; exact hQ)))
        have hb : (acc.length + 1) * 240 ≤ 1099511627776 := by omega
        rcases hown with ⟨rfl, rfl, rfl⟩ | ⟨h1, rfl, rfl⟩
        · simp only [go_sem, aappend, grow, elsOf, encSms_length, hb, List.isEmpty_cons]
          exact ⟨m, Nat.lt_succ_self m, [x], a', .slice 10 (encSms [x]) (.ftok 0), [1], _, hQ, ha', by simp at hm ⊢; omega, rfl, .inr ⟨by simp, rfl, rfl⟩, by simp only [encSms]; rfl⟩
        · have hne2 : ¬ encSms acc = [] := by cases acc with | nil => exact absurd rfl h1 | cons => simp [encSms]
          simp only [go_sem, aappend, grow, elsOf, encSms_length, hb, hne2, List.isEmpty_cons, ne_eq, not_false_eq_true, and_self]
          exact ⟨m, Nat.lt_succ_self m, acc ++ [x], a', .slice 10 (encSms (acc ++ [x])) (.ftok 0), [acc.length + 1], _, hQ, ha', by simp; omega, rfl, .inr ⟨by simp, rfl, by simp⟩, by rw [encSms_snoc]⟩
    · rw [if_neg (by omega)] at hQ
      simp only [b95l0, go_sem, V_cells hid, List.length_map, h1, hend, V_size, V_trunc]
      exact RK_ok hQ ha
end
end Go.Proofs.YtelpkgbghhpgaaaGreatDoor.Sx
end
section
set_option maxRecDepth 100000
namespace Go.Proofs.YtelpkgbghhpgaaaGreatDoor.Sx
section
variable (l : List Tok)
def spParams (n a : Nat) : PR (List (List UInt8)) :=
  if isS (tokAt l a) [40] = true then
    if isS (tokAt l (a + 1)) [41] = true then .ok [] (a + 2)
    else (spNames l n (a + 1)).bind fun p a => (wantP l [41] a).bind fun _ a => .ok p a
  else .ok [] a
def wFunction : List UInt8 := [70, 85, 78, 67, 84, 73, 79, 78]
def wProcedure : List UInt8 := [80, 82, 79, 67, 69, 68, 85, 82, 69]
def spProcs (bl : Nat → PR (List Sm)) (k : Nat) : Nat → List Pd → Nat → PR (List Pd)
  | 0, _, _ => .out
  | n + 1, acc, a =>
    if a < l.length then
      (if (wordOf (tokAt l a) == wFunction || wordOf (tokAt l a) == wProcedure) = true then PR.ok (wordOf (tokAt l a) == wFunction) (a + 1) else .fail a).bind fun fn a =>
        (nameP l a).bind fun s a => (spParams l k a).bind fun p a => (endP l a).bind fun _ a => (bl a).bind fun b a => spProcs bl k n (acc ++ [⟨s, fn, true, p, true, b⟩]) a
    else .ok acc a
def spProgram (bl : Nat → PR (List Sm)) (n a : Nat) : PR (List Pd) := (bl a).bind fun b a => spProcs l bl n n [⟨[77, 65, 73, 78], false, true, [], true, b⟩] a
end
section
variable {st : St} {id a : Nat} {l : List Tok} {Q : Res → St → Prop} {o : HObj} {e : Nat → PR Xp}
theorem params_ok (hid : id < st.size) (hl : l.length < 65536) (hT : ∀ t ∈ l, TokOk t) (n : Nat) (hn : n ≤ 65536) : ReadsAt eNs st id l 99 [.ptr id 0] (spParams l n) := by
  intro a Q ha hQ
  refine callA_body (by rfl) (by rfl) rfl ?_
  unfold spParams at hQ
  cases h : isS (tokAt l a) [40] with
  | true =>
    have hlt := isS_lt h
    simp only [h, if_true] at hQ
    cases h2 : isS (tokAt l (a + 1)) [41] with
    | true =>
      have hlt := isS_lt h2
      simp only [h2, if_true] at hQ
      simp only [b99, go_sem, sign_yes hid hl ha h, sign_yes hid hl (show a + 1 ≤ l.length by omega) h2, V_size, V_trunc]
      exact RK_ok hQ (by omega)
    | false =>
      simp only [h2, Bool.false_eq_true, if_false] at hQ
      simp only [b99, go_sem, sign_yes hid hl ha h, sign_no hid hl (show a + 1 ≤ l.length by omega) h2]
      refine names_ok hid hl hT n hn (a + 1) _ (by omega) (RK_step hQ (fun p a ha hQ => ?_) (fun a hQ => (by simp only [go_sem, V_size, V_trunc]; exact hQ)))
      simp only [go_sem]
      refine want_ok hid hl _ a _ ha (RK_step hQ (fun u a ha hQ => ?_) (fun a hQ => (by simp only [go_sem, V_size, V_trunc]; exact hQ)))
      simp only [go_sem, V_size, V_trunc]
      exact RK_ok hQ ha
  | false =>
    simp only [h, Bool.false_eq_true, if_false] at hQ
    simp only [b99, go_sem, sign_no hid hl ha h, V_size, V_trunc]
    exact RK_ok hQ ha
theorem program_ok (hid : id < st.size) (hl : l.length < 65536) (hT : ∀ t ∈ l, TokOk t) (n : Nat) (hn : n ≤ 65536) (bl : Nat → PR (List Sm)) (hb : ReadsAt eSms st id l 95 [.ptr id 0] bl) :
    ReadsAt ePds st id l 67 [.ptr id 0] (spProgram l bl n) := by
  intro a Q ha hQ
  refine callA_body (by rfl) (by rfl) rfl ?_
  unfold spProgram at hQ
  simp only [b67, go_sem]
  refine hb a _ ha (RK_step hQ (fun b a ha hQ => ?_) (fun a hQ => (by simp only [go_sem, V_size, V_trunc]; exact hQ)))
  simp only [go_sem]
  refine wp_loop (fun m fr st' => ∃ acc a own ft lx ser ex, RK ePds st id l Q (spProcs l bl n m acc a) ∧ a ≤ l.length ∧ acc.length + m = n + 1 ∧ acc ≠ [] ∧ st' = V st id l a ∧ ((own = .tight ∧ ft = []) ∨ (own = .ftok 0 ∧ ft = [acc.length])) ∧
    fr = ⟨[(0, .ptr id 0), (3, .slice 4 (encPds acc) own)] ++ ex, [lx], ft, ser⟩) n ⟨[⟨[77, 65, 73, 78], false, true, [], true, b⟩], a, _, _, (0, []), _, [], hQ, ha, by simp; omega, by simp, rfl, .inl ⟨rfl, rfl⟩, rfl⟩ ?_
  rintro m fr st' ⟨acc, a, own, ft, lx, ser, ex, hQ, ha, hm, hne, rfl, hown, rfl⟩
  cases m with
  | zero => exact hQ.elim
  | succ m =>
    have hend : (AV.slice 4 (encPds acc) own).strip2 = encSl true 4 (encPds acc) := by
      cases acc with
      | nil => exact absurd rfl hne
      | cons x acc => rfl
    simp only [spProcs] at hQ
    by_cases h1 : (a : Int) < (l.length : Int)
    · rw [if_pos (by omega)] at hQ
      cases h2 : (wordOf (tokAt l a) == wFunction) with
      | true =>
        simp only [h2, Bool.true_or, if_true] at hQ
        unfold wFunction at h2
        simp only [b67l0, go_sem, V_cells hid, List.length_map, h1, word_yes hid hl ha hT h2 (by decide)]
        refine name_ok hid hl hT (a + 1) _ (by omega) (RK_step hQ (fun s a ha hQ => ?_) (fun a hQ => (by simp only [go_sem, V_size, V_trunc]; exact hQ)))
        simp only [go_sem]
        refine params_ok hid hl hT n hn a _ ha (RK_step hQ (fun p a ha hQ => ?_) (fun a hQ => (by simp only [go_sem, V_size, V_trunc]; exact hQ)))
        simp only [go_sem]
        refine end_ok hid hl a _ ha (RK_step hQ (fun u a ha hQ => ?_) (fun a hQ => (by simp only [go_sem, V_size, V_trunc]; exact hQ)))
        simp only [go_sem]
        refine hb a _ ha (RK_step hQ (fun b a' ha' hQ => ?_) (fun a hQ => (by simp only [go_sem, V_size, V_trunc]; exact hQ)))
        have hb : (acc.length + 1) * 96 ≤ 1099511627776 := by omega
        have hne2 : ¬ encPds acc = [] := by cases acc with | nil => exact absurd rfl hne | cons => simp [encPds]
        rcases hown with ⟨rfl, rfl⟩ | ⟨rfl, rfl⟩
        · simp only [go_sem, aappend, grow, elsOf, encPds_length, hb, List.isEmpty_cons]
          exact ⟨m, Nat.lt_succ_self m, acc ++ [⟨s, true, true, p, true, b⟩], a', .ftok 0, [acc.length + 1], _, _, [], hQ, ha', by simp; omega, by simp, rfl, .inr ⟨rfl, by simp⟩, by rw [← encPds_snoc]; rfl⟩
        · simp only [go_sem, aappend, grow, elsOf, encPds_length, hb, hne2, List.isEmpty_cons, ne_eq, not_false_eq_true, and_self]
          exact ⟨m, Nat.lt_succ_self m, acc ++ [⟨s, true, true, p, true, b⟩], a', .ftok 0, [acc.length + 1], _, _, [], hQ, ha', by simp; omega, by simp, rfl, .inr ⟨rfl, by simp⟩, by rw [← encPds_snoc]; rfl⟩
      | false =>
        simp only [h2, Bool.false_or] at hQ
        unfold wFunction at h2
        cases h3 : (wordOf (tokAt l a) == wProcedure) with
        | true =>
          simp only [h3, if_true] at hQ
          unfold wProcedure at h3
          simp only [b67l0, go_sem, V_cells hid, List.length_map, h1, word_no hid hl ha hT h2, wantWord_yes hid hl ha hT h3 (by decide)]
          refine name_ok hid hl hT (a + 1) _ (by omega) (RK_step hQ (fun s a ha hQ => ?_) (fun a hQ => (by simp only [go_sem, V_size, V_trunc]; exact hQ)))
          simp only [go_sem]
          refine params_ok hid hl hT n hn a _ ha (RK_step hQ (fun p a ha hQ => ?_) (fun a hQ => (by simp only [go_sem, V_size, V_trunc]; exact hQ)))
          simp only [go_sem]
          refine end_ok hid hl a _ ha (RK_step hQ (fun u a ha hQ => ?_) (fun a hQ => (by simp only [go_sem, V_size, V_trunc]; exact hQ)))
          simp only [go_sem]
          refine hb a _ ha (RK_step hQ (fun b a' ha' hQ => ?_) (fun a hQ => (by simp only [go_sem, V_size, V_trunc]; exact hQ)))
          have hb : (acc.length + 1) * 96 ≤ 1099511627776 := by omega
          have hne2 : ¬ encPds acc = [] := by cases acc with | nil => exact absurd rfl hne | cons => simp [encPds]
          rcases hown with ⟨rfl, rfl⟩ | ⟨rfl, rfl⟩
          · simp only [go_sem, aappend, grow, elsOf, encPds_length, hb, List.isEmpty_cons]
            exact ⟨m, Nat.lt_succ_self m, acc ++ [⟨s, false, true, p, true, b⟩], a', .ftok 0, [acc.length + 1], _, _, [], hQ, ha', by simp; omega, by simp, rfl, .inr ⟨rfl, by simp⟩, by rw [← encPds_snoc]; rfl⟩
          · simp only [go_sem, aappend, grow, elsOf, encPds_length, hb, hne2, List.isEmpty_cons, ne_eq, not_false_eq_true, and_self]
            exact ⟨m, Nat.lt_succ_self m, acc ++ [⟨s, false, true, p, true, b⟩], a', .ftok 0, [acc.length + 1], _, _, [], hQ, ha', by simp; omega, by simp, rfl, .inr ⟨rfl, by simp⟩, by rw [← encPds_snoc]; rfl⟩
        | false =>
          simp only [h3, Bool.false_eq_true, if_false] at hQ
          unfold wProcedure at h3
          simp only [b67l0, go_sem, V_cells hid, List.length_map, h1, word_no hid hl ha hT h2, wantWord_no hid hl ha hT h3, V_size, V_trunc]
          exact hQ
    · rw [if_neg (by omega)] at hQ
      simp only [b67l0, go_sem, V_cells hid, List.length_map, h1, V_size, V_trunc, hend]
      exact RK_ok hQ ha
end
end Go.Proofs.YtelpkgbghhpgaaaGreatDoor.Sx
end
section
set_option maxRecDepth 100000
namespace Go.Proofs.YtelpkgbghhpgaaaGreatDoor.Sx
mutual
def szSm : Sm → Int × Int
  | .mk _ _ _ _ _ _ x _ b _ _ n _ f _ w => szBls (szXs (1, 1) (x ++ n ++ f ++ w)) b
def szSms : Int × Int → List Sm → Int × Int
  | acc, [] => acc
  | acc, x :: l => szSms (szBeside acc (szSm x)) l
def szBls : Int × Int → List (Bool × List Sm) → Int × Int
  | acc, [] => acc
  | acc, (_, x) :: l => szBls (szIn acc (szSms (0, 0) x)) l
end
def szPds : Int × Int → List Pd → Int × Int
  | acc, [] => acc
  | acc, x :: l => szPds (szBeside acc (szSms (0, 0) x.body)) l
mutual
def bdSm : Sm → Prop
  | .mk _ _ _ _ p _ x _ b _ _ n _ f _ w => p.length < most ∧ b.length < most ∧ (x.length + n.length + f.length + w.length) * 168 ≤ 1099511627776 ∧ bdXs x ∧ bdXs n ∧ bdXs f ∧ bdXs w ∧ bdBls b
def bdSms : List Sm → Prop
  | [] => True
  | x :: l => bdSm x ∧ bdSms l
def bdBls : List (Bool × List Sm) → Prop
  | [] => True
  | (_, x) :: l => (x.length < most ∧ bdSms x) ∧ bdBls l
end
def bdPds (l : List Pd) : Prop := l.length < most ∧ ∀ x ∈ l, x.p.length < most ∧ x.body.length < most ∧ bdSms x.body
theorem bdSms_mem : ∀ {l : List Sm}, bdSms l → ∀ x ∈ l, bdSm x
  | [], _, x, h => by cases h
  | y :: l, h, x, hx => by
    simp only [bdSms] at h
    rcases List.mem_cons.1 hx with rfl | hx
    · exact h.1
    · exact bdSms_mem h.2 x hx
theorem bdBls_mem : ∀ {l : List (Bool × List Sm)}, bdBls l → ∀ x ∈ l, x.2.length < most ∧ bdSms x.2
  | [], _, x, h => by cases h
  | (n, y) :: l, h, x, hx => by
    simp only [bdBls] at h
    rcases List.mem_cons.1 hx with rfl | hx
    · exact h.1
    · exact bdBls_mem h.2 x hx
theorem bdXs_append {a b : List Xp} (ha : bdXs a) (hb : bdXs b) : bdXs (a ++ b) := bdXs_of fun x hx => (List.mem_append.1 hx).elim (bdXs_mem ha x) (bdXs_mem hb x)
theorem szSms_drop {l : List Sm} {i : Nat} (h : i < l.length) (acc : Int × Int) : szSms acc (l.drop i) = szSms (szBeside acc (szSm l[i])) (l.drop (i + 1)) := by
  rw [List.drop_eq_getElem_cons h, szSms]
theorem szBls_drop {l : List (Bool × List Sm)} {i : Nat} (h : i < l.length) (acc : Int × Int) : szBls acc (l.drop i) = szBls (szIn acc (szSms (0, 0) l[i].2)) (l.drop (i + 1)) := by
  rw [List.drop_eq_getElem_cons h, szBls]
theorem szPds_drop {l : List Pd} {i : Nat} (h : i < l.length) (acc : Int × Int) : szPds acc (l.drop i) = szPds (szBeside acc (szSms (0, 0) l[i].body)) (l.drop (i + 1)) := by
  rw [List.drop_eq_getElem_cons h, szPds]
theorem el_Sm (n : Bool) (l : List Sm) {i : Nat} (h : i < l.length) : elA 10 (i : Int) (encSl n 10 (encSms l)) = some (encSm l[i]) := by
  rw [elA_sl (by rw [encSms_length]; exact h)]
  simp [encSms_eq]
theorem el_Bl (n : Bool) (l : List (Bool × List Sm)) {i : Nat} (h : i < l.length) : elA 1 (i : Int) (encSl n 1 (encBls l)) = some [encSl l[i].1 10 (encSms l[i].2)] := by
  rw [elA_sl (by rw [encBls_length]; exact h)]
  simp [encBls_eq]
theorem el_Pd (n : Bool) (l : List Pd) {i : Nat} (h : i < l.length) : elA 4 (i : Int) (encSl n 4 (encPds l)) = some (encPd l[i]) := by
  rw [elA_sl (by rw [encPds_length]; exact h)]
  simp [encPds]
section
variable {st : St} {Q : Res → St → Prop}
theorem ofStmts_of (nb : Bool) (l : List Sm) (hl : l.length < most)
    (ih : ∀ (i : Nat) (h : i < l.length) (st : St) (Q : Res → St → Prop), CallA S 100 [.agg (encSm l[i])] st Q = Q (.ret (.agg [.int .i64 (szSm l[i]).1, .int .i64 (szSm l[i]).2])) st) :
    CallA S 69 [encSl nb 10 (encSms l)] st Q = Q (.ret (.agg [.int .i64 (szSms (0, 0) l).1, .int .i64 (szSms (0, 0) l).2])) st := by
  refine callA_eq (fun Q hQ => ?_) Q
  refine callA_body (by rfl) (by rfl) rfl ?_
  unfold most at hl
  simp only [b69, go_sem, encSms_length]
  refine wp_loop (fun n fr st' => st' = st ∧ ∃ (i : Nat) (acc : Int × Int) (ser ser2 : Nat) (lx : Nat × List AV), n + i = l.length ∧ szSms (0, 0) l = szSms acc (l.drop i) ∧
    fr = ⟨[(2, .lptr 0 1 0), (3, .lptr 1 ser 0), (6, encSl nb 10 (encSms l)), (7, .int .i64 (l.length : Int)), (8, .int .i64 (i : Int))], [(1, [.int .i64 0, .int .i64 0]), (ser, [.int .i64 acc.1, .int .i64 acc.2]), lx], [], ser2⟩) l.length ⟨rfl, 0, (0, 0), _, _, _, rfl, rfl, rfl⟩ ?_
  rintro n fr st' ⟨rfl, i, acc, ser, ser2, lx, hn, hsz, rfl⟩
  by_cases h : (i : Int) < (l.length : Int)
  · have hi : i < l.length := by omega
    rw [szSms_drop hi] at hsz
    simp only [b69l0, go_sem, h, el_Sm nb l hi, ih i hi, beside_eq acc (szSm l[i]), wrap_one i (by omega)]
    exact ⟨n - 1, by omega, i + 1, szBeside acc (szSm l[i]), ser, _, _, by omega, hsz, rfl⟩
  · rw [List.drop_of_length_le (by omega), szSms] at hsz
    rw [hsz] at hQ
    simp only [b69l0, go_sem, h, trunc_self]
    exact hQ
theorem ofProcs_of (nb : Bool) (l : List Pd) (hl : l.length < most)
    (ih : ∀ (i : Nat) (h : i < l.length) (st : St) (Q : Res → St → Prop), CallA S 69 [encSl l[i].bn 10 (encSms l[i].body)] st Q = Q (.ret (.agg [.int .i64 (szSms (0, 0) l[i].body).1, .int .i64 (szSms (0, 0) l[i].body).2])) st) :
    CallA S 36 [encSl nb 4 (encPds l)] st Q = Q (.ret (.agg [.int .i64 (szPds (0, 0) l).1, .int .i64 (szPds (0, 0) l).2])) st := by
  refine callA_eq (fun Q hQ => ?_) Q
  refine callA_body (by rfl) (by rfl) rfl ?_
  unfold most at hl
  simp only [b36, go_sem, encPds_length]
  refine wp_loop (fun n fr st' => st' = st ∧ ∃ (i : Nat) (acc : Int × Int) (ser ser2 : Nat) (lx : Nat × List AV), n + i = l.length ∧ szPds (0, 0) l = szPds acc (l.drop i) ∧
    fr = ⟨[(2, .lptr 0 1 0), (3, .lptr 1 ser 0), (6, encSl nb 4 (encPds l)), (7, .int .i64 (l.length : Int)), (8, .int .i64 (i : Int))], [(1, [.int .i64 0, .int .i64 0]), (ser, [.int .i64 acc.1, .int .i64 acc.2]), lx], [], ser2⟩) l.length ⟨rfl, 0, (0, 0), _, _, _, rfl, rfl, rfl⟩ ?_
  rintro n fr st' ⟨rfl, i, acc, ser, ser2, lx, hn, hsz, rfl⟩
  by_cases h : (i : Int) < (l.length : Int)
  · have hi : i < l.length := by omega
    rw [szPds_drop hi] at hsz
    simp only [b36l0, go_sem, h, el_Pd nb l hi, encPd, ih i hi, beside_eq acc (szSms (0, 0) l[i].body), wrap_one i (by omega)]
    exact ⟨n - 1, by omega, i + 1, szBeside acc (szSms (0, 0) l[i].body), ser, _, _, by omega, hsz, rfl⟩
  · rw [List.drop_of_length_le (by omega), szPds] at hsz
    rw [hsz] at hQ
    simp only [b36l0, go_sem, h, trunc_self]
    exact hQ
theorem concat4 {xn nn fn wn : Bool} {x n f w : List Xp} (hb : (x.length + n.length + f.length + w.length) * 168 ≤ 1099511627776) :
    CallA S 135 [.slice 1 [[encSl xn 7 (encXs x)], [encSl nn 7 (encXs n)], [encSl fn 7 (encXs f)], [encSl wn 7 (encXs w)]] .no] st Q = Q (.ret (encSl true 7 (encXs (x ++ n ++ f ++ w)))) st := by
  refine callA_intr (n := 0) (by rfl) ?_ Q
  have e : concatE 7 [[encSl xn 7 (encXs x)], [encSl nn 7 (encXs n)], [encSl fn 7 (encXs f)], [encSl wn 7 (encXs w)]] = some (encXs (x ++ n ++ f ++ w)) := by
    simp only [concatE, elsOf_sl, List.append_nil, Option.some.injEq, encXs_eq, List.map_append, List.append_assoc]
  have hl4 : [[encSl xn 7 (encXs x)], [encSl nn 7 (encXs n)], [encSl fn 7 (encXs f)], [encSl wn 7 (encXs w)]].length < 1099511627776 := by simp
  simp only [iConcat, e, hl4, if_true]
  cases h : x ++ n ++ f ++ w with
  | nil => rfl
  | cons y r =>
    have hl : (encXs (y :: r)).length * 168 ≤ 1099511627776 := by
      rw [← h, encXs_length, List.length_append, List.length_append, List.length_append]; exact hb
    rw [encXs] at hl ⊢
    simp only [hl, if_true]
    rfl
theorem ofStmt_eq : ∀ (x : Sm), bdSm x → ∀ (st : St) (Q : Res → St → Prop), CallA S 100 [.agg (encSm x)] st Q = Q (.ret (.agg [.int .i64 (szSm x).1, .int .i64 (szSm x).2])) st
  | .mk op s t pn p xn x bn b ck nn n fn f wn w, hb => by
    simp only [bdSm] at hb
    obtain ⟨_, hbl, hxl, hx, hn, hf, hw, hbb⟩ := hb
    have hbX : bdXs (x ++ n ++ f ++ w) := bdXs_append (bdXs_append (bdXs_append hx hn) hf) hw
    have hl : (x ++ n ++ f ++ w).length < 1099511627776 := by simp only [List.length_append]; omega
    unfold most at hbl
    have ih : ∀ (i : Nat) (h : i < b.length) (st : St) (Q : Res → St → Prop), CallA S 69 [encSl b[i].1 10 (encSms b[i].2)] st Q = Q (.ret (.agg [.int .i64 (szSms (0, 0) b[i].2).1, .int .i64 (szSms (0, 0) b[i].2).2])) st :=
      fun i h st Q => ofStmts_of b[i].1 b[i].2 (bdBls_mem hbb _ (List.getElem_mem h)).1 fun j hj => ofStmt_eq b[i].2[j] (bdSms_mem (bdBls_mem hbb _ (List.getElem_mem h)).2 _ (List.getElem_mem hj))
    intro st
    refine callA_eq (fun Q hQ => ?_)
    refine callA_body (by rfl) (by rfl) rfl ?_
    rw [szSm] at hQ
    simp only [b100, go_sem, encSm_mk, concat4 hxl, encXs_length]
    generalize hL : x ++ n ++ f ++ w = L at *
    refine wp_loop (fun m fr st' => st' = st ∧ ∃ (i : Nat) (acc : Int × Int) (ser ser2 : Nat) (lx : Nat × List AV), m + i = L.length ∧ szXs (1, 1) L = szXs acc (L.drop i) ∧
      fr = ⟨[(1, .lptr 0 1 0), (2, .lptr 1 1 0), (3, .lptr 2 ser 0), (21, encSl true 7 (encXs L)), (22, .int .i64 (L.length : Int)), (23, .int .i64 (i : Int))], [(1, encSm (.mk op s t pn p xn x bn b ck nn n fn f wn w)), (1, [.int .i64 0, .int .i64 0]), (ser, [.int .i64 acc.1, .int .i64 acc.2]), lx], [], ser2⟩) L.length ⟨rfl, 0, (1, 1), _, _, _, rfl, rfl, by rw [encSm_mk]; rfl⟩ ?_
    rintro m fr st' ⟨rfl, i, acc, ser, ser2, lx, hm, hsz, rfl⟩
    by_cases h : (i : Int) < (L.length : Int)
    · have hi : i < L.length := by omega
      rw [szXs_drop hi] at hsz
      simp only [b100l0, go_sem, h, el_X true L hi, ofExpr_eq L[i] (bdXs_mem hbX _ (List.getElem_mem hi)), in_eq acc (szX L[i]), wrap_one i (by omega)]
      exact ⟨m - 1, by omega, i + 1, szIn acc (szX L[i]), ser, _, _, by omega, hsz, rfl⟩
    · rw [List.drop_of_length_le (by omega), szXs] at hsz
      rw [hsz] at hQ
      simp only [b100l0, go_sem, h, encSm_mk, encBls_length]
      refine wp_loop (fun m fr st => st = st' ∧ ∃ (i : Nat) (acc2 : Int × Int) (ser ser2 : Nat) (lx lx2 : Nat × List AV), m + i = b.length ∧ szBls acc b = szBls acc2 (b.drop i) ∧
        fr = ⟨[(2, .lptr 1 1 0), (3, .lptr 2 ser 0), (33, encSl bn 1 (encBls b)), (34, .int .i64 (b.length : Int)), (35, .int .i64 (i : Int))], [lx, (1, [.int .i64 0, .int .i64 0]), (ser, [.int .i64 acc2.1, .int .i64 acc2.2]), lx2], [], ser2⟩) b.length ⟨rfl, 0, acc, _, _, _, _, rfl, rfl, rfl⟩ ?_
      rintro m fr st ⟨rfl, i, acc2, ser, ser2, lx, lx2, hm, hsz2, rfl⟩
      by_cases h : (i : Int) < (b.length : Int)
      · have hi : i < b.length := by omega
        rw [szBls_drop hi] at hsz2
        simp only [b100l1, go_sem, h, el_Bl bn b hi, ih i hi, in_eq acc2 (szSms (0, 0) b[i].2), wrap_one i (by omega)]
        exact ⟨m - 1, by omega, i + 1, szIn acc2 (szSms (0, 0) b[i].2), ser, _, _, _, by omega, hsz2, rfl⟩
      · rw [List.drop_of_length_le (by omega), szBls] at hsz2
        rw [hsz2] at hQ
        simp only [b100l1, go_sem, h, trunc_self]
        exact hQ
termination_by x => SizeOf.sizeOf x
decreasing_by
  have h1 := List.sizeOf_lt_of_mem (List.getElem_mem h)
  have h2 := List.sizeOf_lt_of_mem (List.getElem_mem hj)
  have h3 : SizeOf.sizeOf b[i] = 1 + SizeOf.sizeOf b[i].1 + SizeOf.sizeOf b[i].2 := by rfl
  simp only [Sm.mk.sizeOf_spec]
  omega
theorem ofStmts_eq (nb : Bool) (l : List Sm) (hl : l.length < most) (hb : bdSms l) : CallA S 69 [encSl nb 10 (encSms l)] st Q = Q (.ret (.agg [.int .i64 (szSms (0, 0) l).1, .int .i64 (szSms (0, 0) l).2])) st :=
  ofStmts_of nb l hl fun i h => ofStmt_eq _ (bdSms_mem hb _ (List.getElem_mem h))
theorem ofProcs_eq (nb : Bool) (l : List Pd) (hb : bdPds l) : CallA S 36 [encSl nb 4 (encPds l)] st Q = Q (.ret (.agg [.int .i64 (szPds (0, 0) l).1, .int .i64 (szPds (0, 0) l).2])) st :=
  ofProcs_of nb l hb.1 fun i h st Q => ofStmts_eq _ _ (hb.2 _ (List.getElem_mem h)).2.1 (hb.2 _ (List.getElem_mem h)).2.2
end
end Go.Proofs.YtelpkgbghhpgaaaGreatDoor.Sx
end
