/- TreeReads returns true for all texts whose data are not larger than a bound. The program's functions as plain code. -/
import Derived.Test.YtelpkgbghhpgaaaGreatDoorR9
set_option linter.all false
section
namespace Go.Proofs.YtelpkgbghhpgaaaGreatDoor.Sx
open AV
def wstep (call : CallFn) (fr : Fr) (st : St) : AOp → Option (Res × Fr × St)
  | .call f xs => match argsOf fr xs with
    | some vs => (match call f vs st with | some (r, st') => some (r, fr, st') | none => none)
    | none => none
  | .callv x xs => match x.ev fr, argsOf fr xs with
    | .func (.func f) first captured, some vs => if first.all AV.out0 && captured.all AV.out0 then (match call f (first ++ vs ++ captured) st with | some (r, st') => some (r, fr, st') | none => none) else none
    | _, _ => none
  | .panic x => if isThrown (x.ev fr) then some (.panic (x.ev fr), fr, st) else none
  | op => match step fr st op with | some (v, fr', st') => some (.ret v, fr', st') | none => none
section
variable {call : CallFn} {fr fr2 fr' : Fr} {st st2 st' : St} {v : AV} {it : AItem}
theorem run_one : runItems call [it] fr st = match guardA fr it.g with
    | none => none
    | some (false, fr1) => if it.chk.all (chkOk fr1 st) then some (.normal, fr1.put it.d (.tuple []), st) else none
    | some (true, fr1) => match wstep call fr1 st it.op with
      | some (.ret v, fr', st') => if it.chk.all (chkOk fr' st') then some (.normal, fr'.put it.d v, st') else none
      | some (.panic v, fr', st') => some (.panic v, fr', st')
      | none => none := by
  simp only [runItems]
  cases hg : guardA fr it.g with
  | none => rfl
  | some x =>
    obtain ⟨b, fr1⟩ := x
    cases b with
    | false => rfl
    | true =>
      simp only
      cases it.op with
      | call f xs =>
        simp only [wstep]
        cases argsOf fr1 xs with
        | none => rfl
        | some vs =>
          simp only
          cases call f vs st with
          | none => rfl
          | some x => obtain ⟨r, s⟩ := x; cases r <;> rfl
      | callv x xs =>
        simp only [wstep]
        cases x.ev fr1 <;> first
          | rfl
          | skip
        rename_i fn first captured
        cases fn <;> first
          | (cases argsOf fr1 xs <;> rfl)
          | skip
        rename_i f
        cases argsOf fr1 xs with
        | none => rfl
        | some vs =>
          simp only
          split
          · cases call f (first ++ vs ++ captured) st with
            | none => rfl
            | some x => obtain ⟨r, s⟩ := x; cases r <;> rfl
          · rfl
      | panic x =>
        simp only [wstep]
        split <;> rfl
      | _ =>
        simp only [wstep]
        split
        · rename_i h; rw [h]
        · rename_i h; rw [h]
theorem run_cons {r : List AItem} : runItems call (it :: r) fr st = match runItems call [it] fr st with
    | some (.normal, fr', st') => runItems call r fr' st'
    | o => o := by
  simp only [runItems]
  cases hg : guardA fr it.g with
  | none => rfl
  | some x =>
    obtain ⟨b, fr1⟩ := x
    have back : ∀ o : Option (Res × St), (match o with
        | some (.ret v, st') => if it.chk.all (chkOk fr1 st') then runItems call r (fr1.put it.d v) st' else none
        | some (.panic v, st') => some (.panic v, fr1, st')
        | none => none) = (match (match o with
        | some (.ret v, st') => if it.chk.all (chkOk fr1 st') then some (Ex.normal, fr1.put it.d v, st') else none
        | some (.panic v, st') => some (.panic v, fr1, st')
        | none => none) with
        | some (.normal, fr', st') => runItems call r fr' st'
        | o => o) := fun o => by
      split
      · split <;> rfl
      · rfl
      · rfl
    cases b with
    | false => simp only; split <;> rfl
    | true =>
      simp only
      cases it.op with
      | call f xs =>
        simp only
        cases argsOf fr1 xs with
        | none => rfl
        | some vs => exact back _
      | callv x xs =>
        simp only
        cases x.ev fr1 <;> first
          | rfl
          | skip
        rename_i fn first captured
        cases fn <;> first
          | (cases argsOf fr1 xs <;> rfl)
          | skip
        cases argsOf fr1 xs with
        | none => rfl
        | some vs =>
          simp only
          split
          · exact back _
          · rfl
      | panic x =>
        simp only
        split <;> rfl
      | _ =>
        simp only
        split
        · split <;> rfl
        · rfl
theorem ld_congr {x : AV} {n : Nat} {a : Bool} (h : ∀ li ser off, x = .lptr li ser off → fr2.loc[li]? = fr.loc[li]?) (hs : ∀ id off, x = .ptr id off → st2 = st) : ld fr2 st2 x n a = ld fr st x n a := by
  cases x <;> first
    | rfl
    | skip
  case ptr id off => rw [hs id off rfl]; rfl
  case lptr li ser off =>
    have := h li ser off rfl
    simp only [ld, locGet, this]
theorem al_congr {op : AOp} {li : Nat} (hc : op.al? = some li) (hs : step fr st op = some (v, fr', st')) :
    v = .lptr li fr.ser 0 ∧ st' = st ∧ ∃ zs, fr' = { fr with loc := fr.loc.set li (fr.ser, zs) } ∧ li < fr.loc.length ∧
      ∀ (fr2 : Fr) (st2 : St), Agree op.reads fr fr2 → li < fr2.loc.length → step fr2 st2 op = some (.lptr li fr2.ser 0, { fr2 with loc := fr2.loc.set li (fr2.ser, zs) }, st2) := by
  cases op <;> first
    | (cases hc; done)
    | skip
  case alloc li' zs =>
    cases hc
    simp only [step] at hs
    split at hs
    case isFalse => cases hs
    rename_i hl
    cases hs
    exact ⟨rfl, rfl, zs, rfl, hl, fun fr2 st2 _ h2 => by simp only [step, if_pos h2]⟩
  case box li' x =>
    cases hc
    simp only [step] at hs
    split at hs
    case isFalse => cases hs
    rename_i hl
    cases hs
    simp only [Bool.and_eq_true, decide_eq_true_eq] at hl
    refine ⟨rfl, rfl, _, rfl, hl.1, fun fr2 st2 ha h2 => ?_⟩
    have e : x.ev fr2 = x.ev fr := ev_congr ha
    simp only [step, e]
    rw [if_pos (by simp [h2, hl.2])]
theorem load_congr {x : Opd} {n : Nat} {a : Bool} (hs : step fr st (.load x n a) = some (v, fr', st')) : fr' = fr ∧ st' = st ∧ ld fr st (x.ev fr) n a = some v := by
  simp only [step] at hs
  split at hs
  · rename_i h; cases hs; exact ⟨rfl, rfl, h⟩
  · cases hs
theorem loud_congr {op : AOp} {r : Res} (hc : op.cls = .loud) (hns : ∀ x y n, op ≠ .store x y n) (hs : wstep call fr st op = some (r, fr', st')) :
    fr' = { fr with ftoks := fr'.ftoks } ∧ ∀ fr2 : Fr, Agree op.reads fr fr2 → fr2.ftoks = fr.ftoks → fr2.ser = fr.ser → wstep call fr2 st op = some (r, { fr2 with ftoks := fr'.ftoks }, st') := by
  have calls : ∀ (q : Option (Res × St)), (match q with | some (r, st') => some (r, fr, st') | none => none) = some (r, fr', st') → fr' = fr ∧ q = some (r, st') := fun q h => by
    split at h
    · cases h; exact ⟨rfl, rfl⟩
    · cases h
  cases op with
  | call f xs =>
    simp only [wstep] at hs
    split at hs
    case h_2 => cases hs
    rename_i vs hv
    obtain ⟨rfl, hq⟩ := calls _ hs
    exact ⟨rfl, fun fr2 ha h1 h2 => by simp only [wstep]; rw [args_congr ha, hv]; simp only [hq]; rw [← h1]⟩
  | callv x xs =>
    simp only [wstep] at hs
    split at hs
    case h_2 => cases hs
    rename_i f first captured vs hx hv
    split at hs
    case isFalse => cases hs
    rename_i ho
    obtain ⟨rfl, hq⟩ := calls _ hs
    exact ⟨rfl, fun fr2 ha h1 h2 => by simp only [wstep]; rw [ev_congr ha.left, args_congr ha.right, hx, hv]; simp only [ho, if_true, hq]; rw [← h1]⟩
  | panic x =>
    simp only [wstep] at hs
    split at hs
    case isFalse => cases hs
    rename_i ho
    cases hs
    exact ⟨rfl, fun fr2 ha h1 h2 => by simp only [wstep]; rw [ev_congr ha, if_pos ho, ← h1]⟩
  | store x y n => exact absurd rfl (hns x y n)
  | halloc zs =>
    simp only [wstep, step, Option.some.injEq, Prod.mk.injEq] at hs
    obtain ⟨rfl, rfl, rfl⟩ := hs
    exact ⟨rfl, fun fr2 ha h1 h2 => by simp only [wstep, step]; rw [← h1]⟩
  | mkmap =>
    simp only [wstep, step, Option.some.injEq, Prod.mk.injEq] at hs
    obtain ⟨rfl, rfl, rfl⟩ := hs
    exact ⟨rfl, fun fr2 ha h1 h2 => by simp only [wstep, step]; rw [← h1]⟩
  | hbox x =>
    simp only [wstep, step] at hs
    split at hs
    case h_2 => cases hs
    rename_i h0
    split at h0
    case isFalse => cases h0
    rename_i ho
    cases h0; cases hs
    exact ⟨rfl, fun fr2 ha h1 h2 => by simp only [wstep, step]; rw [ev_congr ha, if_pos ho]; simp only; rw [← h1]⟩
  | len k x =>
    simp only [wstep] at hs
    split at hs
    case h_2 => cases hs
    rename_i v0 fr0 st0 h0
    cases hs
    have : fr' = fr ∧ ∀ fr2 : Fr, Agree (AOp.len k x).reads fr fr2 → step fr2 st (.len k x) = some (v0, fr2, st') := by
      simp only [step] at h0
      split at h0
      · rename_i q hq; cases h0
        exact ⟨rfl, fun fr2 ha => by simp only [step]; rw [ev_congr ha, hq]⟩
      · rename_i hq
        split at h0
        case h_2 => cases h0
        rename_i id hx
        split at h0
        case h_2 => cases h0
        rename_i es he
        cases h0
        exact ⟨rfl, fun fr2 ha => by simp only [step]; rw [ev_congr ha, hq, hx]; simp only [he]⟩
    obtain ⟨rfl, h⟩ := this
    exact ⟨rfl, fun fr2 ha h1 h2 => by simp only [wstep]; rw [h fr2 ha]; simp only; rw [← h1]⟩
  | mset kk m k x =>
    simp only [wstep] at hs
    split at hs
    case h_2 => cases hs
    rename_i v0 fr0 st0 h0
    cases hs
    have : fr' = fr ∧ ∀ fr2 : Fr, Agree (AOp.mset kk m k x).reads fr fr2 → step fr2 st (.mset kk m k x) = some (v0, fr2, st') := by
      simp only [step] at h0
      split at h0
      case h_2 => cases h0
      rename_i id hm
      split at h0
      case h_2 => cases h0
      rename_i es he
      split at h0
      case isFalse => cases h0
      rename_i ho
      split at h0
      case h_2 => cases h0
      rename_i es' hs'
      cases h0
      refine ⟨rfl, fun fr2 ha => ?_⟩
      have e1 : m.ev fr2 = m.ev fr := ev_congr ha.left.left
      have e2 : k.ev fr2 = k.ev fr := ev_congr ha.left.right
      have e3 : x.ev fr2 = x.ev fr := ev_congr ha.right
      simp only [step, e1, e2, e3, hm, he, ho, if_true, hs']
    obtain ⟨rfl, h⟩ := this
    exact ⟨rfl, fun fr2 ha h1 h2 => by simp only [wstep]; rw [h fr2 ha]; simp only; rw [← h1]⟩
  | look kk zs m k ok =>
    simp only [wstep] at hs
    split at hs
    case h_2 => cases hs
    rename_i v0 fr0 st0 h0
    cases hs
    have : fr' = fr ∧ st' = st ∧ ∀ fr2 : Fr, Agree (AOp.look kk zs m k ok).reads fr fr2 → step fr2 st (.look kk zs m k ok) = some (v0, fr2, st) := by
      simp only [step] at h0
      split at h0
      case isFalse => cases h0
      rename_i ho
      have e : ∀ fr2 : Fr, Agree (AOp.look kk zs m k ok).reads fr fr2 → m.ev fr2 = m.ev fr ∧ k.ev fr2 = k.ev fr := fun fr2 ha => ⟨ev_congr ha.left, ev_congr ha.right⟩
      split at h0
      · rename_i hq; cases h0
        exact ⟨rfl, rfl, fun fr2 ha => by obtain ⟨e1, e2⟩ := e fr2 ha; simp only [step, e1, e2, ho, if_true, hq]⟩
      · rename_i hq; cases h0
        exact ⟨rfl, rfl, fun fr2 ha => by obtain ⟨e1, e2⟩ := e fr2 ha; simp only [step, e1, e2, ho, if_true, hq]⟩
      · cases h0
    obtain ⟨rfl, rfl, h⟩ := this
    exact ⟨rfl, fun fr2 ha h1 h2 => by simp only [wstep]; rw [h fr2 ha]; simp only; rw [← h1]⟩
  | append x y sz bytes =>
    simp only [wstep] at hs
    split at hs
    case h_2 => cases hs
    rename_i v0 fr0 st0 h0
    cases hs
    simp only [step] at h0
    have hg : ∀ (need : Nat) (xv : AV) (o : Own) (fr1 : Fr) (st1 : St), grow fr st need xv = some (o, fr1, st1) → fr1 = { fr with ftoks := fr1.ftoks } ∧ ∀ fr2 : Fr, fr2.ftoks = fr.ftoks → grow fr2 st need xv = some (o, { fr2 with ftoks := fr1.ftoks }, st1) := by
      intro need xv o fr1 st1 hg
      unfold grow at hg ⊢
      split at hg
      · cases hg; exact ⟨rfl, fun fr2 h1 => by simp only [h1]⟩
      · cases hg; exact ⟨rfl, fun fr2 h1 => by simp only [h1]⟩
      · split at hg
        case isFalse => cases hg
        rename_i hh
        cases hg; exact ⟨rfl, fun fr2 h1 => by simp only [h1]; rw [if_pos hh]⟩
      · split at hg
        case h_2 => cases hg
        rename_i cs hcs
        split at hg
        case h_2 => cases hg
        rename_i a1 a2 a3 a4 ha
        split at hg
        case isFalse => cases hg
        rename_i hh
        cases hg; exact ⟨rfl, fun fr2 h1 => by simp only [h1, hcs, ha, if_pos hh]⟩
      · cases hg
    unfold aappend at h0
    split at h0
    case h_2 => cases h0
    rename_i els ys hex hey
    split at h0
    case isFalse => cases h0
    rename_i hb
    have e : ∀ fr2 : Fr, Agree (AOp.append x y sz bytes).reads fr fr2 → x.ev fr2 = x.ev fr ∧ y.ev fr2 = y.ev fr := fun fr2 ha => ⟨ev_congr ha.left, ev_congr ha.right⟩
    split at h0
    · rename_i hy
      cases h0
      refine ⟨rfl, fun fr2 ha h1 h2 => ?_⟩
      obtain ⟨e1, e2⟩ := e fr2 ha
      simp only [wstep, step, aappend, e1, e2, hex, hey, if_pos hb, hy, if_true]
      rw [← h1]
    · rename_i hy
      split at h0
      case h_2 => cases h0
      rename_i o1 fr1 st1 hgr
      cases h0
      obtain ⟨k1, k2⟩ := hg _ _ _ _ _ hgr
      refine ⟨k1, fun fr2 ha h1 h2 => ?_⟩
      obtain ⟨e1, e2⟩ := e fr2 ha
      simp only [wstep, step, aappend, e1, e2, hex, hey, if_pos hb, hy, k2 fr2 h1]
      rfl
  | _ => cases hc
theorem store_congr {x y : Opd} {n : Nat} {r : Res} (hs : wstep call fr st (.store x y n) = some (r, fr', st')) :
    fr' = { fr with loc := fr'.loc, ftoks := fr'.ftoks } ∧ fr'.loc.length = fr.loc.length ∧ ∀ fr2 : Fr, Agree (AOp.store x y n).reads fr fr2 → fr2.ftoks = fr.ftoks → fr2.loc = fr.loc → wstep call fr2 st (.store x y n) = some (r, { fr2 with loc := fr'.loc, ftoks := fr'.ftoks }, st') := by
  simp only [wstep, step] at hs
  split at hs
  case h_2 => cases hs
  rename_i v0 fr0 st0 h0
  split at h0
  case h_2 => cases h0
  rename_i fr1 st1 hst
  cases h0; cases hs
  have main : fr' = { fr with loc := fr'.loc, ftoks := fr'.ftoks } ∧ fr'.loc.length = fr.loc.length ∧ ∀ fr2 : Fr, fr2.ftoks = fr.ftoks → fr2.loc = fr.loc → stw fr2 st (x.ev fr) (y.ev fr) n = some ({ fr2 with loc := fr'.loc, ftoks := fr'.ftoks }, st') := by
    generalize x.ev fr = xv at hst
    generalize y.ev fr = yv at hst
    unfold stw at hst ⊢
    split at hst
    case isFalse => cases hst
    rename_i hl
    split at hst
    case h_3 => cases hst
    · rename_i li ser off
      split at hst
      case h_2 => cases hst
      rename_i cs hcs
      split at hst
      case isFalse => cases hst
      rename_i hh
      cases hst
      refine ⟨rfl, by simp, fun fr2 h1 h2 => ?_⟩
      have : locGet fr2 li ser = some cs := by rw [← hcs]; simp only [locGet, h2]
      simp only [if_pos hl, this, if_pos hh, h1, h2]
    · rename_i id off
      split at hst
      case h_2 => cases hst
      rename_i cs hcs
      split at hst
      case isFalse => cases hst
      rename_i hh
      split at hst
      · split at hst
        case h_2 => cases hst
        rename_i hin
        cases hst
        exact ⟨rfl, rfl, fun fr2 h1 h2 => by simp only [if_pos hl, hcs, if_pos hh, hin, ← h1, ← h2]⟩
      · split at hst
        case h_2 => cases hst
        rename_i old hold
        split at hst
        case h_2 => cases hst
        rename_i nv ft hin
        cases hst
        refine ⟨rfl, rfl, fun fr2 h1 h2 => ?_⟩
        simp only [if_pos hl, hcs, if_pos hh, hold, h1, hin, ← h2]
  obtain ⟨k1, k0, k2⟩ := main
  refine ⟨k1, k0, fun fr2 ha h1 h2 => ?_⟩
  have e1 : x.ev fr2 = x.ev fr := ev_congr ha.left
  have e2 : y.ev fr2 = y.ev fr := ev_congr ha.right
  simp only [wstep, step, e1, e2, k2 fr2 h1 h2]
end
end Go.Proofs.YtelpkgbghhpgaaaGreatDoor.Sx
end
section
namespace Go.Proofs.YtelpkgbghhpgaaaGreatDoor.Sx
open AV
def edgesOf (ops : Array Oper) (i : Nat) : List Nat := match ops[i]? with
  | some o => (o.after.toList.filter (Region.binds .any)).map (·.on)
  | none => []
def addAll : List Nat → List Nat → List Nat
  | [], acc => acc
  | x :: l, acc => addAll l (if acc.contains x then acc else x :: acc)
def befStep (ops : Array Oper) (T : List (Nat × List Nat)) (i : Nat) : List Nat :=
  (edgesOf ops i).foldl (fun acc m => addAll (m :: (match T.lookup m with | some L => L | none => [])) acc) []
def befTable (ops : Array Oper) : List AItem → List (Nat × List Nat) → List (Nat × List Nat)
  | [], T => T
  | it :: r, T => befTable ops r ((it.i, befStep ops T it.i) :: T)
def isBef (T : List (Nat × List Nat)) (j i : Nat) : Bool := match T.lookup i with
  | some L => L.contains j
  | none => false
def AItem.reads (it : AItem) : List Nat := it.op.reads ++ (match it.g with | some (t, _) => [t] | none => [])
def hasChk (A B : AItem) : Bool := match A.op, A.d with
  | .load (.r t) n a, some d => t != d && (match A.g with | some (tg, _) => tg != d | none => true) && B.chk.any fun c => c.d == d && (match c.x with | .r t' => t == t' | _ => false) && c.n == n && c.isAgg == a && c.g == A.g
  | _, _ => false
def AOp.isStore : AOp → Bool
  | .store .. => true
  | _ => false
def pairOk (T : List (Nat × List Nat)) (A B : AItem) : Bool :=
  A.i != B.i && (A.d == none || A.d != B.d) && (A.op.al? == none || A.op.al? != B.op.al?) &&
  (isBef T A.i B.i ||
    ((match A.op.cls with
      | .loud => false
      | .reg => true
      | .load => (match B.op.cls with | .reg | .load => true | _ => hasChk A B)
      | .al => !B.op.isStore) &&
     (match A.d with | some t => !B.reads.contains t | none => true))) &&
  ((A.op.cls != .load && isBef T A.i B.i) || (match B.d with | some t => !A.reads.contains t | none => true))
def pairsOk (T : List (Nat × List Nat)) : List AItem → Bool
  | [] => true
  | a :: r => r.all (pairOk T a) && pairsOk T r
def edgesAhead (ops : Array Oper) : List AItem → List Nat → Bool
  | [], _ => true
  | it :: r, seen => (edgesOf ops it.i).all (seen.contains ·) && edgesAhead ops r (it.i :: seen)
def chkDraw (P : Program) (ops : Array Oper) (nt : Nat) (its : List AItem) : Bool :=
  its.length == ops.size && its.all (chkItem P ops nt) && (List.range ops.size).all (fun i => its.any (·.i == i)) && edgesAhead ops its [] && pairsOk (befTable ops its []) its
section
variable {ops : Array Oper} {its : List AItem} {T : List (Nat × List Nat)}
def Closed (ops : Array Oper) (D : Nat → Prop) : Prop := ∀ i, D i → ∀ m ∈ edgesOf ops i, D m
theorem mem_addAll {x : Nat} : ∀ {l acc : List Nat}, x ∈ addAll l acc → x ∈ l ∨ x ∈ acc
  | [], acc, h => .inr h
  | y :: l, acc, h => by
    rcases mem_addAll (l := l) h with h | h
    · exact .inl (List.mem_cons_of_mem _ h)
    · split at h
      · exact .inr h
      · rcases List.mem_cons.1 h with rfl | h
        · exact .inl List.mem_cons_self
        · exact .inr h
theorem mem_befStep {x i : Nat} (h : x ∈ befStep ops T i) : ∃ m ∈ edgesOf ops i, x = m ∨ ∃ L, T.lookup m = some L ∧ x ∈ L := by
  unfold befStep at h
  have key : ∀ (es acc : List Nat), x ∈ es.foldl (fun acc m => addAll (m :: (match T.lookup m with | some L => L | none => [])) acc) acc → x ∈ acc ∨ ∃ m ∈ es, x = m ∨ ∃ L, T.lookup m = some L ∧ x ∈ L := by
    intro es
    induction es with
    | nil => intro acc h; exact .inl h
    | cons e es ih =>
      intro acc h
      rcases ih _ h with h | ⟨m, hm, h⟩
      · rcases mem_addAll h with h | h
        · refine .inr ⟨e, List.mem_cons_self, ?_⟩
          rcases List.mem_cons.1 h with rfl | h
          · exact .inl rfl
          · split at h
            · rename_i L hL; exact .inr ⟨L, hL, h⟩
            · cases h
        · exact .inl h
      · exact .inr ⟨m, List.mem_cons_of_mem _ hm, h⟩
  rcases key _ _ h with h | h
  · cases h
  · exact h
def Good (ops : Array Oper) (T : List (Nat × List Nat)) : Prop := ∀ i L, T.lookup i = some L → ∀ D, Closed ops D → D i → ∀ j ∈ L, D j
theorem befTable_good : ∀ (its : List AItem) (T : List (Nat × List Nat)), Good ops T → Good ops (befTable ops its T)
  | [], T, h => h
  | it :: r, T, h => befTable_good r _ fun i L hL D hD hi j hj => by
    rw [List.lookup_cons] at hL
    split at hL
    · rename_i e
      have e : i = it.i := by simpa using e
      cases hL
      subst e
      obtain ⟨m, hm, h'⟩ := mem_befStep hj
      have hDm := hD _ hi m hm
      rcases h' with rfl | ⟨L, hL, hx⟩
      · exact hDm
      · exact h m L hL D hD hDm j hx
    · exact h i L hL D hD hi j hj
theorem isBef_sound {i j : Nat} {D : Nat → Prop} (h : isBef (befTable ops its []) j i = true) (hD : Closed ops D) (hi : D i) : D j := by
  unfold isBef at h
  split at h
  · rename_i L hL
    exact befTable_good its [] (fun i L hL => by simp at hL) i L hL D hD hi j (by simpa using h)
  · cases h
def AItem.dummy : AItem := ⟨0, none, none, .mkmap, []⟩
theorem pairs_get : ∀ {its : List AItem}, pairsOk T its = true → ∀ p q, p < q → q < its.length → pairOk T (its.getD p AItem.dummy) (its.getD q AItem.dummy) = true
  | [], _, p, q, _, h => by simp at h
  | a :: r, h, p, q, hpq, hq => by
    simp only [pairsOk, Bool.and_eq_true] at h
    cases q with
    | zero => omega
    | succ q =>
      cases p with
      | zero =>
        have hq' : q < r.length := by simpa using hq
        have := List.all_eq_true.1 h.1 r[q] (List.getElem_mem hq')
        simpa [hq'] using this
      | succ p => simpa using pairs_get h.2 p q (by omega) (by simpa using hq)
theorem edges_get : ∀ {its : List AItem} {seen : List Nat}, edgesAhead ops its seen = true → ∀ p, p < its.length → ∀ m ∈ edgesOf ops (its.getD p AItem.dummy).i, m ∈ seen ∨ ∃ q, q < p ∧ (its.getD q AItem.dummy).i = m
  | [], _, _, p, h, _, _ => by simp at h
  | a :: r, seen, h, p, hp, m, hm => by
    simp only [edgesAhead, Bool.and_eq_true] at h
    cases p with
    | zero =>
      left
      have := List.all_eq_true.1 h.1 m hm
      simpa using this
    | succ p =>
      rcases edges_get h.2 p (by simpa using hp) m (by simpa using hm) with h' | ⟨q, hq, h'⟩
      · rcases List.mem_cons.1 h' with rfl | h'
        · exact .inr ⟨0, by omega, rfl⟩
        · exact .inl h'
      · exact .inr ⟨q + 1, by omega, by simpa using h'⟩
end
structure Trace (call : CallFn) (its : List AItem) (fr0 : Fr) (st0 : St) (ex : Ex) (frE : Fr) (stE : St) (T : Nat → Fr × St) (N : Nat) : Prop where
  zero : T 0 = (fr0, st0)
  le : N ≤ its.length
  step : ∀ p, p < N → runItems call [its.getD p AItem.dummy] (T p).1 (T p).2 = some (.normal, (T (p + 1)).1, (T (p + 1)).2)
  fin : (N = its.length ∧ ex = .normal ∧ frE = (T N).1 ∧ stE = (T N).2) ∨ (N < its.length ∧ ∃ v, ex = .panic v ∧ runItems call [its.getD N AItem.dummy] (T N).1 (T N).2 = some (.panic v, frE, stE))
theorem trace_ex {call : CallFn} : ∀ (its : List AItem) (fr : Fr) (st : St) (ex : Ex) (frE : Fr) (stE : St), runItems call its fr st = some (ex, frE, stE) → ∃ T N, Trace call its fr st ex frE stE T N
  | [], fr, st, ex, frE, stE, h => by
    simp only [runItems, Option.some.injEq, Prod.mk.injEq] at h
    obtain ⟨rfl, rfl, rfl⟩ := h
    exact ⟨fun _ => (fr, st), 0, rfl, Nat.le_refl _, fun p h => by omega, .inl ⟨rfl, rfl, rfl, rfl⟩⟩
  | it :: r, fr, st, ex, frE, stE, h => by
    rw [run_cons] at h
    split at h
    · rename_i fr1 st1 h1
      obtain ⟨T, N, hT⟩ := trace_ex r fr1 st1 ex frE stE h
      refine ⟨fun k => match k with | 0 => (fr, st) | k + 1 => T k, N + 1, rfl, by simpa using hT.le, fun p hp => ?_, ?_⟩
      · cases p with
        | zero => simp only [List.getD_cons_zero, hT.zero]; exact h1
        | succ p => simpa using hT.step p (by omega)
      · rcases hT.fin with ⟨h1, h2, h3, h4⟩ | ⟨h1, v, h2, h3⟩
        · exact .inl ⟨by simp [h1], h2, h3, h4⟩
        · exact .inr ⟨by simpa using h1, v, h2, by simpa using h3⟩
    · rename_i hne
      have hp : ∃ v, ex = .panic v := by
        rw [run_one] at h
        split at h
        · cases h
        · rename_i hg
          split at h
          · rename_i hc; exact (hne _ _ (by rw [run_one, hg]; simp only [hc, if_true]; rfl)).elim
          · cases h
        · rename_i fr1 hg
          split at h
          · rename_i v fr2 st2 hw
            split at h
            · rename_i hc
              exact (hne _ _ (by rw [run_one, hg]; simp only [hw, hc, if_true]; rfl)).elim
            · cases h
          · cases h; exact ⟨_, rfl⟩
          · cases h
      obtain ⟨v, rfl⟩ := hp
      exact ⟨fun _ => (fr, st), 0, rfl, Nat.zero_le _, fun p h => by omega, .inr ⟨by simp, v, rfl, by simpa using h⟩⟩
end Go.Proofs.YtelpkgbghhpgaaaGreatDoor.Sx
end
section
namespace Go.Proofs.YtelpkgbghhpgaaaGreatDoor.Sx
open AV
structure Same (fr fr2 : Fr) : Prop where
  slot : ∀ t, slot t fr2.regs = slot t fr.regs
  loc : fr2.loc = fr.loc
  ftoks : fr2.ftoks = fr.ftoks
  ser : fr2.ser = fr.ser
section
variable {call : CallFn} {fr fr2 fr' : Fr} {st st2 st' : St} {v : AV} {it : AItem}
theorem guard_same {g : Option (Nat × Bool)} {b : Bool} (h : guardA fr g = some (b, fr')) : Same fr fr' := by
  cases g with
  | none => cases h; exact ⟨fun _ => rfl, rfl, rfl, rfl⟩
  | some x =>
    obtain ⟨t, w⟩ := x
    simp only [guardA] at h
    split at h
    · rename_i c hc
      cases h
      refine ⟨fun t' => ?_, rfl, rfl, rfl⟩
      show YtelpkgbghhpgaaaGreatDoor.Sx.slot t' ((t, .bool c) :: fr.regs) = _
      rw [slot_put]
      split
      · rename_i e; subst e; exact hc.symm
      · rfl
    · cases h; exact ⟨fun _ => rfl, rfl, rfl, rfl⟩
    · cases h
theorem guard_agree {g : Option (Nat × Bool)} {b : Bool} (ha : ∀ (t : Nat) (w : Bool), g = some (t, w) → slot t fr2.regs = slot t fr.regs) (h : guardA fr g = some (b, fr')) : ∃ fr2', guardA fr2 g = some (b, fr2') := by
  cases g with
  | none => cases h; exact ⟨_, rfl⟩
  | some x =>
    obtain ⟨t, w⟩ := x
    simp only [guardA] at h ⊢
    rw [ha t w rfl]
    split at h
    · cases h; exact ⟨_, rfl⟩
    · cases h; exact ⟨_, rfl⟩
    · cases h
theorem put_slot {d : Option Nat} {t : Nat} : slot t (fr.put d v).regs = if d = some t then v else slot t fr.regs := by
  cases d with
  | none => rfl
  | some d =>
    show slot t ((d, v) :: fr.regs) = _
    rw [slot_put]
    by_cases h : d = t
    · subst h; simp
    · simp [h]
theorem put_rest (d : Option Nat) : (fr.put d v).loc = fr.loc ∧ (fr.put d v).ftoks = fr.ftoks ∧ (fr.put d v).ser = fr.ser := by cases d <;> exact ⟨rfl, rfl, rfl⟩
theorem one_facts (h : runItems call [it] fr st = some (.normal, fr', st')) :
    (∀ t, it.d ≠ some t → slot t fr'.regs = slot t fr.regs) ∧ fr'.ser = fr.ser ∧ fr'.loc.length = fr.loc.length ∧
    (it.op.cls ≠ .loud → st' = st ∧ fr'.ftoks = fr.ftoks) ∧ (∀ li, it.op.isStore = false → it.op.al? ≠ some li → fr'.loc[li]? = fr.loc[li]?) ∧
    (∀ li, it.op.al? = some li → fr'.loc[li]? = fr.loc[li]? ∨ ∃ zs, fr'.loc[li]? = some (fr.ser, zs)) := by
  rw [run_one] at h
  split at h
  · cases h
  · rename_i fr1 hg
    split at h
    case isFalse => cases h
    cases h
    obtain ⟨s1, s2, s3, s4⟩ := guard_same hg
    obtain ⟨p1, p2, p3⟩ := put_rest (fr := fr1) (v := .tuple []) it.d
    exact ⟨fun t ht => by rw [put_slot, if_neg ht, s1], p3.trans s4, by rw [p1, s2], fun _ => ⟨rfl, p2.trans s3⟩, fun li _ _ => by rw [p1, s2], fun li _ => .inl (by rw [p1, s2])⟩
  · rename_i fr1 hg
    obtain ⟨s1, s2, s3, s4⟩ := guard_same hg
    split at h
    case h_2 => cases h
    case h_3 => cases h
    rename_i v fr2 st2 hw
    split at h
    case isFalse => cases h
    cases h
    obtain ⟨p1, p2, p3⟩ := put_rest (fr := fr2) (v := v) it.d
    have base : fr2.regs = fr1.regs ∧ fr2.ser = fr1.ser ∧ fr2.loc.length = fr1.loc.length ∧ (it.op.cls ≠ .loud → st' = st ∧ fr2.ftoks = fr1.ftoks) ∧ (∀ li, it.op.isStore = false → it.op.al? ≠ some li → fr2.loc[li]? = fr1.loc[li]?) ∧
        (∀ li, it.op.al? = some li → ∃ zs, fr2.loc[li]? = some (fr1.ser, zs)) := by
      cases hc : it.op.cls with
      | reg =>
        have hs : step fr1 st it.op = some (v, fr2, st') := by
          revert hw hc
          cases it.op <;> intro hw hc <;> first
            | (cases hc; done)
            | (simp only [wstep] at hw
               split at hw
               · rename_i h0; cases hw; exact h0
               · cases hw)
        obtain ⟨rfl, rfl, _⟩ := reg_congr hc hs
        refine ⟨rfl, rfl, rfl, fun _ => ⟨rfl, rfl⟩, fun _ _ _ => rfl, fun li hl => ?_⟩
        exfalso
        revert hc hl
        cases it.op <;> intro hc hl <;> first | (cases hl; done) | cases hc
      | load =>
        have hs : step fr1 st it.op = some (v, fr2, st') := by
          revert hw hc
          cases it.op <;> intro hw hc <;> first
            | (cases hc; done)
            | (simp only [wstep] at hw
               split at hw
               · rename_i h0; cases hw; exact h0
               · cases hw)
        have hl : fr2 = fr1 ∧ st' = st ∧ ∀ li, it.op.al? ≠ some li := by
          revert hs hc
          cases it.op <;> intro hc hs <;> first
            | (cases hc; done)
            | (rename_i k x; cases k <;> cases hc; done)
            | skip
          obtain ⟨a, b, _⟩ := load_congr hs
          exact ⟨a, b, fun li h => by cases h⟩
        obtain ⟨rfl, rfl, hl⟩ := hl
        exact ⟨rfl, rfl, rfl, fun _ => ⟨rfl, rfl⟩, fun _ _ _ => rfl, fun li h => absurd h (hl li)⟩
      | al =>
        have hs : step fr1 st it.op = some (v, fr2, st') := by
          revert hw hc
          cases it.op <;> intro hw hc <;> first
            | (cases hc; done)
            | (simp only [wstep] at hw
               split at hw
               · rename_i h0; cases hw; exact h0
               · cases hw)
        obtain ⟨li, hl⟩ : ∃ li, it.op.al? = some li := by
          revert hc
          cases it.op <;> intro hc <;> first | (cases hc; done) | (rename_i k x; cases k <;> cases hc; done) | exact ⟨_, rfl⟩
        obtain ⟨_, rfl, zs, rfl, hlt, _⟩ := al_congr hl hs
        refine ⟨rfl, rfl, by simp, fun _ => ⟨rfl, rfl⟩, fun li' _ hne => ?_, fun li' h => ?_⟩
        · show (fr1.loc.set li _)[li']? = _
          rw [List.getElem?_set_ne (fun e => hne (by rw [hl, e]))]
        · rw [hl] at h; cases h
          exact ⟨zs, by show (fr1.loc.set li _)[li]? = _; rw [List.getElem?_set_self hlt]⟩
      | loud =>
        by_cases hst : ∃ x y n, it.op = .store x y n
        · obtain ⟨x, y, n, hop⟩ := hst
          rw [hop] at hw
          obtain ⟨k1, k0, _⟩ := store_congr hw
          refine ⟨by rw [k1], by rw [k1], k0, fun h => absurd rfl h, fun li h => (by rw [hop] at h; cases h), fun li h => (by rw [hop] at h; cases h)⟩
        · obtain ⟨k1, _⟩ := loud_congr hc (fun x y n e => hst ⟨x, y, n, e⟩) hw
          refine ⟨by rw [k1], by rw [k1], by rw [k1], fun h => absurd rfl h, fun li _ _ => by rw [k1], fun li hl => ?_⟩
          exfalso
          revert hc hl
          cases it.op <;> intro hc hl <;> first | (cases hl; done) | cases hc
    obtain ⟨b1, b2, b3, b4, b5, b6⟩ := base
    exact ⟨fun t ht => by rw [put_slot, if_neg ht, b1, s1], by rw [p3, b2, s4], by rw [p1, b3, s2], fun h => ⟨(b4 h).1, by rw [p2, (b4 h).2, s3]⟩, fun li h h' => by rw [p1, b5 li h h', s2], fun li h => .inr (by
      obtain ⟨zs, hz⟩ := b6 li h
      exact ⟨zs, by rw [p1, hz, s4]⟩)⟩
end
section
variable {call : CallFn} {its : List AItem} {fr0 : Fr} {st0' : St} {ex : Ex} {frE : Fr} {stE : St} {T : Nat → Fr × St} {N : Nat}
theorem range_slot (hT : Trace call its fr0 st0' ex frE stE T N) {t : Nat} : ∀ {a b : Nat}, a ≤ b → b ≤ N → (∀ p, a ≤ p → p < b → (its.getD p AItem.dummy).d ≠ some t) → slot t (T b).1.regs = slot t (T a).1.regs := by
  intro a b hab
  induction hab with
  | refl => intro _ _; rfl
  | step h ih =>
    rename_i b
    intro hN hd
    have h' : a ≤ b := h
    rw [(one_facts (hT.step b (by omega))).1 t (hd b h' (by omega))]
    exact ih (by omega) fun p h1 h2 => hd p h1 (by omega)
theorem range_st (hT : Trace call its fr0 st0' ex frE stE T N) : ∀ {a b : Nat}, a ≤ b → b ≤ N → (∀ p, a ≤ p → p < b → (its.getD p AItem.dummy).op.cls ≠ .loud) → (T b).2 = (T a).2 ∧ (T b).1.ftoks = (T a).1.ftoks := by
  intro a b hab
  induction hab with
  | refl => intro _ _; exact ⟨rfl, rfl⟩
  | step h ih =>
    rename_i b
    intro hN hd
    have h' : a ≤ b := h
    obtain ⟨h1, h2⟩ := (one_facts (hT.step b (by omega))).2.2.2.1 (hd b h' (by omega))
    obtain ⟨h3, h4⟩ := ih (by omega) fun p h1 h2 => hd p h1 (by omega)
    exact ⟨h1.trans h3, h2.trans h4⟩
theorem range_loc {li : Nat} : ∀ {a b : Nat}, a ≤ b → (∀ p, a ≤ p → p < b → (T (p + 1)).1.loc[li]? = (T p).1.loc[li]?) → (T b).1.loc[li]? = (T a).1.loc[li]? := by
  intro a b hab
  induction hab with
  | refl => intro _; rfl
  | step h ih =>
    rename_i b
    intro hd
    have h' : a ≤ b := h
    rw [hd b h' (by omega)]
    exact ih fun p h1 h2 => hd p h1 (by omega)
theorem range_ser (hT : Trace call its fr0 st0' ex frE stE T N) : ∀ {b : Nat}, b ≤ N → (T b).1.ser = fr0.ser ∧ (T b).1.loc.length = fr0.loc.length
  | 0, _ => by rw [hT.zero]; exact ⟨rfl, rfl⟩
  | b + 1, h => by
    obtain ⟨_, h1, h2, _⟩ := one_facts (hT.step b (by omega))
    obtain ⟨h3, h4⟩ := range_ser hT (b := b) (by omega)
    exact ⟨h1.trans h3, h2.trans h4⟩
end
section
variable {g0 g g' : Gh} {st0 st : St} {w0 w w' : World} {f f' : Fh} {fr : Fr} {tmps : Array Value} {ds : List Deferred} {P : Program} {n n' m nt : Nat} {o : Oper} {I : Nat → Nat → Prop} {ops : Array Oper}
theorem wanted_wp {call : CallFn} (hcall : CallOk P g0 st0 w0 call) (hI : Inv g0 st0 w0 g f fr st w tmps) {op : AOp} {d : Option Nat} {r : Res} {fr' : Fr} {st' : St} (hop : chkOp P o op = true)
    (hal : ∀ li, op.al? = some li → ∀ s cs, fr.loc[li]? = some (s, cs) → s < fr.ser) (hd : o.dst = d) (hdl : ∀ t, d = some t → t < tmps.size) (hs : wstep call fr st op = some (r, fr', st')) {next : Act → World → Prop} {Q : Exit → Act → World → Prop}
    (hK : ∀ v, r = .ret v → ∀ g' f' w' tmps', Inv g0 st0 w0 g' f' (fr'.put d v) st' w' tmps' → tmps'.size = tmps.size → next ⟨tmps', ds⟩ w')
    (hP : ∀ v, r = .panic v → isThrown v = true → ∀ g' f' w' c, Inv g0 st0 w0 g' f' fr' st' w' tmps → Rep g' f' st'.size w' v c → Q (.panic [{ v := c, recovered := false }]) ⟨tmps, ds⟩ w') : o.wp P ⟨tmps, ds⟩ w next Q := by
  have calls : ∀ (i : Nat) (vs : List AV) (args : List Value), vs.length = args.length → (∀ j (h : j < vs.length) (h' : j < args.length), Rep g Fh.none st.size w vs[j] args[j]) →
      (execOp (Act.eval ⟨tmps, ds⟩) o).run P w = (callFunc i args.toArray).run P w → (match call i vs st with | some (r, st') => some (r, fr, st') | none => none) = some (r, fr', st') → o.wp P ⟨tmps, ds⟩ w next Q := by
    intro i vs args hl ha hex hr
    split at hr
    case h_2 => cases hr
    rename_i hc
    cases hr
    exact call_upon hcall hI hc hl ha hd hdl hex (fun v hv g' w' tmps' hI' hs' => hK v hv g' f w' tmps' hI' hs') (fun v hv ht g' w' c hI' hrep => hP v hv ht g' f w' c hI' (hrep.mono (Grow.refl _ _ _) (FGrow.none f)))
  have plain : ∀ {v : AV}, step fr st op = some (v, fr', st') → r = .ret v → o.wp P ⟨tmps, ds⟩ w next Q := fun hst hr =>
    op_wp hI hop hal hst hd hdl fun g' f' w' tmps' hI' hs' => hK _ hr g' f' w' tmps' hI' hs'
  cases op with
  | call i xs =>
    simp only [wstep] at hs
    split at hs
    case h_2 => cases hs
    rename_i vs hvs
    obtain ⟨xs', hx1, hx2⟩ := exec_call (tmps := tmps) (ds := ds) hop
    obtain ⟨l1, r1⟩ := args_ok (ds := ds) hI hx1 hvs
    exact calls i vs _ l1 r1 (hx2 w) hs
  | callv x xs =>
    simp only [wstep] at hs
    split at hs
    case h_2 => cases hs
    rename_i i first captured vs hx hvs
    split at hs
    case isFalse => cases hs
    rename_i hoo
    simp only [Bool.and_eq_true] at hoo
    obtain ⟨args, l1, r1, hex⟩ := exec_callv (ds := ds) hI hop hx hvs hoo.1 hoo.2
    exact calls i _ args l1 r1 hex hs
  | panic x =>
    simp only [wstep] at hs
    split at hs
    case isFalse => cases hs
    rename_i hth
    cases hs
    obtain ⟨dst, op, ty, pos, aft, gd⟩ := o
    simp only [chkOp] at hop
    cases op <;> first
      | (simp at hop; done)
      | skip
    have hrep := opd_rep (ds := ds) hI hop
    have hth0 := hth
    unfold isThrown at hth
    split at hth
    case h_2 => cases hth
    rename_i t v hv
    have hrep' := hrep
    rw [hv] at hrep'
    obtain ⟨c, hc, _⟩ := hrep'.iface_inv
    unfold Oper.wp
    simp only [execOp, hc]
    rw [hc] at hrep
    exact hP _ rfl hth0 g f w _ hI hrep
  | _ =>
    simp only [wstep] at hs
    split at hs
    · rename_i h0; cases hs; exact plain h0 rfl
    · cases hs
end
end Go.Proofs.YtelpkgbghhpgaaaGreatDoor.Sx
end
