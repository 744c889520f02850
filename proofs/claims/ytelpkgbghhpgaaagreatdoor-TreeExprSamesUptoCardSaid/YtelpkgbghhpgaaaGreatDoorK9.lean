/- TreeExprSames returns true for all expressions whose data are not larger than a bound. The program's functions as plain code. -/
import Derived.Test.YtelpkgbghhpgaaaGreatDoorK8
set_option linter.all false
section
namespace Go.Proofs.YtelpkgbghhpgaaaGreatDoor.Sx
open AV

/-! ### What is looked at in a drawn region -/

def edgesOf (ops : Array Oper) (i : Nat) : List Nat := match ops[i]? with
  | some o => (o.after.toList.filter (Region.binds .any)).map (·.on)
  | none => []

def addAll : List Nat → List Nat → List Nat
  | [], acc => acc
  | x :: l, acc => addAll l (if acc.contains x then acc else x :: acc)

def befStep (ops : Array Oper) (T : List (Nat × List Nat)) (i : Nat) : List Nat :=
  (edgesOf ops i).foldl (fun acc m => addAll (m :: (match T.lookup m with | some L => L | none => [])) acc) []

def befTable (ops : Array Oper) : List AItem → List (Nat × List Nat) → List (Nat × List Nat)
  | [], T => T
  | it :: r, T => befTable ops r ((it.i, befStep ops T it.i) :: T)

def isBef (T : List (Nat × List Nat)) (j i : Nat) : Bool := match T.lookup i with
  | some L => L.contains j
  | none => false

def AItem.reads (it : AItem) : List Nat := it.op.reads ++ (match it.g with | some (t, _) => [t] | none => [])

def hasChk (A B : AItem) : Bool := match A.op, A.d with
  | .load (.r t) n a, some d => t != d && (match A.g with | some (tg, _) => tg != d | none => true) && B.chk.any fun c => c.d == d && (match c.x with | .r t' => t == t' | _ => false) && c.n == n && c.isAgg == a && c.g == A.g
  | _, _ => false

def AOp.isStore : AOp → Bool
  | .store .. => true
  | _ => false

/-- The one stands ahead of the other. -/
def pairOk (T : List (Nat × List Nat)) (A B : AItem) : Bool :=
  A.i != B.i && (A.d == none || A.d != B.d) && (A.op.al? == none || A.op.al? != B.op.al?) &&
  (isBef T A.i B.i ||
    ((match A.op.cls with
      | .loud => false
      | .reg => true
      | .load => (match B.op.cls with | .reg | .load => true | _ => hasChk A B)
      | .al => !B.op.isStore) &&
     (match A.d with | some t => !B.reads.contains t | none => true))) &&
  ((A.op.cls != .load && isBef T A.i B.i) || (match B.d with | some t => !A.reads.contains t | none => true))

def pairsOk (T : List (Nat × List Nat)) : List AItem → Bool
  | [] => true
  | a :: r => r.all (pairOk T a) && pairsOk T r

def edgesAhead (ops : Array Oper) : List AItem → List Nat → Bool
  | [], _ => true
  | it :: r, seen => (edgesOf ops it.i).all (seen.contains ·) && edgesAhead ops r (it.i :: seen)

def chkDraw (P : Program) (ops : Array Oper) (nt : Nat) (its : List AItem) : Bool :=
  its.length == ops.size && its.all (chkItem P ops nt) && (List.range ops.size).all (fun i => its.any (·.i == i)) && edgesAhead ops its [] && pairsOk (befTable ops its []) its

section
variable {ops : Array Oper} {its : List AItem} {T : List (Nat × List Nat)}

def Closed (ops : Array Oper) (D : Nat → Prop) : Prop := ∀ i, D i → ∀ m ∈ edgesOf ops i, D m

theorem mem_addAll {x : Nat} : ∀ {l acc : List Nat}, x ∈ addAll l acc → x ∈ l ∨ x ∈ acc
  | [], acc, h => .inr h
  | y :: l, acc, h => by
    rcases mem_addAll (l := l) h with h | h
    · exact .inl (List.mem_cons_of_mem _ h)
    · split at h
      · exact .inr h
      · rcases List.mem_cons.1 h with rfl | h
        · exact .inl List.mem_cons_self
        · exact .inr h

theorem mem_befStep {x i : Nat} (h : x ∈ befStep ops T i) : ∃ m ∈ edgesOf ops i, x = m ∨ ∃ L, T.lookup m = some L ∧ x ∈ L := by
  unfold befStep at h
  have key : ∀ (es acc : List Nat), x ∈ es.foldl (fun acc m => addAll (m :: (match T.lookup m with | some L => L | none => [])) acc) acc → x ∈ acc ∨ ∃ m ∈ es, x = m ∨ ∃ L, T.lookup m = some L ∧ x ∈ L := by
    intro es
    induction es with
    | nil => intro acc h; exact .inl h
    | cons e es ih =>
      intro acc h
      rcases ih _ h with h | ⟨m, hm, h⟩
      · rcases mem_addAll h with h | h
        · refine .inr ⟨e, List.mem_cons_self, ?_⟩
          rcases List.mem_cons.1 h with rfl | h
          · exact .inl rfl
          · split at h
            · rename_i L hL; exact .inr ⟨L, hL, h⟩
            · cases h
        · exact .inl h
      · exact .inr ⟨m, List.mem_cons_of_mem _ hm, h⟩
  rcases key _ _ h with h | h
  · cases h
  · exact h

def Good (ops : Array Oper) (T : List (Nat × List Nat)) : Prop := ∀ i L, T.lookup i = some L → ∀ D, Closed ops D → D i → ∀ j ∈ L, D j

theorem befTable_good : ∀ (its : List AItem) (T : List (Nat × List Nat)), Good ops T → Good ops (befTable ops its T)
  | [], T, h => h
  | it :: r, T, h => befTable_good r _ fun i L hL D hD hi j hj => by
    rw [List.lookup_cons] at hL
    split at hL
    · rename_i e
      have e : i = it.i := by simpa using e
      cases hL
      subst e
      obtain ⟨m, hm, h'⟩ := mem_befStep hj
      have hDm := hD _ hi m hm
      rcases h' with rfl | ⟨L, hL, hx⟩
      · exact hDm
      · exact h m L hL D hD hDm j hx
    · exact h i L hL D hD hi j hj

theorem isBef_sound {i j : Nat} {D : Nat → Prop} (h : isBef (befTable ops its []) j i = true) (hD : Closed ops D) (hi : D i) : D j := by
  unfold isBef at h
  split at h
  · rename_i L hL
    exact befTable_good its [] (fun i L hL => by simp at hL) i L hL D hD hi j (by simpa using h)
  · cases h

def AItem.dummy : AItem := ⟨0, none, none, .mkmap, []⟩

theorem pairs_get : ∀ {its : List AItem}, pairsOk T its = true → ∀ p q, p < q → q < its.length → pairOk T (its.getD p AItem.dummy) (its.getD q AItem.dummy) = true
  | [], _, p, q, _, h => by simp at h
  | a :: r, h, p, q, hpq, hq => by
    simp only [pairsOk, Bool.and_eq_true] at h
    cases q with
    | zero => omega
    | succ q =>
      cases p with
      | zero =>
        have hq' : q < r.length := by simpa using hq
        have := List.all_eq_true.1 h.1 r[q] (List.getElem_mem hq')
        simpa [hq'] using this
      | succ p => simpa using pairs_get h.2 p q (by omega) (by simpa using hq)

theorem edges_get : ∀ {its : List AItem} {seen : List Nat}, edgesAhead ops its seen = true → ∀ p, p < its.length → ∀ m ∈ edgesOf ops (its.getD p AItem.dummy).i, m ∈ seen ∨ ∃ q, q < p ∧ (its.getD q AItem.dummy).i = m
  | [], _, _, p, h, _, _ => by simp at h
  | a :: r, seen, h, p, hp, m, hm => by
    simp only [edgesAhead, Bool.and_eq_true] at h
    cases p with
    | zero =>
      left
      have := List.all_eq_true.1 h.1 m hm
      simpa using this
    | succ p =>
      rcases edges_get h.2 p (by simpa using hp) m (by simpa using hm) with h' | ⟨q, hq, h'⟩
      · rcases List.mem_cons.1 h' with rfl | h'
        · exact .inr ⟨0, by omega, rfl⟩
        · exact .inl h'
      · exact .inr ⟨q + 1, by omega, by simpa using h'⟩

end

/-! ### The canonical run -/

structure Trace (call : CallFn) (its : List AItem) (fr0 : Fr) (st0 : St) (ex : Ex) (frE : Fr) (stE : St) (T : Nat → Fr × St) (N : Nat) : Prop where
  zero : T 0 = (fr0, st0)
  le : N ≤ its.length
  step : ∀ p, p < N → runItems call [its.getD p AItem.dummy] (T p).1 (T p).2 = some (.normal, (T (p + 1)).1, (T (p + 1)).2)
  fin : (N = its.length ∧ ex = .normal ∧ frE = (T N).1 ∧ stE = (T N).2) ∨ (N < its.length ∧ ∃ v, ex = .panic v ∧ runItems call [its.getD N AItem.dummy] (T N).1 (T N).2 = some (.panic v, frE, stE))

theorem trace_ex {call : CallFn} : ∀ (its : List AItem) (fr : Fr) (st : St) (ex : Ex) (frE : Fr) (stE : St), runItems call its fr st = some (ex, frE, stE) → ∃ T N, Trace call its fr st ex frE stE T N
  | [], fr, st, ex, frE, stE, h => by
    simp only [runItems, Option.some.injEq, Prod.mk.injEq] at h
    obtain ⟨rfl, rfl, rfl⟩ := h
    exact ⟨fun _ => (fr, st), 0, rfl, Nat.le_refl _, fun p h => by omega, .inl ⟨rfl, rfl, rfl, rfl⟩⟩
  | it :: r, fr, st, ex, frE, stE, h => by
    rw [run_cons] at h
    split at h
    · rename_i fr1 st1 h1
      obtain ⟨T, N, hT⟩ := trace_ex r fr1 st1 ex frE stE h
      refine ⟨fun k => match k with | 0 => (fr, st) | k + 1 => T k, N + 1, rfl, by simpa using hT.le, fun p hp => ?_, ?_⟩
      · cases p with
        | zero => simp only [List.getD_cons_zero, hT.zero]; exact h1
        | succ p => simpa using hT.step p (by omega)
      · rcases hT.fin with ⟨h1, h2, h3, h4⟩ | ⟨h1, v, h2, h3⟩
        · exact .inl ⟨by simp [h1], h2, h3, h4⟩
        · exact .inr ⟨by simpa using h1, v, h2, by simpa using h3⟩
    · rename_i hne
      have hp : ∃ v, ex = .panic v := by
        rw [run_one] at h
        split at h
        · cases h
        · rename_i hg
          split at h
          · rename_i hc; exact (hne _ _ (by rw [run_one, hg]; simp only [hc, if_true]; rfl)).elim
          · cases h
        · rename_i fr1 hg
          split at h
          · rename_i v fr2 st2 hw
            split at h
            · rename_i hc
              exact (hne _ _ (by rw [run_one, hg]; simp only [hw, hc, if_true]; rfl)).elim
            · cases h
          · cases h; exact ⟨_, rfl⟩
          · cases h
      obtain ⟨v, rfl⟩ := hp
      exact ⟨fun _ => (fr, st), 0, rfl, Nat.zero_le _, fun p h => by omega, .inr ⟨by simp, v, rfl, by simpa using h⟩⟩

end Go.Proofs.YtelpkgbghhpgaaaGreatDoor.Sx
end
section
namespace Go.Proofs.YtelpkgbghhpgaaaGreatDoor.Sx
open AV

/-- Frames that differ in how their slots are listed alone. -/
structure Same (fr fr2 : Fr) : Prop where
  slot : ∀ t, slot t fr2.regs = slot t fr.regs
  loc : fr2.loc = fr.loc
  ftoks : fr2.ftoks = fr.ftoks
  ser : fr2.ser = fr.ser

section
variable {call : CallFn} {fr fr2 fr' : Fr} {st st2 st' : St} {v : AV} {it : AItem}

theorem guard_same {g : Option (Nat × Bool)} {b : Bool} (h : guardA fr g = some (b, fr')) : Same fr fr' := by
  cases g with
  | none => cases h; exact ⟨fun _ => rfl, rfl, rfl, rfl⟩
  | some x =>
    obtain ⟨t, w⟩ := x
    simp only [guardA] at h
    split at h
    · rename_i c hc
      cases h
      refine ⟨fun t' => ?_, rfl, rfl, rfl⟩
      show YtelpkgbghhpgaaaGreatDoor.Sx.slot t' ((t, .bool c) :: fr.regs) = _
      rw [slot_put]
      split
      · rename_i e; subst e; exact hc.symm
      · rfl
    · cases h; exact ⟨fun _ => rfl, rfl, rfl, rfl⟩
    · cases h

theorem guard_agree {g : Option (Nat × Bool)} {b : Bool} (ha : ∀ (t : Nat) (w : Bool), g = some (t, w) → slot t fr2.regs = slot t fr.regs) (h : guardA fr g = some (b, fr')) : ∃ fr2', guardA fr2 g = some (b, fr2') := by
  cases g with
  | none => cases h; exact ⟨_, rfl⟩
  | some x =>
    obtain ⟨t, w⟩ := x
    simp only [guardA] at h ⊢
    rw [ha t w rfl]
    split at h
    · cases h; exact ⟨_, rfl⟩
    · cases h; exact ⟨_, rfl⟩
    · cases h

theorem put_slot {d : Option Nat} {t : Nat} : slot t (fr.put d v).regs = if d = some t then v else slot t fr.regs := by
  cases d with
  | none => rfl
  | some d =>
    show slot t ((d, v) :: fr.regs) = _
    rw [slot_put]
    by_cases h : d = t
    · subst h; simp
    · simp [h]

theorem put_rest (d : Option Nat) : (fr.put d v).loc = fr.loc ∧ (fr.put d v).ftoks = fr.ftoks ∧ (fr.put d v).ser = fr.ser := by cases d <;> exact ⟨rfl, rfl, rfl⟩

/-- What one item does. -/
theorem one_facts (h : runItems call [it] fr st = some (.normal, fr', st')) :
    (∀ t, it.d ≠ some t → slot t fr'.regs = slot t fr.regs) ∧ fr'.ser = fr.ser ∧ fr'.loc.length = fr.loc.length ∧
    (it.op.cls ≠ .loud → st' = st ∧ fr'.ftoks = fr.ftoks) ∧ (∀ li, it.op.isStore = false → it.op.al? ≠ some li → fr'.loc[li]? = fr.loc[li]?) ∧
    (∀ li, it.op.al? = some li → fr'.loc[li]? = fr.loc[li]? ∨ ∃ zs, fr'.loc[li]? = some (fr.ser, zs)) := by
  rw [run_one] at h
  split at h
  · cases h
  · rename_i fr1 hg
    split at h
    case isFalse => cases h
    cases h
    obtain ⟨s1, s2, s3, s4⟩ := guard_same hg
    obtain ⟨p1, p2, p3⟩ := put_rest (fr := fr1) (v := .tuple []) it.d
    exact ⟨fun t ht => by rw [put_slot, if_neg ht, s1], p3.trans s4, by rw [p1, s2], fun _ => ⟨rfl, p2.trans s3⟩, fun li _ _ => by rw [p1, s2], fun li _ => .inl (by rw [p1, s2])⟩
  · rename_i fr1 hg
    obtain ⟨s1, s2, s3, s4⟩ := guard_same hg
    split at h
    case h_2 => cases h
    case h_3 => cases h
    rename_i v fr2 st2 hw
    split at h
    case isFalse => cases h
    cases h
    obtain ⟨p1, p2, p3⟩ := put_rest (fr := fr2) (v := v) it.d
    have base : fr2.regs = fr1.regs ∧ fr2.ser = fr1.ser ∧ fr2.loc.length = fr1.loc.length ∧ (it.op.cls ≠ .loud → st' = st ∧ fr2.ftoks = fr1.ftoks) ∧ (∀ li, it.op.isStore = false → it.op.al? ≠ some li → fr2.loc[li]? = fr1.loc[li]?) ∧
        (∀ li, it.op.al? = some li → ∃ zs, fr2.loc[li]? = some (fr1.ser, zs)) := by
      cases hc : it.op.cls with
      | reg =>
        have hs : step fr1 st it.op = some (v, fr2, st') := by
          revert hw hc
          cases it.op <;> intro hw hc <;> first
            | (cases hc; done)
            | (simp only [wstep] at hw
               split at hw
               · rename_i h0; cases hw; exact h0
               · cases hw)
        obtain ⟨rfl, rfl, _⟩ := reg_congr hc hs
        refine ⟨rfl, rfl, rfl, fun _ => ⟨rfl, rfl⟩, fun _ _ _ => rfl, fun li hl => ?_⟩
        exfalso
        revert hc hl
        cases it.op <;> intro hc hl <;> first | (cases hl; done) | cases hc
      | load =>
        have hs : step fr1 st it.op = some (v, fr2, st') := by
          revert hw hc
          cases it.op <;> intro hw hc <;> first
            | (cases hc; done)
            | (simp only [wstep] at hw
               split at hw
               · rename_i h0; cases hw; exact h0
               · cases hw)
        have hl : fr2 = fr1 ∧ st' = st ∧ ∀ li, it.op.al? ≠ some li := by
          revert hs hc
          cases it.op <;> intro hc hs <;> first
            | (cases hc; done)
            | (rename_i k x; cases k <;> cases hc; done)
            | skip
          obtain ⟨a, b, _⟩ := load_congr hs
          exact ⟨a, b, fun li h => by cases h⟩
        obtain ⟨rfl, rfl, hl⟩ := hl
        exact ⟨rfl, rfl, rfl, fun _ => ⟨rfl, rfl⟩, fun _ _ _ => rfl, fun li h => absurd h (hl li)⟩
      | al =>
        have hs : step fr1 st it.op = some (v, fr2, st') := by
          revert hw hc
          cases it.op <;> intro hw hc <;> first
            | (cases hc; done)
            | (simp only [wstep] at hw
               split at hw
               · rename_i h0; cases hw; exact h0
               · cases hw)
        obtain ⟨li, hl⟩ : ∃ li, it.op.al? = some li := by
          revert hc
          cases it.op <;> intro hc <;> first | (cases hc; done) | (rename_i k x; cases k <;> cases hc; done) | exact ⟨_, rfl⟩
        obtain ⟨_, rfl, zs, rfl, hlt, _⟩ := al_congr hl hs
        refine ⟨rfl, rfl, by simp, fun _ => ⟨rfl, rfl⟩, fun li' _ hne => ?_, fun li' h => ?_⟩
        · show (fr1.loc.set li _)[li']? = _
          rw [List.getElem?_set_ne (fun e => hne (by rw [hl, e]))]
        · rw [hl] at h; cases h
          exact ⟨zs, by show (fr1.loc.set li _)[li]? = _; rw [List.getElem?_set_self hlt]⟩
      | loud =>
        by_cases hst : ∃ x y n, it.op = .store x y n
        · obtain ⟨x, y, n, hop⟩ := hst
          rw [hop] at hw
          obtain ⟨k1, k0, _⟩ := store_congr hw
          refine ⟨by rw [k1], by rw [k1], k0, fun h => absurd rfl h, fun li h => (by rw [hop] at h; cases h), fun li h => (by rw [hop] at h; cases h)⟩
        · obtain ⟨k1, _⟩ := loud_congr hc (fun x y n e => hst ⟨x, y, n, e⟩) hw
          refine ⟨by rw [k1], by rw [k1], by rw [k1], fun h => absurd rfl h, fun li _ _ => by rw [k1], fun li hl => ?_⟩
          exfalso
          revert hc hl
          cases it.op <;> intro hc hl <;> first | (cases hl; done) | cases hc
    obtain ⟨b1, b2, b3, b4, b5, b6⟩ := base
    exact ⟨fun t ht => by rw [put_slot, if_neg ht, b1, s1], by rw [p3, b2, s4], by rw [p1, b3, s2], fun h => ⟨(b4 h).1, by rw [p2, (b4 h).2, s3]⟩, fun li h h' => by rw [p1, b5 li h h', s2], fun li h => .inr (by
      obtain ⟨zs, hz⟩ := b6 li h
      exact ⟨zs, by rw [p1, hz, s4]⟩)⟩

end

section
variable {call : CallFn} {its : List AItem} {fr0 : Fr} {st0' : St} {ex : Ex} {frE : Fr} {stE : St} {T : Nat → Fr × St} {N : Nat}

theorem range_slot (hT : Trace call its fr0 st0' ex frE stE T N) {t : Nat} : ∀ {a b : Nat}, a ≤ b → b ≤ N → (∀ p, a ≤ p → p < b → (its.getD p AItem.dummy).d ≠ some t) → slot t (T b).1.regs = slot t (T a).1.regs := by
  intro a b hab
  induction hab with
  | refl => intro _ _; rfl
  | step h ih =>
    rename_i b
    intro hN hd
    have h' : a ≤ b := h
    rw [(one_facts (hT.step b (by omega))).1 t (hd b h' (by omega))]
    exact ih (by omega) fun p h1 h2 => hd p h1 (by omega)

theorem range_st (hT : Trace call its fr0 st0' ex frE stE T N) : ∀ {a b : Nat}, a ≤ b → b ≤ N → (∀ p, a ≤ p → p < b → (its.getD p AItem.dummy).op.cls ≠ .loud) → (T b).2 = (T a).2 ∧ (T b).1.ftoks = (T a).1.ftoks := by
  intro a b hab
  induction hab with
  | refl => intro _ _; exact ⟨rfl, rfl⟩
  | step h ih =>
    rename_i b
    intro hN hd
    have h' : a ≤ b := h
    obtain ⟨h1, h2⟩ := (one_facts (hT.step b (by omega))).2.2.2.1 (hd b h' (by omega))
    obtain ⟨h3, h4⟩ := ih (by omega) fun p h1 h2 => hd p h1 (by omega)
    exact ⟨h1.trans h3, h2.trans h4⟩

theorem range_loc {li : Nat} : ∀ {a b : Nat}, a ≤ b → (∀ p, a ≤ p → p < b → (T (p + 1)).1.loc[li]? = (T p).1.loc[li]?) → (T b).1.loc[li]? = (T a).1.loc[li]? := by
  intro a b hab
  induction hab with
  | refl => intro _; rfl
  | step h ih =>
    rename_i b
    intro hd
    have h' : a ≤ b := h
    rw [hd b h' (by omega)]
    exact ih fun p h1 h2 => hd p h1 (by omega)

theorem range_ser (hT : Trace call its fr0 st0' ex frE stE T N) : ∀ {b : Nat}, b ≤ N → (T b).1.ser = fr0.ser ∧ (T b).1.loc.length = fr0.loc.length
  | 0, _ => by rw [hT.zero]; exact ⟨rfl, rfl⟩
  | b + 1, h => by
    obtain ⟨_, h1, h2, _⟩ := one_facts (hT.step b (by omega))
    obtain ⟨h3, h4⟩ := range_ser hT (b := b) (by omega)
    exact ⟨h1.trans h3, h2.trans h4⟩

end

section
variable {g0 g g' : Gh} {st0 st : St} {w0 w w' : World} {f f' : Fh} {fr : Fr} {tmps : Array Value} {ds : List Deferred} {P : Program} {n n' m nt : Nat} {o : Oper} {I : Nat → Nat → Prop} {ops : Array Oper}

theorem wanted_wp {call : CallFn} (hcall : CallOk P g0 st0 w0 call) (hI : Inv g0 st0 w0 g f fr st w tmps) {op : AOp} {d : Option Nat} {r : Res} {fr' : Fr} {st' : St} (hop : chkOp P o op = true)
    (hal : ∀ li, op.al? = some li → ∀ s cs, fr.loc[li]? = some (s, cs) → s < fr.ser) (hd : o.dst = d) (hdl : ∀ t, d = some t → t < tmps.size) (hs : wstep call fr st op = some (r, fr', st')) {next : Act → World → Prop} {Q : Exit → Act → World → Prop}
    (hK : ∀ v, r = .ret v → ∀ g' f' w' tmps', Inv g0 st0 w0 g' f' (fr'.put d v) st' w' tmps' → tmps'.size = tmps.size → next ⟨tmps', ds⟩ w')
    (hP : ∀ v, r = .panic v → isThrown v = true → ∀ g' f' w' c, Inv g0 st0 w0 g' f' fr' st' w' tmps → Rep g' f' st'.size w' v c → Q (.panic [{ v := c, recovered := false }]) ⟨tmps, ds⟩ w') : o.wp P ⟨tmps, ds⟩ w next Q := by
  have calls : ∀ (i : Nat) (vs : List AV) (args : List Value), vs.length = args.length → (∀ j (h : j < vs.length) (h' : j < args.length), Rep g Fh.none st.size w vs[j] args[j]) →
      (execOp (Act.eval ⟨tmps, ds⟩) o).run P w = (callFunc i args.toArray).run P w → (match call i vs st with | some (r, st') => some (r, fr, st') | none => none) = some (r, fr', st') → o.wp P ⟨tmps, ds⟩ w next Q := by
    intro i vs args hl ha hex hr
    split at hr
    case h_2 => cases hr
    rename_i hc
    cases hr
    exact call_upon hcall hI hc hl ha hd hdl hex (fun v hv g' w' tmps' hI' hs' => hK v hv g' f w' tmps' hI' hs') (fun v hv ht g' w' c hI' hrep => hP v hv ht g' f w' c hI' (hrep.mono (Grow.refl _ _ _) (FGrow.none f)))
  have plain : ∀ {v : AV}, step fr st op = some (v, fr', st') → r = .ret v → o.wp P ⟨tmps, ds⟩ w next Q := fun hst hr =>
    op_wp hI hop hal hst hd hdl fun g' f' w' tmps' hI' hs' => hK _ hr g' f' w' tmps' hI' hs'
  cases op with
  | call i xs =>
    simp only [wstep] at hs
    split at hs
    case h_2 => cases hs
    rename_i vs hvs
    obtain ⟨xs', hx1, hx2⟩ := exec_call (tmps := tmps) (ds := ds) hop
    obtain ⟨l1, r1⟩ := args_ok (ds := ds) hI hx1 hvs
    exact calls i vs _ l1 r1 (hx2 w) hs
  | callv x xs =>
    simp only [wstep] at hs
    split at hs
    case h_2 => cases hs
    rename_i i first captured vs hx hvs
    split at hs
    case isFalse => cases hs
    rename_i hoo
    simp only [Bool.and_eq_true] at hoo
    obtain ⟨args, l1, r1, hex⟩ := exec_callv (ds := ds) hI hop hx hvs hoo.1 hoo.2
    exact calls i _ args l1 r1 hex hs
  | panic x =>
    simp only [wstep] at hs
    split at hs
    case isFalse => cases hs
    rename_i hth
    cases hs
    obtain ⟨dst, op, ty, pos, aft, gd⟩ := o
    simp only [chkOp] at hop
    cases op <;> first
      | (simp at hop; done)
      | skip
    have hrep := opd_rep (ds := ds) hI hop
    have hth0 := hth
    unfold isThrown at hth
    split at hth
    case h_2 => cases hth
    rename_i t v hv
    have hrep' := hrep
    rw [hv] at hrep'
    obtain ⟨c, hc, _⟩ := hrep'.iface_inv
    unfold Oper.wp
    simp only [execOp, hc]
    rw [hc] at hrep
    exact hP _ rfl hth0 g f w _ hI hrep
  | _ =>
    simp only [wstep] at hs
    split at hs
    · rename_i h0; cases hs; exact plain h0 rfl
    · cases hs

end
end Go.Proofs.YtelpkgbghhpgaaaGreatDoor.Sx
end
section
namespace Go.Proofs.YtelpkgbghhpgaaaGreatDoor.Sx
open AV

/-- The canonical run, and that its items stand rightly. -/
structure Dr (call : CallFn) (ops : Array Oper) (its : List AItem) (fr0 : Fr) (st0 : St) (ex : Ex) (frE : Fr) (stE : St) (T : Nat → Fr × St) (N : Nat) : Prop where
  t : Trace call its fr0 st0 ex frE stE T N
  pair : ∀ p q, p < q → q < its.length → pairOk (befTable ops its []) (its.getD p AItem.dummy) (its.getD q AItem.dummy) = true

/-- Where a run in another order stands that has done the items of `D`. -/
structure Rel (its : List AItem) (T : Nat → Fr × St) (D : Nat → Prop) (m : Nat) (fr : Fr) (st : St) : Prop where
  slotD : ∀ p t, p < its.length → D p → (its.getD p AItem.dummy).d = some t → slot t fr.regs = slot t (T (p + 1)).1.regs
  slotN : ∀ t, (∀ p, p < its.length → D p → (its.getD p AItem.dummy).d ≠ some t) → slot t fr.regs = slot t (T 0).1.regs
  loud : ∀ q, q < its.length → (its.getD q AItem.dummy).op.cls = .loud → (D q ↔ q < m)
  top : m = 0 ∨ ∃ q, m = q + 1 ∧ q < its.length ∧ (its.getD q AItem.dummy).op.cls = .loud
  st : st = (T m).2
  tok : fr.ftoks = (T m).1.ftoks
  locD : ∀ q li, q < its.length → (its.getD q AItem.dummy).op.al? = some li → D q → fr.loc[li]? = (T (max m (q + 1))).1.loc[li]?
  locN : ∀ q li, q < its.length → (its.getD q AItem.dummy).op.al? = some li → ¬ D q → fr.loc[li]? = (T (min m q)).1.loc[li]?
  locO : ∀ li, (∀ q, q < its.length → (its.getD q AItem.dummy).op.al? ≠ some li) → fr.loc[li]? = (T m).1.loc[li]?
  ser : fr.ser = (T 0).1.ser
  len : fr.loc.length = (T 0).1.loc.length

theorem al_cls {op : AOp} {li : Nat} (h : op.al? = some li) : op.cls = .al ∧ op.isStore = false := by
  cases op <;> first | (cases h; done) | exact ⟨rfl, rfl⟩

theorem store_cls {op : AOp} (h : op.isStore = true) : op.cls = .loud := by
  cases op <;> first | (cases h; done) | rfl

section
variable {call : CallFn} {ops : Array Oper} {its : List AItem} {fr0 fr fr' frE : Fr} {st0 st st' stE : St} {ex : Ex} {T : Nat → Fr × St} {N m p : Nat} {D : Nat → Prop}

theorem Dr.d_ne (h : Dr call ops its fr0 st0 ex frE stE T N) {p q t : Nat} (hp : p < its.length) (hq : q < its.length) (hne : p ≠ q) (hd : (its.getD p AItem.dummy).d = some t) : (its.getD q AItem.dummy).d ≠ some t := by
  rcases Nat.lt_or_gt_of_ne hne with hlt | hlt
  · have := h.pair p q hlt hq
    simp only [pairOk, Bool.and_eq_true, Bool.or_eq_true, beq_iff_eq, bne_iff_ne, ne_eq] at this
    have := this.1.1.1.2
    intro e
    rcases this with h1 | h1
    · rw [hd] at h1; cases h1
    · exact h1 (hd.trans e.symm)
  · have := h.pair q p hlt hp
    simp only [pairOk, Bool.and_eq_true, Bool.or_eq_true, beq_iff_eq, bne_iff_ne, ne_eq] at this
    have := this.1.1.1.2
    intro e
    rcases this with h1 | h1
    · rw [e] at h1; cases h1
    · exact h1 (e.trans hd.symm)

theorem Dr.al_ne (h : Dr call ops its fr0 st0 ex frE stE T N) {p q t : Nat} (hp : p < its.length) (hq : q < its.length) (hne : p ≠ q) (hd : (its.getD p AItem.dummy).op.al? = some t) : (its.getD q AItem.dummy).op.al? ≠ some t := by
  rcases Nat.lt_or_gt_of_ne hne with hlt | hlt
  · have := h.pair p q hlt hq
    simp only [pairOk, Bool.and_eq_true, Bool.or_eq_true, beq_iff_eq, bne_iff_ne, ne_eq] at this
    have := this.1.1.2
    intro e
    rcases this with h1 | h1
    · rw [hd] at h1; cases h1
    · exact h1 (hd.trans e.symm)
  · have := h.pair q p hlt hp
    simp only [pairOk, Bool.and_eq_true, Bool.or_eq_true, beq_iff_eq, bne_iff_ne, ne_eq] at this
    have := this.1.1.2
    intro e
    rcases this with h1 | h1
    · rw [e] at h1; cases h1
    · exact h1 (e.trans hd.symm)

theorem Dr.idx_ne (h : Dr call ops its fr0 st0 ex frE stE T N) {p q : Nat} (hp : p < its.length) (hq : q < its.length) (hne : p ≠ q) : (its.getD p AItem.dummy).i ≠ (its.getD q AItem.dummy).i := by
  rcases Nat.lt_or_gt_of_ne hne with hlt | hlt
  · have := h.pair p q hlt hq
    simp only [pairOk, Bool.and_eq_true, bne_iff_ne, ne_eq] at this
    exact this.1.1.1.1
  · have := h.pair q p hlt hp
    simp only [pairOk, Bool.and_eq_true, bne_iff_ne, ne_eq] at this
    exact fun e => this.1.1.1.1 e.symm

/-- Of two items, the first is before the second, or it may float past it. -/
theorem Dr.float (h : Dr call ops its fr0 st0 ex frE stE T N) {p q : Nat} (hpq : p < q) (hq : q < its.length) (hb : isBef (befTable ops its []) (its.getD p AItem.dummy).i (its.getD q AItem.dummy).i = false) :
    (its.getD p AItem.dummy).op.cls ≠ .loud ∧ ((its.getD p AItem.dummy).op.cls = .load → (its.getD q AItem.dummy).op.cls = .reg ∨ (its.getD q AItem.dummy).op.cls = .load ∨ hasChk (its.getD p AItem.dummy) (its.getD q AItem.dummy) = true) ∧ ((its.getD p AItem.dummy).op.cls = .al → (its.getD q AItem.dummy).op.isStore = false) ∧ (∀ t, (its.getD p AItem.dummy).d = some t → t ∉ (its.getD q AItem.dummy).reads) ∧ (∀ t, (its.getD q AItem.dummy).d = some t → t ∉ (its.getD p AItem.dummy).reads) := by
  have := h.pair p q hpq hq
  simp only [pairOk, Bool.and_eq_true, hb, Bool.false_or, Bool.and_false] at this
  obtain ⟨⟨_, h1, h2⟩, h3⟩ := this
  refine ⟨fun e => ?_, fun e => ?_, fun e => ?_, fun t e => ?_, fun t e => ?_⟩
  · rw [e] at h1; cases h1
  · rw [e] at h1
    simp only at h1
    split at h1
    · rename_i e2; exact .inl e2
    · rename_i e2; exact .inr (.inl e2)
    · exact .inr (.inr h1)
  · rw [e] at h1; simpa using h1
  · rw [e] at h2; simpa using h2
  · rw [e] at h3; simpa using h3

/-- What must hold of the item that comes next. -/
structure Next (ops : Array Oper) (its : List AItem) (D : Nat → Prop) (N p : Nat) : Prop where
  lt : p < its.length
  new : ¬ D p
  dn : ∀ q, q < its.length → D q → q < N
  pre : ∀ q, q < its.length → q ≠ p → isBef (befTable ops its []) (its.getD q AItem.dummy).i (its.getD p AItem.dummy).i = true → D q
  nb : ∀ q, q < its.length → D q → isBef (befTable ops its []) (its.getD p AItem.dummy).i (its.getD q AItem.dummy).i = false

theorem Next.below (h : Dr call ops its fr0 st0 ex frE stE T N) (hn : Next ops its D N p) {q : Nat} (hq : q < p) (hl : (its.getD q AItem.dummy).op.cls = .loud) : D q := by
  refine hn.pre q (Nat.lt_trans hq hn.lt) (by omega) ?_
  cases hb : isBef (befTable ops its []) (its.getD q AItem.dummy).i (its.getD p AItem.dummy).i with
  | true => rfl
  | false => exact absurd hl (h.float hq hn.lt hb).1

theorem Next.le (h : Dr call ops its fr0 st0 ex frE stE T N) (hn : Next ops its D N p) (hN : N < its.length → (its.getD N AItem.dummy).op.cls = .loud) : p ≤ N := by
  refine Nat.le_of_not_lt fun hlt => ?_
  have hNl : N < its.length := Nat.lt_trans hlt hn.lt
  have := hn.dn N hNl (hn.below h hlt (hN hNl))
  omega

theorem Next.above (h : Dr call ops its fr0 st0 ex frE stE T N) (hn : Next ops its D N p) {q : Nat} (hpq : p < q) (hq : q < its.length) (hD : D q) : (its.getD p AItem.dummy).op.cls ≠ .loud := (h.float hpq hq (hn.nb q hq hD)).1

/-- The slots that the item looks at are as they are in the canonical run. -/
theorem agree (h : Dr call ops its fr0 st0 ex frE stE T N) (hn : Next ops its D N p) (hR : Rel its T D m fr st) (hpN : p ≤ N) : Agree (its.getD p AItem.dummy).reads (T p).1 fr := by
  intro t ht
  by_cases hw : ∃ q, q < its.length ∧ (its.getD q AItem.dummy).d = some t
  · obtain ⟨q, hq, hd⟩ := hw
    rcases Nat.lt_trichotomy q p with hlt | rfl | hlt
    · have hb : isBef (befTable ops its []) (its.getD q AItem.dummy).i (its.getD p AItem.dummy).i = true := by
        cases hb : isBef (befTable ops its []) (its.getD q AItem.dummy).i (its.getD p AItem.dummy).i with
        | true => rfl
        | false => exact absurd ht ((h.float hlt hn.lt hb).2.2.2.1 t hd)
      rw [hR.slotD q t hq (hn.pre q hq (by omega) hb) hd]
      exact (range_slot h.t (by omega) hpN fun r h1 h2 => h.d_ne hq (by have := hn.lt; omega) (by omega) hd).symm
    · rw [hR.slotN t fun r hr hDr e => h.d_ne hr hq (fun e2 => hn.new (e2 ▸ hDr)) e hd]
      exact (range_slot h.t (Nat.zero_le _) hpN fun r h1 h2 => h.d_ne hq (by have := hn.lt; omega) (by omega) hd).symm
    · have hq0 : ¬ D q := fun hD => by
        have hb := hn.nb q hq hD
        exact (h.float hlt hq hb).2.2.2.2 t hd ht
      rw [hR.slotN t fun r hr hDr e => h.d_ne hr hq (fun e2 => hq0 (e2 ▸ hDr)) e hd]
      exact (range_slot h.t (Nat.zero_le _) hpN fun r h1 h2 => h.d_ne hq (by have := hn.lt; omega) (by omega) hd).symm
  · have hno : ∀ q, q < its.length → (its.getD q AItem.dummy).d ≠ some t := fun q hq e => hw ⟨q, hq, e⟩
    rw [hR.slotN t fun r hr _ => hno r hr]
    exact (range_slot h.t (Nat.zero_le _) hpN fun r h1 h2 => hno r (by have := hn.lt; omega)).symm

theorem Rel.m_le (h : Dr call ops its fr0 st0 ex frE stE T N) (hR : Rel its T D m fr st) (hn : Next ops its D N p) : m ≤ N := by
  rcases hR.top with rfl | ⟨q, rfl, hq, hl⟩
  · exact Nat.zero_le _
  · exact hn.dn q hq ((hR.loud q hq hl).2 (Nat.lt_succ_self q))

/-- Between the last loud item done and the next item there is no loud one. -/
theorem no_loud (h : Dr call ops its fr0 st0 ex frE stE T N) (hR : Rel its T D m fr st) (hn : Next ops its D N p) {q : Nat} (h1 : m ≤ q) (h2 : q < p) : (its.getD q AItem.dummy).op.cls ≠ .loud := fun hl => by
  have hq : q < its.length := Nat.lt_trans h2 hn.lt
  have := (hR.loud q hq hl).1 (hn.below h h2 hl)
  omega

theorem not_store {op : AOp} (h : op.cls ≠ .loud) : op.isStore = false := by
  cases hs : op.isStore with
  | false => rfl
  | true => exact absurd (store_cls hs) h

/-- An item that leaves a variable as it was. -/
theorem keeps (h : Dr call ops its fr0 st0 ex frE stE T N) {q li : Nat} (hq : q < N) (hs : (its.getD q AItem.dummy).op.isStore = false) (ha : (its.getD q AItem.dummy).op.al? ≠ some li) : (T (q + 1)).1.loc[li]? = (T q).1.loc[li]? :=
  (one_facts (h.t.step q hq)).2.2.2.2.1 li hs ha

end
end Go.Proofs.YtelpkgbghhpgaaaGreatDoor.Sx
end
section
namespace Go.Proofs.YtelpkgbghhpgaaaGreatDoor.Sx
open AV

mutual
theorem beq_eq : ∀ {a b : AV}, a.beq b = true → a = b
  | .int k n, b, h => by cases b <;> simp_all [AV.beq]
  | .bool x, b, h => by cases b <;> simp_all [AV.beq]
  | .str x, b, h => by cases b <;> simp_all [AV.beq]
  | .ptr i o, b, h => by cases b <;> simp_all [AV.beq]
  | .lptr i s o, b, h => by cases b <;> simp_all [AV.beq]
  | .nilptr, b, h => by cases b <;> simp_all [AV.beq]
  | .nilslice, b, h => by cases b <;> simp_all [AV.beq]
  | .mapr i, b, h => by cases b <;> simp_all [AV.beq]
  | .nilmap, b, h => by cases b <;> simp_all [AV.beq]
  | .nilIface, b, h => by cases b <;> simp_all [AV.beq]
  | .nilFunc, b, h => by cases b <;> simp_all [AV.beq]
  | .junk, b, h => by cases b <;> simp_all [AV.beq]
  | .vptr x, b, h => by
    cases b <;> first | (simp [AV.beq] at h; done) | skip
    simp only [AV.beq] at h; rw [beqL_eq h]
  | .agg x, b, h => by
    cases b <;> first | (simp [AV.beq] at h; done) | skip
    simp only [AV.beq] at h; rw [beqL_eq h]
  | .tuple x, b, h => by
    cases b <;> first | (simp [AV.beq] at h; done) | skip
    simp only [AV.beq] at h; rw [beqL_eq h]
  | .slice s x o, b, h => by
    cases b <;> first | (simp [AV.beq] at h; done) | skip
    simp only [AV.beq, Bool.and_eq_true, beq_iff_eq, decide_eq_true_eq] at h
    obtain ⟨⟨rfl, h⟩, rfl⟩ := h
    rw [beqLL_eq h]
  | .iface t x, b, h => by
    cases b <;> first | (simp [AV.beq] at h; done) | skip
    simp only [AV.beq, Bool.and_eq_true, beq_iff_eq] at h
    obtain ⟨rfl, h⟩ := h
    rw [beq_eq h]
  | .func fn x y, b, h => by
    cases b <;> first | (simp [AV.beq] at h; done) | skip
    simp only [AV.beq, Bool.and_eq_true, decide_eq_true_eq] at h
    obtain ⟨⟨rfl, h1⟩, h2⟩ := h
    rw [beqL_eq h1, beqL_eq h2]
theorem beqL_eq : ∀ {a b : List AV}, AV.beqL a b = true → a = b
  | [], [], _ => rfl
  | x :: l, y :: m, h => by
    simp only [AV.beqL, Bool.and_eq_true] at h
    rw [beq_eq h.1, beqL_eq h.2]
  | [], _ :: _, h => by simp [AV.beqL] at h
  | _ :: _, [], h => by simp [AV.beqL] at h
theorem beqLL_eq : ∀ {a b : List (List AV)}, AV.beqLL a b = true → a = b
  | [], [], _ => rfl
  | x :: l, y :: m, h => by
    simp only [AV.beqLL, Bool.and_eq_true] at h
    rw [beqL_eq h.1, beqLL_eq h.2]
  | [], _ :: _, h => by simp [AV.beqLL] at h
  | _ :: _, [], h => by simp [AV.beqLL] at h
end

section
variable {call : CallFn} {ops : Array Oper} {its : List AItem} {fr0 fr fr' frE : Fr} {st0 st st' stE : St} {ex : Ex} {T : Nat → Fr × St} {N m p : Nat} {D : Nat → Prop}

theorem Dr.load_anti (h : Dr call ops its fr0 st0 ex frE stE T N) {p q t : Nat} (hpq : p < q) (hq : q < its.length) (hl : (its.getD p AItem.dummy).op.cls = .load) (hd : (its.getD q AItem.dummy).d = some t) : t ∉ (its.getD p AItem.dummy).reads := by
  have := h.pair p q hpq hq
  simp only [pairOk, Bool.and_eq_true, hl] at this
  have := this.2
  rw [hd] at this
  simpa using this

/-- Serial numbers stand but where a variable is made. -/
theorem one_ser {it : AItem} (h : runItems call [it] fr st = some (.normal, fr', st')) {li s : Nat} {cs : List AV} (ha : it.op.al? ≠ some li) (hl : fr'.loc[li]? = some (s, cs)) : ∃ cs0, fr.loc[li]? = some (s, cs0) := by
  by_cases hst : it.op.isStore = true
  · rw [run_one] at h
    split at h
    · cases h
    · rename_i fr1 hg
      split at h
      case isFalse => cases h
      cases h
      rw [(put_rest it.d).1, (guard_same hg).loc] at hl
      exact ⟨cs, hl⟩
    · rename_i fr1 hg
      split at h
      case h_2 => cases h
      case h_3 => cases h
      rename_i v fr2 st2 hw
      split at h
      case isFalse => cases h
      cases h
      rw [(put_rest it.d).1] at hl
      have hs : step fr1 st it.op = some (v, fr2, st') := by
        revert hw hst
        cases it.op <;> intro hst hw <;> first
          | (cases hst; done)
          | (simp only [wstep] at hw
             split at hw
             · rename_i h0; cases hw; exact h0
             · cases hw)
      rcases (step_loc hs).2 li s cs hl with ⟨cs0, h0⟩ | ⟨h0, _⟩
      · rw [(guard_same hg).loc] at h0; exact ⟨cs0, h0⟩
      · exact absurd h0 ha
  · have := (one_facts h).2.2.2.2.1 li (by simpa using hst) ha
    exact ⟨cs, by rw [← this]; exact hl⟩

theorem range_serial (h : Dr call ops its fr0 st0 ex frE stE T N) {li : Nat} : ∀ {b : Nat}, b ≤ N → (∀ q, q < b → (its.getD q AItem.dummy).op.al? ≠ some li) → ∀ {s : Nat} {cs : List AV}, (T b).1.loc[li]? = some (s, cs) → ∃ cs0, fr0.loc[li]? = some (s, cs0)
  | 0, _, _, s, cs, hl => by rw [h.t.zero] at hl; exact ⟨cs, hl⟩
  | b + 1, hb, ha, s, cs, hl => by
    obtain ⟨cs1, h1⟩ := one_ser (h.t.step b (by omega)) (ha b (by omega)) hl
    exact range_serial h (by omega) (fun q hq => ha q (by omega)) h1

/-- What an item looks at again: a load that floats past it. -/
theorem chk_fact (h : Dr call ops its fr0 st0 ex frE stE T N) {p q : Nat} (hpq : p < q) (hqN : q < N) {t n d : Nat} {a : Bool} (hop : (its.getD p AItem.dummy).op = .load (.r t) n a) (hd : (its.getD p AItem.dummy).d = some d) (hc : hasChk (its.getD p AItem.dummy) (its.getD q AItem.dummy) = true)
    {cG : Fr} (hg : guardA (T p).1 (its.getD p AItem.dummy).g = some (true, cG)) : ld (T (q + 1)).1 (T (q + 1)).2 (slot t (T p).1.regs) n a = some (slot d (T (p + 1)).1.regs) := by
  have hq : q < its.length := Nat.lt_of_lt_of_le hqN h.t.le
  have hp : p < its.length := Nat.lt_trans hpq hq
  have hcl : (its.getD p AItem.dummy).op.cls = .load := by rw [hop]; rfl
  unfold hasChk at hc
  rw [hop, hd] at hc
  simp only [Bool.and_eq_true, bne_iff_ne, ne_eq, List.any_eq_true, beq_iff_eq] at hc
  obtain ⟨⟨htd, hgd⟩, c, hcm, ⟨⟨⟨hc1, hc2⟩, hc3⟩, hc4⟩, hc5⟩ := hc
  -- the frame at which it is looked again
  have hframe : ∃ frq, (∀ t', (its.getD q AItem.dummy).d ≠ some t' → slot t' frq.regs = slot t' (T (q + 1)).1.regs) ∧ frq.loc = (T (q + 1)).1.loc ∧ chkOk frq (T (q + 1)).2 c = true := by
    have hs := h.t.step q hqN
    rw [run_one] at hs
    split at hs
    · cases hs
    · rename_i fr1 hg1
      split at hs
      case isFalse => cases hs
      rename_i hall
      simp only [Option.some.injEq, Prod.mk.injEq, true_and] at hs
      refine ⟨fr1, fun t' ht' => ?_, ?_, ?_⟩
      · rw [← hs.1, put_slot, if_neg ht']
      · rw [← hs.1, (put_rest _).1]
      · rw [← hs.2]; exact List.all_eq_true.1 hall c hcm
    · rename_i fr1 hg1
      split at hs
      case h_2 => cases hs
      case h_3 => cases hs
      rename_i v fr2 st2 hw
      split at hs
      case isFalse => cases hs
      rename_i hall
      simp only [Option.some.injEq, Prod.mk.injEq, true_and] at hs
      refine ⟨fr2, fun t' ht' => ?_, ?_, ?_⟩
      · rw [← hs.1, put_slot, if_neg ht']
      · rw [← hs.1, (put_rest _).1]
      · rw [← hs.2]; exact List.all_eq_true.1 hall c hcm
  obtain ⟨frq, f1, f2, f3⟩ := hframe
  have hreads : ∀ t', t' ∈ (its.getD p AItem.dummy).reads → (∀ r, p < r → r < its.length → (its.getD r AItem.dummy).d ≠ some t') := fun t' ht' r h1 h2 e => h.load_anti h1 h2 hcl e ht'
  have htm : t ∈ (its.getD p AItem.dummy).reads := List.mem_append.2 (.inl (by rw [hop]; exact List.mem_singleton.2 rfl))
  have hst : slot t frq.regs = slot t (T p).1.regs := by
    rw [f1 t (hreads t htm q hpq hq)]
    refine range_slot h.t (by omega) (by omega) fun r h1 h2 => ?_
    rcases Nat.eq_or_lt_of_le h1 with rfl | h1
    · rw [hd]; exact fun e => htd (Option.some.inj e).symm
    · exact hreads t htm r h1 (by omega)
  have hsd : slot d frq.regs = slot d (T (p + 1)).1.regs := by
    rw [f1 d (h.d_ne hp hq (by omega) hd)]
    exact range_slot h.t (by omega) (by omega) fun r h1 h2 => h.d_ne hp (by omega) (by omega) hd
  have hgo : chkGo frq (T (q + 1)).2 c = true := by
    unfold chkOk at f3
    rw [hc5] at f3
    cases hgp : (its.getD p AItem.dummy).g with
    | none => rw [hgp] at f3; exact f3
    | some x =>
      obtain ⟨tg, w⟩ := x
      rw [hgp] at f3 hg
      have htg : tg ∈ (its.getD p AItem.dummy).reads := List.mem_append.2 (.inr (by rw [hgp]; exact List.mem_singleton.2 rfl))
      rw [hgp] at hgd
      simp only [bne_iff_ne, ne_eq] at hgd
      have hsg : slot tg frq.regs = slot tg (T p).1.regs := by
        rw [f1 tg (hreads tg htg q hpq hq)]
        refine range_slot h.t (by omega) (by omega) fun r h1 h2 => ?_
        rcases Nat.eq_or_lt_of_le h1 with rfl | h1
        · rw [hd]; exact fun e => hgd (Option.some.inj e).symm
        · exact hreads tg htg r h1 (by omega)
      simp only [guardA] at hg
      simp only [hsg] at f3
      split at hg
      · rename_i b hb
        simp only [Option.some.injEq, Prod.mk.injEq, beq_iff_eq] at hg
        obtain ⟨rfl, _⟩ := hg
        rw [hb] at f3
        cases b <;> exact f3
      · cases hg
      · cases hg
  unfold chkGo at hgo
  have hx : c.x.ev frq = slot t frq.regs := by
    split at hc2
    · rename_i t' e; have : t = t' := by simpa using hc2
      rw [e, this]; rfl
    · cases hc2
  rw [hx, hst, hc1, hsd, hc3, hc4] at hgo
  split at hgo
  · rename_i v hv
    rw [← beq_eq hgo, ← hv]
    exact ld_congr (fun li ser off _ => by rw [f2]) fun _ _ _ => rfl
  · cases hgo

end
end Go.Proofs.YtelpkgbghhpgaaaGreatDoor.Sx
end
