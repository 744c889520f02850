/- TreeReads returns true for all texts whose data are not larger than a bound. What reading an expression from tokens comes to, in plain Lean. What cutting a source into tokens comes to, in plain Lean. The program's reader of expressions: operators with their operands. The program's reader of expressions: names, lists, calls, what has no operators outside. The program's reader of expressions: lists, calls, macros, what has no operators outside. strconv.Atoi at digits. -/
import Derived.Test.YtelpkgbghhpgaaaGreatDoorR20
set_option linter.all false
section
namespace Go.Proofs.YtelpkgbghhpgaaaGreatDoor.Sx
def mkC (k n : Int) (s : List UInt8) : Xp := .mk 0 [] k n s true [] true []
def mkBin (s : List UInt8) (x y : Xp) : Xp := .mk 5 s 0 0 [] true [] false [x, y]
def mkUn (s : List UInt8) (x : Xp) : Xp := .mk 4 s 0 0 [] true [] false [x]
def mkName (s : List UInt8) : Xp := .mk 1 s 0 0 [] true [] true []
def mkAlias (s : List UInt8) (x : Xp) : Xp := .mk 2 s 0 0 [] true [] false [x]
def mkCall (s : List UInt8) (l : List Xp) : Xp := .mk 3 s 0 0 [] true [] true l
def mkIndex (x i : Xp) : Xp := .mk 6 [] 0 0 [] true [] false [x, i]
def mkList (l : List Xp) : Xp := .mk 7 [] 0 0 [] true [] true l
def mkBlock (p : List (List UInt8)) (x : Xp) : Xp := .mk 8 [] 0 0 [] true p false [x]
def mkMacroX (x : Xp) : Xp := .mk 9 [] 0 0 [] true [] false [x]
def mkMacroN (s : List UInt8) : Xp := .mk 9 s 0 0 [] true [] true []
def mkRef (s : List UInt8) : Xp := .mk 10 s 0 0 [] true [] true []
def numOf (s : List UInt8) : Int := s.foldl (fun n b => n * 10 + ((b.toNat : Int) - 48)) 0
def leapY (y : Int) : Bool := y.tmod 4 == 0 && (y.tmod 100 != 0 || y.tmod 400 == 0)
def monthLen (y m : Int) : Int := if m = 2 then (if leapY y then 29 else 28) else if m = 4 ∨ m = 6 ∨ m = 9 ∨ m = 11 then 30 else 31
def monthsLen (y : Int) : Nat → Int
  | 0 => 0
  | k + 1 => monthsLen y k + monthLen y (k + 1)
def daysOf (y m d : Int) : Int :=
  if y < 1 ∨ y > 9999 ∨ m < 1 ∨ m > 12 ∨ d < 1 ∨ d > monthLen y m then 0
  else 365 * (y - 1) + (y - 1).tdiv 4 - (y - 1).tdiv 100 + (y - 1).tdiv 400 + d + monthsLen y (m - 1).toNat
def dayOf (s : List UInt8) : Int := if s.length = 8 ∧ s.all isDig = true then daysOf (numOf (s.take 4)) (numOf ((s.drop 4).take 2)) (numOf (s.drop 6)) else 0
def blanks8 : List UInt8 := [32, 32, 32, 32, 32, 32, 32, 32]
def dayOk (t : List UInt8) : Bool :=
  decide (t.length = 8) && t.all isDig && !(decide (numOf (t.take 4) < 1 ∨ numOf (t.take 4) > 9999 ∨ numOf ((t.drop 4).take 2) < 1 ∨ numOf ((t.drop 4).take 2) > 12 ∨ numOf (t.drop 6) < 1 ∨ numOf (t.drop 6) > monthLen (numOf (t.take 4)) (numOf ((t.drop 4).take 2))))
inductive Nt where
  | expr | not | pow | unary
section
variable (l : List Tok)
def nameP (a : Nat) : PR (List UInt8) := if isNameTok (tokAt l a) = true then .ok (tokAt l a).text (a + 1) else .fail a
def wantP (s : List UInt8) (a : Nat) : PR Unit := if isS (tokAt l a) s = true then .ok () (a + 1) else .fail a
def spJoin (opnd : Nat → PR Xp) (k : Nat) : Nat → Xp → Nat → PR Xp
  | 0, _, _ => .out
  | n + 1, x, a => if opOf k (tokAt l a) = [] then .ok x a else (opnd (a + 1)).bind fun y a' => spJoin opnd k n (mkBin (opOf k (tokAt l a)) x y) a'
def spJoined (opnd : Nat → PR Xp) (k n a : Nat) : PR Xp := (opnd a).bind fun x a => spJoin l opnd k n x a
def spNamesL : Nat → List (List UInt8) → Nat → PR (List (List UInt8))
  | 0, _, _ => .out
  | n + 1, acc, a => if isS (tokAt l a) [44] = true then (nameP l (a + 1)).bind fun s a' => spNamesL n (acc ++ [s]) a' else .ok acc a
def spNames (n a : Nat) : PR (List (List UInt8)) := (nameP l a).bind fun s a => spNamesL l n [s] a
def spListL (e : Nat → PR Xp) : Nat → List Xp → Nat → PR (List Xp)
  | 0, _, _ => .out
  | n + 1, acc, a => if isS (tokAt l a) [44] = true then (e (a + 1)).bind fun x a' => spListL e n (acc ++ [x]) a' else .ok acc a
def spList (e : Nat → PR Xp) (n a : Nat) : PR (List Xp) := (e a).bind fun x a => spListL l e n [x] a
def spMacro (e : Nat → PR Xp) (a : Nat) : PR Xp :=
  (wantP l [38] a).bind fun _ a =>
    if isS (tokAt l a) [40] = true then (e (a + 1)).bind fun x a => (wantP l [41] a).bind fun _ a => .ok (mkMacroX x) a
    else (nameP l a).bind fun s a => .ok (mkMacroN s) (if isS (tokAt l a) [46] = true then a + 1 else a)
def spCall (e : Nat → PR Xp) (n a : Nat) : PR Xp :=
  (nameP l a).bind fun s a => (wantP l [40] a).bind fun _ a =>
    if isS (tokAt l a) [41] = true then .ok (mkCall s []) (a + 1)
    else (spList l e n a).bind fun x a => (wantP l [41] a).bind fun _ a => .ok (mkCall s x) a
def spNamed (e : Nat → PR Xp) (n a : Nat) : PR Xp :=
  if isS (tokAt l (a + 1)) [40] = true then spCall l e n a
  else (nameP l a).bind fun s a =>
    if isS (tokAt l a) [45, 62] = true then
      if isS (tokAt l (a + 1)) [40] = true then (e (a + 2)).bind fun x a => (wantP l [41] a).bind fun _ a => .ok (mkAlias s x) a
      else (nameP l (a + 1)).bind fun f a => .ok (mkAlias s (mkName f)) a
    else .ok (mkName s) a
def spBraced (e : Nat → PR Xp) (n a : Nat) : PR Xp :=
  if isS (tokAt l a) [124] = true then
    if isS (tokAt l (a + 1)) [124] = true then (e (a + 2)).bind fun x a => (wantP l [125] a).bind fun _ a => .ok (mkBlock [] x) a
    else (spNames l n (a + 1)).bind fun p a => (wantP l [124] a).bind fun _ a => (e a).bind fun x a => (wantP l [125] a).bind fun _ a => .ok (mkBlock p x) a
  else (spList l e n a).bind fun x a => (wantP l [125] a).bind fun _ a => .ok (mkList x) a
def spSigned (e : Nat → PR Xp) (n a : Nat) : PR Xp :=
  if isS (tokAt l a) [38] = true then spMacro l e a
  else if isS (tokAt l a) [46, 84, 46] = true then .ok (mkC 1 1 []) (a + 1)
  else if isS (tokAt l a) [46, 70, 46] = true then .ok (mkC 1 0 []) (a + 1)
  else if isS (tokAt l a) [46, 78, 85, 76, 76, 46] = true then .ok (mkC 0 0 []) (a + 1)
  else if isS (tokAt l a) [40] = true then (e (a + 1)).bind fun x a => (wantP l [41] a).bind fun _ a => .ok x a
  else if isS (tokAt l a) [64] = true then (nameP l (a + 1)).bind fun s a => .ok (mkRef s) a
  else if isS (tokAt l a) [123] = true then spBraced l e n (a + 1)
  else .fail a
def spPrim (e : Nat → PR Xp) (n a : Nat) : PR Xp :=
  if (tokAt l a).kind = 1 then .ok (mkC 2 (numOf (tokAt l a).text) []) (a + 1)
  else if (tokAt l a).kind = 2 then (if ((tokAt l a).text.length : Int) > 2048 then .fail a else .ok (mkC 4 0 (tokAt l a).text) (a + 1))
  else if (tokAt l a).kind = 3 then .ok (mkC 3 (dayOf (tokAt l a).text) []) (a + 1)
  else if (tokAt l a).kind = 0 then spNamed l e n a
  else spSigned l e n a
def spIdx (e : Nat → PR Xp) : Nat → Xp → Nat → PR Xp
  | 0, _, _ => .out
  | n + 1, x, a => if isS (tokAt l a) [91] = true then (e (a + 1)).bind fun i a => (wantP l [93] a).bind fun _ a => spIdx e n (mkIndex x i) a else .ok x a
def spSum (rec : Nt → Nat → PR Xp) (n a : Nat) : PR Xp := spJoined l (fun a => spJoined l (rec .pow) 4 n a) 3 n a
def spStep (rec : Nt → Nat → PR Xp) (n : Nat) : Nt → Nat → PR Xp
  | .expr, a => spJoined l (fun a => spJoined l (rec .not) 1 n a) 0 n a
  | .not, a =>
    if isS (tokAt l a) [46, 78, 79, 84, 46] = true ∨ isS (tokAt l a) [33] = true then (rec .not (a + 1)).bind fun x a => .ok (mkUn [46, 78, 79, 84, 46] x) a
    else (spSum l rec n a).bind fun x a =>
      if opOf 2 (tokAt l a) = [] then .ok x a else (spSum l rec n (a + 1)).bind fun y a' => .ok (mkBin (opOf 2 (tokAt l a)) x y) a'
  | .pow, a => (rec .unary a).bind fun x a =>
      if opOf 5 (tokAt l a) = [] then .ok x a else (rec .pow (a + 1)).bind fun y a' => .ok (mkBin (opOf 5 (tokAt l a)) x y) a'
  | .unary, a =>
    if isS (tokAt l a) [45] = true then (rec .unary (a + 1)).bind fun x a => .ok (mkUn [45] x) a
    else (spPrim l (rec .expr) n a).bind fun x a => spIdx l (rec .expr) n x a
def sp : Nat → Nt → Nat → PR Xp
  | 0, _, _ => .out
  | n + 1, nt, a => spStep l (sp n) n nt a
end
end Go.Proofs.YtelpkgbghhpgaaaGreatDoor.Sx
end
section
namespace Go.Proofs.YtelpkgbghhpgaaaGreatDoor.Sx
def clsOf (c : Nat) : Int :=
  if c = 9 ∨ c = 32 then 3
  else if c = 95 ∨ (97 ≤ c ∧ c ≤ 122) ∨ (65 ≤ c ∧ c ≤ 90) then 1
  else if 48 ≤ c ∧ c ≤ 57 then 2
  else if c ≠ 10 ∧ (c < 32 ∨ c > 126) then 4
  else 0
section
variable (s : List UInt8)
def isC (i : Nat) (k : Int) : Bool := match s[i]? with
  | some b => clsOf b.toNat == k
  | none => false
def runTo (p : Nat → Bool) : Nat → Nat → Nat
  | 0, a => a
  | n + 1, a => if p a = true then runTo p n (a + 1) else a
def lineEnd (a : Nat) : Nat := if indexB 10 (s.drop a) 0 ≥ 0 then a + (indexB 10 (s.drop a) 0).toNat else s.length
def wrongIn : Nat → Nat → Option Nat
  | 0, _ => none
  | n + 1, a => if isC s a 4 = true then some a else wrongIn n (a + 1)
def skipB (a : Nat) : Nat := runTo (fun i => isC s i 3) (s.length - a) a
def sub (a b : Nat) : List UInt8 := (s.take b).drop a
def allSigns : List (List UInt8) := [[46, 78, 85, 76, 76, 46], [46, 65, 78, 68, 46], [46, 78, 79, 84, 46], [46, 79, 82, 46], [46, 84, 46], [46, 70, 46], [58, 61], [61, 61], [60, 62], [33, 61], [60, 61], [62, 61], [45, 62], [40], [41], [91], [93], [123], [125], [44], [124], [58], [46], [61], [35], [60], [62], [43], [45], [42], [47], [37], [94], [36], [38], [63], [64], [33]]
def signFits (a : Nat) (w : List UInt8) : Bool := decide (a + w.length ≤ s.length) && upperS (sub s a (a + w.length)) == w
def signP (a : Nat) : Option (List UInt8) := allSigns.find? (signFits s a)
def dateLike (t : List UInt8) : Bool := decide ((t.length : Int) ≥ 13) && t.take 2 == [123, 94] && decide (t[6]? = some 45) && decide (t[9]? = some 45) && decide (t[12]? = some 125)
def dateDigits (t : List UInt8) : List UInt8 := sub t 2 6 ++ sub t 7 9 ++ sub t 10 12
def dateP (a : Nat) : List UInt8 × Int × Bool :=
  if hasPre (s.drop a) [123, 125] = true then ([], 2, true)
  else if dateLike (s.drop a) = true then (dateDigits (s.drop a), 13, (dateDigits (s.drop a) == blanks8 || dayOk (dateDigits (s.drop a))) && dateDigits (s.drop a) != blanks8)
  else ([], 0, false)
inductive TR where
  | tok (t : Tok) (a : Nat)
  | fail (a : Nat)
def textP (a : Nat) (q : UInt8) : TR :=
  let k := indexB q (sub s (a + 1) (lineEnd s a)) 0
  if k < 0 then .fail a
  else match wrongIn s k.toNat (a + 1) with
    | some i => .fail i
    | none => .tok ⟨2, a, sub s (a + 1) (a + 1 + k.toNat)⟩ (a + k.toNat + 2)
def tokenP (a : Nat) : TR :=
  if isC s a 1 = true then
    let e := runTo (fun i => isC s i 1 || isC s i 2) (s.length - a) a
    if e - a > 24 then .fail a else .tok ⟨0, a, upperS (sub s a e)⟩ e
  else if isC s a 2 = true then
    let e := runTo (fun i => isC s i 2) (s.length - a) a
    if e - a > 15 then .fail a else .tok ⟨1, a, sub s a e⟩ e
  else if s[a]? = some 34 then textP s a 34
  else if s[a]? = some 39 then textP s a 39
  else if (dateP s a).2.2 = true then .tok ⟨3, a, (dateP s a).1⟩ (a + (dateP s a).2.1.toNat)
  else match signP s a with
    | some w => .tok ⟨4, a, w⟩ (a + w.length)
    | none => .fail a
inductive Step where
  | tok (t : Tok) (a : Nat) (line : Bool)
  | go (a : Nat) (line : Bool)
  | fail (a : Nat)
def commentP (a : Nat) : Option Nat := wrongIn s (lineEnd s a - a) a
def goesOn (a : Nat) : Bool := let k := skipB s (a + 1); decide (k = s.length) || decide (s[k]? = some 10) || hasPre (s.drop k) [38, 38]
def stepP (a : Nat) (line : Bool) : Step :=
  if s[a]? = some 10 then (if line = true then .tok ⟨5, a, []⟩ (a + 1) false else .go (a + 1) false)
  else if isC s a 3 = true then .go (a + 1) line
  else if (s[a]? = some 42 ∧ line = false) ∨ hasPre (s.drop a) [38, 38] = true then
    (match commentP s a with | some p => .fail p | none => .go (lineEnd s a) line)
  else if s[a]? = some 59 then
    (if goesOn s a = true then
      (match commentP s (skipB s (a + 1)) with
      | some p => .fail p
      | none => .go (if lineEnd s (skipB s (a + 1)) < s.length then lineEnd s (skipB s (a + 1)) + 1 else lineEnd s (skipB s (a + 1))) line)
    else .fail a)
  else match tokenP s a with
    | .tok t e => .tok t e true
    | .fail p => .fail p
inductive LR where
  | ok (l : List Tok)
  | fail (a : Nat)
  | out
def lexN : Nat → Nat → Bool → List Tok → LR
  | 0, _, _, _ => .out
  | n + 1, a, line, acc =>
    if s.length ≤ a then .ok (if line = true then acc ++ [⟨5, a, []⟩] else acc)
    else match stepP s a line with
      | .tok t e line' => lexN n e line' (acc ++ [t])
      | .go e line' => lexN n e line' acc
      | .fail p => .fail p
def lexP : List Tok × Nat × Int :=
  if s.length > 4000 then ([], 0, 3)
  else match lexN s (s.length + 1) 0 false [] with
    | .ok l => if l.length > 1200 then ([], 0, 3) else (l, l.length, 0)
    | .fail p => ([], p, 2)
    | .out => ([], 0, 0)
end
end Go.Proofs.YtelpkgbghhpgaaaGreatDoor.Sx
end
section
set_option maxRecDepth 100000
namespace Go.Proofs.YtelpkgbghhpgaaaGreatDoor.Sx
def RK {α : Type} (e : α → AV) (st : St) (id : Nat) (l : List Tok) (Q : Res → St → Prop) (r : PR α) : Prop :=
  r.on (fun x a' => a' ≤ l.length → Q (.ret (e x)) (V st id l a')) (fun a' => Q (.panic (thrown a')) (V st id l a'))
def eX (x : Xp) : AV := .agg (encX x)
def eXs (x : List Xp) : AV := encSl true 7 (encXs x)
def eNs (x : List (List UInt8)) : AV := encSl true 1 (encStr x)
def eS (x : List UInt8) : AV := .str x
def eU (_ : Unit) : AV := .tuple []
attribute [go_sem] eX eXs eNs eS eU
def ReadsAt {α : Type} (e : α → AV) (st : St) (id : Nat) (l : List Tok) (f : Nat) (args : List AV) (r : Nat → PR α) : Prop :=
  ∀ a (Q : Res → St → Prop), a ≤ l.length → RK e st id l Q (r a) → CallA S f args (V st id l a) Q
section
variable {st : St} {id a : Nat} {l : List Tok} {Q : Res → St → Prop} {o : HObj} {α β : Type} {e : α → AV} {e' : β → AV}
theorem RK_bind {r : PR α} {f : α → Nat → PR β} : RK e' st id l Q (r.bind f) = r.on (fun x a => RK e' st id l Q (f x a)) (fun a' => Q (.panic (thrown a')) (V st id l a')) := by
  unfold RK; rw [PR.on_bind]
theorem RK_step {r : PR α} {f : α → Nat → PR β} {Q' : Res → St → Prop} (h : RK e' st id l Q (r.bind f))
    (hk : ∀ x a, a ≤ l.length → RK e' st id l Q (f x a) → Q' (.ret (e x)) (V st id l a)) (hf : ∀ a, Q (.panic (thrown a)) (V st id l a) → Q' (.panic (thrown a)) (V st id l a)) : RK e st id l Q' r := by
  rw [RK_bind] at h
  exact PR.on_mono h (fun x a _ h ha => hk x a ha h) (fun a _ h => hf a h)
theorem RK_ok {x : α} (h : RK e st id l Q (.ok x a)) (ha : a ≤ l.length) : Q (.ret (e x)) (V st id l a) := h ha
theorem RK_fail (h : RK e st id l Q (.fail a)) : Q (.panic (thrown a)) (V st id l a) := h
theorem opOf_lt {k : Nat} (h : opOf k (tokAt l a) ≠ []) : a < l.length := by
  refine tokAt_lt fun e => h ?_
  simp [opOf, e]
theorem joined_ok (hid : id < st.size) (hl : l.length < 65536) (k : Nat) (hk : k < 6) (n : Nat) (f : Nat) (first cap : List AV) (hf1 : first.all AV.out0 = true) (hf2 : cap.all AV.out0 = true) (opnd : Nat → PR Xp)
    (hop : ReadsAt eX st id l f (first ++ cap) opnd) : ReadsAt eX st id l 87 [.ptr id 0, .int .i64 (k : Int), .func (.func f) first cap] (spJoined l opnd k n) := by
  intro a Q ha hQ
  refine callA_body (by rfl) (by rfl) rfl ?_
  simp only [b87, go_sem, hf1, hf2]
  refine hop a _ ha (RK_step hQ (fun x a ha hQ => ?_) (fun a hQ => ?_))
  · simp only [go_sem, operator_eq hid hl ha k hk]
    refine wp_loop (fun m fr st' => ∃ x a ser ser2, RK eX st id l Q (spJoin l opnd k m x a) ∧ a ≤ l.length ∧ st' = V st id l (if opOf k (tokAt l a) = [] then a else a + 1) ∧
      fr = ⟨[(0, .ptr id 0), (1, .int .i64 (k : Int)), (2, .func (.func f) first cap), (6, .lptr 0 1 0), (7, .lptr 1 ser 0), (8, .str (opOf k (tokAt l a)))],
        [(1, [.int .i64 0, .str [], .int .i64 0, .int .i64 0, .str [], .nilslice, .nilslice]), (ser, encX x)], [], ser2⟩) n ⟨x, a, _, _, hQ, ha, rfl, rfl⟩ ?_
    rintro m fr st' ⟨x, a, ser, ser2, hQ, ha, rfl, rfl⟩
    cases m with
    | zero => exact hQ.elim
    | succ m =>
      simp only [spJoin] at hQ
      by_cases ho : opOf k (tokAt l a) = []
      · rw [if_pos ho] at hQ
        simp only [b87l0, go_sem, ho, beqL_nn, V_size, V_trunc]
        exact RK_ok hQ ha
      · rw [if_neg ho] at hQ
        have hlt := opOf_lt ho
        have hb : (opOf k (tokAt l a) == []) = false := by simp [ho]
        simp only [b87l0, go_sem, ho, hb, hf1, hf2]
        refine hop (a + 1) _ (by omega) (RK_step hQ (fun y a' ha' hQ => ?_) (fun a' hQ => ?_))
        · simp only [go_sem, binary_eq, operator_eq hid hl ha' k hk]
          exact ⟨m, Nat.lt_succ_self m, _, a', ser, _, hQ, ha', rfl, rfl⟩
        · simp only [go_sem, V_size, V_trunc]
          exact hQ
  · simp only [go_sem, V_size, V_trunc]
    exact hQ
end
end Go.Proofs.YtelpkgbghhpgaaaGreatDoor.Sx
end
section
set_option maxRecDepth 100000
namespace Go.Proofs.YtelpkgbghhpgaaaGreatDoor.Sx
section
variable {st : St} {id a : Nat} {l : List Tok} {Q : Res → St → Prop} {o : HObj}
theorem encStr_snoc (acc : List (List UInt8)) (s : List UInt8) : encStr (acc ++ [s]) = encStr acc ++ [[.str s]] := by simp [encStr]
theorem name_ok (hid : id < st.size) (hl : l.length < 65536) (hT : ∀ t ∈ l, TokOk t) : ReadsAt eS st id l 98 [.ptr id 0] (nameP l) := by
  intro a Q ha hQ
  unfold nameP at hQ
  by_cases h : isNameTok (tokAt l a) = true
  · rw [if_pos h] at hQ
    have hlt := tokAt_lt (l := l) (i := a) (by simp only [isNameTok, Bool.and_eq_true, beq_iff_eq] at h; omega)
    rw [name_yes hid hl ha hT h]
    exact RK_ok hQ (by omega)
  · rw [if_neg h] at hQ
    rw [name_no hid hl ha hT (by simpa using h)]
    exact RK_fail hQ
theorem want_ok (hid : id < st.size) (hl : l.length < 65536) (s : List UInt8) : ReadsAt eU st id l 134 [.ptr id 0, .str s] (wantP l s) := by
  intro a Q ha hQ
  unfold wantP at hQ
  by_cases h : isS (tokAt l a) s = true
  · rw [if_pos h] at hQ
    have hlt := isS_lt h
    rw [want_yes hid hl ha h]
    exact RK_ok hQ (by omega)
  · rw [if_neg h] at hQ
    rw [want_no hid hl ha (by simpa using h)]
    exact RK_fail hQ
theorem variable_ok (hid : id < st.size) (hl : l.length < 65536) (hT : ∀ t ∈ l, TokOk t) : ReadsAt eS st id l 287 [.ptr id 0] (nameP l) := by
  intro a Q ha hQ
  refine callA_body (by rfl) (by rfl) rfl ?_
  have hc := fun (st : St) (s : List UInt8) Q => contains_eq (st := st) (Q := Q) true [] s (by decide)
  have hc : ∀ (st : St) (s : List UInt8) (Q : Res → St → Prop), CallA S 178 [.nilslice, .str s] st Q = Q (.ret (.bool (decide ((-1 : Int) ≥ 0)))) st := hc
  have hd : decide ((-1 : Int) ≥ 0) = false := by decide
  simp only [b287, go_sem, V_cells hid, ahead0 hid hl ha, hc, hd]
  refine name_ok hid hl hT a _ ha (PR.on_mono hQ (fun x a _ hQ ha => ?_) (fun a _ hQ => ?_))
  · simp only [go_sem, V_size, V_trunc]; exact hQ ha
  · simp only [go_sem, V_size, V_trunc]; exact hQ
theorem names_ok (hid : id < st.size) (hl : l.length < 65536) (hT : ∀ t ∈ l, TokOk t) (n : Nat) (hn : n ≤ 65536) : ReadsAt eNs st id l 133 [.ptr id 0] (spNames l n) := by
  intro a Q ha hQ
  refine callA_body (by rfl) (by rfl) rfl ?_
  simp only [b133, go_sem]
  refine name_ok hid hl hT a _ ha (RK_step hQ (fun s a ha hQ => ?_) (fun a hQ => ?_))
  · simp only [go_sem]
    refine wp_loop (fun m fr st' => ∃ acc a own ft ser, RK eNs st id l Q (spNamesL l m acc a) ∧ a ≤ l.length ∧ acc.length + m = n + 1 ∧ acc ≠ [] ∧ st' = V st id l a ∧ ((own = .tight ∧ ft = []) ∨ (own = .ftok 0 ∧ ft = [acc.length])) ∧
      fr = ⟨[(0, .ptr id 0), (3, .slice 1 (encStr acc) own)], [], ft, ser⟩) n ⟨[s], a, _, _, _, hQ, ha, by simp; omega, by simp, rfl, .inl ⟨rfl, rfl⟩, rfl⟩ ?_
    rintro m fr st' ⟨acc, a, own, ft, ser, hQ, ha, hm, hne, rfl, hown, rfl⟩
    cases m with
    | zero => exact hQ.elim
    | succ m =>
      simp only [spNamesL] at hQ
      cases hs : isS (tokAt l a) [44] with
      | false =>
        simp only [hs, Bool.false_eq_true, if_false] at hQ
        simp only [b133l0, go_sem, sign_no hid hl ha hs, V_size, V_trunc]
        have := RK_ok hQ ha
        rwa [show eNs acc = .slice 1 (encStr acc) .no by cases acc with | nil => exact absurd rfl hne | cons => rfl] at this
      | true =>
        simp only [hs, if_true] at hQ
        have hlt := isS_lt hs
        simp only [b133l0, go_sem, sign_yes hid hl ha hs]
        refine name_ok hid hl hT (a + 1) _ (by omega) (RK_step hQ (fun s a' ha' hQ => ?_) (fun a' hQ => ?_))
        · have hne2 : ¬ encStr acc = [] := by cases acc with | nil => exact absurd rfl hne | cons => simp [encStr]
          have hb : (acc.length + 1) * 24 ≤ 1099511627776 := by omega
          rcases hown with ⟨rfl, rfl⟩ | ⟨rfl, rfl⟩
          · simp only [go_sem, aappend, grow, elsOf, encStr_length, hb, List.isEmpty_cons]
            exact ⟨m, Nat.lt_succ_self m, acc ++ [s], a', .ftok 0, [acc.length + 1], _, hQ, ha', by simp; omega, by simp, rfl, .inr ⟨rfl, by simp⟩, by rw [encStr_snoc]⟩
          · simp only [go_sem, aappend, grow, elsOf, encStr_length, hb, hne2, List.isEmpty_cons, ne_eq, not_false_eq_true, and_self]
            exact ⟨m, Nat.lt_succ_self m, acc ++ [s], a', .ftok 0, [acc.length + 1], _, hQ, ha', by simp; omega, by simp, rfl, .inr ⟨rfl, by simp⟩, by rw [encStr_snoc]⟩
        · simp only [go_sem, V_size, V_trunc]
          exact hQ
  · simp only [go_sem, V_size, V_trunc]
    exact hQ
end
end Go.Proofs.YtelpkgbghhpgaaaGreatDoor.Sx
end
section
set_option maxRecDepth 100000
namespace Go.Proofs.YtelpkgbghhpgaaaGreatDoor.Sx
section
variable {st : St} {id a : Nat} {l : List Tok} {Q : Res → St → Prop} {o : HObj} {e : Nat → PR Xp}
theorem list_ok (hid : id < st.size) (hl : l.length < 65536) (n : Nat) (hn : n ≤ 65536) (he : ReadsAt eX st id l 56 [.ptr id 0] e) : ReadsAt eXs st id l 180 [.ptr id 0] (spList l e n) := by
  intro a Q ha hQ
  refine callA_body (by rfl) (by rfl) rfl ?_
  simp only [b180, go_sem]
  refine he a _ ha (RK_step hQ (fun s a ha hQ => ?_) (fun a hQ => (by simp only [go_sem, V_size, V_trunc]; exact hQ)))
  simp only [go_sem]
  refine wp_loop (fun m fr st' => ∃ acc a own ft ser, RK eXs st id l Q (spListL l e m acc a) ∧ a ≤ l.length ∧ acc.length + m = n + 1 ∧ acc ≠ [] ∧ st' = V st id l a ∧ ((own = .tight ∧ ft = []) ∨ (own = .ftok 0 ∧ ft = [acc.length])) ∧
    fr = ⟨[(0, .ptr id 0), (3, .slice 7 (encXs acc) own)], [], ft, ser⟩) n ⟨[s], a, _, _, _, hQ, ha, by simp; omega, by simp, rfl, .inl ⟨rfl, rfl⟩, rfl⟩ ?_
  rintro m fr st' ⟨acc, a, own, ft, ser, hQ, ha, hm, hne, rfl, hown, rfl⟩
  cases m with
  | zero => exact hQ.elim
  | succ m =>
    simp only [spListL] at hQ
    cases hs : isS (tokAt l a) [44] with
    | false =>
      simp only [hs, Bool.false_eq_true, if_false] at hQ
      simp only [b180l0, go_sem, sign_no hid hl ha hs, V_size, V_trunc]
      have := RK_ok hQ ha
      rwa [show eXs acc = .slice 7 (encXs acc) .no by cases acc with | nil => exact absurd rfl hne | cons => rfl] at this
    | true =>
      simp only [hs, if_true] at hQ
      have hlt := isS_lt hs
      simp only [b180l0, go_sem, sign_yes hid hl ha hs]
      refine he (a + 1) _ (by omega) (RK_step hQ (fun s a' ha' hQ => ?_) (fun a hQ => (by simp only [go_sem, V_size, V_trunc]; exact hQ)))
      have hne2 : ¬ encXs acc = [] := by cases acc with | nil => exact absurd rfl hne | cons => simp [encXs]
      have hb : (acc.length + 1) * 168 ≤ 1099511627776 := by omega
      rcases hown with ⟨rfl, rfl⟩ | ⟨rfl, rfl⟩
      · simp only [go_sem, aappend, grow, elsOf, encXs_length, hb, List.isEmpty_cons]
        exact ⟨m, Nat.lt_succ_self m, acc ++ [s], a', .ftok 0, [acc.length + 1], _, hQ, ha', by simp; omega, by simp, rfl, .inr ⟨rfl, by simp⟩, by rw [encXs_snoc]⟩
      · simp only [go_sem, aappend, grow, elsOf, encXs_length, hb, hne2, List.isEmpty_cons, ne_eq, not_false_eq_true, and_self]
        exact ⟨m, Nat.lt_succ_self m, acc ++ [s], a', .ftok 0, [acc.length + 1], _, hQ, ha', by simp; omega, by simp, rfl, .inr ⟨rfl, by simp⟩, by rw [encXs_snoc]⟩
theorem macro_ok (hid : id < st.size) (hl : l.length < 65536) (hT : ∀ t ∈ l, TokOk t) (he : ReadsAt eX st id l 56 [.ptr id 0] e) : ReadsAt eX st id l 223 [.ptr id 0] (spMacro l e) := by
  intro a Q ha hQ
  refine callA_body (by rfl) (by rfl) rfl ?_
  unfold spMacro at hQ
  simp only [b223, go_sem]
  refine want_ok hid hl _ a _ ha (RK_step hQ (fun x a ha hQ => ?_) (fun a hQ => (by simp only [go_sem, V_size, V_trunc]; exact hQ)))
  cases h : isS (tokAt l a) [40] with
  | true =>
    simp only [h, if_true] at hQ
    have hlt := isS_lt h
    simp only [go_sem, sign_yes hid hl ha h]
    refine he (a + 1) _ (by omega) (RK_step hQ (fun x a ha hQ => ?_) (fun a hQ => (by simp only [go_sem, V_size, V_trunc]; exact hQ)))
    simp only [go_sem]
    refine want_ok hid hl _ a _ ha (RK_step hQ (fun u a ha hQ => ?_) (fun a hQ => (by simp only [go_sem, V_size, V_trunc]; exact hQ)))
    simp only [go_sem, V_size, V_trunc]
    exact RK_ok hQ ha
  | false =>
    simp only [h, Bool.false_eq_true, if_false] at hQ
    simp only [go_sem, sign_no hid hl ha h]
    refine name_ok hid hl hT a _ ha (RK_step hQ (fun s a ha hQ => ?_) (fun a hQ => (by simp only [go_sem, V_size, V_trunc]; exact hQ)))
    cases h2 : isS (tokAt l a) [46] with
    | true =>
      have hlt := isS_lt h2
      simp only [h2, if_true] at hQ
      simp only [go_sem, sign_yes hid hl ha h2, V_size, V_trunc]
      exact RK_ok hQ (by omega)
    | false =>
      simp only [h2, Bool.false_eq_true, if_false] at hQ
      simp only [go_sem, sign_no hid hl ha h2, V_size, V_trunc]
      exact RK_ok hQ ha
theorem call_ok' (hid : id < st.size) (hl : l.length < 65536) (hT : ∀ t ∈ l, TokOk t) (n : Nat) (hn : n ≤ 65536) (he : ReadsAt eX st id l 56 [.ptr id 0] e) : ReadsAt eX st id l 181 [.ptr id 0] (spCall l e n) := by
  intro a Q ha hQ
  refine callA_body (by rfl) (by rfl) rfl ?_
  unfold spCall at hQ
  simp only [b181, go_sem]
  refine name_ok hid hl hT a _ ha (RK_step hQ (fun s a ha hQ => ?_) (fun a hQ => (by simp only [go_sem, V_size, V_trunc]; exact hQ)))
  simp only [go_sem]
  refine want_ok hid hl _ a _ ha (RK_step hQ (fun u a ha hQ => ?_) (fun a hQ => (by simp only [go_sem, V_size, V_trunc]; exact hQ)))
  cases h : isS (tokAt l a) [41] with
  | true =>
    simp only [h, if_true] at hQ
    have hlt := isS_lt h
    simp only [go_sem, sign_yes hid hl ha h, V_size, V_trunc]
    exact RK_ok hQ (by omega)
  | false =>
    simp only [h, Bool.false_eq_true, if_false] at hQ
    simp only [go_sem, sign_no hid hl ha h]
    refine list_ok hid hl n hn he a _ ha (RK_step hQ (fun x a ha hQ => ?_) (fun a hQ => (by simp only [go_sem, V_size, V_trunc]; exact hQ)))
    simp only [go_sem]
    refine want_ok hid hl _ a _ ha (RK_step hQ (fun u a ha hQ => ?_) (fun a hQ => (by simp only [go_sem, V_size, V_trunc]; exact hQ)))
    simp only [go_sem, V_size, V_trunc]
    exact RK_ok hQ ha
theorem named_ok (hid : id < st.size) (hl : l.length < 65536) (hT : ∀ t ∈ l, TokOk t) (n : Nat) (hn : n ≤ 65536) (he : ReadsAt eX st id l 56 [.ptr id 0] e) : ReadsAt eX st id l 274 [.ptr id 0] (spNamed l e n) := by
  intro a Q ha hQ
  refine callA_body (by rfl) (by rfl) rfl ?_
  unfold spNamed at hQ
  cases h : isS (tokAt l (a + 1)) [40] with
  | true =>
    simp only [h, if_true] at hQ
    simp only [b274, go_sem, ahead1 hid hl ha, isSign_eq, h]
    refine call_ok' hid hl hT n hn he a _ ha (PR.on_mono hQ (fun x a _ hQ ha => ?_) (fun a _ hQ => (by simp only [go_sem, V_size, V_trunc]; exact hQ)))
    simp only [go_sem, V_size, V_trunc]
    exact hQ ha
  | false =>
    simp only [h, Bool.false_eq_true, if_false] at hQ
    simp only [b274, go_sem, ahead1 hid hl ha, isSign_eq, h]
    refine variable_ok hid hl hT a _ ha (RK_step hQ (fun s a ha hQ => ?_) (fun a hQ => (by simp only [go_sem, V_size, V_trunc]; exact hQ)))
    cases h2 : isS (tokAt l a) [45, 62] with
    | true =>
      have hlt := isS_lt h2
      simp only [h2, if_true] at hQ
      cases h3 : isS (tokAt l (a + 1)) [40] with
      | true =>
        have hlt := isS_lt h3
        simp only [h3, if_true] at hQ
        simp only [go_sem, sign_yes hid hl ha h2, sign_yes hid hl (show a + 1 ≤ l.length by omega) h3]
        refine he (a + 2) _ (by omega) (RK_step hQ (fun x a ha hQ => ?_) (fun a hQ => (by simp only [go_sem, V_size, V_trunc]; exact hQ)))
        simp only [go_sem]
        refine want_ok hid hl _ a _ ha (RK_step hQ (fun u a ha hQ => ?_) (fun a hQ => (by simp only [go_sem, V_size, V_trunc]; exact hQ)))
        simp only [go_sem, V_size, V_trunc]
        exact RK_ok hQ ha
      | false =>
        simp only [h3, Bool.false_eq_true, if_false] at hQ
        simp only [go_sem, sign_yes hid hl ha h2, sign_no hid hl (show a + 1 ≤ l.length by omega) h3]
        refine variable_ok hid hl hT (a + 1) _ (by omega) (RK_step hQ (fun f a ha hQ => ?_) (fun a hQ => (by simp only [go_sem, V_size, V_trunc]; exact hQ)))
        simp only [go_sem, V_size, V_trunc]
        exact RK_ok hQ ha
    | false =>
      simp only [h2, Bool.false_eq_true, if_false] at hQ
      simp only [go_sem, sign_no hid hl ha h2, V_size, V_trunc]
      exact RK_ok hQ ha
theorem braced_ok (hid : id < st.size) (hl : l.length < 65536) (hT : ∀ t ∈ l, TokOk t) (n : Nat) (hn : n ≤ 65536) (he : ReadsAt eX st id l 56 [.ptr id 0] e) : ReadsAt eX st id l 289 [.ptr id 0] (spBraced l e n) := by
  intro a Q ha hQ
  refine callA_body (by rfl) (by rfl) rfl ?_
  unfold spBraced at hQ
  cases h : isS (tokAt l a) [124] with
  | true =>
    have hlt := isS_lt h
    simp only [h, if_true] at hQ
    cases h2 : isS (tokAt l (a + 1)) [124] with
    | true =>
      have hlt := isS_lt h2
      simp only [h2, if_true] at hQ
      simp only [b289, go_sem, sign_yes hid hl ha h, sign_yes hid hl (show a + 1 ≤ l.length by omega) h2]
      refine he (a + 2) _ (by omega) (RK_step hQ (fun x a ha hQ => ?_) (fun a hQ => (by simp only [go_sem, V_size, V_trunc]; exact hQ)))
      simp only [go_sem]
      refine want_ok hid hl _ a _ ha (RK_step hQ (fun u a ha hQ => ?_) (fun a hQ => (by simp only [go_sem, V_size, V_trunc]; exact hQ)))
      simp only [go_sem, V_size, V_trunc]
      exact RK_ok hQ ha
    | false =>
      simp only [h2, Bool.false_eq_true, if_false] at hQ
      simp only [b289, go_sem, sign_yes hid hl ha h, sign_no hid hl (show a + 1 ≤ l.length by omega) h2]
      refine names_ok hid hl hT n hn (a + 1) _ (by omega) (RK_step hQ (fun p a ha hQ => ?_) (fun a hQ => (by simp only [go_sem, V_size, V_trunc]; exact hQ)))
      simp only [go_sem]
      refine want_ok hid hl _ a _ ha (RK_step hQ (fun u a ha hQ => ?_) (fun a hQ => (by simp only [go_sem, V_size, V_trunc]; exact hQ)))
      simp only [go_sem]
      refine he a _ ha (RK_step hQ (fun x a ha hQ => ?_) (fun a hQ => (by simp only [go_sem, V_size, V_trunc]; exact hQ)))
      simp only [go_sem]
      refine want_ok hid hl _ a _ ha (RK_step hQ (fun u a ha hQ => ?_) (fun a hQ => (by simp only [go_sem, V_size, V_trunc]; exact hQ)))
      simp only [go_sem, V_size, V_trunc]
      exact RK_ok hQ ha
  | false =>
    simp only [h, Bool.false_eq_true, if_false] at hQ
    simp only [b289, go_sem, sign_no hid hl ha h]
    refine list_ok hid hl n hn he a _ ha (RK_step hQ (fun x a ha hQ => ?_) (fun a hQ => (by simp only [go_sem, V_size, V_trunc]; exact hQ)))
    simp only [go_sem]
    refine want_ok hid hl _ a _ ha (RK_step hQ (fun u a ha hQ => ?_) (fun a hQ => (by simp only [go_sem, V_size, V_trunc]; exact hQ)))
    simp only [go_sem, V_size, V_trunc]
    exact RK_ok hQ ha
end
end Go.Proofs.YtelpkgbghhpgaaaGreatDoor.Sx
end
section
set_option maxRecDepth 100000
namespace Go.Proofs.YtelpkgbghhpgaaaGreatDoor.Sx
theorem wrap_u8 (n : Int) (h : 0 ≤ n) (h2 : n < 256) : IntKind.u8.wrap n = n := by
  simp only [IntKind.wrap, IntKind.signed, IntKind.bits, Bool.false_and, Bool.false_eq_true, if_false]
  have e1 : (2 : Int) ^ 8 = 256 := by decide
  rw [e1]
  exact Int.emod_eq_of_lt h h2
theorem isDig_iff {b : UInt8} : isDig b = true ↔ 48 ≤ b.toNat ∧ b.toNat ≤ 57 := by
  unfold isDig
  simp only [Bool.and_eq_true, decide_eq_true_eq, UInt8.le_iff_toNat_le]
  exact Iff.rfl
theorem numOf_snoc (l : List UInt8) (b : UInt8) : numOf (l ++ [b]) = numOf l * 10 + ((b.toNat : Int) - 48) := by
  simp only [numOf, List.foldl_append, List.foldl_cons, List.foldl_nil]
theorem numOf_take {s : List UInt8} {i : Nat} (h : i < s.length) : numOf (s.take (i + 1)) = numOf (s.take i) * 10 + ((s[i].toNat : Int) - 48) := by
  rw [List.take_add_one, List.getElem?_eq_getElem h]
  exact numOf_snoc _ _
theorem numOf_bound {s : List UInt8} (hd : ∀ c ∈ s, isDig c = true) : ∀ i, i ≤ s.length → 0 ≤ numOf (s.take i) ∧ numOf (s.take i) < 10 ^ i
  | 0, _ => by rw [List.take_zero]; exact ⟨by decide, by decide⟩
  | i + 1, hi => by
    obtain ⟨h1, h2⟩ := numOf_bound hd i (by omega)
    have hb := isDig_iff.1 (hd _ (List.getElem_mem (show i < s.length by omega)))
    rw [numOf_take (by omega)]
    have e : (10 : Int) ^ (i + 1) = 10 ^ i * 10 := Int.pow_succ 10 i
    rw [e]
    omega
theorem pow_le15 {i : Nat} (h : i ≤ 15) : (10 : Int) ^ i ≤ 1000000000000000 := by
  have : (10 : Int) ^ i ≤ 10 ^ 15 := by exact_mod_cast Nat.pow_le_pow_right (by omega) h
  exact this
section
variable {st : St} {Q : Res → St → Prop}
theorem atoiI_eq (s : List UInt8) (h1 : s ≠ []) (h2 : s.length ≤ 15) (h3 : ∀ c ∈ s, isDig c = true) : CallA S 285 [.str s] st Q = Q (.ret (.tuple [.int .i64 (numOf s), .nilIface])) st := by
  refine callA_eq (fun Q hQ => ?_) Q
  refine callA_body (by rfl) (by rfl) rfl ?_
  obtain ⟨b, h0⟩ : ∃ b, s[0]? = some b := by cases s with | nil => exact absurd rfl h1 | cons b t => exact ⟨b, rfl⟩
  have hb := isDig_iff.1 (h3 b (List.mem_of_getElem? h0))
  have hpos : 0 < s.length := (List.getElem?_eq_some_iff.1 h0).1
  have g1 : (0 : Int) < (s.length : Int) := by omega
  have g2 : (s.length : Int) < 19 := by omega
  have g3 : ¬ (s.length : Int) < 1 := by omega
  have g4 : ((b.toNat : Int) == 45) = false := by simp; omega
  have g5 : ((b.toNat : Int) == 43) = false := by simp; omega
  have g6 : s.length ≤ 1099511627776 := by omega
  simp only [b285, go_sem, h0, g1, g2, g3, g4, g5, g6]
  refine wp_loop (fun n fr st' => st' = st ∧ ∃ (i ser : Nat), n + i = s.length ∧
    fr = ⟨[(5, .str s), (6, .int .i64 (numOf (s.take i))), (47, .slice 1 (s.map fun b => [.int .u8 (b.toNat : Int)]) .no), (48, .int .i64 (s.length : Int)), (49, .int .i64 (i : Int))], [], [], ser⟩) s.length ⟨rfl, 0, _, rfl, by rw [List.take_zero, List.length_map]; rfl⟩ ?_
  rintro n fr st' ⟨rfl, i, ser, hn, rfl⟩
  by_cases h : (i : Int) < (s.length : Int)
  · have hi : i < s.length := by omega
    have hd := isDig_iff.1 (h3 _ (List.getElem_mem hi))
    have hel : elA 1 (i : Int) (.slice 1 (s.map fun b => [.int .u8 (b.toNat : Int)]) .no) = some [.int .u8 (s[i].toNat : Int)] := by
      have := elA_sl (nil := false) (sz := 1) (els := s.map fun b => [AV.int .u8 (b.toNat : Int)]) (i := i) (by simpa using hi)
      simpa [encSl] using this
    obtain ⟨n1, n2⟩ := numOf_bound h3 i (by omega)
    have hp := pow_le15 (show i ≤ 15 by omega)
    have e1 : IntKind.u8.wrap ((s[i].toNat : Int) - 48) = (s[i].toNat : Int) - 48 := wrap_u8 _ (by omega) (by omega)
    have e2 : ¬ ((s[i].toNat : Int) - 48 > 9) := by omega
    have e3 : IntKind.i64.wrap (numOf (s.take i) * 10) = numOf (s.take i) * 10 := wrap_int _ (by omega) (by omega)
    have e4 : IntKind.i64.wrap ((s[i].toNat : Int) - 48) = (s[i].toNat : Int) - 48 := wrap_int _ (by omega) (by omega)
    have e5 : IntKind.i64.wrap (numOf (s.take i) * 10 + ((s[i].toNat : Int) - 48)) = numOf (s.take (i + 1)) := by
      rw [numOf_take hi]; exact wrap_int _ (by omega) (by omega)
    simp only [b285l0, go_sem, h, hel, e1, e2, e3, e4, e5, wrap_one i (by omega)]
    exact ⟨n - 1, by omega, i + 1, _, by omega, rfl⟩
  · have e : s.take i = s := List.take_of_length_le (by omega)
    rw [← e] at hQ
    simp only [b285l0, go_sem, h, h0, g4, trunc_self]
    exact hQ
theorem atoi_eq (s : List UInt8) (h1 : s ≠ []) (h2 : s.length ≤ 15) (h3 : ∀ c ∈ s, isDig c = true) : CallA S 272 [.str s] st Q = Q (.ret (.tuple [.int .i64 (numOf s), .nilIface])) st := by
  refine callA_eq (fun Q hQ => ?_) Q
  refine callA_body (by rfl) (by rfl) rfl ?_
  simp only [b272, go_sem, atoiI_eq s h1 h2 h3, trunc_self]
  exact hQ
end
end Go.Proofs.YtelpkgbghhpgaaaGreatDoor.Sx
end
