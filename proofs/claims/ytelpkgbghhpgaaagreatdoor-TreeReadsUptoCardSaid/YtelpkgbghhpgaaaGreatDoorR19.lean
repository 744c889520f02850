/- TreeReads returns true for all texts whose data are not larger than a bound. The plain machine: functions that are no plain code, by what they answer. Definitions alone. A run told as an equation: what behind a call is wanted, is wanted of its answer. The words of statements, in order. Tokens and expressions as plain Lean data, and how they lie in the plain machine. The plain machine of this program: the plain code of its functions, and the functions that are no plain code. The program's reader of tokens: what its small functions do. -/
import Derived.Test.YtelpkgbghhpgaaaGreatDoorR14
import Derived.Test.YtelpkgbghhpgaaaGreatDoorR15
import Derived.Test.YtelpkgbghhpgaaaGreatDoorR17
import Derived.Test.YtelpkgbghhpgaaaGreatDoorR18
import Derived.Lib.Fields
import Derived.Lib.MapU
set_option linter.all false
section
namespace Go.Proofs.YtelpkgbghhpgaaaGreatDoor.Sx
def codeTab (f : Nat) : Option AFunc :=
  if f < 124 then (if f < 66 then (if f < 31 then (if f < 12 then (if f < 7 then (if f < 5 then (if f < 4 then (if f = 3 then some a3 else none) else (if f = 4 then some a4 else none)) else (if f < 6 then (if f = 5 then some a5 else none) else (if f = 6 then some a6 else none))) else (if f < 9 then (if f < 8 then (if f = 7 then some a7 else none) else (if f = 8 then some a8 else none)) else (if f < 10 then (if f = 9 then some a9 else none) else (if f < 11 then (if f = 10 then some a10 else none) else (if f = 11 then some a11 else none))))) else (if f < 26 then (if f < 23 then (if f < 22 then (if f = 12 then some a12 else none) else (if f = 22 then some a22 else none)) else (if f < 24 then (if f = 23 then some a23 else none) else (if f < 25 then (if f = 24 then some a24 else none) else (if f = 25 then some a25 else none)))) else (if f < 28 then (if f < 27 then (if f = 26 then some a26 else none) else (if f = 27 then some a27 else none)) else (if f < 29 then (if f = 28 then some a28 else none) else (if f < 30 then (if f = 29 then some a29 else none) else (if f = 30 then some a30 else none)))))) else (if f < 56 then (if f < 36 then (if f < 33 then (if f < 32 then (if f = 31 then some a31 else none) else (if f = 32 then some a32 else none)) else (if f < 34 then (if f = 33 then some a33 else none) else (if f < 35 then (if f = 34 then some a34 else none) else (if f = 35 then some a35 else none)))) else (if f < 52 then (if f < 51 then (if f = 36 then some a36 else none) else (if f = 51 then some a51 else none)) else (if f < 53 then (if f = 52 then some a52 else none) else (if f < 55 then (if f = 53 then some a53 else none) else (if f = 55 then some a55 else none))))) else (if f < 61 then (if f < 58 then (if f < 57 then (if f = 56 then some a56 else none) else (if f = 57 then some a57 else none)) else (if f < 59 then (if f = 58 then some a58 else none) else (if f < 60 then (if f = 59 then some a59 else none) else (if f = 60 then some a60 else none)))) else (if f < 63 then (if f < 62 then (if f = 61 then some a61 else none) else (if f = 62 then some a62 else none)) else (if f < 64 then (if f = 63 then some a63 else none) else (if f < 65 then (if f = 64 then some a64 else none) else (if f = 65 then some a65 else none))))))) else (if f < 97 then (if f < 87 then (if f < 73 then (if f < 68 then (if f < 67 then (if f = 66 then some a66 else none) else (if f = 67 then some a67 else none)) else (if f < 69 then (if f = 68 then some a68 else none) else (if f < 72 then (if f = 69 then some a69 else none) else (if f = 72 then some a72 else none)))) else (if f < 75 then (if f < 74 then (if f = 73 then some a73 else none) else (if f = 74 then some a74 else none)) else (if f < 84 then (if f = 75 then some a75 else none) else (if f < 86 then (if f = 84 then some a84 else none) else (if f = 86 then some a86 else none))))) else (if f < 92 then (if f < 89 then (if f < 88 then (if f = 87 then some a87 else none) else (if f = 88 then some a88 else none)) else (if f < 90 then (if f = 89 then some a89 else none) else (if f < 91 then (if f = 90 then some a90 else none) else (if f = 91 then some a91 else none)))) else (if f < 94 then (if f < 93 then (if f = 92 then some a92 else none) else (if f = 93 then some a93 else none)) else (if f < 95 then (if f = 94 then some a94 else none) else (if f < 96 then (if f = 95 then some a95 else none) else (if f = 96 then some a96 else none)))))) else (if f < 114 then (if f < 109 then (if f < 99 then (if f < 98 then (if f = 97 then some a97 else none) else (if f = 98 then some a98 else none)) else (if f < 100 then (if f = 99 then some a99 else none) else (if f < 101 then (if f = 100 then some a100 else none) else (if f = 101 then some a101 else none)))) else (if f < 111 then (if f < 110 then (if f = 109 then some a109 else none) else (if f = 110 then some a110 else none)) else (if f < 112 then (if f = 111 then some a111 else none) else (if f < 113 then (if f = 112 then some a112 else none) else (if f = 113 then some a113 else none))))) else (if f < 119 then (if f < 116 then (if f < 115 then (if f = 114 then some a114 else none) else (if f = 115 then some a115 else none)) else (if f < 117 then (if f = 116 then some a116 else none) else (if f < 118 then (if f = 117 then some a117 else none) else (if f = 118 then some a118 else none)))) else (if f < 121 then (if f < 120 then (if f = 119 then some a119 else none) else (if f = 120 then some a120 else none)) else (if f < 122 then (if f = 121 then some a121 else none) else (if f < 123 then (if f = 122 then some a122 else none) else (if f = 123 then some a123 else none)))))))) else (if f < 184 then (if f < 163 then (if f < 134 then (if f < 129 then (if f < 126 then (if f < 125 then (if f = 124 then some a124 else none) else (if f = 125 then some a125 else none)) else (if f < 127 then (if f = 126 then some a126 else none) else (if f < 128 then (if f = 127 then some a127 else none) else (if f = 128 then some a128 else none)))) else (if f < 131 then (if f < 130 then (if f = 129 then some a129 else none) else (if f = 130 then some a130 else none)) else (if f < 132 then (if f = 131 then some a131 else none) else (if f < 133 then (if f = 132 then some a132 else none) else (if f = 133 then some a133 else none))))) else (if f < 157 then (if f < 139 then (if f < 137 then (if f = 134 then some a134 else none) else (if f = 137 then some a137 else none)) else (if f < 140 then (if f = 139 then some a139 else none) else (if f < 156 then (if f = 140 then some a140 else none) else (if f = 156 then some a156 else none)))) else (if f < 160 then (if f < 158 then (if f = 157 then some a157 else none) else (if f = 158 then some a158 else none)) else (if f < 161 then (if f = 160 then some a160 else none) else (if f < 162 then (if f = 161 then some a161 else none) else (if f = 162 then some a162 else none)))))) else (if f < 173 then (if f < 168 then (if f < 165 then (if f < 164 then (if f = 163 then some a163 else none) else (if f = 164 then some a164 else none)) else (if f < 166 then (if f = 165 then some a165 else none) else (if f < 167 then (if f = 166 then some a166 else none) else (if f = 167 then some a167 else none)))) else (if f < 170 then (if f < 169 then (if f = 168 then some a168 else none) else (if f = 169 then some a169 else none)) else (if f < 171 then (if f = 170 then some a170 else none) else (if f < 172 then (if f = 171 then some a171 else none) else (if f = 172 then some a172 else none))))) else (if f < 178 then (if f < 175 then (if f < 174 then (if f = 173 then some a173 else none) else (if f = 174 then some a174 else none)) else (if f < 176 then (if f = 175 then some a175 else none) else (if f < 177 then (if f = 176 then some a176 else none) else (if f = 177 then some a177 else none)))) else (if f < 181 then (if f < 180 then (if f = 178 then some a178 else none) else (if f = 180 then some a180 else none)) else (if f < 182 then (if f = 181 then some a181 else none) else (if f < 183 then (if f = 182 then some a182 else none) else (if f = 183 then some a183 else none))))))) else (if f < 270 then (if f < 225 then (if f < 213 then (if f < 210 then (if f < 209 then (if f = 184 then some a184 else none) else (if f = 209 then some a209 else none)) else (if f < 211 then (if f = 210 then some a210 else none) else (if f < 212 then (if f = 211 then some a211 else none) else (if f = 212 then some a212 else none)))) else (if f < 215 then (if f < 214 then (if f = 213 then some a213 else none) else (if f = 214 then some a214 else none)) else (if f < 223 then (if f = 215 then some a215 else none) else (if f < 224 then (if f = 223 then some a223 else none) else (if f = 224 then some a224 else none))))) else (if f < 245 then (if f < 242 then (if f < 226 then (if f = 225 then some a225 else none) else (if f = 226 then some a226 else none)) else (if f < 243 then (if f = 242 then some a242 else none) else (if f < 244 then (if f = 243 then some a243 else none) else (if f = 244 then some a244 else none)))) else (if f < 247 then (if f < 246 then (if f = 245 then some a245 else none) else (if f = 246 then some a246 else none)) else (if f < 256 then (if f = 247 then some a247 else none) else (if f < 269 then (if f = 256 then some a256 else none) else (if f = 269 then some a269 else none)))))) else (if f < 287 then (if f < 275 then (if f < 272 then (if f < 271 then (if f = 270 then some a270 else none) else (if f = 271 then some a271 else none)) else (if f < 273 then (if f = 272 then some a272 else none) else (if f < 274 then (if f = 273 then some a273 else none) else (if f = 274 then some a274 else none)))) else (if f < 277 then (if f < 276 then (if f = 275 then some a275 else none) else (if f = 276 then some a276 else none)) else (if f < 284 then (if f = 277 then some a277 else none) else (if f < 285 then (if f = 284 then some a284 else none) else (if f = 285 then some a285 else none))))) else (if f < 292 then (if f < 289 then (if f < 288 then (if f = 287 then some a287 else none) else (if f = 288 then some a288 else none)) else (if f < 290 then (if f = 289 then some a289 else none) else (if f < 291 then (if f = 290 then some a290 else none) else (if f = 291 then some a291 else none)))) else (if f < 294 then (if f < 293 then (if f = 292 then some a292 else none) else (if f = 293 then some a293 else none)) else (if f < 295 then (if f = 294 then some a294 else none) else (if f < 303 then (if f = 295 then some a295 else none) else (if f = 303 then some a303 else none))))))))
end Go.Proofs.YtelpkgbghhpgaaaGreatDoor.Sx
end
section
namespace Go.Proofs.YtelpkgbghhpgaaaGreatDoor.Sx
abbrev IntrFn := CallFn → List AV → St → Option (Res × St)
def isAscii (s : List UInt8) : Bool := s.all fun b => b < 128
def iFields : IntrFn := fun _ vs st => match vs with
  | [.str s] => if isAscii s && decide (s.length < 4294967281) then some (.ret (.slice 1 ((Lib.fields s).map fun x => [.str x]) .no), st) else none
  | _ => none
def upB (b : UInt8) : UInt8 := if 97 ≤ b && b ≤ 122 then b - 32 else b
def upperS (s : List UInt8) : List UInt8 := if isAscii s = true then s.map upB else Lib.toUpperD s
def iUpper : IntrFn := fun _ vs st => match vs with
  | [.str s] => if s.length < 1048576 then some (.ret (.str (upperS s)), st) else none
  | _ => none
def iCaps : IntrFn := fun _ vs st => match vs with
  | [.str s] => if s.length < 1048576 then some (.ret (.str (s.map upB)), st) else none
  | _ => none
def indexB (b : UInt8) : List UInt8 → Nat → Int
  | [], _ => -1
  | c :: l, n => if c = b then n else indexB b l (n + 1)
def iTexts (ws : List (List UInt8)) : IntrFn := fun _ vs st => match vs with
  | [] => some (.ret (.slice 1 (ws.map fun x => [.str x]) .no), st)
  | _ => none
def iIndexByte : IntrFn := fun _ vs st => match vs with
  | [.str s, .int .u8 n] => if 0 ≤ n ∧ n < 256 then some (.ret (.int .i64 (indexB (UInt8.ofNat n.toNat) s 0)), st) else none
  | _ => none
def concatE (sz : Nat) : List (List AV) → Option (List (List AV))
  | [] => some []
  | [v] :: r => match elsOf sz v, concatE sz r with | some a, some b => some (a ++ b) | _, _ => none
  | _ => none
def trimL (s cs : List UInt8) : List UInt8 := s.dropWhile (cs.contains ·)
def trimA (s cs : List UInt8) : List UInt8 := trimL (s.reverse.dropWhile (cs.contains ·)).reverse cs
def iTrim : IntrFn := fun _ vs st => match vs with
  | [.str s, .str cs] => if isAscii cs && decide (s.length < 1099511627776) && decide (cs.length < 65536) then some (.ret (.str (trimA s cs)), st) else none
  | _ => none
def iConcat (sz bytes : Nat) : IntrFn := fun _ vs st => match vs with
  | [.slice 1 l _] => if l.length < 1099511627776 then match concatE sz l with
    | some [] => some (.ret .nilslice, st)
    | some els => if els.length * bytes ≤ 1099511627776 then some (.ret (.slice sz els .no), st) else none
    | none => none
    else none
  | _ => none
def caught (stop : Nat) (st : St) : Option (Res × St) → Option (Res × St)
  | some (.panic (.iface t (.agg [.int .i64 k])), st2) => if t = stop then some (.ret (.int .i64 k), st2.trunc st.size) else none
  | _ => none
def iRun (words fail stop : Nat) : IntrFn := fun call vs st => match vs with
  | [l, .func (.func f) first captured] =>
    match elsOf 3 l with
    | some els =>
      if first.all AV.out0 && captured.all AV.out0 && l.plain1 then
        match call words [] st with
        | some (.ret (.slice sz ls .no), st1) =>
          match call f (first ++ [.ptr st1.size 0] ++ captured) (st1.push (.cells [l, .int .i64 0, .slice sz ls .no, .nilslice])) with
          | some (.ret _, st2) => (match st2.cells st1.size with
            | some [_, .int .i64 k, _, _] => if k < els.length then caught stop st (call fail [.ptr st1.size 0] st2) else some (.ret (.int .i64 (-1)), st2.trunc st.size)
            | _ => none)
          | some (.panic v, st2) => caught stop st (some (.panic v, st2))
          | none => none
        | _ => none
      else none
    | none => none
  | _ => none
def boxIs (st : St) (box s o : Nat) : Bool := match st.cells box with
  | some [.ptr s' o'] => s' == s && o' == o
  | _ => false
def collectN (call : CallFn) (next box s o : Nat) : Nat → List (List AV) → St → Option (List (List AV) × St)
  | 0, _, _ => none
  | n + 1, acc, st => match call next [.ptr s o] st with
    | some (.ret (.tuple [.agg t, .bool true]), st') => if t.length = 3 ∧ t.all AV.plain1 = true ∧ st'.size = st.size ∧ (acc.length + 1) * 72 ≤ 1099511627776 ∧ boxIs st' box s o = true then collectN call next box s o n (acc ++ [t]) st' else none
    | some (.ret (.tuple [.agg t, .bool false]), st') => if t.length = 3 ∧ st'.size = st.size then some (acc, st') else none
    | _ => none
def iAppendSeq (n all next : Nat) : IntrFn := fun call vs st => match vs with
  | [.nilslice, .func (.func f) [] [.ptr id 0]] => if f = all then
      (match st.cells id with
      | some [.ptr s o] =>
          (match collectN call next id s o n [] st with
          | some (els, st') => some (.ret (if els.isEmpty then .nilslice else .slice 3 els .no), st')
          | none => none)
      | _ => none) else none
  | _ => none
def IntrMono (k : IntrFn) : Prop := ∀ c c', CallLe c c' → ∀ vs st r, k c vs st = some r → k c' vs st = some r
theorem mono_const {k : IntrFn} (h : ∀ c c', k c = k c') : IntrMono k := fun c c' _ vs st r hr => by rw [h c' c]; exact hr
theorem iFields_mono : IntrMono iFields := mono_const fun _ _ => rfl
theorem iCaps_mono : IntrMono iCaps := mono_const fun _ _ => rfl
theorem iUpper_mono : IntrMono iUpper := mono_const fun _ _ => rfl
theorem iTexts_mono (ws : List (List UInt8)) : IntrMono (iTexts ws) := mono_const fun _ _ => rfl
theorem iTrim_mono : IntrMono iTrim := mono_const fun _ _ => rfl
theorem iIndexByte_mono : IntrMono iIndexByte := mono_const fun _ _ => rfl
theorem iConcat_mono (sz bytes : Nat) : IntrMono (iConcat sz bytes) := mono_const fun _ _ => rfl
theorem iRun_mono (words fail stop : Nat) : IntrMono (iRun words fail stop) := fun c c' h vs st r hr => by
  unfold iRun at hr ⊢
  split at hr
  case h_2 => cases hr
  rename_i l f first captured
  split at hr
  case h_2 => cases hr
  rename_i els he
  split at hr
  case isFalse => cases hr
  rename_i hc
  split at hr
  case h_2 => cases hr
  rename_i sz ls st1 h1
  simp only [hc, h _ _ _ _ h1, if_true]
  split at hr
  · rename_i v st2 h2
    simp only [h _ _ _ _ h2]
    split at hr
    · rename_i k _ _ hk
      split at hr
      · rename_i hlt
        rw [if_pos hlt]
        cases h3 : c fail [.ptr st1.size 0] st2 with
        | none => rw [h3] at hr; cases hr
        | some x => rw [h3] at hr; rw [h _ _ _ _ h3]; exact hr
      · rename_i hlt
        rw [if_neg hlt]; exact hr
    · cases hr
  · rename_i v st2 h2; simp only [h _ _ _ _ h2]; exact hr
  · cases hr
theorem collectN_mono {c c' : CallFn} (h : CallLe c c') (next box s o : Nat) : ∀ (n : Nat) (acc : List (List AV)) (st : St) r, collectN c next box s o n acc st = some r → collectN c' next box s o n acc st = some r
  | 0, _, _, _, hr => by simp [collectN] at hr
  | n + 1, acc, st, r, hr => by
    simp only [collectN] at hr ⊢
    split at hr
    · rename_i t st' h1
      simp only [h _ _ _ _ h1]
      split at hr
      · rename_i hc; rw [if_pos hc]; exact collectN_mono h next box s o n _ _ _ hr
      · cases hr
    · rename_i x st' h1
      simp only [h _ _ _ _ h1]
      exact hr
    · cases hr
theorem iAppendSeq_mono (n all next : Nat) : IntrMono (iAppendSeq n all next) := fun c c' h vs st r hr => by
  unfold iAppendSeq at hr ⊢
  split at hr
  case h_2 => cases hr
  rename_i f id
  split at hr
  case isFalse => cases hr
  rename_i hf
  rw [if_pos hf]
  split at hr
  case h_2 => cases hr
  rename_i s o ha
  split at hr
  case h_2 => cases hr
  rename_i els st' h1
  rw [collectN_mono h next id s o n _ _ _ h1]
  exact hr
end Go.Proofs.YtelpkgbghhpgaaaGreatDoor.Sx
end
section
namespace Go.Proofs.YtelpkgbghhpgaaaGreatDoor.Sx
theorem CallA.iff_of {S : Sim} {n f : Nat} {args : List AV} {st st' : St} {r : Res} (h : S.call n f args st = some (r, st')) (Q : Res → St → Prop) : CallA S f args st Q = Q r st' := by
  apply propext
  constructor
  · rintro ⟨m, r2, s2, h2, hq⟩
    have a := call_le S (Nat.le_max_left n m) _ _ _ _ h
    have b := call_le S (Nat.le_max_right n m) _ _ _ _ h2
    rw [a] at b
    cases b
    exact hq
  · exact fun hq => ⟨n, r, st', h, hq⟩
theorem callA_eq {S : Sim} {f : Nat} {args : List AV} {st st' : St} {r : Res} (h : ∀ Q : Res → St → Prop, Q r st' → CallA S f args st Q) (Q : Res → St → Prop) : CallA S f args st Q = Q r st' := by
  obtain ⟨n, r2, s2, h1, h2, h3⟩ := h (fun a b => a = r ∧ b = st') ⟨rfl, rfl⟩
  subst h2 h3
  exact CallA.iff_of h1 Q
theorem callA_intr {S : Sim} {f n : Nat} {args : List AV} {st st' : St} {r : Res} {k : CallFn → List AV → St → Option (Res × St)} (hi : S.intr f = some k) (h : k (S.call n) args st = some (r, st')) (Q : Res → St → Prop) :
    CallA S f args st Q = Q r st' := CallA.iff_of (n := n + 1) (by rw [Sim.call]; simp only [hi]; exact h) Q
theorem byte_all {p : UInt8 → Bool} (h : (List.range 256).all (fun n => p (UInt8.ofNat n)) = true) (b : UInt8) : p b = true := by
  have := List.all_eq_true.1 h b.toNat (List.mem_range.2 b.toNat_lt)
  simpa using this
mutual
theorem AV.beq_refl : ∀ v : AV, v.beq v = true
  | .int k n => by simp [AV.beq]
  | .bool b => by simp [AV.beq]
  | .str s => by simp [AV.beq]
  | .ptr i o => by simp [AV.beq]
  | .lptr l s o => by simp [AV.beq]
  | .vptr cs => by simp only [AV.beq]; exact AV.beqL_refl cs
  | .nilptr => rfl
  | .slice sz e o => by simp only [AV.beq, AV.beqLL_refl e]; simp
  | .nilslice => rfl
  | .mapr i => by simp [AV.beq]
  | .nilmap => rfl
  | .agg cs => by simp only [AV.beq]; exact AV.beqL_refl cs
  | .tuple cs => by simp only [AV.beq]; exact AV.beqL_refl cs
  | .iface t v => by simp only [AV.beq, AV.beq_refl v]; simp
  | .nilIface => rfl
  | .func f a b => by simp only [AV.beq, AV.beqL_refl a, AV.beqL_refl b]; simp
  | .nilFunc => rfl
  | .junk => rfl
theorem AV.beqL_refl : ∀ l : List AV, AV.beqL l l = true
  | [] => rfl
  | v :: l => by simp only [AV.beqL, AV.beq_refl v, AV.beqL_refl l]; rfl
theorem AV.beqLL_refl : ∀ l : List (List AV), AV.beqLL l l = true
  | [] => rfl
  | v :: l => by simp only [AV.beqLL, AV.beqL_refl v, AV.beqLL_refl l]; rfl
end
theorem natCast_nn (n : Nat) : ((0 : Int) ≤ (n : Int)) = True := by simp
attribute [go_sem] AV.beq_refl natCast_nn
section
variable {st : St} {id id2 : Nat} {cs cs' : List AV} {o : HObj}
theorem cells_set (h : id < st.size) : (st.setCells id cs).cells id = some cs := by simp [St.cells, St.setCells, show id < st.objs.length from h]
theorem cells_set_ne (h : id ≠ id2) : (st.setCells id cs).cells id2 = st.cells id2 := by simp [St.cells, St.setCells, List.getElem?_set_ne h]
theorem set_set : (st.setCells id cs).setCells id cs' = st.setCells id cs' := by simp [St.setCells]
theorem size_set : (st.setCells id cs).size = st.size := by simp [St.setCells, St.size]
theorem size_push : (st.push o).size = st.size + 1 := by simp [St.push, St.size]
theorem trunc_self : st.trunc st.size = st := by cases st; simp [St.trunc, St.size]
theorem trunc_set : (st.setCells id cs).trunc st.size = st.setCells id cs := by
  have := trunc_self (st := st.setCells id cs); rwa [size_set] at this
theorem cells_push (h : id < st.size) : (st.push o).cells id = st.cells id := by
  simp only [St.cells, St.push]; rw [List.getElem?_append_left h]
theorem cells_new : (st.push (.cells cs)).cells st.size = some cs := by simp [St.cells, St.push, St.size]
theorem set_push (h : id < st.size) : (st.push o).setCells id cs = (st.setCells id cs).push o := by
  simp only [St.setCells, St.push]; congr 1; exact List.set_append_left _ _ h
theorem set_new : (st.push o).setCells st.size cs = st.push (.cells cs) := by
  simp only [St.setCells, St.push, St.size]; congr 1; rw [List.set_append_right _ _ (Nat.le_refl _)]; simp
theorem trunc_push : (st.push o).trunc st.size = st := by cases st; simp [St.trunc, St.push, St.size]
theorem cells_lt (h : st.cells id = some cs) : id < st.size := by
  unfold St.cells at h
  split at h
  · rename_i h1; exact (List.getElem?_eq_some_iff.1 h1).1
  · cases h
theorem set_same (h : st.cells id = some cs) : st.setCells id cs = st := by
  unfold St.cells at h
  split at h
  · rename_i c h1
    cases h
    cases st
    rename_i objs
    obtain ⟨h2, h3⟩ := List.getElem?_eq_some_iff.1 h1
    simp only [St.setCells] at *
    congr 1
    apply List.ext_getElem?
    intro i
    by_cases hi : id = i
    · subst hi; rw [List.getElem?_set_self h2, h1]
    · rw [List.getElem?_set_ne hi]
  · cases h
end
theorem wrap_nat (n : Nat) (h : n < 9223372036854775808) : IntKind.i64.wrap (n : Int) = n := by
  have e1 : (2 : Int) ^ 64 = 18446744073709551616 := by decide
  have e2 : (2 : Int) ^ (64 - 1) = 9223372036854775808 := by decide
  simp only [IntKind.wrap, IntKind.signed, IntKind.bits, Bool.true_and, decide_eq_true_eq, e1, e2]
  split <;> omega
theorem wrap_add (n : Nat) (k : Nat) (h : n + k < 9223372036854775808) : IntKind.i64.wrap ((n : Int) + k) = ((n + k : Nat) : Int) := by
  rw [← wrap_nat (n + k) h]; simp
theorem wrap_one (n : Nat) (h : n + 1 < 9223372036854775808) : IntKind.i64.wrap ((n : Int) + 1) = ((n + 1 : Nat) : Int) := wrap_add n 1 h
theorem wrap_int (n : Int) (h : -9223372036854775808 ≤ n) (h2 : n < 9223372036854775808) : IntKind.i64.wrap n = n := by
  have e1 : (2 : Int) ^ 64 = 18446744073709551616 := by decide
  have e2 : (2 : Int) ^ (64 - 1) = 9223372036854775808 := by decide
  simp only [IntKind.wrap, IntKind.signed, IntKind.bits, Bool.true_and, decide_eq_true_eq, e1, e2]
  split <;> omega
end Go.Proofs.YtelpkgbghhpgaaaGreatDoor.Sx
end
section
namespace Go.Proofs.YtelpkgbghhpgaaaGreatDoor.Sx
def theWords : List (List UInt8) := [
  [65, 76, 73, 65, 83],
  [65, 76, 76],
  [65, 80, 80, 69, 78, 68],
  [66, 69, 71, 73, 78],
  [66, 76, 65, 78, 75],
  [66, 79, 84, 84, 79, 77],
  [66, 82, 69, 65, 75],
  [67, 65, 78, 68, 73, 68, 65, 84, 69],
  [67, 65, 83, 69],
  [67, 79, 78, 84, 73, 78, 85, 69],
  [67, 79, 85, 78, 84],
  [68, 69, 76, 69, 84, 69],
  [68, 69, 76, 69, 84, 69, 68],
  [68, 69, 83, 67, 69, 78, 68, 73, 78, 71],
  [68, 79],
  [69, 76, 83, 69],
  [69, 76, 83, 69, 73, 70],
  [69, 78, 68],
  [69, 78, 68, 67, 65, 83, 69],
  [69, 78, 68, 68, 79],
  [69, 78, 68, 73, 70],
  [69, 88, 65, 67, 84],
  [69, 88, 73, 84],
  [70, 73, 76, 84, 69, 82],
  [70, 79, 82],
  [70, 85, 78, 67, 84, 73, 79, 78],
  [71, 79],
  [73, 70],
  [73, 78, 68, 69, 88],
  [73, 78, 84, 79],
  [76, 79, 67, 65, 76],
  [76, 79, 67, 65, 84, 69],
  [76, 79, 79, 80],
  [78, 69, 88, 84],
  [79, 70, 70],
  [79, 78],
  [79, 82, 68, 69, 82],
  [79, 84, 72, 69, 82, 87, 73, 83, 69],
  [80, 65, 67, 75],
  [80, 82, 73, 86, 65, 84, 69],
  [80, 82, 79, 67, 69, 68, 85, 82, 69],
  [80, 85, 66, 76, 73, 67],
  [82, 69, 67, 65, 76, 76],
  [82, 69, 67, 79, 82, 68],
  [82, 69, 67, 79, 86, 69, 82],
  [82, 69, 76, 65, 84, 73, 79, 78],
  [82, 69, 80, 76, 65, 67, 69],
  [82, 69, 83, 84],
  [82, 69, 84, 85, 82, 78],
  [83, 69, 69, 75],
  [83, 69, 76, 69, 67, 84],
  [83, 69, 81, 85, 69, 78, 67, 69],
  [83, 69, 84],
  [83, 75, 73, 80],
  [83, 84, 65, 84, 73, 67],
  [83, 84, 69, 80],
  [83, 85, 77],
  [84, 65, 71],
  [84, 79],
  [84, 79, 80],
  [85, 78, 73, 81, 85, 69],
  [85, 83, 69],
  [85, 83, 73, 78, 71],
  [87, 72, 73, 76, 69],
  [87, 73, 84, 72],
  [90, 65, 80]]
end Go.Proofs.YtelpkgbghhpgaaaGreatDoor.Sx
end
section
namespace Go.Proofs.YtelpkgbghhpgaaaGreatDoor.Sx
structure Tok where
  kind : Int
  at_ : Int
  text : List UInt8
def encT (t : Tok) : List AV := [.int .i64 t.kind, .int .i64 t.at_, .str t.text]
def noTok : Tok := ⟨-1, 0, []⟩
def tokAt (l : List Tok) (i : Nat) : Tok := l.getD i noTok
inductive Xp where
  | mk (op : Int) (s : List UInt8) (vk vn : Int) (vs : List UInt8) (pn : Bool) (p : List (List UInt8)) (ln : Bool) (l : List Xp)
mutual
def encX : Xp → List AV
  | .mk op s vk vn vs pn p ln l => [.int .i64 op, .str s, .int .i64 vk, .int .i64 vn, .str vs, encSl pn 1 (p.map fun x => [.str x]), encSl ln 7 (encXs l)]
def encXs : List Xp → List (List AV)
  | [] => []
  | x :: l => encX x :: encXs l
end
def encNames (l : List (List UInt8)) : AV := encSl true 1 (l.map fun x => [.str x])
theorem encX_mk (op : Int) (s : List UInt8) (vk vn : Int) (vs : List UInt8) (pn : Bool) (p : List (List UInt8)) (ln : Bool) (l : List Xp) :
    encX (.mk op s vk vn vs pn p ln l) = [.int .i64 op, .str s, .int .i64 vk, .int .i64 vn, .str vs, encSl pn 1 (p.map fun x => [.str x]), encSl ln 7 (encXs l)] := rfl
theorem encXs_eq : ∀ l : List Xp, encXs l = l.map encX
  | [] => rfl
  | x :: l => by rw [encXs, encXs_eq l]; rfl
theorem encXs_length (l : List Xp) : (encXs l).length = l.length := by rw [encXs_eq, List.length_map]
theorem encXs_snoc (l : List Xp) (x : Xp) : encXs l ++ [encX x] = encXs (l ++ [x]) := by rw [encXs_eq, encXs_eq, List.map_append]; rfl
theorem encX_length (x : Xp) : (encX x).length = 7 := by cases x; rfl
theorem encX_strip1 (x : Xp) : (encX x).map AV.strip1 = encX x := by cases x; simp only [encX_mk, List.map_cons, List.map_nil, go_sem]
theorem encX_stripC (x : Xp) : (encX x).map AV.stripC = encX x := by cases x; simp only [encX_mk, List.map_cons, List.map_nil, go_sem]
theorem encX_okIn (x : Xp) : (encX x).all AV.okIn = true := by cases x; simp only [encX_mk, go_sem]
theorem encX_okC (x : Xp) : (encX x).all AV.okC = true := by cases x; simp only [encX_mk, go_sem]
theorem encX_out1 (x : Xp) : (encX x).all AV.out1 = true := by cases x; simp only [encX_mk, go_sem]
theorem encX_plain1 (x : Xp) : (encX x).all AV.plain1 = true := by cases x; simp only [encX_mk, go_sem]
theorem encX_refs (x : Xp) : AV.refs1L (encX x) = 0 := by cases x; simp only [encX_mk, AV.refs1L_cons, AV.refs1L_nil, go_sem]
theorem encX_take (x : Xp) : (encX x).take 7 = encX x := List.take_of_length_le (by rw [encX_length]; exact Nat.le_refl _)
theorem encX_drop (x : Xp) : (encX x).drop 7 = [] := List.drop_of_length_le (by rw [encX_length]; exact Nat.le_refl _)
attribute [go_sem] encX_length encX_strip1 encX_stripC encX_okIn encX_okC encX_out1 encX_plain1 encX_refs encX_take encX_drop
theorem elA_toks (l : List Tok) (i : Nat) : elA 3 (i : Int) (encSl true 3 (l.map encT)) = if i < l.length then some (encT (tokAt l i)) else none := by
  by_cases h : i < l.length
  · rw [if_pos h, elA_sl (by simpa using h)]
    simp [tokAt, h]
  · rw [if_neg h]
    rcases encSl_cases true 3 (l.map encT) with ⟨e, e2⟩ | e
    · rw [e]; rfl
    · rw [e]; simp [elA, Nat.le_of_not_lt h]
inductive PR (α : Type) where
  | ok (x : α) (a : Nat)
  | fail (a : Nat)
  | out
namespace PR
def bind {α β : Type} (r : PR α) (f : α → Nat → PR β) : PR β :=
  match r with
  | ok x a => f x a
  | fail a => fail a
  | out => out
def on {α : Type} (r : PR α) (K : α → Nat → Prop) (F : Nat → Prop) : Prop :=
  match r with
  | ok x a => K x a
  | fail a => F a
  | out => False
theorem on_ok {α : Type} (x : α) (a : Nat) (K : α → Nat → Prop) (F : Nat → Prop) : (ok x a).on K F = K x a := rfl
theorem on_bind {α β : Type} (r : PR α) (f : α → Nat → PR β) (K : β → Nat → Prop) (F : Nat → Prop) : (r.bind f).on K F = r.on (fun x a => (f x a).on K F) F := by
  cases r <;> rfl
theorem on_mono {α : Type} {r : PR α} {K K' : α → Nat → Prop} {F F' : Nat → Prop} (h : r.on K F) (hk : ∀ x a, r = ok x a → K x a → K' x a) (hf : ∀ a, r = fail a → F a → F' a) : r.on K' F' := by
  cases r with
  | ok x a => exact hk x a rfl h
  | fail a => exact hf a rfl h
  | out => exact h
end PR
def encW : AV := .slice 1 (theWords.map fun x => [.str x]) .no
def pc (l : List Tok) (a : Nat) : List AV := [encSl true 3 (l.map encT), .int .i64 (a : Int), encW, .nilslice]
end Go.Proofs.YtelpkgbghhpgaaaGreatDoor.Sx
end
section
namespace Go.Proofs.YtelpkgbghhpgaaaGreatDoor.Sx
def tIntr (f : Nat) : Option IntrFn :=
  if f = 54 then some (iRun 49 86 115) else if f = 80 then some iFields
  else if f = 82 then some (iAppendSeq 4100 83 84) else if f = 159 then some iUpper
  else if f = 202 then some iIndexByte else if f = 135 then some (iConcat 7 168)
  else if f = 227 then some iTrim else if f = 49 then some (iTexts theWords) else if f = 21 then some (iTexts theWords) else if f = 141 then some iCaps else none
theorem tIntr_mono : ∀ f k, tIntr f = some k → IntrMono k := by
  intro f k h
  unfold tIntr at h
  repeat' split at h
  all_goals first
    | (cases h; done)
    | (cases h; first | exact iRun_mono _ _ _ | exact iFields_mono | exact iAppendSeq_mono _ _ _ | exact iUpper_mono | exact iIndexByte_mono | exact iConcat_mono _ _ | exact iTrim_mono | exact iTexts_mono _ | exact iCaps_mono)
def S : Sim := ⟨codeTab, tIntr, tIntr_mono⟩
end Go.Proofs.YtelpkgbghhpgaaaGreatDoor.Sx
end
section
namespace Go.Proofs.YtelpkgbghhpgaaaGreatDoor.Sx
def V (st : St) (id : Nat) (l : List Tok) (a : Nat) : St := st.setCells id (pc l a)
def thrown (a : Nat) : AV := .iface 115 (.agg [.int .i64 (a : Int)])
def isS (t : Tok) (s : List UInt8) : Bool := t.kind == 4 && t.text == s
theorem tokAt_lt {l : List Tok} {i : Nat} (h : (tokAt l i).kind ≠ -1) : i < l.length := by
  refine Nat.lt_of_not_le fun hn => h ?_
  simp [tokAt, hn, noTok]
theorem isS_lt {l : List Tok} {i : Nat} {s : List UInt8} (h : isS (tokAt l i) s = true) : i < l.length := by
  refine tokAt_lt fun e => ?_
  rw [isS, e] at h
  simp at h
section
variable {st : St} {id a : Nat} {l : List Tok} {Q : Res → St → Prop} {o : HObj}
theorem V_cells (hid : id < st.size) : (V st id l a).cells id = some [encSl true 3 (l.map encT), .int .i64 (a : Int), encW, .nilslice] := cells_set hid
theorem V_set (b : Nat) : (V st id l a).setCells id [encSl true 3 (l.map encT), .int .i64 (b : Int), encW, .nilslice] = V st id l b := set_set
theorem V_size : (V st id l a).size = st.size := size_set
theorem V_trunc : (V st id l a).trunc st.size = V st id l a := trunc_set
theorem V_push (hid : id < st.size) : (V st id l a).push o = V (st.push o) id l a := (set_push hid).symm
theorem V_trunc_push (hid : id < st.size) : (V (st.push o) id l a).trunc st.size = V st id l a := by
  rw [← V_push hid]
  have := trunc_push (st := V st id l a) (o := o)
  rwa [V_size] at this
theorem ahead_eq (hid : id < st.size) (hl : l.length < 65536) (ha : a ≤ l.length) (k : Nat) (hk : k < 1000) :
    CallA S 90 [.ptr id 0, .int .i64 (k : Int)] (V st id l a) Q = Q (.ret (.agg [.int .i64 (tokAt l (a + k)).kind, .int .i64 (tokAt l (a + k)).at_, .str (tokAt l (a + k)).text])) (V st id l a) := by
  refine callA_eq (fun Q hQ => ?_) Q
  refine callA_body (by rfl) (by rfl) rfl ?_
  simp only [b90, go_sem, V_cells hid, wrap_add a k (by omega), elA_toks, List.length_map]
  split
  · rename_i hge
    rw [trunc_self]
    have : tokAt l (a + k) = noTok := by simp [tokAt, show l.length ≤ a + k by omega]
    rw [this] at hQ
    exact hQ
  · rename_i hge
    rw [if_pos (by omega)]
    simp only [go_sem, encT, trunc_self]
    exact hQ
theorem ahead0 (hid : id < st.size) (hl : l.length < 65536) (ha : a ≤ l.length) :
    CallA S 90 [.ptr id 0, .int .i64 0] (V st id l a) Q = Q (.ret (.agg [.int .i64 (tokAt l a).kind, .int .i64 (tokAt l a).at_, .str (tokAt l a).text])) (V st id l a) := ahead_eq hid hl ha 0 (by omega)
theorem ahead1 (hid : id < st.size) (hl : l.length < 65536) (ha : a ≤ l.length) :
    CallA S 90 [.ptr id 0, .int .i64 1] (V st id l a) Q = Q (.ret (.agg [.int .i64 (tokAt l (a + 1)).kind, .int .i64 (tokAt l (a + 1)).at_, .str (tokAt l (a + 1)).text])) (V st id l a) := ahead_eq hid hl ha 1 (by omega)
theorem isSign_eq (t : Tok) (s : List UInt8) : CallA S 165 [.agg [.int .i64 t.kind, .int .i64 t.at_, .str t.text], .str s] st Q = Q (.ret (.bool (isS t s))) st := by
  refine callA_eq (fun Q hQ => ?_) Q
  refine callA_body (by rfl) (by rfl) rfl ?_
  simp only [b165, go_sem]
  unfold isS at hQ
  cases hk : (t.kind == 4)
  · simp only [hk, go_sem, trunc_self] at hQ ⊢
    exact hQ
  · simp only [hk, go_sem, trunc_self] at hQ ⊢
    exact hQ
theorem sign_no (hid : id < st.size) (hl : l.length < 65536) (ha : a ≤ l.length) {s : List UInt8} (hs : isS (tokAt l a) s = false) :
    CallA S 117 [.ptr id 0, .str s] (V st id l a) Q = Q (.ret (.bool false)) (V st id l a) := by
  refine callA_eq (fun Q hQ => ?_) Q
  refine callA_body (by rfl) (by rfl) rfl ?_
  simp only [b117, go_sem, V_cells hid, ahead0 hid hl ha, isSign_eq, hs, trunc_self]
  exact hQ
theorem sign_yes (hid : id < st.size) (hl : l.length < 65536) (ha : a ≤ l.length) {s : List UInt8} (hs : isS (tokAt l a) s = true) :
    CallA S 117 [.ptr id 0, .str s] (V st id l a) Q = Q (.ret (.bool true)) (V st id l (a + 1)) := by
  have := isS_lt hs
  refine callA_eq (fun Q hQ => ?_) Q
  refine callA_body (by rfl) (by rfl) rfl ?_
  simp only [b117, go_sem, V_cells hid, ahead0 hid hl ha, isSign_eq, hs, wrap_one a (by omega), V_set, V_size, V_trunc]
  exact hQ
theorem fail_eq (hid : id < st.size) : CallA S 86 [.ptr id 0] (V st id l a) Q = Q (.panic (thrown a)) (V st id l a) := by
  refine callA_eq (fun Q hQ => ?_) Q
  refine callA_body (by rfl) (by rfl) rfl ?_
  simp only [b86, go_sem, V_cells hid, trunc_self]
  exact hQ
theorem want_yes (hid : id < st.size) (hl : l.length < 65536) (ha : a ≤ l.length) {s : List UInt8} (hs : isS (tokAt l a) s = true) :
    CallA S 134 [.ptr id 0, .str s] (V st id l a) Q = Q (.ret (.tuple [])) (V st id l (a + 1)) := by
  refine callA_eq (fun Q hQ => ?_) Q
  refine callA_body (by rfl) (by rfl) rfl ?_
  simp only [b134, go_sem, sign_yes hid hl ha hs, V_size, V_trunc]
  exact hQ
theorem want_no (hid : id < st.size) (hl : l.length < 65536) (ha : a ≤ l.length) {s : List UInt8} (hs : isS (tokAt l a) s = false) :
    CallA S 134 [.ptr id 0, .str s] (V st id l a) Q = Q (.panic (thrown a)) (V st id l a) := by
  refine callA_eq (fun Q hQ => ?_) Q
  refine callA_body (by rfl) (by rfl) rfl ?_
  simp only [b134, go_sem, sign_no hid hl ha hs, fail_eq hid, trunc_self]
  exact hQ
theorem end_yes (hid : id < st.size) (hl : l.length < 65536) (ha : a ≤ l.length) (hs : (tokAt l a).kind = 5) :
    CallA S 57 [.ptr id 0] (V st id l a) Q = Q (.ret (.tuple [])) (V st id l (a + 1)) := by
  have := tokAt_lt (l := l) (i := a) (by omega)
  refine callA_eq (fun Q hQ => ?_) Q
  refine callA_body (by rfl) (by rfl) rfl ?_
  simp only [b57, go_sem, V_cells hid, ahead0 hid hl ha, hs, bne_self_eq_false, wrap_one a (by omega), V_set, V_size, V_trunc]
  exact hQ
theorem end_no (hid : id < st.size) (hl : l.length < 65536) (ha : a ≤ l.length) (hs : (tokAt l a).kind ≠ 5) :
    CallA S 57 [.ptr id 0] (V st id l a) Q = Q (.panic (thrown a)) (V st id l a) := by
  refine callA_eq (fun Q hQ => ?_) Q
  refine callA_body (by rfl) (by rfl) rfl ?_
  simp only [b57, go_sem, V_cells hid, ahead0 hid hl ha, bne_iff_ne.2 hs, fail_eq hid, trunc_self]
  exact hQ
end
end Go.Proofs.YtelpkgbghhpgaaaGreatDoor.Sx
end
