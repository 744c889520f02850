/- TreeReads returns true for all texts whose data are not larger than a bound. slices.Concat: the walk. cabinetryref05.Capitals: the walk. The tables of Go's library, as the rows list them. All that the plain machine takes for granted is so. slices.Concat. lex.scanner.all: the iterator's walk. -/
import Derived.Test.YtelpkgbghhpgaaaGreatDoorR7
import Derived.Test.YtelpkgbghhpgaaaGreatDoorR19
import Derived.Test.YtelpkgbghhpgaaaGreatDoorR34
import Derived.Test.YtelpkgbghhpgaaaGreatDoorR35
import Derived.Test.YtelpkgbghhpgaaaGreatDoorR36
import Derived.Deep.WholeRow
import Derived.KernelRfl
import Derived.Laws.IdiomStrings
import Derived.Lib.LaidCase
import Derived.Lib.LaidU8
import Derived.PinnedBridge
import Derived.RangeFuncGives
import Derived.RangeFuncIn
import Derived.RangeFuncLeaves
import Derived.Shelf.SlIter.Collect
import Derived.Test.YtelpkgbghhpgaaaGreatDoorProg
import Derived.Test.YtelpkgbghhpgaaaGreatDoorRows
import Derived.WalkKit
set_option linter.all false
section
set_option maxRecDepth 100000
namespace Go.Proofs.YtelpkgbghhpgaaaGreatDoor.Sx
open Go.RowKit
def totN (f : Nat → Nat) : Nat → Nat
  | 0 => 0
  | k + 1 => totN f k + f k
def totL (f : Nat → List Value) : Nat → List Value
  | 0 => []
  | k + 1 => totL f k ++ f k
theorem totN_mono (f : Nat → Nat) {a b : Nat} (h : a ≤ b) : totN f a ≤ totN f b := by
  induction b with
  | zero => obtain rfl : a = 0 := by omega
            exact Nat.le_refl _
  | succ b ih =>
    by_cases e : a = b + 1
    · subst e; exact Nat.le_refl _
    · rw [totN]; have := ih (by omega); omega
theorem totL_nil {f : Nat → List Value} : ∀ {k : Nat}, (∀ j, j < k → f j = []) → totL f k = []
  | 0, _ => rfl
  | k + 1, h => by rw [totL, totL_nil fun j hj => h j (by omega), h k (by omega)]; rfl
theorem infoX7 : ∃ i, Tryz.prog.info? 29 = some i ∧ i.zero = some zeroX7 ∧ i.size = 7 ∧ i.bytes = 104 := by
  have := infoX
  cases h : Tryz.prog.info? 29 with
  | none => rw [h] at this; cases this
  | some i =>
    rw [h] at this
    simp only [Option.map_some, Option.some.injEq, Prod.mk.injEq] at this
    exact ⟨i, rfl, this.1, this.2.1, this.2.2⟩
theorem Chg.cell {w w' : World} (h : Chg (fun _ => False) w w') {a : Addr} {v : Value} (hc : w.cell? a = some v) : w'.cell? a = some v :=
  (World.cell?_of_block (h.block a.block (World.block_lt_of_cell? w a hc) (fun h => h))).trans hc
theorem Chg.grown {w w1 w2 : World} (h : Chg (fun _ => False) w w1) (g : w1.grownBy w2 (some w.heap.size)) : Chg (fun _ => False) w w2 :=
  ⟨g.os.trans h.os, g.tape.trans h.tape, g.output.trans h.output, Nat.le_trans h.size g.size, fun b hb hn => (g.block b (Nat.lt_of_lt_of_le hb h.size) (fun e => by cases e; omega)).trans (h.block b hb hn)⟩
set_option maxHeartbeats 1000000 in
theorem concat_walk (w : World) (b o m c : Nat) (ao : Nat → Option Addr) (ml mc : Nat → Nat) (news : Nat → List Value)
    (hcell : ∀ i, i < m → w.cell? ⟨b, o + i, none⟩ = some (.slice (ao i) (ml i) (mc i)))
    (hlen : ∀ i, i < m → (news i).length = ml i * 7) (hnone : ∀ i, i < m → ao i = none → ml i = 0 ∧ mc i = 0)
    (hnew : ∀ i, i < m → ∀ ad, ao i = some ad → ∀ j u, (news i)[j]? = some u → w.cell? (ad.add j) = some u) (hone : ∀ i, i < m → ∀ u ∈ news i, u.oneCell' = true)
    (hsum : totN ml m * 168 ≤ 1099511627776) (hm : m < 1099511627776) :
    Calls Tryz.prog 135 #[.slice (some ⟨b, o, none⟩) m c] w fun e w' => ∃ v, e = .returned v ∧ w'.ownsRow w.heap.size 29 7 v (totN ml m) (totL news m) ∧ Chg (fun _ => False) w w' ∧ (totN ml m = 0 → v = .slice none 0 0) := by
  go_enter Tryz.func135, Tryz.ntmps135
  go_wp2
  go_loopw [3, 11] (fun s i wr => ∃ k : Nat, k ≤ m ∧ s = .int .i64 (totN ml k : Nat) ∧ i = .int .i64 k ∧ wr = w) (fun _ i _ => m - (intOf i).toNat)
  case atStart => exact ⟨0, Nat.zero_le _, rfl, rfl, rfl⟩
  case round =>
    obtain ⟨k, hk, rfl, rfl, hwr⟩ := hrel
    replace hwr := hwr.symm
    subst hwr
    by_cases hlt : k < m
    · have hcx := hcell k hlt
      have hk1 : totN ml k + ml k ≤ totN ml m := totN_mono ml (show k + 1 ≤ m from hlt)
      go_wp2
      all_goals exact ⟨⟨k + 1, by omega, by simp [totN], by simp, trivial⟩, by simp [intOf]; omega⟩
    · obtain rfl : k = m := by omega
      by_cases hz : totN ml k = 0
      · rw [hz]
        have hzero : ∀ j, j < k → ml j = 0 := fun j hj => by
          have h1 : totN ml (j + 1) ≤ totN ml k := totN_mono ml hj
          rw [totN] at h1; omega
        have hll : totL news k = [] := totL_nil fun j hj => List.eq_nil_of_length_eq_zero (by rw [hlen j hj, hzero j hj])
        obtain ⟨i, hi, _, hs, _⟩ : ∃ i, Tryz.prog.info? 29 = some i ∧ i.zero = some zeroX7 ∧ i.size = 7 ∧ i.bytes = 104 := infoX7
        go_wp2_with (go_at_call 185; refine (grow_none _).mono ?_; rintro e w' ⟨rfl, rfl⟩)
        go_loopw [6, 27] (fun v n wr => ∃ k' : Nat, k' ≤ k ∧ v = .slice none 0 0 ∧ n = .int .i64 k' ∧ wr = w') (fun _ n _ => k - (intOf n).toNat)
        case atStart => exact ⟨0, Nat.zero_le _, rfl, rfl, rfl⟩
        case round =>
          obtain ⟨k', hk', rfl, rfl, rfl⟩ := hrel
          by_cases hlt2 : k' < k
          · have hcx := hcell k' hlt2
            rw [hzero k' hlt2] at hcx
            go_wp2_with (at_builtin; refine wpList_append_is rfl (.tmp 31) (.tmp 32) 27 27 rfl _ _ _ rfl rfl (run_append_zero 27 _ 29 i Tryz.underlying27 hi (ao k') (mc k')) ?_)
            all_goals exact ⟨⟨k' + 1, by omega, rfl, by simp, trivial⟩, by simp [intOf]; omega⟩
          · obtain rfl : k' = k := by omega
            go_wp2
            all_goals go_ret
            all_goals exact ⟨_, rfl, by first | (rw [hz, hll]; exact World.ownsRow_nil _ _ _ _) | (rw [hll]; exact World.ownsRow_nil _ _ _ _), Chg.refl _ _, fun _ => rfl⟩
      · obtain ⟨i, hi, _, hs, _⟩ : ∃ i, Tryz.prog.info? 29 = some i ∧ i.zero = some zeroX7 ∧ i.size = 7 ∧ i.bytes = 104 := infoX7
        go_wp2_with (go_at_call 185; refine (grow_walk _ (by omega) hsum _).mono ?_; rintro e w' ⟨cap, cur, rfl, hcap, hmx, hsz, rfl⟩)
        go_loopw [6, 27] (fun v n wr => ∃ k' : Nat, k' ≤ k ∧ v = .slice (some ⟨w.heap.size, 0, none⟩) (totN ml k') cap ∧ n = .int .i64 k' ∧ wr.ownsRow w.heap.size 29 7 v (totN ml k') (totL news k') ∧ Chg (fun _ => False) w wr) (fun _ n _ => k - (intOf n).toNat)
        case atStart => exact ⟨0, Nat.zero_le _, rfl, rfl, World.ownsRow_made w cur cap (Nat.le_refl _) hmx hsz, (Chg.alloc _ _ _).drew⟩
        case round =>
          obtain ⟨k', hk', rfl, rfl, hown, hchg⟩ := hrel
          by_cases hlt2 : k' < k
          · have hcx := hchg.cell (hcell k' hlt2)
            have hnw : ∀ ad, ao k' = some ad → ∀ j u, (news k')[j]? = some u → wr.cell? (ad.add j) = some u := fun ad had j u hu => hchg.cell (hnew k' hlt2 ad had j u hu)
            have hk1 : totN ml k' + ml k' ≤ totN ml k := totN_mono ml (show k' + 1 ≤ k from hlt2)
            go_wp2_with (at_builtin; refine wpList_append_fits_any _ rfl (.tmp 31) (.tmp 32) 27 rfl w.heap.size 29 i 7 Tryz.underlying27 hi hs w.heap.size (totN ml k') cap (totL news k') rfl hown (ao k') (ml k') (mc k') (news k') rfl (hlen k' hlt2) (hnone k' hlt2) hnw (hone k' hlt2) (by omega) ?_; rintro w2 hown2 hg2)
            all_goals exact ⟨⟨k' + 1, by omega, rfl, by simp, hown2, hchg.grown hg2⟩, by simp [intOf]; omega⟩
          · obtain rfl : k' = k := by omega
            go_wp2
            all_goals go_ret
            all_goals exact ⟨_, rfl, hown, hchg, fun h => absurd h hz⟩
end Go.Proofs.YtelpkgbghhpgaaaGreatDoor.Sx
end
section
set_option maxRecDepth 100000
namespace Go.Proofs.YtelpkgbghhpgaaaGreatDoor.Sx
open Go.RowKit
def BytesAt (w : World) (b : Nat) (l : List UInt8) : Prop := ∃ C, w.heap[b]? = some (.cells C 5 (C.size, C.size + 1)) ∧ ∀ j (h : j < l.length), C[j]? = some (.int .u8 (l[j].toNat : Int))
theorem BytesAt.cell {w : World} {b : Nat} {l : List UInt8} (h : BytesAt w b l) (j : Nat) (hj : j < l.length) : w.cell? ⟨b, j, none⟩ = some (.int .u8 (l[j].toNat : Int)) ∧ w.frozen? ⟨b, j, none⟩ = false := by
  obtain ⟨C, h1, h2⟩ := h
  have h3 := h2 j hj
  have hlt := (Array.getElem?_eq_some_iff.1 h3).1
  constructor
  · unfold World.cell?
    rw [h1]
    simpa using h3
  · unfold World.frozen?
    rw [h1]
    simp; omega
theorem BytesAt.set {w : World} {b : Nat} {l : List UInt8} (h : BytesAt w b l) (j : Nat) (hj : j < l.length) (x : UInt8) : BytesAt (w.setCell ⟨b, j, none⟩ (.int .u8 (x.toNat : Int))) b (l.set j x) := by
  obtain ⟨C, h1, h2⟩ := h
  have h3 := h2 j hj
  have hlt := (Array.getElem?_eq_some_iff.1 h3).1
  refine ⟨C.setIfInBounds j (.int .u8 (x.toNat : Int)), ?_, fun i hi => ?_⟩
  · unfold World.setCell
    simp [Array.getElem?_modify, h1]
  · simp only [List.length_set] at hi
    rw [Array.getElem?_setIfInBounds]
    by_cases e : j = i
    · subst e
      simp [hlt]
    · rw [if_neg e, h2 i hi, List.getElem_set_ne e]
theorem chg_setCell {w wr : World} (h : Chg (fun _ => False) w wr) (j : Nat) (v : Value) : Chg (fun _ => False) w (wr.setCell ⟨w.heap.size, j, none⟩ v) := by
  refine ⟨h.os, h.tape, h.output, ?_, fun b hb _ => ?_⟩
  · simpa [World.setCell] using h.size
  · rw [← h.block b hb id]
    unfold World.setCell
    simp only [Array.getElem?_modify]
    rw [if_neg (by omega)]
theorem upB_nat (b : UInt8) : ((upB b).toNat : Int) = if 97 ≤ (b.toNat : Int) ∧ (b.toNat : Int) ≤ 122 then (b.toNat : Int) - 32 else (b.toNat : Int) := by
  have := byte_all (p := fun b => decide (((upB b).toNat : Int) = if 97 ≤ (b.toNat : Int) ∧ (b.toNat : Int) ≤ 122 then (b.toNat : Int) - 32 else (b.toNat : Int))) (by decide +kernel) b
  simpa using this
theorem capital_walk (b : UInt8) (w : World) : Calls Tryz.prog 193 #[.int .u8 (b.toNat : Int)] w fun e w' => e = .returned (.int .u8 ((upB b).toNat : Int)) ∧ w' = w := by
  have hu := upB_nat b
  have hlt := b.toNat_lt
  by_cases h1 : (97 : Int) ≤ (b.toNat : Int)
  · by_cases h2 : (b.toNat : Int) ≤ 122
    · rw [if_pos ⟨h1, h2⟩] at hu
      have hw : IntKind.u8.wrap ((b.toNat : Int) - 32) = (b.toNat : Int) - 32 := by
        simp only [IntKind.wrap, IntKind.signed, IntKind.bits, Bool.false_and]
        simp
        omega
      go_enter Tryz.func193, Tryz.ntmps193
      go_wp2
      all_goals go_ret
      all_goals first | exact ⟨rfl, rfl⟩ | exact ⟨by rw [hu]; rfl, rfl⟩ | exact ⟨by rw [hu, ← hw]; rfl, rfl⟩
    · rw [if_neg (fun h => h2 h.2)] at hu
      go_enter Tryz.func193, Tryz.ntmps193
      go_wp2
      all_goals go_ret
      all_goals first | exact ⟨rfl, rfl⟩ | exact ⟨by rw [hu]; rfl, rfl⟩
  · rw [if_neg (fun h => h1 h.1)] at hu
    go_enter Tryz.func193, Tryz.ntmps193
    go_wp2
    all_goals go_ret
    all_goals first | exact ⟨rfl, rfl⟩ | exact ⟨by rw [hu]; rfl, rfl⟩
def capsTo (s : List UInt8) (k : Nat) : List UInt8 := (s.take k).map upB ++ s.drop k
theorem capsTo_length (s : List UInt8) (k : Nat) : (capsTo s k).length = s.length := by simp [capsTo]; omega
theorem capsTo_get (s : List UInt8) (k i : Nat) (h : i < s.length) : (capsTo s k)[i]'(by rw [capsTo_length]; exact h) = if i < k then upB s[i] else s[i] := by
  simp only [capsTo]
  by_cases hk : i < k
  · rw [if_pos hk, List.getElem_append_left (by simp; omega)]
    simp
  · rw [if_neg hk, List.getElem_append_right (by simp; omega)]
    rw [List.getElem_drop]
    congr 1
    simp
    omega
theorem capsTo_at (s : List UInt8) (k : Nat) (h : k < s.length) : (capsTo s k)[k]'(by rw [capsTo_length]; exact h) = s[k] := by
  rw [capsTo_get s k k h, if_neg (by omega)]
theorem capsTo_set (s : List UInt8) (k : Nat) (h : k < s.length) : (capsTo s k).set k (upB s[k]) = capsTo s (k + 1) := by
  refine List.ext_getElem (by simp [capsTo_length]) fun i h1 h2 => ?_
  have hi : i < s.length := by rw [capsTo_length] at h2; exact h2
  rw [List.getElem_set, capsTo_get s (k + 1) i hi]
  by_cases e : k = i
  · subst e
    rw [if_pos rfl, if_pos (by omega)]
  · rw [if_neg e, capsTo_get s k i hi]
    by_cases hk : i < k
    · rw [if_pos hk, if_pos (by omega)]
    · rw [if_neg hk, if_neg (by omega)]
theorem capsTo_all (s : List UInt8) : capsTo s s.length = s.map upB := by simp [capsTo]
theorem caps_walk (s : List UInt8) (w : World) (hs : s.length < 1048576) : Calls Tryz.prog 141 #[.string ⟨s.toArray⟩] w fun e w' => e = .returned (.string ⟨(s.map upB).toArray⟩) ∧ Chg (fun _ => False) w w' := by
  have hconv := Go.run_bytes_of_string (P := Tryz.prog) w 9 182 5 ⟨s.toArray⟩ Tryz.underlying9 Tryz.underlying182 Tryz.underlying5
  have hsz : (⟨s.toArray⟩ : ByteArray).size = s.length := by simp [ByteArray.size]
  rw [hsz] at hconv
  have hB : BytesAt (w.drew.alloc (.cells (bytesRow ⟨s.toArray⟩ (grownCap w s.length 0 5)) 5 ((bytesRow ⟨s.toArray⟩ (grownCap w s.length 0 5)).size, (bytesRow ⟨s.toArray⟩ (grownCap w s.length 0 5)).size + 1))) w.heap.size (capsTo s 0) := by
    refine ⟨bytesRow ⟨s.toArray⟩ (grownCap w s.length 0 5), by simp [World.alloc, World.drew, -World.alloc_eq, -World.drew_eq], fun j hj => ?_⟩
    have hj' : j < s.length := by rw [capsTo_length] at hj; exact hj
    have := bytesRow_at ⟨s.toArray⟩ (grownCap w s.length 0 5) j (by simpa using hj')
    rw [this]
    simp [capsTo]
  generalize bytesRow ⟨s.toArray⟩ (grownCap w s.length 0 5) = C at *
  generalize grownCap w s.length 0 5 = cap at *
  go_enter Tryz.func141, Tryz.ntmps141
  go_wp2
  go_loopw [4] (fun i wr => ∃ k : Nat, k ≤ s.length ∧ i = .int .i64 k ∧ BytesAt wr w.heap.size (capsTo s k) ∧ Chg (fun _ => False) w wr) (fun i _ => s.length - (intOf i).toNat)
  case atStart => exact ⟨0, Nat.zero_le _, rfl, hB, by exact (Chg.alloc _ _ _).drew⟩
  case round =>
    obtain ⟨k, hk, rfl, hb, hc⟩ := hrel
    by_cases hlt : k < s.length
    · obtain ⟨hcell, hfr⟩ := hb.cell k (by rw [capsTo_length]; exact hlt)
      rw [capsTo_at s k hlt] at hcell
      have hset := hb.set k (by rw [capsTo_length]; exact hlt) (upB s[k])
      rw [capsTo_set s k hlt] at hset
      have hc2 := chg_setCell hc k (.int .u8 ((upB s[k]).toNat : Int))
      go_wp2_with (go_at_call 193; refine (capital_walk _ _).mono ?_; rintro e w' ⟨rfl, rfl⟩)
      all_goals exact ⟨⟨k + 1, by omega, by simp, hset, hc2⟩, by simp [intOf]; omega⟩
    · obtain rfl : k = s.length := by omega
      rw [capsTo_all] at hb
      have hback := run_convert_bytes_back (P := Tryz.prog) wr 182 9 5 ⟨w.heap.size, 0, none⟩ cap (s.map upB) Tryz.underlying182 Tryz.underlying5 Tryz.underlying9 (fun j hj => by
        have := (hb.cell j hj).1
        have e : (⟨w.heap.size, 0, none⟩ : Addr).add j = ⟨w.heap.size, j, none⟩ := by
          unfold Addr.add
          by_cases h0 : j = 0
          · subst h0; rfl
          · rw [if_neg h0]; simp
        rw [e, this])
      rw [List.length_map] at hback
      go_wp2
      all_goals go_ret
      all_goals exact ⟨rfl, hc⟩
open AV in
theorem intr_caps (W : World) : IntrOk Tryz.prog W 141 iCaps := by
  intro call vs st r st' hk
  refine ⟨⟨_, _, Tryz.func141, rfl, by decide⟩, fun g w args _ _ hh hl hr => ?_⟩
  unfold iCaps at hk
  split at hk
  case h_2 => cases hk
  rename_i s
  split at hk
  case isFalse => cases hk
  rename_i hs
  cases hk
  obtain ⟨x, rfl, h1⟩ := args1 hl hr
  rw [h1.str_inv]
  refine (caps_walk s w hs).mono fun e w' ⟨h3, h4⟩ => ?_
  subst h3
  exact pure_post hh h4 (.str _)
end Go.Proofs.YtelpkgbghhpgaaaGreatDoor.Sx
end
section
set_option maxRecDepth 100000
namespace Go.Proofs.YtelpkgbghhpgaaaGreatDoor.Sx
open Go.Proofs.YtelpkgbghhpgaaaGreatDoor Go.Lib
structure Tabs (w : World) : Prop where
  space : Lib.TabIs Tryz.prog w "strings.asciiSpace" .u8 Lib.asciiSpaceTab
  caseR : Lib.CaseVar (Tryz.lays158_ren.g 13) Lib.caseA w
  utf8 : Lib.Utf8Tabs (Tryz.lays158_ren.g 3) (Tryz.lays158_ren.g 4) w
theorem case_old {W0 w : World} {g : Gh} (ho : Old W0 g w) {n : Nat} {T : Array Lib.CaseRow} (hT : 0 < T.size) (h : Lib.CaseVar n T W0) : Lib.CaseVar n T w := by
  obtain ⟨R, oR, cap, h1, h2⟩ := h
  have hn := World.block_lt_of_cell? W0 ⟨n, 0, none⟩ h1
  have hR := World.block_lt_of_cell? W0 ⟨R, oR + 0 * 5, none⟩ (h2 0 hT).1
  refine ⟨R, oR, cap, (ho n 0 hn).2.trans h1, fun i hi => ?_⟩
  obtain ⟨a, b, c, d, e⟩ := h2 i hi
  exact ⟨(ho R _ hR).2.trans a, (ho R _ hR).2.trans b, (ho R _ hR).2.trans c, (ho R _ hR).2.trans d, (ho R _ hR).2.trans e⟩
theorem utf8_old {W0 w : World} {g : Gh} (ho : Old W0 g w) {a b : Nat} (h : Lib.Utf8Tabs a b W0) : Lib.Utf8Tabs a b w := by
  have ha := World.block_lt_of_cell? W0 ⟨a, 0, none⟩ (h.1 0 (by omega))
  have hb := World.block_lt_of_cell? W0 ⟨b, 2 * 0, none⟩ (h.2 0 (by omega)).1
  exact ⟨fun c hc => (ho a _ ha).2.trans (h.1 c hc), fun i hi => ⟨(ho b _ hb).2.trans (h.2 i hi).1, (ho b _ hb).2.trans (h.2 i hi).2⟩⟩
theorem Tabs.old {W0 w : World} {g : Gh} (h : Tabs W0) (ho : Old W0 g w) : Tabs w :=
  ⟨tab_old ho (by decide) h.space, case_old ho (by decide +kernel) h.caseR, utf8_old ho h.utf8⟩
theorem tabs_of {w : World} (hL : laidMet Tryz.prog Rows.treeReadsRow.laid w) : Tabs w := by
  refine ⟨?_, ?_, ?_⟩
  · have h : Lib.VarReads Tryz.prog w "strings.asciiSpace" Rows.laid_strings_asciiSpace := Lib.laidMet.reads hL (by simp [Rows.treeReadsRow])
    obtain ⟨g', t', cs, fuel, p, hg', ht', hvar, hd⟩ := h
    have hg : Tryz.prog.globalNamed "strings.asciiSpace" = some 0 := by kernel_rfl
    have hty : (Tryz.prog.globals[0]?).map (·.type) = some 83 := by kernel_rfl
    obtain rfl := Option.some.inj (hg.symm.trans hg')
    obtain rfl := Option.some.inj (hty.symm.trans ht')
    unfold Lib.TabIs
    rw [hvar]
    have hd : DataW.trod (fun _ => ()) Tryz.prog w 0 (fun _ => true) false fuel 83 cs.toList = some (Lib.tabData .u8 Lib.asciiSpaceTab, p) := hd
    rw [← Lib.cells_of_tab Tryz.underlying83 Tryz.underlying5 (by kernel_rfl) (by kernel_rfl) hd]
  · have h : VarReads Tryz.prog w "unicode.CaseRanges" Lib.caseData := by
      have := Lib.laidMet.reads hL (n := "unicode.CaseRanges") (d := Rows.laid_unicode_CaseRanges) (by simp [Rows.treeReadsRow])
      rwa [show Rows.laid_unicode_CaseRanges = Lib.caseData from Pinned.caseRanges_eq] at this
    exact caseVar_of_reads { Tryz.lays158 with } (by kernel_rfl) ⟨by kernel_rfl, by kernel_rfl, by kernel_rfl, by kernel_rfl, by kernel_rfl, by kernel_rfl⟩ h
  · have h3 : VarReads Tryz.prog w "unicode/utf8.first" Lib.firstData := by
      have := Lib.laidMet.reads hL (n := "unicode/utf8.first") (d := Rows.laid_unicode_utf8_first) (by simp [Rows.treeReadsRow])
      rwa [show Rows.laid_unicode_utf8_first = Lib.firstData from Pinned.utf8First_eq] at this
    have h4 : VarReads Tryz.prog w "unicode/utf8.acceptRanges" Lib.acceptData := by
      have := Lib.laidMet.reads hL (n := "unicode/utf8.acceptRanges") (d := Rows.laid_unicode_utf8_acceptRanges) (by simp [Rows.treeReadsRow])
      rwa [show Rows.laid_unicode_utf8_acceptRanges = Lib.acceptData from by kernel_rfl] at this
    exact utf8Tabs_of_reads { Tryz.lays158 with } ⟨by kernel_rfl, by kernel_rfl, by kernel_rfl, by kernel_rfl, by kernel_rfl, by kernel_rfl, by kernel_rfl⟩ h3 h4
end Go.Proofs.YtelpkgbghhpgaaaGreatDoor.Sx
end
section
set_option maxRecDepth 100000
namespace Go.Proofs.YtelpkgbghhpgaaaGreatDoor.Sx
open Go.RowKit
theorem intrOk {W0 : World} (hT : Tabs W0) (hC : IntrOk Tryz.prog W0 135 (iConcat 7 168)) (hA : IntrOk Tryz.prog W0 82 (iAppendSeq 4100 83 84)) (f : Nat) (k : IntrFn) (h : tIntr f = some k) : IntrOk Tryz.prog W0 f k := by
  unfold tIntr at h
  split at h
  · rename_i e; cases h; subst e; exact intr_run
  split at h
  · rename_i e; cases h; subst e
    exact intr_fields ⟨_, _, Tryz.func80, rfl, by decide⟩ hT.space (fun s w h1 h2 h3 => Any.strings_Fields Tryz.lays157 (by kernel_rfl) (by kernel_rfl) s w h1 h2 h3)
  split at h
  · rename_i e; cases h; subst e; exact hA
  split at h
  · rename_i e; cases h; subst e
    exact intr_upper (Tab := Tabs) ⟨_, _, Tryz.func159, rfl, by decide⟩ (fun g w ho => hT.old ho) (fun s w h1 h2 => Any.strings_ToUpper_any Tryz.lays158 Tryz.Builder_Extra_158 s w h1 h2.caseR h2.utf8) (fun s hs => Lib.toUpperD_ascii s hs)
  split at h
  · rename_i e; cases h; subst e
    exact intr_indexByte ⟨_, _, Tryz.func202, rfl, by decide⟩ (fun s c w => Any.strings_IndexByte Tryz.lays137 s c w)
  split at h
  · rename_i e; cases h; subst e; exact hC
  split at h
  · rename_i e; cases h; subst e
    exact intr_trim ⟨_, _, Tryz.func227, rfl, by decide⟩ (fun s c w h1 h2 h3 => Any.strings_Trim_laid Tryz.lays160 (by kernel_rfl) s c w h1 h2 h3)
  split at h
  · rename_i e; cases h; subst e
    exact intr_words ⟨_, _, Tryz.func49, rfl, by decide⟩ (fun g w ho => words_walk w (hT.old ho).space)
  split at h
  · rename_i e; cases h; subst e
    exact intr_words ⟨_, _, Tryz.func21, rfl, by decide⟩ (fun g w ho => rwords_walk w)
  split at h
  · rename_i e; cases h; subst e
    exact intr_caps _
  · cases h
theorem simOk {W0 : World} (hT : Tabs W0) (hC : IntrOk Tryz.prog W0 135 (iConcat 7 168)) (hA : IntrOk Tryz.prog W0 82 (iAppendSeq 4100 83 84)) : SimOk Tryz.prog W0 S :=
  ⟨codeOk, fun f k h => intrOk hT hC hA f k h⟩
end Go.Proofs.YtelpkgbghhpgaaaGreatDoor.Sx
end
section
set_option maxRecDepth 100000
namespace Go.Proofs.YtelpkgbghhpgaaaGreatDoor.Sx
open Go.RowKit AV
theorem concat_none (w : World) (a : Addr) (c : Nat) : Calls Tryz.prog 135 #[.slice (some a) 0 c] w fun e w' => e = .returned (.slice none 0 0) ∧ w' = w := by
  go_enter Tryz.func135, Tryz.ntmps135
  go_wp2
  go_loopw [3, 11] (fun s i wr => s = .int .i64 0 ∧ i = .int .i64 0 ∧ wr = w) (fun _ _ _ => 0)
  case atStart => exact ⟨rfl, rfl, rfl⟩
  case round =>
    obtain ⟨rfl, rfl, hwr⟩ := hrel
    replace hwr := hwr.symm
    subst hwr
    go_wp2_with (go_at_call 185; refine (grow_none _).mono ?_; rintro e w' ⟨rfl, rfl⟩)
    go_loopw [6, 27] (fun v n wr => v = .slice none 0 0 ∧ n = .int .i64 0 ∧ wr = w') (fun _ _ _ => 0)
    case atStart => exact ⟨rfl, rfl, rfl⟩
    case round =>
      obtain ⟨rfl, rfl, rfl⟩ := hrel
      go_wp2
      all_goals go_ret
      all_goals exact ⟨rfl, rfl⟩
theorem concatE_spec {sz : Nat} : ∀ {l els : List (List AV)}, concatE sz l = some els → ∃ (vs : List AV) (es : List (List (List AV))), l.flatten = vs ∧ l.length = vs.length ∧ (∀ e ∈ l, e.length = 1) ∧ es.length = vs.length ∧ els = es.flatten ∧ ∀ i (h : i < vs.length) (h' : i < es.length), elsOf sz vs[i] = some es[i]
  | [], els, h => by cases h; exact ⟨[], [], rfl, rfl, by simp, rfl, rfl, fun i h => absurd h (by simp)⟩
  | [] :: r, els, h => by simp [concatE] at h
  | (a :: b :: c) :: r, els, h => by simp [concatE] at h
  | [v] :: r, els, h => by
    rw [concatE] at h
    split at h
    case h_2 => cases h
    rename_i x y hx hy
    cases h
    obtain ⟨vs, es, h1, h2, h3, h4, h5, h6⟩ := concatE_spec hy
    refine ⟨v :: vs, x :: es, by simp [h1], by simp [h2], ?_, by simp [h4], by simp [h5], ?_⟩
    · intro e he
      rcases List.mem_cons.1 he with rfl | he
      · rfl
      · exact h3 e he
    · intro i h h'
      cases i with
      | zero => exact hx
      | succ i => exact h6 i (by simpa using h) (by simpa using h')
def Rows2 (w : World) (I : Nat → Nat → Prop) (xs : List AV) (cs : List Value) : Prop := cs.length = xs.length ∧ ∀ (j : Nat) (x : AV), xs[j]? = some x → ∃ c, cs[j]? = some c ∧ PRep w I x c
theorem Rows2.nil (w : World) (I : Nat → Nat → Prop) : Rows2 w I [] [] := ⟨rfl, fun j x h => by simp at h⟩
theorem Rows2.append {w : World} {I : Nat → Nat → Prop} {a b : List AV} {c d : List Value} (h : Rows2 w I a c) (k : Rows2 w I b d) : Rows2 w I (a ++ b) (c ++ d) := by
  refine ⟨by simp [h.1, k.1], fun j x hx => ?_⟩
  by_cases hj : j < a.length
  · rw [List.getElem?_append_left hj] at hx
    rw [List.getElem?_append_left (by rw [h.1]; exact hj)]
    exact h.2 j x hx
  · rw [List.getElem?_append_right (by omega)] at hx
    rw [List.getElem?_append_right (by rw [h.1]; omega), h.1]
    exact k.2 _ x hx
structure RowIs (w : World) (I : Nat → Nat → Prop) (els : List (List AV)) (v : Value) (ao : Option Addr) (c : Nat) (news : List Value) : Prop where
  val : v = .slice ao els.length c
  unit : ∀ e ∈ els, e.length = 7
  nil : ao = .none → els.length = 0 ∧ c = 0
  cell : ∀ ad, ao = some ad → ∀ (j : Nat) (u : Value), news[j]? = some u → w.cell? (ad.add j) = some u
  one : ∀ u ∈ news, u.oneCell' = true
  rows : Rows2 w I els.flatten news
theorem rowIs {w : World} {I : Nat → Nat → Prop} {v : AV} {c : Value} {els : List (List AV)} (he : elsOf 7 v = some els) (h : PRep w I v c) : ∃ ao cp news, RowIs w I els c ao cp news := by
  rcases elsOf_cases he with ⟨rfl, rfl⟩ | ⟨own, rfl⟩
  · cases h
    exact ⟨none, 0, [], rfl, by simp, fun _ => ⟨rfl, rfl⟩, fun ad had => (by cases had), by simp, Rows2.nil _ _⟩
  · obtain ⟨_, a, cap, vs, rfl, hu, _, hr⟩ := h.slice_inv
    refine ⟨some a, cap, rowOf vs els.flatten.length, rfl, hu, fun h => (by cases h), fun ad had j u hj => ?_, row_one hr, by simp [rowOf], fun j x hx => ?_⟩
    · cases had; exact row_cells hr j u hj
    · obtain ⟨hj, rfl⟩ := List.getElem?_eq_some_iff.1 hx
      exact ⟨vs j, by rw [rowOf_get, if_pos hj], hr.el j hj⟩
theorem getD_at {α : Type} {es : List (List α)} {i : Nat} (h : i < es.length) : es.getD i [] = es[i] := by simp [List.getD, h]
theorem take_succ_flat {α : Type} (es : List (List α)) (k : Nat) (h : k < es.length) : (es.take (k + 1)).flatten = (es.take k).flatten ++ es[k] := by
  rw [List.take_succ_eq_append_getElem h, List.flatten_append]; simp
theorem intr_concat (W : World) : IntrOk Tryz.prog W 135 (iConcat 7 168) := by
  intro call vs st r st' hk
  refine ⟨⟨_, _, Tryz.func135, rfl, by decide⟩, fun g w args _ _ hh hl hr => ?_⟩
  unfold iConcat at hk
  split at hk
  case h_2 => cases hk
  rename_i l own
  split at hk
  case isFalse => cases hk
  rename_i hm
  obtain ⟨x, rfl, h1⟩ := args1 hl hr
  obtain ⟨hp, _⟩ := h1.slice_inv
  obtain ⟨_, a, cap, va, rfl, hu, hcap, hrow⟩ := hp.slice_inv
  obtain ⟨els, he⟩ : ∃ els, concatE 7 l = some els := by
    cases h : concatE 7 l with
    | none => rw [h] at hk; cases hk
    | some els => exact ⟨els, rfl⟩
  rw [he] at hk
  obtain ⟨vs, es, hfl, hll, _, hel, rfl, hes⟩ := concatE_spec he
  rw [hfl] at hrow
  have hsum : es.flatten.length * 168 ≤ 1099511627776 := by
    cases h : es.flatten with
    | nil => simp
    | cons y z =>
      rw [h] at hk
      simp only at hk
      split at hk
      · rename_i h2; exact h2
      · cases hk
  have hst : r = .ret (if es.flatten = [] then .nilslice else .slice 7 es.flatten .no) ∧ st' = st := by
    cases h : es.flatten with
    | nil => rw [h] at hk; cases hk; exact ⟨rfl, rfl⟩
    | cons y z =>
      rw [h] at hk hsum
      simp only [if_pos hsum] at hk
      cases hk; exact ⟨rfl, rfl⟩
  obtain ⟨rfl, rfl⟩ := hst
  by_cases hm0 : l.length = 0
  · have : es = [] := List.eq_nil_of_length_eq_zero (by omega)
    subst this
    rw [hm0]
    refine (concat_none w a cap).mono fun e w' ⟨h3, h4⟩ => ?_
    subst h3 h4
    exact pure_post hh (Chg.refl _ _) .nilslice
  · have hspot : a.spot = none := hrow.spot (by omega)
    obtain ⟨b, o, s⟩ := a
    obtain rfl : s = none := hspot
    have hex : ∀ i, ∃ p : Option Addr × Nat × List Value, i < l.length → RowIs w g.imm (es.getD i []) (va i) p.1 p.2.1 p.2.2 := fun i => by
      by_cases hi : i < l.length
      · obtain ⟨ao, c, news, h⟩ := rowIs (hes i (by omega) (by omega)) (hrow.el i (by omega))
        refine ⟨(ao, c, news), fun _ => ?_⟩
        rw [getD_at (by omega)]
        exact h
      · exact ⟨(none, 0, []), fun h => absurd h hi⟩
    obtain ⟨F, hF⟩ : ∃ F : Nat → Option Addr × Nat × List Value, ∀ i, i < l.length → RowIs w g.imm (es.getD i []) (va i) (F i).1 (F i).2.1 (F i).2.2 := ⟨fun i => Classical.choose (hex i), fun i => Classical.choose_spec (hex i)⟩
    have htot : ∀ k, k ≤ l.length → totN (fun i => (es.getD i []).length) k = (es.take k).flatten.length ∧ Rows2 w g.imm (es.take k).flatten.flatten (totL (fun i => (F i).2.2) k) := fun k => by
      induction k with
      | zero => intro _; exact ⟨by simp [totN], by simpa [totL] using Rows2.nil w g.imm⟩
      | succ k ih =>
        intro hk
        obtain ⟨h1, h2⟩ := ih (by omega)
        have hke : k < es.length := by omega
        have hr := (hF k (by omega)).rows
        rw [getD_at hke] at hr
        rw [take_succ_flat es k hke, List.flatten_append, List.length_append, totN, totL, h1, getD_at hke]
        exact ⟨rfl, h2.append hr⟩
    have hall := htot l.length (Nat.le_refl _)
    have htk : es.take l.length = es := List.take_of_length_le (by omega)
    rw [htk] at hall
    have hunit : ∀ e ∈ es.flatten, e.length = 7 := fun e he => by
      obtain ⟨r, hr, her⟩ := List.mem_flatten.1 he
      obtain ⟨i, hi, rfl⟩ := List.getElem_of_mem hr
      have := (hF i (by omega)).unit
      rw [getD_at hi] at this
      exact this e her
    refine (concat_walk w b o l.length cap (fun i => (F i).1) (fun i => (es.getD i []).length) (fun i => (F i).2.1) (fun i => (F i).2.2) ?_ ?_ ?_ ?_ ?_ ?_ hm).mono ?_
    · intro i hi
      rw [(hrow.row i (by omega)).2, (hF i hi).val]
    · intro i hi
      rw [(hF i hi).rows.1, flat_len (hF i hi).unit]
    · exact fun i hi => (hF i hi).nil
    · exact fun i hi => (hF i hi).cell
    · exact fun i hi => (hF i hi).one
    · rw [hall.1]; exact hsum
    · rintro e w' ⟨v, rfl, hown, hc, hnil⟩
      rw [hall.1] at hown hnil
      refine pure_post hh hc ?_
      by_cases h0 : es.flatten = []
      · rw [if_pos h0, hnil (by rw [h0]; rfl)]
        exact .nilslice
      · rw [if_neg h0]
        obtain ⟨hlen, ⟨_, hz⟩ | ⟨nb, cp, cur, rfl, hnb, hheap, hcp, hmx, hcs, htake⟩⟩ := hown
        · exact absurd (List.eq_nil_of_length_eq_zero hz) h0
        · have hlt : nb < w'.heap.size := (Array.getElem?_eq_some_iff.1 hheap).1
          refine PRep.of_row hunit hcp (vs := fun k => cur.getD k undef) ⟨fun _ => rfl, fun k hk => ⟨.inr ⟨hnb, hlt⟩, ?_⟩, fun k hk => ?_⟩
          · have hks : k < cur.size := by
              have := flat_len hunit
              have : es.flatten.length * 7 ≤ cp * 7 := Nat.mul_le_mul_right _ hcp
              omega
            simp [World.cell?, hheap, Array.getD, hks]
          · obtain ⟨c, hc1, hc2⟩ := hall.2.2 k _ (List.getElem?_eq_getElem hk)
            rw [← htake] at hc1
            have hk7 : k < es.flatten.length * 7 := by have := flat_len hunit; omega
            rw [List.getElem?_take, if_pos hk7, Array.getElem?_toList] at hc1
            have hcd : cur.getD k undef = c := by simp [Array.getD_eq_getD_getElem?, hc1]
            simp only [hcd]
            exact hc2.mono (fun _ _ h => .inl h) (fun b o hb => cell_of_block (hc.block b (hh.1.immlt b o hb) id) o)
end Go.Proofs.YtelpkgbghhpgaaaGreatDoor.Sx
end
section
set_option maxRecDepth 100000
namespace Go.Proofs.YtelpkgbghhpgaaaGreatDoor.Sx
open Go.RowKit
theorem store3 (w : World) (x y z : Value) (hx : x.oneCell' = true) (hy : y.oneCell' = true) (hz : z.oneCell' = true) :
    (((Sem.run Tryz.prog (store { block := w.heap.size, off := 0 } x) (w.alloc (Obj.cells #[Value.int IntKind.i64 0, Value.int IntKind.i64 0, Value.string { data := #[] }] 89))).andThen
          fun a w' => (Sem.run Tryz.prog (store { block := w.heap.size, off := 1 } y) w').andThen fun a w' => Sem.run Tryz.prog (store { block := w.heap.size, off := 2 } z) w').andThen
      fun a w' => Result.ok Next.skip w') = Result.ok Next.skip (w.alloc (.cells #[x, y, z] 89)) := by
  have h := run_storeCells_new (P := Tryz.prog) w 89 #[Value.int IntKind.i64 0, Value.int IntKind.i64 0, Value.string { data := #[] }] #[x, y, z] (by kernel_rfl) rfl (by simp [hx, hy, hz])
  simp [storeCells, Addr.add_lit, Sem.run_bind] at h
  simp [h]
theorem least_ex (p : Nat → Prop) : ∀ k, p k → ∃ m, p m ∧ ∀ j, p j → m ≤ j := fun k => by
  induction k using Nat.strongRecOn with
  | ind k ih =>
    intro hk
    by_cases h : ∃ j, j < k ∧ p j
    · obtain ⟨j, hj, hp⟩ := h
      exact ih j hj hp
    · exact ⟨k, hk, fun j hj => Nat.le_of_not_lt fun hlt => h ⟨j, hlt, hj⟩⟩
open Classical in
noncomputable def leastN (p : Nat → Prop) : Nat := if h : ∃ m, p m ∧ ∀ j, p j → m ≤ j then Classical.choose h else 0
theorem leastN_is {p : Nat → Prop} {k : Nat} (hk : p k) : p (leastN p) ∧ leastN p ≤ k := by
  have h := least_ex p k hk
  unfold leastN
  rw [dif_pos h]
  exact ⟨(Classical.choose_spec h).1, (Classical.choose_spec h).2 k hk⟩
set_option maxHeartbeats 1000000 in
theorem all_in (n : Nat) (hn : 1 ≤ n) (l : Nat) (pb : Addr) (c : Value) (J : Nat → World → Prop) (J1 : Nat → Array Value → World → Prop) (Fin : World → Prop)
    (hc : ∀ k W, J k W → W.cell? pb = some c)
    (hN : ∀ k W, J k W → Calls Tryz.prog 84 #[c] W fun e W' => ∃ x y z ok, e = .returned (.tuple #[.agg #[x, y, z], .bool ok]) ∧ x.oneCell' = true ∧ y.oneCell' = true ∧ z.oneCell' = true ∧ (ok = false → Fin (W'.alloc (.cells #[x, y, z] 89))) ∧ (ok = true → ∃ k', k' < k ∧ J1 k' #[x, y, z] (W'.alloc (.cells #[x, y, z] 89))))
    (hY : ∀ k t W, J1 k t W → YieldAt Fence.wide (n - 1) Tryz.prog l #[.agg t] W fun e W' => e = .returned (.bool true) ∧ J k W')
    (k0 : Nat) (W : World) (h0 : J k0 W) :
    CallsIn Fence.wide n Tryz.prog 83 #[.func (.yield l) #[] #[], .pointer (some pb)] W fun e W' => (∃ v, e = .returned v) ∧ Fin W' := by
  refine callsIn_of_wp Tryz.func83 rfl trivial ?_ rfl
  simp only [Tryz.ntmps83, List.size_toArray, List.length_cons, List.length_nil, Nat.reduceAdd, Nat.reduceSub, Array.replicate_succ, Array.replicate_zero, List.push_toArray, List.append_toArray, List.nil_append, List.cons_append]
  gi_wp2
  gi_loopw [3] (fun _ wr => ∃ k, J k wr) (fun _ wr => leastN (J · wr))
  case atStart => exact ⟨k0, h0⟩
  case round =>
    obtain ⟨k1, hk1⟩ := hrel
    obtain ⟨hk, _⟩ := leastN_is (p := (J · wr)) hk1
    obtain ⟨k, hkk⟩ : ∃ k, leastN (J · wr) = k := ⟨_, rfl⟩
    rw [hkk] at hk
    have hcx := hc _ _ hk
    gi_wp2
    refine ⟨trivial, (callsIn_wide.2 (hN k _ hk)).mono ?_⟩
    rintro e w2 ⟨x, y, z, ok, rfl, hx, hy, hz, hf, ht⟩
    have hst := store3 w2 x y z hx hy hz
    cases ok with
    | false =>
      gi_wp2
      refine ⟨fun _ h => (by cases h), ?_⟩
      gi_wp2
      all_goals exact bodyPost_ret (results_none rfl _ _ _) rfl ⟨⟨_, rfl⟩, hf trivial⟩
    | true =>
      obtain ⟨k', hk', h1⟩ := ht rfl
      obtain ⟨fn, tmps, assign, body, hy, hR⟩ := hY _ _ _ h1
      gi_wp2
      refine hR.mono ?_
      rintro e W3 ⟨rfl, hJ3⟩
      gi_wp2
      go_roundw
      case rel => exact ⟨k', hJ3⟩
      case measure => exact Nat.lt_of_le_of_lt (leastN_is (p := (J · W3)) hJ3).2 (by rw [hkk]; exact hk')
end Go.Proofs.YtelpkgbghhpgaaaGreatDoor.Sx
end
