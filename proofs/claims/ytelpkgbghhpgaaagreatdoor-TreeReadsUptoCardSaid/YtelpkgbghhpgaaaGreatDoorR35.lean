/- TreeReads returns true for all texts whose data are not larger than a bound. The functions that are no plain code: what their contracts give the plain machine. strings.IndexByte. strings.Fields, strings.Trim, strings.ToUpper. The words of statements, as the program's text lists them. -/
import Derived.Test.YtelpkgbghhpgaaaGreatDoorR13
import Derived.Test.YtelpkgbghhpgaaaGreatDoorR19
import Derived.Below
import Derived.KernelRfl
import Derived.Lib.Bytealg
import Derived.Lib.Case
import Derived.Lib.Fields
import Derived.Lib.LaidTab
import Derived.Lib.SlTrimSet
import Derived.Shelf.Small.Strs
import Derived.Shelf.Sort.Plain
import Derived.Shelf.Strings.CaseAny
import Derived.Shelf.Strings.Fields
import Derived.Shelf.Strings.SlTrimAscii
import Derived.Test.YtelpkgbghhpgaaaGreatDoorProg
set_option linter.all false
section
namespace Go.Proofs.YtelpkgbghhpgaaaGreatDoor.Sx
open AV
theorem cell_new (w : World) (cs : Array Value) (e : TypeId) (k : Nat) : (w.alloc (.cells cs e)).cell? ⟨w.heap.size, k, none⟩ = cs[k]? := by
  have h : (w.alloc (.cells cs e)).heap[w.heap.size]? = some (.cells cs e) := by
    show (w.heap.push _)[w.heap.size]? = _
    rw [Array.getElem?_push_size]
  unfold World.cell?
  rw [h]
  rfl
section
variable {g : Gh} {st : St} {w w' : World}
def Fresh (g : Gh) (w w' : World) : Nat → Nat → Prop := fun b o => g.imm b o ∨ (w.heap.size ≤ b ∧ b < w'.heap.size)
theorem fresh_hst (h : HSt g st w) (hc : Chg (fun _ => False) w w') : HSt (g.wide (Fresh g w w')) st w' ∧ Ext g st w (g.wide (Fresh g w w')) st w' := by
  have hi : ∀ b o, g.imm b o → Fresh g w w' b o := fun _ _ h => .inl h
  have hcell : ∀ b o, g.imm b o → w'.cell? ⟨b, o, none⟩ = w.cell? ⟨b, o, none⟩ := fun b o hb => cell_of_block (hc.block b (h.1.immlt b o hb) id) o
  have hlt : ∀ b o, Fresh g w w' b o → b < w'.heap.size := fun b o hb => by
    rcases hb with h' | h'
    · exact Nat.lt_of_lt_of_le (h.1.immlt b o h') hc.size
    · exact h'.2
  refine ⟨⟨h.1.trans hc hi (fun _ _ _ => id) hcell (fun b o hb => ?_) hlt, ?_⟩, ?_⟩
  · rcases hb with h' | h'
    · exact .inl h'
    · exact .inr fun ow ho => by have := h.1.lt _ _ ho; omega
  · intro o o' b ho ho'
    exact h.2 o o' b (by cases o <;> exact ho) (by cases o' <;> exact ho')
  · refine ⟨Grow.wide hi hcell, hc.os, hc.tape, hc.output, hc.size, fun b hb _ => hc.block b hb id, fun b o hb hlt' _ => ?_, fun o b ho _ => ⟨o, by cases o <;> exact ho⟩⟩
    rcases hb with h' | h'
    · exact h'
    · omega
theorem pure_post {v : AV} {c : Value} (h : HSt g st w) (hc : Chg (fun _ => False) w w') (hv : PRep w' (Fresh g w w') v c) : CallPost g st w (.ret v) st (.returned c) w' :=
  ⟨g.wide (Fresh g w w'), v, rfl, (fresh_hst h hc).1, (fresh_hst h hc).2, .plain hv⟩
theorem args2 {f : Fh} {n : Nat} {a b : AV} {args : List Value} (hl : [a, b].length = args.length) (hr : ∀ i (h : i < [a, b].length) (h' : i < args.length), Rep g f n w [a, b][i] args[i]) : ∃ x y, args = [x, y] ∧ Rep g f n w a x ∧ Rep g f n w b y := by
  match args, hl with
  | [x, y], _ => exact ⟨x, y, rfl, hr 0 (by simp) (by simp), hr 1 (by simp) (by simp)⟩
theorem args1 {f : Fh} {n : Nat} {a : AV} {args : List Value} (hl : [a].length = args.length) (hr : ∀ i (h : i < [a].length) (h' : i < args.length), Rep g f n w [a][i] args[i]) : ∃ x, args = [x] ∧ Rep g f n w a x := by
  match args, hl with
  | [x], _ => exact ⟨x, rfl, hr 0 (by simp) (by simp)⟩
end
def IntrOk (P : Program) (W0 : World) (f : Nat) (k : IntrFn) : Prop :=
  ∀ call vs st r st', k call vs st = some (r, st') → Enters P f ∧ ∀ g w (args : List Value), Old W0 g w → CallOk P g st w call → HSt g st w → vs.length = args.length →
    (∀ i (h : i < vs.length) (h' : i < args.length), Rep g Fh.none st.size w vs[i] args[i]) → Calls P f args.toArray w (CallPost g st w r st')
end Go.Proofs.YtelpkgbghhpgaaaGreatDoor.Sx
end
section
namespace Go.Proofs.YtelpkgbghhpgaaaGreatDoor.Sx
open AV
theorem indexB_eq (b : UInt8) : ∀ (l : List UInt8) (n : Nat), indexB b l n = if Lib.indexByte l b = -1 then -1 else Lib.indexByte l b + n
  | [], n => by simp [indexB, Lib.indexByte]
  | c :: l, n => by
    have hge := Lib.indexByte_ge l b
    rw [indexB, Lib.indexByte]
    by_cases h : c = b
    · subst h; simp
    · have h2 : (c == b) = false := by simp [h]
      rw [if_neg h, indexB_eq b l (n + 1), h2]
      by_cases h3 : Lib.indexByte l b = -1
      · simp [h3]
      · have h4 : (Lib.indexByte l b == -1) = false := by simp [h3]
        rw [if_neg h3]
        simp only [Bool.false_eq_true, if_false, h4]
        rw [if_neg (by omega)]
        push_cast
        omega
theorem indexB_zero (b : UInt8) (l : List UInt8) : indexB b l 0 = Lib.indexByte l b := by
  rw [indexB_eq]
  split
  · rename_i h; rw [h]
  · simp
theorem intr_indexByte {P : Program} {W0 : World} {f : Nat} (he : Enters P f)
    (hc : ∀ (s : ByteArray) (c : Int) (w : World), Calls P f #[.string s, .int .u8 c] w fun e w' => e = .returned (.int .i64 (Lib.indexByte s.data.toList c.toNat.toUInt8)) ∧ w' = w) : IntrOk P W0 f iIndexByte := by
  intro call vs st r st' hk
  refine ⟨he, fun g w args _ _ hh hl hr => ?_⟩
  unfold iIndexByte at hk
  split at hk
  case h_2 => cases hk
  rename_i s n
  split at hk
  case isFalse => cases hk
  cases hk
  obtain ⟨x, y, rfl, h1, h2⟩ := args2 hl hr
  rw [h1.str_inv, h2.int_inv]
  refine (hc ⟨s.toArray⟩ n w).mono fun e w' ⟨h3, h4⟩ => ?_
  subst h3 h4
  refine pure_post hh (Chg.refl _ _) ?_
  rw [indexB_zero]
  exact .int _ _
end Go.Proofs.YtelpkgbghhpgaaaGreatDoor.Sx
end
section
namespace Go.Proofs.YtelpkgbghhpgaaaGreatDoor.Sx
open AV
theorem chg_below {w w' : World} (h : RowKit.Below w.heap.size w w') : Chg (fun _ => False) w w' := ⟨h.os, h.tape, h.output, h.size, fun b hb _ => h.block b hb⟩
theorem ascii_bytes {s : List UInt8} (h : isAscii s = true) : ∀ (j : Nat) b, s[j]? = some b → b.toNat < 128 := fun j b hb => by
  have := List.all_eq_true.1 h b (List.mem_of_getElem? hb)
  simpa [UInt8.lt_iff_toNat_lt] using this
theorem tab_old {P : Program} {W0 w : World} {g : Gh} (ho : Old W0 g w) {name : String} {k : IntKind} {zs : List Int} (hne : zs ≠ []) (h : Lib.TabIs P W0 name k zs) : Lib.TabIs P w name k zs := by
  unfold Lib.TabIs World.var? at h ⊢
  cases hg : P.globalNamed name with
  | none => rw [hg] at h; cases h
  | some b =>
    rw [hg] at h
    simp only [Option.bind_some] at h ⊢
    split at h
    case h_2 => cases h
    rename_i cs e fr hb
    cases h
    have hlt : b < W0.heap.size := (Array.getElem?_eq_some_iff.1 hb).1
    have hc : ∀ o, w.cell? ⟨b, o, none⟩ = ((zs.map fun z => Value.int k z).toArray)[o]? := fun o => by
      rw [(ho b o hlt).2]
      simp [World.cell?, hb]
    have h0 := hc 0
    cases hz : zs with
    | nil => exact absurd hz hne
    | cons z r =>
      rw [hz] at h0
      unfold World.cell? at h0
      simp only at h0
      split at h0
      · rename_i c e' fr' hw
        rw [hw]
        simp only [Option.some.injEq]
        refine Array.ext_getElem? fun o => ?_
        have := hc o
        rw [hz] at this
        simpa [World.cell?, hw] using this
      · simp at h0
theorem intr_fields {P : Program} {W0 : World} {f : Nat} {e : TypeId} (he : Enters P f) (hT : Lib.TabIs P W0 "strings.asciiSpace" .u8 Lib.asciiSpaceTab)
    (hc : ∀ (s : ByteArray) (w : World), s.size < 4294967281 → (∀ (j : Nat) b, s.data.toList[j]? = some b → b.toNat < 128) → Lib.TabIs P w "strings.asciiSpace" .u8 Lib.asciiSpaceTab →
      Calls P f #[.string s] w fun x w' => x = .returned (.slice (some ⟨w.heap.size, 0, none⟩) (Lib.fields s.data.toList).length (Lib.fields s.data.toList).length) ∧ w' = w.alloc (.cells ((Lib.fields s.data.toList).map fun l => Value.string ⟨l.toArray⟩).toArray e)) : IntrOk P W0 f iFields := by
  intro call vs st r st' hk
  refine ⟨he, fun g w args ho _ hh hl hr => ?_⟩
  unfold iFields at hk
  split at hk
  case h_2 => cases hk
  rename_i s
  split at hk
  case isFalse => cases hk
  rename_i hcond
  cases hk
  simp only [Bool.and_eq_true, decide_eq_true_eq] at hcond
  obtain ⟨x, rfl, h1⟩ := args1 hl hr
  rw [h1.str_inv]
  refine (hc ⟨s.toArray⟩ w (by simpa [ByteArray.size] using hcond.2) (by simpa using ascii_bytes hcond.1) (tab_old ho (by decide) hT)).mono fun e w' ⟨h3, h4⟩ => ?_
  subst h3 h4
  refine pure_post hh (Chg.alloc _ _ _) ?_
  have hlen : ((Lib.fields s).map fun x => ([AV.str x] : List AV)).length = (Lib.fields s).length := by simp
  have hfl : ((Lib.fields s).map fun x => ([AV.str x] : List AV)).flatten = (Lib.fields s).map fun x => AV.str x := by
    induction Lib.fields s with
    | nil => rfl
    | cons a l ih => simp [ih]
  rw [← hlen]
  refine .slice 1 _ _ _ (fun k => ((Lib.fields s).map fun l => Value.string ⟨l.toArray⟩).getD k undef) (fun e he => ?_) (Nat.le_refl _) (fun _ => rfl) (fun k hk => ?_) (fun k hk => ?_)
  · obtain ⟨a, _, rfl⟩ := List.mem_map.1 he
    rfl
  · rw [hfl] at hk
    simp only [List.length_map] at hk
    refine ⟨.inr ⟨Nat.le_refl _, by simp⟩, ?_⟩
    show (w.alloc (.cells _ _)).cell? ⟨w.heap.size, 0 + k, none⟩ = _
    rw [Nat.zero_add, cell_new]
    simp [hk, List.getD]
  · simp only [hfl]
    rw [hfl] at hk
    simp only [List.length_map] at hk
    simp only [List.getElem_map, List.getD, List.getElem?_map, List.getElem?_eq_getElem hk, Option.map_some, Option.getD_some]
    exact .str _
theorem intr_trim {P : Program} {W0 : World} {f : Nat} (he : Enters P f)
    (hc : ∀ (s cutset : ByteArray) (w : World), s.size ≤ 9223372036854775807 → cutset.size < 4294967281 → (∀ (j : Nat) b, cutset.data.toList[j]? = some b → b.toNat < 128) →
      Calls P f #[.string s, .string cutset] w fun x w' => x = .returned (.string ⟨(Lib.trimS s.data.toList cutset.data.toList).toArray⟩) ∧ RowKit.Below w.heap.size w w') : IntrOk P W0 f iTrim := by
  intro call vs st r st' hk
  refine ⟨he, fun g w args ho _ hh hl hr => ?_⟩
  unfold iTrim at hk
  split at hk
  case h_2 => cases hk
  rename_i s cs
  split at hk
  case isFalse => cases hk
  rename_i hcond
  cases hk
  simp only [Bool.and_eq_true, decide_eq_true_eq] at hcond
  obtain ⟨x, y, rfl, h1, h2⟩ := args2 hl hr
  rw [h1.str_inv, h2.str_inv]
  refine (hc ⟨s.toArray⟩ ⟨cs.toArray⟩ w (by have := hcond.1.2; show s.toArray.size ≤ _; simp; omega) (by have := hcond.2; show cs.toArray.size < _; simp; omega) (by simpa using ascii_bytes hcond.1.1)).mono fun e w' ⟨h3, h4⟩ => ?_
  subst h3
  refine pure_post hh (chg_below h4) ?_
  have e : Lib.trimS (⟨s.toArray⟩ : ByteArray).data.toList (⟨cs.toArray⟩ : ByteArray).data.toList = trimA s cs := rfl
  rw [e]
  exact .str _
theorem intr_upper {P : Program} {W0 : World} {f : Nat} (he : Enters P f) {Tab : World → Prop} (hT : ∀ g w, Old W0 g w → Tab w)
    (hc : ∀ (s : ByteArray) (w : World), s.size < 35184372088832 → Tab w → Calls P f #[.string s] w fun x w' => x = .returned (.string ⟨(Lib.toUpperD s.data.toList).toArray⟩) ∧ RowKit.Below w.heap.size w w')
    (ha : ∀ s : List UInt8, (∀ b ∈ s, b.toNat < 128) → Lib.toUpperD s = Lib.toUpperA s) : IntrOk P W0 f iUpper := by
  intro call vs st r st' hk
  refine ⟨he, fun g w args ho _ hh hl hr => ?_⟩
  unfold iUpper at hk
  split at hk
  case h_2 => cases hk
  rename_i s
  split at hk
  case isFalse => cases hk
  rename_i hcond
  cases hk
  obtain ⟨x, rfl, h1⟩ := args1 hl hr
  rw [h1.str_inv]
  refine (hc ⟨s.toArray⟩ w (by show s.toArray.size < _; simp; omega) (hT g w ho)).mono fun e w' ⟨h3, h4⟩ => ?_
  subst h3
  refine pure_post hh (chg_below h4) ?_
  have e : Lib.toUpperD (⟨s.toArray⟩ : ByteArray).data.toList = upperS s := by
    show Lib.toUpperD s = upperS s
    unfold upperS
    split
    · rename_i h
      rw [ha s fun b hb => ?_]
      · rfl
      · obtain ⟨i, hi, rfl⟩ := List.mem_iff_getElem.1 hb
        exact ascii_bytes h i _ (List.getElem?_eq_getElem hi)
    · rfl
  rw [e]
  exact .str _
end Go.Proofs.YtelpkgbghhpgaaaGreatDoor.Sx
end
section
set_option maxRecDepth 100000
namespace Go.Proofs.YtelpkgbghhpgaaaGreatDoor.Sx
def wordsText : List UInt8 := [80, 82, 79, 67, 69, 68, 85, 82, 69, 32, 70, 85, 78, 67, 84, 73, 79, 78, 32, 76, 79, 67, 65, 76, 32, 80, 82, 73, 86, 65, 84, 69, 32, 80, 85, 66, 76, 73, 67, 32, 83, 84, 65, 84, 73, 67, 32, 73, 70, 32, 69, 76, 83, 69, 73, 70, 32, 69, 76, 83, 69, 32, 69, 78, 68, 73, 70, 32, 68, 79, 32, 67, 65, 83, 69, 32, 79, 84, 72, 69, 82, 87, 73, 83, 69, 32, 69, 78, 68, 67, 65, 83, 69, 32, 87, 72, 73, 76, 69, 32, 69, 78, 68, 68, 79, 32, 70, 79, 82, 32, 84, 79, 32, 83, 84, 69, 80, 32, 78, 69, 88, 84, 32, 76, 79, 79, 80, 32, 69, 88, 73, 84, 32, 82, 69, 84, 85, 82, 78, 32, 87, 73, 84, 72, 32, 66, 82, 69, 65, 75, 32, 66, 69, 71, 73, 78, 32, 83, 69, 81, 85, 69, 78, 67, 69, 32, 82, 69, 67, 79, 86, 69, 82, 32, 85, 83, 73, 78, 71, 32, 69, 78, 68, 32, 83, 69, 76, 69, 67, 84, 32, 85, 83, 69, 32, 65, 76, 73, 65, 83, 32, 71, 79, 32, 84, 79, 80, 32, 66, 79, 84, 84, 79, 77, 32, 83, 75, 73, 80, 32, 83, 69, 69, 75, 32, 76, 79, 67, 65, 84, 69, 32, 67, 79, 78, 84, 73, 78, 85, 69, 32, 82, 69, 80, 76, 65, 67, 69, 32, 68, 69, 76, 69, 84, 69, 32, 82, 69, 67, 65, 76, 76, 32, 65, 80, 80, 69, 78, 68, 32, 66, 76, 65, 78, 75, 32, 80, 65, 67, 75, 32, 90, 65, 80, 32, 67, 79, 85, 78, 84, 32, 83, 85, 77, 32, 73, 78, 68, 69, 88, 32, 79, 78, 32, 84, 65, 71, 32, 85, 78, 73, 81, 85, 69, 32, 67, 65, 78, 68, 73, 68, 65, 84, 69, 32, 68, 69, 83, 67, 69, 78, 68, 73, 78, 71, 32, 83, 69, 84, 32, 79, 82, 68, 69, 82, 32, 70, 73, 76, 84, 69, 82, 32, 82, 69, 76, 65, 84, 73, 79, 78, 32, 73, 78, 84, 79, 32, 69, 88, 65, 67, 84, 32, 68, 69, 76, 69, 84, 69, 68, 32, 79, 70, 70, 32, 65, 76, 76, 32, 82, 69, 83, 84, 32, 82, 69, 67, 79, 82, 68]
def rawWords : List (List UInt8) := [[80, 82, 79, 67, 69, 68, 85, 82, 69], [70, 85, 78, 67, 84, 73, 79, 78], [76, 79, 67, 65, 76], [80, 82, 73, 86, 65, 84, 69], [80, 85, 66, 76, 73, 67], [83, 84, 65, 84, 73, 67], [73, 70], [69, 76, 83, 69, 73, 70], [69, 76, 83, 69], [69, 78, 68, 73, 70], [68, 79], [67, 65, 83, 69], [79, 84, 72, 69, 82, 87, 73, 83, 69], [69, 78, 68, 67, 65, 83, 69], [87, 72, 73, 76, 69], [69, 78, 68, 68, 79], [70, 79, 82], [84, 79], [83, 84, 69, 80], [78, 69, 88, 84], [76, 79, 79, 80], [69, 88, 73, 84], [82, 69, 84, 85, 82, 78], [87, 73, 84, 72], [66, 82, 69, 65, 75], [66, 69, 71, 73, 78], [83, 69, 81, 85, 69, 78, 67, 69], [82, 69, 67, 79, 86, 69, 82], [85, 83, 73, 78, 71], [69, 78, 68], [83, 69, 76, 69, 67, 84], [85, 83, 69], [65, 76, 73, 65, 83], [71, 79], [84, 79, 80], [66, 79, 84, 84, 79, 77], [83, 75, 73, 80], [83, 69, 69, 75], [76, 79, 67, 65, 84, 69], [67, 79, 78, 84, 73, 78, 85, 69], [82, 69, 80, 76, 65, 67, 69], [68, 69, 76, 69, 84, 69], [82, 69, 67, 65, 76, 76], [65, 80, 80, 69, 78, 68], [66, 76, 65, 78, 75], [80, 65, 67, 75], [90, 65, 80], [67, 79, 85, 78, 84], [83, 85, 77], [73, 78, 68, 69, 88], [79, 78], [84, 65, 71], [85, 78, 73, 81, 85, 69], [67, 65, 78, 68, 73, 68, 65, 84, 69], [68, 69, 83, 67, 69, 78, 68, 73, 78, 71], [83, 69, 84], [79, 82, 68, 69, 82], [70, 73, 76, 84, 69, 82], [82, 69, 76, 65, 84, 73, 79, 78], [73, 78, 84, 79], [69, 88, 65, 67, 84], [68, 69, 76, 69, 84, 69, 68], [79, 70, 70], [65, 76, 76], [82, 69, 83, 84], [82, 69, 67, 79, 82, 68]]
theorem wordsFields : Lib.fields wordsText = rawWords := by kernel_rfl
theorem rawLength : rawWords.length = 66 := by kernel_rfl
theorem eq_of_sorted {α : Type} {r : α → α → Prop} (anti : ∀ a b, r a b → r b a → a = b) : ∀ {l1 l2 : List α}, l1.Perm l2 → l1.Pairwise r → l2.Pairwise r → l1 = l2
  | [], l2, h, _, _ => (List.nil_perm.1 h).symm
  | a :: l1, [], h, _, _ => absurd h.symm (by intro k; exact absurd (List.nil_perm.1 k) (by simp))
  | a :: l1, b :: l2, h, h1, h2 => by
    have hab : a = b := by
      by_cases e : a = b
      · exact e
      · have ha : a ∈ l2 := by
          have := h.subset (List.mem_cons_self (a := a) (l := l1))
          exact (List.mem_cons.1 this).resolve_left e
        have hb : b ∈ l1 := by
          have := h.symm.subset (List.mem_cons_self (a := b) (l := l2))
          exact (List.mem_cons.1 this).resolve_left (Ne.symm e)
        exact anti a b ((List.pairwise_cons.1 h1).1 b hb) ((List.pairwise_cons.1 h2).1 a ha)
    subst hab
    rw [eq_of_sorted anti (List.perm_cons a |>.1 h) (List.pairwise_cons.1 h1).2 (List.pairwise_cons.1 h2).2]
theorem rawPerm : rawWords.Perm theWords := List.isPerm_iff.1 (by kernel_rfl)
theorem wordsInOrder : theWords.Pairwise fun x y => x ≤ y := by decide +kernel
theorem wordsSorted : (rawWords.mergeSort fun x y => decide (x ≤ y)) = theWords := by
  refine eq_of_sorted (r := fun x y => x ≤ y) (fun a b => List.le_antisymm) ((List.mergeSort_perm _ _).trans rawPerm) ?_ wordsInOrder
  have := List.pairwise_mergeSort (le := fun x y : List UInt8 => decide (x ≤ y)) (fun a b c h1 h2 => by simp only [decide_eq_true_eq] at *; exact List.le_trans h1 h2) (fun a b => by simp only [Bool.or_eq_true, decide_eq_true_eq]; exact List.le_total a b) rawWords
  simpa using this
end Go.Proofs.YtelpkgbghhpgaaaGreatDoor.Sx
end
section
namespace Go.Proofs
open Go.Shelf
def Tryz.lays137_ren : Go.Shelf.Ren := ⟨fun | 137 => 202 | 217 => 234 | 266 => 263 | n => n, fun | 9 => 9 | 5 => 5 | 3 => 3 | n => n, fun | n => n⟩
theorem Tryz.lays137 : Go.Proofs.Lays.n137 Tryz.prog Tryz.lays137_ren := {
  mixed := by kernel_rfl
  f137 := Tryz.func202.trans (congrArg some (by kernel_rfl))
  f217 := Tryz.func234.trans (congrArg some (by kernel_rfl))
  f266 := Tryz.func263.trans (congrArg some (by kernel_rfl))
  t3 := Tryz.underlying3
  a3 := Tryz.isAgg3
  z3 := Tryz.sizeOf3
  v3 := Tryz.zeroValue3
  t5 := Tryz.underlying5
  a5 := Tryz.isAgg5
  z5 := Tryz.sizeOf5
  v5 := Tryz.zeroValue5
  t9 := Tryz.underlying9
  a9 := Tryz.isAgg9
  z9 := Tryz.sizeOf9
  v9 := Tryz.zeroValue9 }
def Tryz.lays157_ren : Go.Shelf.Ren := ⟨fun | 157 => 80 | 229 => 105 | 199 => 106 | 261 => 144 | 311 => 194 | 312 => 195 | n => n, fun | 9 => 9 | 31 => 26 | 3 => 3 | 5 => 5 | 4 => 4 | 119 => 83 | 0 => 0 | 40 => 130 | 152 => 148 | 21 => 21 | 154 => 150 | 51 => 151 | 141 => 153 | 196 => 187 | 193 => 184 | 198 => 190 | 49 => 188 | 194 => 185 | 201 => 193 | 226 => 220 | 46 => 133 | 227 => 221 | n => n, fun | 0 => 0 | 6 => 1 | n => n⟩
theorem Tryz.lays157 : Go.Proofs.Lays.n157 Tryz.prog Tryz.lays157_ren := {
  mixed := by kernel_rfl
  f157 := Tryz.func80.trans (congrArg some (by kernel_rfl))
  f199 := Tryz.func106.trans (congrArg some (by kernel_rfl))
  f229 := Tryz.func105.trans (congrArg some (by kernel_rfl))
  f261 := Tryz.func144.trans (congrArg some (by kernel_rfl))
  f311 := Tryz.func194.trans (congrArg some (by kernel_rfl))
  f312 := Tryz.func195.trans (congrArg some (by kernel_rfl))
  t0 := Tryz.underlying0
  a0 := Tryz.isAgg0
  z0 := Tryz.sizeOf0
  v0 := Tryz.zeroValue0
  t3 := Tryz.underlying3
  a3 := Tryz.isAgg3
  z3 := Tryz.sizeOf3
  v3 := Tryz.zeroValue3
  t4 := Tryz.underlying4
  a4 := Tryz.isAgg4
  z4 := Tryz.sizeOf4
  v4 := Tryz.zeroValue4
  t5 := Tryz.underlying5
  a5 := Tryz.isAgg5
  z5 := Tryz.sizeOf5
  v5 := Tryz.zeroValue5
  t9 := Tryz.underlying9
  a9 := Tryz.isAgg9
  z9 := Tryz.sizeOf9
  v9 := Tryz.zeroValue9
  t21 := Tryz.underlying21
  a21 := Tryz.isAgg21
  z21 := Tryz.sizeOf21
  v21 := Tryz.zeroValue21
  t31 := Tryz.underlying26
  a31 := Tryz.isAgg26
  z31 := Tryz.sizeOf26
  v31 := Tryz.zeroValue26
  t40 := Tryz.underlying130
  a40 := Tryz.isAgg130
  z40 := Tryz.sizeOf130
  v40 := Tryz.zeroValue130
  t46 := Tryz.underlying133
  a46 := Tryz.isAgg133
  z46 := Tryz.sizeOf133
  v46 := Tryz.zeroValue133
  t49 := Tryz.underlying188
  a49 := Tryz.isAgg188
  z49 := Tryz.sizeOf188
  v49 := Tryz.zeroValue188
  t51 := Tryz.underlying151
  a51 := Tryz.isAgg151
  z51 := Tryz.sizeOf151
  v51 := Tryz.zeroValue151
  t119 := Tryz.underlying83
  a119 := Tryz.isAgg83
  z119 := Tryz.sizeOf83
  t141 := Tryz.underlying153
  a141 := Tryz.isAgg153
  z141 := Tryz.sizeOf153
  v141 := Tryz.zeroValue153
  t152 := Tryz.underlying148
  a152 := Tryz.isAgg148
  z152 := Tryz.sizeOf148
  v152 := Tryz.zeroValue148
  t154 := Tryz.underlying150
  a154 := Tryz.isAgg150
  z154 := Tryz.sizeOf150
  v154 := Tryz.zeroValue150
  t193 := Tryz.underlying184
  a193 := Tryz.isAgg184
  z193 := Tryz.sizeOf184
  v193 := Tryz.zeroValue184
  t194 := Tryz.underlying185
  a194 := Tryz.isAgg185
  z194 := Tryz.sizeOf185
  v194 := Tryz.zeroValue185
  t196 := Tryz.underlying187
  a196 := Tryz.isAgg187
  z196 := Tryz.sizeOf187
  v196 := Tryz.zeroValue187
  t198 := Tryz.underlying190
  a198 := Tryz.isAgg190
  z198 := Tryz.sizeOf190
  v198 := Tryz.zeroValue190
  t201 := Tryz.underlying193
  a201 := Tryz.isAgg193
  z201 := Tryz.sizeOf193
  v201 := Tryz.zeroValue193
  t226 := Tryz.underlying220
  a226 := Tryz.isAgg220
  z226 := Tryz.sizeOf220
  v226 := Tryz.zeroValue220
  t227 := Tryz.underlying221
  a227 := Tryz.isAgg221
  z227 := Tryz.sizeOf221
  v227 := Tryz.zeroValue221
  g0 := by kernel_rfl
  g6 := by kernel_rfl }
def Tryz.lays158_ren : Go.Shelf.Ren := ⟨fun | 158 => 159 | 165 => 203 | 166 => 204 | 167 => 205 | 169 => 206 | 230 => 207 | 203 => 208 | 240 => 235 | 241 => 236 | 197 => 237 | 118 => 238 | 168 => 239 | 270 => 240 | 262 => 241 | 276 => 264 | 277 => 265 | 260 => 266 | 242 => 267 | 313 => 268 | 278 => 281 | 274 => 282 | 275 => 283 | n => n, fun | 9 => 9 | 4 => 4 | 3 => 3 | 5 => 5 | 72 => 204 | 0 => 0 | 76 => 207 | 75 => 206 | 107 => 211 | 70 => 202 | 20 => 20 | 37 => 182 | 127 => 225 | 21 => 21 | 105 => 226 | 164 => 242 | 162 => 248 | 203 => 246 | 119 => 83 | 46 => 133 | 139 => 254 | 138 => 253 | 51 => 151 | 160 => 255 | 208 => 266 | 206 => 264 | 80 => 104 | n => n, fun | 13 => 2 | 3 => 4 | 4 => 5 | n => n⟩
theorem Tryz.lays158 : Go.Proofs.Lays.n158 Tryz.prog Tryz.lays158_ren := {
  mixed := by kernel_rfl
  f118 := Tryz.func238.trans (congrArg some (by kernel_rfl))
  f158 := Tryz.func159.trans (congrArg some (by kernel_rfl))
  f165 := Tryz.func203.trans (congrArg some (by kernel_rfl))
  f166 := Tryz.func204.trans (congrArg some (by kernel_rfl))
  f167 := Tryz.func205.trans (congrArg some (by kernel_rfl))
  f168 := Tryz.func239.trans (congrArg some (by kernel_rfl))
  f169 := Tryz.func206.trans (congrArg some (by kernel_rfl))
  f197 := Tryz.func237.trans (congrArg some (by kernel_rfl))
  f203 := Tryz.func208.trans (congrArg some (by kernel_rfl))
  f230 := Tryz.func207.trans (congrArg some (by kernel_rfl))
  f240 := Tryz.func235.trans (congrArg some (by kernel_rfl))
  f241 := Tryz.func236.trans (congrArg some (by kernel_rfl))
  f242 := Tryz.func267.trans (congrArg some (by kernel_rfl))
  f260 := Tryz.func266.trans (congrArg some (by kernel_rfl))
  f262 := Tryz.func241.trans (congrArg some (by kernel_rfl))
  f270 := Tryz.func240.trans (congrArg some (by kernel_rfl))
  f274 := Tryz.func282.trans (congrArg some (by kernel_rfl))
  f275 := Tryz.func283.trans (congrArg some (by kernel_rfl))
  f276 := Tryz.func264.trans (congrArg some (by kernel_rfl))
  f277 := Tryz.func265.trans (congrArg some (by kernel_rfl))
  f278 := Tryz.func281.trans (congrArg some (by kernel_rfl))
  f313 := Tryz.func268.trans (congrArg some (by kernel_rfl))
  t0 := Tryz.underlying0
  a0 := Tryz.isAgg0
  z0 := Tryz.sizeOf0
  v0 := Tryz.zeroValue0
  t3 := Tryz.underlying3
  a3 := Tryz.isAgg3
  z3 := Tryz.sizeOf3
  v3 := Tryz.zeroValue3
  t4 := Tryz.underlying4
  a4 := Tryz.isAgg4
  z4 := Tryz.sizeOf4
  v4 := Tryz.zeroValue4
  t5 := Tryz.underlying5
  a5 := Tryz.isAgg5
  z5 := Tryz.sizeOf5
  v5 := Tryz.zeroValue5
  t9 := Tryz.underlying9
  a9 := Tryz.isAgg9
  z9 := Tryz.sizeOf9
  v9 := Tryz.zeroValue9
  t20 := Tryz.underlying20
  a20 := Tryz.isAgg20
  z20 := Tryz.sizeOf20
  v20 := Tryz.zeroValue20
  t21 := Tryz.underlying21
  a21 := Tryz.isAgg21
  z21 := Tryz.sizeOf21
  v21 := Tryz.zeroValue21
  t37 := Tryz.underlying182
  a37 := Tryz.isAgg182
  z37 := Tryz.sizeOf182
  v37 := Tryz.zeroValue182
  t46 := Tryz.underlying133
  a46 := Tryz.isAgg133
  z46 := Tryz.sizeOf133
  v46 := Tryz.zeroValue133
  t51 := Tryz.underlying151
  a51 := Tryz.isAgg151
  z51 := Tryz.sizeOf151
  v51 := Tryz.zeroValue151
  t70 := Tryz.underlying202
  a70 := Tryz.isAgg202
  z70 := Tryz.sizeOf202
  v70 := Tryz.zeroValue202
  t72 := Tryz.underlying204
  a72 := Tryz.isAgg204
  z72 := Tryz.sizeOf204
  v72 := Tryz.zeroValue204
  t75 := Tryz.underlying206
  a75 := Tryz.isAgg206
  z75 := Tryz.sizeOf206
  v75 := Tryz.zeroValue206
  t76 := Tryz.underlying207
  a76 := Tryz.isAgg207
  z76 := Tryz.sizeOf207
  v76 := Tryz.zeroValue207
  t105 := Tryz.underlying226
  a105 := Tryz.isAgg226
  z105 := Tryz.sizeOf226
  v105 := Tryz.zeroValue226
  t107 := Tryz.underlying211
  a107 := Tryz.isAgg211
  z107 := Tryz.sizeOf211
  v107 := Tryz.zeroValue211
  t119 := Tryz.underlying83
  a119 := Tryz.isAgg83
  z119 := Tryz.sizeOf83
  t127 := Tryz.underlying225
  a127 := Tryz.isAgg225
  z127 := Tryz.sizeOf225
  v127 := Tryz.zeroValue225
  t138 := Tryz.underlying253
  a138 := Tryz.isAgg253
  z138 := Tryz.sizeOf253
  v138 := Tryz.zeroValue253
  t139 := Tryz.underlying254
  a139 := Tryz.isAgg254
  z139 := Tryz.sizeOf254
  v139 := Tryz.zeroValue254
  t160 := Tryz.underlying255
  a160 := Tryz.isAgg255
  z160 := Tryz.sizeOf255
  v160 := Tryz.zeroValue255
  t162 := Tryz.underlying248
  a162 := Tryz.isAgg248
  z162 := Tryz.sizeOf248
  v162 := Tryz.zeroValue248
  t164 := Tryz.underlying242
  a164 := Tryz.isAgg242
  z164 := Tryz.sizeOf242
  v164 := Tryz.zeroValue242
  t203 := Tryz.underlying246
  a203 := Tryz.isAgg246
  z203 := Tryz.sizeOf246
  v203 := Tryz.zeroValue246
  t206 := Tryz.underlying264
  a206 := Tryz.isAgg264
  z206 := Tryz.sizeOf264
  v206 := Tryz.zeroValue264
  t208 := Tryz.underlying266
  a208 := Tryz.isAgg266
  z208 := Tryz.sizeOf266
  v208 := Tryz.zeroValue266
  g3 := by kernel_rfl
  g4 := by kernel_rfl
  g13 := by kernel_rfl }
theorem Tryz.Builder_Extra_158 : Builder.Extra Tryz.prog Tryz.lays158_ren := {
  sizeBuilder := by kernel_rfl
  liesBuilder := by kernel_rfl
  t5 := Tryz.underlying5
  a5 := Tryz.isAgg5
  z5 := Tryz.sizeOf5
  v5 := Tryz.zeroValue5
  infoByte := by kernel_rfl
  cellsByte := by kernel_rfl
  sizeByte := by kernel_rfl
  neB5 := by decide }
def Tryz.lays160_ren : Go.Shelf.Ren := ⟨fun | 160 => 227 | 232 => 257 | 231 => 256 | 227 => 258 | 234 => 260 | 233 => 259 | 236 => 262 | 235 => 261 | 228 => 278 | 271 => 280 | 151 => 279 | 197 => 237 | 120 => 297 | 152 => 296 | 260 => 266 | 137 => 202 | 119 => 304 | 224 => 305 | 225 => 306 | 217 => 234 | 266 => 263 | n => n, fun | 9 => 9 | 4 => 4 | 3 => 3 | 5 => 5 | 117 => 238 | 116 => 237 | 0 => 0 | 124 => 241 | 21 => 21 | 105 => 226 | 46 => 133 | 119 => 83 | 139 => 254 | 138 => 253 | n => n, fun | 3 => 4 | 4 => 5 | n => n⟩
theorem Tryz.lays160 : Go.Proofs.Lays.n160 Tryz.prog Tryz.lays160_ren := {
  mixed := by kernel_rfl
  f119 := Tryz.func304.trans (congrArg some (by kernel_rfl))
  f120 := Tryz.func297.trans (congrArg some (by kernel_rfl))
  f137 := Tryz.func202.trans (congrArg some (by kernel_rfl))
  f151 := Tryz.func279.trans (congrArg some (by kernel_rfl))
  f152 := Tryz.func296.trans (congrArg some (by kernel_rfl))
  f160 := Tryz.func227.trans (congrArg some (by kernel_rfl))
  f197 := Tryz.func237.trans (congrArg some (by kernel_rfl))
  f217 := Tryz.func234.trans (congrArg some (by kernel_rfl))
  f224 := Tryz.func305.trans (congrArg some (by kernel_rfl))
  f225 := Tryz.func306.trans (congrArg some (by kernel_rfl))
  f227 := Tryz.func258.trans (congrArg some (by kernel_rfl))
  f228 := Tryz.func278.trans (congrArg some (by kernel_rfl))
  f231 := Tryz.func256.trans (congrArg some (by kernel_rfl))
  f232 := Tryz.func257.trans (congrArg some (by kernel_rfl))
  f233 := Tryz.func259.trans (congrArg some (by kernel_rfl))
  f234 := Tryz.func260.trans (congrArg some (by kernel_rfl))
  f235 := Tryz.func261.trans (congrArg some (by kernel_rfl))
  f236 := Tryz.func262.trans (congrArg some (by kernel_rfl))
  f260 := Tryz.func266.trans (congrArg some (by kernel_rfl))
  f266 := Tryz.func263.trans (congrArg some (by kernel_rfl))
  f271 := Tryz.func280.trans (congrArg some (by kernel_rfl))
  t0 := Tryz.underlying0
  a0 := Tryz.isAgg0
  z0 := Tryz.sizeOf0
  v0 := Tryz.zeroValue0
  t3 := Tryz.underlying3
  a3 := Tryz.isAgg3
  z3 := Tryz.sizeOf3
  v3 := Tryz.zeroValue3
  t4 := Tryz.underlying4
  a4 := Tryz.isAgg4
  z4 := Tryz.sizeOf4
  v4 := Tryz.zeroValue4
  t5 := Tryz.underlying5
  a5 := Tryz.isAgg5
  z5 := Tryz.sizeOf5
  v5 := Tryz.zeroValue5
  t9 := Tryz.underlying9
  a9 := Tryz.isAgg9
  z9 := Tryz.sizeOf9
  v9 := Tryz.zeroValue9
  t21 := Tryz.underlying21
  a21 := Tryz.isAgg21
  z21 := Tryz.sizeOf21
  v21 := Tryz.zeroValue21
  t46 := Tryz.underlying133
  a46 := Tryz.isAgg133
  z46 := Tryz.sizeOf133
  v46 := Tryz.zeroValue133
  t105 := Tryz.underlying226
  a105 := Tryz.isAgg226
  z105 := Tryz.sizeOf226
  v105 := Tryz.zeroValue226
  t116 := Tryz.underlying237
  a116 := Tryz.isAgg237
  z116 := Tryz.sizeOf237
  t117 := Tryz.underlying238
  a117 := Tryz.isAgg238
  z117 := Tryz.sizeOf238
  v117 := Tryz.zeroValue238
  t119 := Tryz.underlying83
  a119 := Tryz.isAgg83
  z119 := Tryz.sizeOf83
  t124 := Tryz.underlying241
  a124 := Tryz.isAgg241
  z124 := Tryz.sizeOf241
  v124 := Tryz.zeroValue241
  t138 := Tryz.underlying253
  a138 := Tryz.isAgg253
  z138 := Tryz.sizeOf253
  v138 := Tryz.zeroValue253
  t139 := Tryz.underlying254
  a139 := Tryz.isAgg254
  z139 := Tryz.sizeOf254
  v139 := Tryz.zeroValue254
  g3 := by kernel_rfl
  g4 := by kernel_rfl }
def Tryz.lays190_ren : Go.Shelf.Ren := ⟨fun | 190 => 81 | 125 => 108 | 258 => 107 | 128 => 154 | 129 => 155 | 302 => 145 | 303 => 146 | 304 => 147 | 305 => 148 | 306 => 149 | 307 => 150 | 308 => 151 | 309 => 152 | 310 => 153 | 333 => 196 | 329 => 197 | 330 => 198 | 334 => 199 | 335 => 200 | 336 => 201 | 344 => 233 | n => n, fun | 31 => 26 | 9 => 9 | 3 => 3 | 46 => 133 | 0 => 0 | 51 => 151 | 53 => 164 | 4 => 4 | 183 => 156 | 182 => 155 | 131 => 160 | 5 => 5 | 218 => 195 | 222 => 199 | 228 => 222 | 229 => 223 | n => n, fun | n => n⟩
theorem Tryz.lays190 : Go.Proofs.Lays.n190 Tryz.prog Tryz.lays190_ren := {
  mixed := by kernel_rfl
  f125 := Tryz.func108.trans (congrArg some (by kernel_rfl))
  f128 := Tryz.func154.trans (congrArg some (by kernel_rfl))
  f129 := Tryz.func155.trans (congrArg some (by kernel_rfl))
  f190 := Tryz.func81.trans (congrArg some (by kernel_rfl))
  f258 := Tryz.func107.trans (congrArg some (by kernel_rfl))
  f302 := Tryz.func145.trans (congrArg some (by kernel_rfl))
  f303 := Tryz.func146.trans (congrArg some (by kernel_rfl))
  f304 := Tryz.func147.trans (congrArg some (by kernel_rfl))
  f305 := Tryz.func148.trans (congrArg some (by kernel_rfl))
  f306 := Tryz.func149.trans (congrArg some (by kernel_rfl))
  f307 := Tryz.func150.trans (congrArg some (by kernel_rfl))
  f308 := Tryz.func151.trans (congrArg some (by kernel_rfl))
  f309 := Tryz.func152.trans (congrArg some (by kernel_rfl))
  f310 := Tryz.func153.trans (congrArg some (by kernel_rfl))
  f329 := Tryz.func197.trans (congrArg some (by kernel_rfl))
  f330 := Tryz.func198.trans (congrArg some (by kernel_rfl))
  f333 := Tryz.func196.trans (congrArg some (by kernel_rfl))
  f334 := Tryz.func199.trans (congrArg some (by kernel_rfl))
  f335 := Tryz.func200.trans (congrArg some (by kernel_rfl))
  f336 := Tryz.func201.trans (congrArg some (by kernel_rfl))
  f344 := Tryz.func233.trans (congrArg some (by kernel_rfl))
  t0 := Tryz.underlying0
  a0 := Tryz.isAgg0
  z0 := Tryz.sizeOf0
  v0 := Tryz.zeroValue0
  t3 := Tryz.underlying3
  a3 := Tryz.isAgg3
  z3 := Tryz.sizeOf3
  v3 := Tryz.zeroValue3
  t4 := Tryz.underlying4
  a4 := Tryz.isAgg4
  z4 := Tryz.sizeOf4
  v4 := Tryz.zeroValue4
  t5 := Tryz.underlying5
  a5 := Tryz.isAgg5
  z5 := Tryz.sizeOf5
  v5 := Tryz.zeroValue5
  t9 := Tryz.underlying9
  a9 := Tryz.isAgg9
  z9 := Tryz.sizeOf9
  v9 := Tryz.zeroValue9
  t31 := Tryz.underlying26
  a31 := Tryz.isAgg26
  z31 := Tryz.sizeOf26
  v31 := Tryz.zeroValue26
  t46 := Tryz.underlying133
  a46 := Tryz.isAgg133
  z46 := Tryz.sizeOf133
  v46 := Tryz.zeroValue133
  t51 := Tryz.underlying151
  a51 := Tryz.isAgg151
  z51 := Tryz.sizeOf151
  v51 := Tryz.zeroValue151
  t53 := Tryz.underlying164
  a53 := Tryz.isAgg164
  z53 := Tryz.sizeOf164
  v53 := Tryz.zeroValue164
  t131 := Tryz.underlying160
  a131 := Tryz.isAgg160
  z131 := Tryz.sizeOf160
  v131 := Tryz.zeroValue160
  t182 := Tryz.underlying155
  a182 := Tryz.isAgg155
  z182 := Tryz.sizeOf155
  v182 := Tryz.zeroValue155
  t183 := Tryz.underlying156
  a183 := Tryz.isAgg156
  z183 := Tryz.sizeOf156
  v183 := Tryz.zeroValue156
  t218 := Tryz.underlying195
  a218 := Tryz.isAgg195
  z218 := Tryz.sizeOf195
  v218 := Tryz.zeroValue195
  t222 := Tryz.underlying199
  a222 := Tryz.isAgg199
  z222 := Tryz.sizeOf199
  v222 := Tryz.zeroValue199
  t228 := Tryz.underlying222
  a228 := Tryz.isAgg222
  z228 := Tryz.sizeOf222
  v228 := Tryz.zeroValue222
  t229 := Tryz.underlying223
  a229 := Tryz.isAgg223
  z229 := Tryz.sizeOf223
  v229 := Tryz.zeroValue223 }
def Tryz.lays192_ren : Go.Shelf.Ren := ⟨fun | 192 => 50 | 190 => 81 | 125 => 108 | 258 => 107 | 128 => 154 | 129 => 155 | 302 => 145 | 303 => 146 | 304 => 147 | 305 => 148 | 306 => 149 | 307 => 150 | 308 => 151 | 309 => 152 | 310 => 153 | 333 => 196 | 329 => 197 | 330 => 198 | 334 => 199 | 335 => 200 | 336 => 201 | 344 => 233 | n => n, fun | 31 => 26 | 0 => 0 | 9 => 9 | 3 => 3 | 46 => 133 | 51 => 151 | 53 => 164 | 4 => 4 | 183 => 156 | 182 => 155 | 131 => 160 | 5 => 5 | 218 => 195 | 222 => 199 | 228 => 222 | 229 => 223 | n => n, fun | n => n⟩
theorem Tryz.lays192 : Go.Proofs.Lays.n192 Tryz.prog Tryz.lays192_ren := {
  mixed := by kernel_rfl
  f125 := Tryz.func108.trans (congrArg some (by kernel_rfl))
  f128 := Tryz.func154.trans (congrArg some (by kernel_rfl))
  f129 := Tryz.func155.trans (congrArg some (by kernel_rfl))
  f190 := Tryz.func81.trans (congrArg some (by kernel_rfl))
  f192 := Tryz.func50.trans (congrArg some (by kernel_rfl))
  f258 := Tryz.func107.trans (congrArg some (by kernel_rfl))
  f302 := Tryz.func145.trans (congrArg some (by kernel_rfl))
  f303 := Tryz.func146.trans (congrArg some (by kernel_rfl))
  f304 := Tryz.func147.trans (congrArg some (by kernel_rfl))
  f305 := Tryz.func148.trans (congrArg some (by kernel_rfl))
  f306 := Tryz.func149.trans (congrArg some (by kernel_rfl))
  f307 := Tryz.func150.trans (congrArg some (by kernel_rfl))
  f308 := Tryz.func151.trans (congrArg some (by kernel_rfl))
  f309 := Tryz.func152.trans (congrArg some (by kernel_rfl))
  f310 := Tryz.func153.trans (congrArg some (by kernel_rfl))
  f329 := Tryz.func197.trans (congrArg some (by kernel_rfl))
  f330 := Tryz.func198.trans (congrArg some (by kernel_rfl))
  f333 := Tryz.func196.trans (congrArg some (by kernel_rfl))
  f334 := Tryz.func199.trans (congrArg some (by kernel_rfl))
  f335 := Tryz.func200.trans (congrArg some (by kernel_rfl))
  f336 := Tryz.func201.trans (congrArg some (by kernel_rfl))
  f344 := Tryz.func233.trans (congrArg some (by kernel_rfl))
  t0 := Tryz.underlying0
  a0 := Tryz.isAgg0
  z0 := Tryz.sizeOf0
  v0 := Tryz.zeroValue0
  t3 := Tryz.underlying3
  a3 := Tryz.isAgg3
  z3 := Tryz.sizeOf3
  v3 := Tryz.zeroValue3
  t4 := Tryz.underlying4
  a4 := Tryz.isAgg4
  z4 := Tryz.sizeOf4
  v4 := Tryz.zeroValue4
  t5 := Tryz.underlying5
  a5 := Tryz.isAgg5
  z5 := Tryz.sizeOf5
  v5 := Tryz.zeroValue5
  t9 := Tryz.underlying9
  a9 := Tryz.isAgg9
  z9 := Tryz.sizeOf9
  v9 := Tryz.zeroValue9
  t31 := Tryz.underlying26
  a31 := Tryz.isAgg26
  z31 := Tryz.sizeOf26
  v31 := Tryz.zeroValue26
  t46 := Tryz.underlying133
  a46 := Tryz.isAgg133
  z46 := Tryz.sizeOf133
  v46 := Tryz.zeroValue133
  t51 := Tryz.underlying151
  a51 := Tryz.isAgg151
  z51 := Tryz.sizeOf151
  v51 := Tryz.zeroValue151
  t53 := Tryz.underlying164
  a53 := Tryz.isAgg164
  z53 := Tryz.sizeOf164
  v53 := Tryz.zeroValue164
  t131 := Tryz.underlying160
  a131 := Tryz.isAgg160
  z131 := Tryz.sizeOf160
  v131 := Tryz.zeroValue160
  t182 := Tryz.underlying155
  a182 := Tryz.isAgg155
  z182 := Tryz.sizeOf155
  v182 := Tryz.zeroValue155
  t183 := Tryz.underlying156
  a183 := Tryz.isAgg156
  z183 := Tryz.sizeOf156
  v183 := Tryz.zeroValue156
  t218 := Tryz.underlying195
  a218 := Tryz.isAgg195
  z218 := Tryz.sizeOf195
  v218 := Tryz.zeroValue195
  t222 := Tryz.underlying199
  a222 := Tryz.isAgg199
  z222 := Tryz.sizeOf199
  v222 := Tryz.zeroValue199
  t228 := Tryz.underlying222
  a228 := Tryz.isAgg222
  z228 := Tryz.sizeOf222
  v228 := Tryz.zeroValue222
  t229 := Tryz.underlying223
  a229 := Tryz.isAgg223
  z229 := Tryz.sizeOf223
  v229 := Tryz.zeroValue223 }
end Go.Proofs
end
