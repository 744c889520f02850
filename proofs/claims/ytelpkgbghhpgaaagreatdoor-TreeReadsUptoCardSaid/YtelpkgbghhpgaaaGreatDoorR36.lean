/- TreeReads returns true for all texts whose data are not larger than a bound. syntax.Words and cabinetryref06.Words: the walks. syntax.run's deferred function. syntax.run: the walk. syntax.run: sound. slices.Grow of nothing. -/
import Derived.Test.YtelpkgbghhpgaaaGreatDoorR35
import Derived.Defers
import Derived.OwnWalk
import Derived.Recover
import Derived.Test.YtelpkgbghhpgaaaGreatDoorProg
import Derived.WalkKit
set_option linter.all false
section
set_option maxRecDepth 100000
namespace Go.Proofs.YtelpkgbghhpgaaaGreatDoor.Sx
open Go.RowKit
def WordsAt (w : World) (e : Ending) (w' : World) : Prop :=
  ∃ b, w.heap.size ≤ b ∧ b < w'.heap.size ∧ e = .returned (.slice (some ⟨b, 0, none⟩) 66 66) ∧ Chg (fun _ => False) w w' ∧ ∀ k (h : k < theWords.length), w'.cell? ⟨b, k, none⟩ = some (.string ⟨theWords[k].toArray⟩)
def rawRow : Array Value := (rawWords.map fun l => Value.string ⟨l.toArray⟩).toArray
theorem frozen_new (w : World) (cs : Array Value) (t : TypeId) (a : Addr) (h : a.block = w.heap.size) : (w.alloc (.cells cs t)).frozen? a = false := by
  have h1 : (w.alloc (.cells cs t)).heap[w.heap.size]? = some (.cells cs t) := by
    show (w.heap.push _)[w.heap.size]? = _
    rw [Array.getElem?_push_size]
  unfold World.frozen?
  rw [h, h1]
  simp
theorem rawHolds (w : World) (t : TypeId) : Go.Sort.Holds Go.Proofs.encStr (w.alloc (.cells rawRow t)) w.heap.size 0 rawWords.toArray := by
  intro j hj
  refine ⟨?_, frozen_new _ _ _ _ rfl⟩
  rw [Nat.zero_add, cell_new]
  have hj' : j < rawWords.length := by simpa using hj
  rw [getElem!_pos _ j hj]
  simp [rawRow, hj', Go.Proofs.encStr]
theorem sorted_at (w : World) (t : TypeId) (n : Nat) (os : Array Obj) : WordsAt w (.returned (.slice (some ⟨w.heap.size, 0, none⟩) 66 66)) (Go.Sort.grow (Go.Sort.putRow Go.Proofs.encStr (Go.Sort.ahead (w.alloc (.cells rawRow t)) n) w.heap.size 0 theWords.toArray) os) := by
  have hsz : (Go.Sort.putRow Go.Proofs.encStr (Go.Sort.ahead (w.alloc (.cells rawRow t)) n) w.heap.size 0 theWords.toArray).heap.size = w.heap.size + 1 := by
    rw [Go.Sort.size_putRow]
    show (w.heap.push _).size = _
    simp
  refine ⟨w.heap.size, Nat.le_refl _, ?_, rfl, ⟨rfl, rfl, rfl, ?_, fun b hb _ => ?_⟩, fun k hk => ?_⟩
  · rw [Go.Sort.size_grow, hsz]; omega
  · rw [Go.Sort.size_grow, hsz]; omega
  · rw [Go.Sort.heap_grow_old _ _ (by rw [hsz]; omega)]
    show ((w.heap.push _).modify w.heap.size _)[b]? = _
    rw [Array.getElem?_modify, if_neg (by omega), Array.getElem?_push_lt hb]
    simp [hb]
  · rw [Go.Sort.cell?_grow _ _ _ (by rw [hsz]; simp)]
    have h0 : Go.Sort.Holds Go.Proofs.encStr (Go.Sort.ahead (w.alloc (.cells rawRow t)) n) w.heap.size 0 rawWords.toArray := rawHolds w t
    have := Go.Sort.cell?_putRow Go.Proofs.encStr _ w.heap.size 0 rawWords.toArray theWords.toArray h0 (by decide) k (by simpa using hk)
    rw [Nat.zero_add] at this
    rw [this, getElem!_pos _ k (by simpa using hk)]
    simp [Go.Proofs.encStr]
theorem words_fields (w : World) (hT : Lib.TabIs Tryz.prog w "strings.asciiSpace" .u8 Lib.asciiSpaceTab) :
    Calls Tryz.prog 80 #[.string ⟨wordsText.toArray⟩] w fun e w' => e = .returned (.slice (some ⟨w.heap.size, 0, none⟩) 66 66) ∧ w' = w.alloc (.cells rawRow 9) := by
  refine (Any.strings_Fields Tryz.lays157 (by kernel_rfl) (by kernel_rfl) ⟨wordsText.toArray⟩ w (by decide +kernel) (fun j b hb => ?_) hT).mono ?_
  · have h : wordsText.all (fun b => decide (b.toNat < 128)) = true := by kernel_rfl
    exact of_decide_eq_true (List.all_eq_true.1 h b (List.mem_of_getElem? (by simpa using hb)))
  · rintro e w' ⟨h1, h2⟩
    have e1 : Lib.fields (⟨wordsText.toArray⟩ : ByteArray).data.toList = rawWords := by
      show Lib.fields wordsText = rawWords
      exact wordsFields
    rw [e1, rawLength] at h1
    rw [e1] at h2
    exact ⟨h1, h2⟩
theorem sort_raw (w : World) (t : TypeId) (f : Nat) (hs : ∀ (blk off cap : Nat) (ss : List (List UInt8)) (w : World), Go.Sort.Holds Go.Proofs.encStr w blk off ss.toArray → blk < w.heap.size → ss.length < 4611686018427387904 →
      Calls Tryz.prog f #[.slice (some ⟨blk, off, none⟩) ss.length cap] w fun e w' => e = .returned (.tuple #[]) ∧ ∃ n os, w' = Go.Sort.grow (Go.Sort.putRow Go.Proofs.encStr (Go.Sort.ahead w n) blk off (ss.mergeSort fun x y => decide (x ≤ y)).toArray) os) :
    Calls Tryz.prog f #[.slice (some ⟨w.heap.size, 0, none⟩) 66 66] (w.alloc (.cells rawRow t)) fun e w' => e = .returned (.tuple #[]) ∧ WordsAt w (.returned (.slice (some ⟨w.heap.size, 0, none⟩) 66 66)) w' := by
  have h := hs w.heap.size 0 66 rawWords (w.alloc (.cells rawRow t)) (rawHolds w t) (by show _ < (w.heap.push _).size; simp) (by rw [rawLength]; decide)
  rw [rawLength] at h
  refine h.mono ?_
  rintro e w' ⟨h1, n, os, rfl⟩
  refine ⟨h1, ?_⟩
  rw [wordsSorted]
  exact sorted_at w t n os
theorem words_walk (w : World) (hT : Lib.TabIs Tryz.prog w "strings.asciiSpace" .u8 Lib.asciiSpaceTab) :
    Calls Tryz.prog 49 #[] w fun e w' => WordsAt w e w' := by
  go_enter Tryz.func49, Tryz.ntmps49
  go_wp2_with (first
    | (go_at_call 80; refine (words_fields _ hT).mono ?_; rintro e w' ⟨rfl, rfl⟩)
    | (go_at_call 81; refine (sort_raw _ _ _ (Any.slices_Sort_string Tryz.lays190)).mono ?_; rintro e w' ⟨rfl, hw⟩))
  all_goals go_ret
  all_goals exact hw
theorem rwords_walk (w : World) :
    Calls Tryz.prog 21 #[] w fun e w' => WordsAt w e w' := by
  go_enter Tryz.func21, Tryz.ntmps21
  go_wp2_with (first
    | (go_at_call 50; refine (sort_raw _ _ _ (Any.sort_Strings Tryz.lays192)).mono ?_; rintro e w' ⟨rfl, hw⟩))
  all_goals go_ret
  all_goals exact hw
open AV in
theorem intr_words {P : Program} {W0 : World} {f : Nat} (he : Enters P f) (hc : ∀ g w, Old W0 g w → Calls P f #[] w fun e w' => WordsAt w e w') : IntrOk P W0 f (iTexts theWords) := by
  intro call vs st r st' hk
  refine ⟨he, fun g w args ho _ hh hl hr => ?_⟩
  unfold iTexts at hk
  split at hk
  case h_2 => cases hk
  cases hk
  obtain rfl : args = [] := by
    cases args with
    | nil => rfl
    | cons => simp at hl
  refine (hc g w ho).mono fun e w' ⟨b, hb, hlt, h1, h2, h3⟩ => ?_
  subst h1
  refine pure_post hh h2 ?_
  have hfl : (theWords.map fun x => ([AV.str x] : List AV)).flatten = theWords.map fun x => AV.str x := by rfl
  have h66 : theWords.length = 66 := by decide
  have hlen : (theWords.map fun x => ([AV.str x] : List AV)).length = 66 := by rw [List.length_map, h66]
  have e : (66 : Nat) = (theWords.map fun x => ([AV.str x] : List AV)).length := hlen.symm
  have : PRep w' (Fresh g w w') (.slice 1 (theWords.map fun x => [AV.str x]) .no) (.slice (some ⟨b, 0, none⟩) (theWords.map fun x => ([AV.str x] : List AV)).length 66) := by
    refine .slice 1 _ _ _ (fun k => (theWords.map fun l => Value.string ⟨l.toArray⟩).getD k undef) (fun e he => ?_) (by rw [hlen]; exact Nat.le_refl _) (fun _ => rfl) (fun k hk => ?_) (fun k hk => ?_)
    · obtain ⟨a, _, rfl⟩ := List.mem_map.1 he
      rfl
    · rw [hfl] at hk
      simp only [List.length_map] at hk
      refine ⟨.inr ⟨hb, hlt⟩, ?_⟩
      have := h3 k hk
      rw [Nat.zero_add, this]
      simp [List.getD, hk]
    · simp only [hfl]
      rw [hfl] at hk
      simp only [List.length_map] at hk
      simp only [List.getElem_map, List.getD, List.getElem?_map, List.getElem?_eq_getElem hk, Option.map_some, Option.getD_some]
      exact .str _
  rw [hlen] at this
  exact this
end Go.Proofs.YtelpkgbghhpgaaaGreatDoor.Sx
end
section
set_option maxRecDepth 100000
namespace Go.Proofs.YtelpkgbghhpgaaaGreatDoor.Sx
open Go.RowKit
theorem catch_idle (p : Addr) (w : World) : CallsD Tryz.prog 85 #[.pointer (some p)] .returning w fun e u' w' => e = .returned (.tuple #[]) ∧ u' = .returning ∧ w' = w := by
  refine callsD_of_wpS Tryz.func85 rfl fun c₀ cs hu => ?_
  apply wpS_seq
  apply wpS_region
  simp [wpOpsS, go_sem, recoverD, hu, Tryz.ntmps85, Exit.thenS]
  apply wpS_seq
  apply wpS_region
  simp [wpOpsS, go_sem, Exit.thenS]
  refine wpS_cond (t := false) (by simp [Act.eval, Array.replicate]) ?_
  simp only [Bool.false_eq_true, if_false]
  refine wpS_of_wp (wp_skip ?_)
  cases c₀
  simp_all [bodyPostS, results, Tryz.results85]
theorem wpS_tmps {P : Program} {c : Code} {Q : Exit → Act → List Frame → World → Prop} {t t' : Array Value} {ds : List Deferred} {cs : List Frame} {w : World} (h : t = t') (hw : c.wpS P Q ⟨t', ds⟩ cs w) : c.wpS P Q ⟨t, ds⟩ cs w := by
  rw [h]; exact hw
theorem run_ta (v : Value) (w : World) : (Instr.typeAssert (.iface 115 v) 20 115 true).run Tryz.prog w = .ok (.tuple #[v, .bool true]) w := by
  simp [Instr.typeAssert, run_underlying Tryz.underlying115, go_sem, Result.andThen]
theorem cell_of_alloc (w : World) (o : Obj) {p : Addr} (hp : p.block < w.heap.size) : (w.alloc o).cell? p = w.cell? p := by
  unfold World.cell?
  have h : (w.alloc o).heap[p.block]? = w.heap[p.block]? := by
    show (w.heap.push o)[p.block]? = _
    rw [Array.getElem?_push_lt hp]; simp [hp]
  rw [h]
theorem catch_stop (p : Addr) (x k : Int) (older : List PanicEntry) (w : World) (hc : w.cell? p = some (.int .i64 x)) (hz : w.frozen? p = false) (hp : p.block < w.heap.size) :
    CallsD Tryz.prog 85 #[.pointer (some p)] (.panicking ({ v := .iface 115 (.agg #[.int .i64 k]), recovered := false } :: older)) w fun e u' w' =>
      e = .returned (.tuple #[]) ∧ u' = .panicking ({ v := .iface 115 (.agg #[.int .i64 k]), recovered := true } :: older) ∧ w' = (w.alloc (.cells #[.int .i64 k] 115)).setCell p (.int .i64 k) := by
  refine callsD_of_wpS Tryz.func85 rfl fun c₀ cs hu => ?_
  apply wpS_seq
  apply wpS_region
  simp [wpOpsS, go_sem, recoverD, hu, Tryz.ntmps85, Exit.thenS]
  apply wpS_seq
  apply wpS_region
  simp [wpOpsS, go_sem, Exit.thenS]
  generalize hv : Value.iface 115 (.agg #[.int .i64 k]) = v at *
  refine wpS_tmps (t' := #[.pointer (some p), v, undef, undef, v, v, .bool true, undef, undef, undef, undef, undef, undef, undef, undef, undef, undef]) (by rfl) ?_
  subst hv
  refine wpS_cond (t := true) (by simp [Act.eval]) ?_
  simp only [if_true]
  have hta := run_ta
  refine wpS_of_wp ?_
  clear hu
  refine wp_seq ?_
  refine wp_region ?_
  generalize hK : Exit.then _ _ = K
  simp [wpOps, Oper.wp, Oper.upon, go_sem, hta, Act.eval, Act.put, yielded]
  repeat left
  subst hK
  refine wp_seq ?_
  refine wp_seq ?_
  refine wp_region ?_
  generalize hK : Exit.then _ _ = K
  simp [wpOps, Oper.wp, Oper.upon, go_sem, Act.eval, Act.put, yielded]
  repeat left
  subst hK
  refine wp_cond (t := false) (by simp [Act.eval]) ?_
  simp only [Bool.false_eq_true, if_false]
  refine wp_skip ?_
  refine wp_region ?_
  generalize hK : (fun e a' w' => bodyPostS _ _ _ _ _ e a' _ w') = K
  have hc2 : (w.alloc (.cells #[.int .i64 k] 115)).cell? p = some (.int .i64 x) := by
    rw [← hc]
    exact cell_of_alloc w _ hp
  have hz2 : (w.alloc (.cells #[.int .i64 k] 115)).frozen? p = false := by
    rw [← hz]
    exact World.frozen?_alloc_old _ _ _ (by omega)
  have hc3 : (w.alloc (.cells #[.int .i64 k] 115)).cell? ⟨w.heap.size, 0, none⟩ = some (.int .i64 k) := by
    rw [cell_new]; rfl
  simp [wpOps, Oper.wp, Oper.upon, go_sem, Act.eval, Act.put, yielded, hc2, hz2, hc3]
  repeat left
  subst hK
  simp [bodyPostS, results, Tryz.results85]
end Go.Proofs.YtelpkgbghhpgaaaGreatDoor.Sx
end
section
set_option maxRecDepth 100000
namespace Go.Proofs.YtelpkgbghhpgaaaGreatDoor.Sx
open Go.RowKit
def stopChain (k : Int) : List PanicEntry := [{ v := .iface 115 (.agg #[.int .i64 k]), recovered := false }]
def AtOk (w w3 : World) : Prop := w3.heap[w.heap.size]? = some (.cells #[.int .i64 0] 3 (0, 0))
theorem at_cell {w w3 : World} (h : AtOk w w3) : w3.cell? ⟨w.heap.size, 0, none⟩ = some (.int .i64 0) ∧ w3.frozen? ⟨w.heap.size, 0, none⟩ = false ∧ w.heap.size < w3.heap.size := by
  have hlt := (Array.getElem?_eq_some_iff.1 h).1
  unfold AtOk at h
  refine ⟨?_, ?_, hlt⟩
  · simp [World.cell?, h]
  · simp [World.frozen?, h]
theorem set_at {w w3 : World} (h : AtOk w w3) (v : Value) : (w3.setCell ⟨w.heap.size, 0, none⟩ v).cell? ⟨w.heap.size, 0, none⟩ = some v := by
  unfold AtOk at h
  simp [World.setCell, World.cell?, Array.getElem?_modify, h]
theorem at_alloc {w w3 : World} (h : AtOk w w3) (o : Obj) : AtOk w (w3.alloc o) := by
  unfold AtOk at h ⊢
  have hlt := (Array.getElem?_eq_some_iff.1 h).1
  show (w3.heap.push o)[w.heap.size]? = _
  rw [Array.getElem?_push_lt hlt, ← h]
  simp [hlt]
def runDefers (w : World) : List Deferred := [{ target := Target.fn (Fn.func 85) #[Value.pointer (some { block := w.heap.size, off := 0 })], args := #[] }]
theorem panic_end {R : Ending → World → Prop} {w w3 : World} {k : Int} {tmps : Array Value} (h4 : tmps[4]? = some (.pointer (some ⟨w.heap.size, 0, none⟩))) (hat : AtOk w w3)
    (hR : R (.returned (.int .i64 k)) ((w3.alloc (.cells #[.int .i64 k] 115)).setCell ⟨w.heap.size, 0, none⟩ (.int .i64 k))) :
    bodyPostD Tryz.prog Tryz.f54 R (Exit.panic (stopChain k)) ⟨tmps, runDefers w⟩ w3 := by
  obtain ⟨h1, h2, h3⟩ := at_cell hat
  refine leaves_cons (f := 85) (args := #[.pointer (some ⟨w.heap.size, 0, none⟩)]) (by simp [runDefers]) (by simp [go_sem]) ?_
  refine (catch_stop ⟨w.heap.size, 0, none⟩ 0 k [] w3 h1 h2 h3).mono ?_
  rintro e u' w'' ⟨rfl, rfl, rfl⟩
  have hs := set_at (at_alloc hat (.cells #[.int .i64 k] 115)) (.int .i64 k)
  simp [Leaves, settle, results, Tryz.results54, go_sem, h4, hs]
  exact hR
theorem idle_end {R : Ending → World → Prop} {w w3 : World} {tmps : Array Value} (h4 : tmps[4]? = some (.pointer (some ⟨w.heap.size, 0, none⟩))) (hat : AtOk w w3)
    (hR : R (.returned (.int .i64 (-1))) (w3.setCell ⟨w.heap.size, 0, none⟩ (.int .i64 (-1)))) :
    bodyPostD Tryz.prog Tryz.f54 R Exit.ret ⟨tmps, runDefers w⟩ (w3.setCell ⟨w.heap.size, 0, none⟩ (.int .i64 (-1))) := by
  refine leaves_cons (f := 85) (args := #[.pointer (some ⟨w.heap.size, 0, none⟩)]) (by simp [runDefers]) (by simp [go_sem]) ?_
  refine (catch_idle ⟨w.heap.size, 0, none⟩ _).mono ?_
  rintro e u' w'' ⟨rfl, rfl, rfl⟩
  have hs := set_at hat (.int .i64 (-1))
  simp [Leaves, settle, results, Tryz.results54, go_sem, h4, hs]
  exact hR
theorem run_walk (w : World) (px : Option Addr) (nx cx : Nat) (f : FuncId) (va vb : Array Value) (R : Ending → World → Prop) (K : Value → World → Prop) (L : Nat → World → Prop) (M : Int → World → Prop)
   (ef : ∀ args w, (callFunc f args).run Tryz.prog w = .ok (.enter f args) w)
   (hW : Calls Tryz.prog 49 #[] (w.alloc (.cells #[.int .i64 0] 3)) fun e w2 => ∃ p n c, e = .returned (.slice p n c) ∧ K (.slice p n c) w2)
   (hR : ∀ p n c w2, K (.slice p n c) w2 → Calls Tryz.prog f (va.push (.pointer (some ⟨w2.heap.size, 0, none⟩)) ++ vb) (w2.alloc (.cells #[.slice px nx cx, .int .i64 0, .slice p n c, .slice none 0 0] 118))
     (fun e w3 => (∃ v, e = .returned v ∧ L w2.heap.size w3) ∨ ∃ k, e = .panicked (stopChain k) ∧ M k w3))
   (hM : ∀ k w3, M k w3 → AtOk w w3 ∧ R (.returned (.int .i64 k)) ((w3.alloc (.cells #[.int .i64 k] 115)).setCell ⟨w.heap.size, 0, none⟩ (.int .i64 k)))
   (hL : ∀ b w3, L b w3 → ∃ k, w3.cell? ⟨b, 1, none⟩ = some (.int .i64 k) ∧ AtOk w w3 ∧ (k < nx → Calls Tryz.prog 86 #[.pointer (some ⟨b, 0, none⟩)] w3 (fun e w4 => ∃ k2, e = .panicked (stopChain k2) ∧ M k2 w4)) ∧
     (¬ k < nx → R (.returned (.int .i64 (-1))) (w3.setCell ⟨w.heap.size, 0, none⟩ (.int .i64 (-1))))) :
   Calls Tryz.prog 54 #[.slice px nx cx, .func (.func f) va vb] w R := by
  have hmf : ∀ (fn : Fn) (first cap : Array Value) (w : World), (Instr.makeFunc fn first cap).run Tryz.prog w = .ok (.func fn first cap) w := fun _ _ _ _ => rfl
  go_enter_defers Tryz.func54, Tryz.ntmps54
  go_wp2_with (first
    | (go_at_call 49; refine hW.mono ?_; rintro e w2 ⟨p, n, c, rfl, hK⟩)
    | (go_at_call 86; refine (hlt2 (by assumption)).mono ?_; rintro e w4 ⟨k2, rfl, hMk⟩; exact panic_end rfl (hM _ _ hMk).1 (hM _ _ hMk).2)
    | (refine (hR _ _ _ _ hK).mono ?_; rintro e w3 (⟨v, rfl, hLw⟩ | ⟨k, rfl, hMk⟩); rotate_left; (exact panic_end rfl (hM _ _ hMk).1 (hM _ _ hMk).2); obtain ⟨k, hk1, hat, hlt2, hge⟩ := hL _ _ hLw; obtain ⟨a1, a2, a3⟩ := at_cell hat))
  all_goals exact idle_end rfl hat (hge (by first | assumption | simp_all))
end Go.Proofs.YtelpkgbghhpgaaaGreatDoor.Sx
end
section
set_option maxRecDepth 100000
namespace Go.Proofs.YtelpkgbghhpgaaaGreatDoor.Sx
open AV
section
variable {g g3 : Gh} {st st3 : St} {w w3 w5 : World}
theorem at_unclaimed (hh : HSt g st w) (o : Ow) : ¬ HClaim g st o w.heap.size := fun h => by
  have := hh.1.lt _ _ h
  omega
theorem at_still (hh : HSt g st w) (c : Array Value) (t : TypeId) (he : Ext g st (w.alloc (.cells c t)) g3 st3 w3) : w3.heap[w.heap.size]? = some (.cells c t (0, 0)) := by
  rw [he.block w.heap.size (by show _ < (w.heap.push _).size; simp) (at_unclaimed hh)]
  show (w.heap.push _)[w.heap.size]? = _
  rw [Array.getElem?_push_size]
theorem ext_alloc (hh : HSt g st w) (o : Obj) : HSt g st (w.alloc o) ∧ Ext g st w g st (w.alloc o) := by
  have hc := Chg.alloc (fun _ => False) w o
  refine ⟨⟨Inv.hinv_chg hh.1 hc, hh.2⟩, ⟨⟨Nat.le_refl _, fun _ _ => rfl, fun _ _ _ _ _ h => h, fun _ _ h => h, fun b o hb => cell_of_block (hc.block b (hh.1.immlt b o hb) id) o⟩, rfl, rfl, rfl, hc.size, fun b hb _ => hc.block b hb id, fun _ _ h _ _ => h, fun o _ h _ => ⟨o, h⟩⟩⟩
theorem at_post (hh : HSt g st w) {x : Obj} (h3 : HSt g3 st3 w3) (he : Ext g st (w.alloc x) g3 st3 w3) (hc : Chg (· = w.heap.size) w3 w5) (hle : st.size ≤ st3.size) {r : AV} {c : Value} (hr : ∀ g n w, Rep g Fh.none n w r c) :
    CallPost g st w (.ret r) (st3.trunc st.size) (.returned c) w5 := by
  have hlt : w.heap.size < (w.alloc x).heap.size := by show _ < (w.heap.push _).size; simp
  have hnc : ∀ o b, HClaim g3 st3 o b → ¬ b = w.heap.size := by
    rintro o b h rfl
    obtain ⟨o', h'⟩ := he.claim o _ h hlt
    exact at_unclaimed hh o' h'
  have hni : ∀ b o, g3.imm b o → b ≠ w.heap.size := by
    rintro b o h rfl
    have := he.newimm _ o h hlt (at_unclaimed hh)
    have := hh.1.immlt _ _ this
    omega
  have hcell : ∀ b o, g3.imm b o → w5.cell? ⟨b, o, none⟩ = w3.cell? ⟨b, o, none⟩ := fun b o hb => cell_of_block (hc.block b (h3.1.immlt b o hb) (hni b o hb)) o
  have hI : HInv g3 w5 st3 := h3.1.trans (I := g3.imm) hc (fun _ _ h => h) hnc hcell (fun _ _ h => .inl h) (fun b o hb => Nat.lt_of_lt_of_le (h3.1.immlt b o hb) hc.size)
  have hE : Ext g st w g3 st3 w5 := by
    refine Ext.step ((ext_alloc hh x).2.trans he) hc (fun b hb => .inl (.inl (by rw [hb]; exact Nat.le_refl _))) ⟨Nat.le_refl _, fun _ _ => rfl, fun _ _ _ _ _ h => h, fun _ _ h => h, hcell⟩ (fun _ _ h => .inl h) (fun o b h _ => .inr ⟨o, h⟩)
  exact ⟨g3, r, rfl, HSt.trunc ⟨hI, h3.2⟩ _, hE.trunc (Nat.le_refl _), hr _ _ _⟩
theorem chg_set (w3 : World) (b : Nat) (v : Value) : Chg (· = b) w3 (w3.setCell ⟨b, 0, none⟩ v) := by
  refine ⟨rfl, rfl, rfl, by simp [World.setCell], fun k hk hne => ?_⟩
  simp [World.setCell, Array.getElem?_modify, Ne.symm hne]
end
theorem elsOf_val {g : Gh} {f : Fh} {n : Nat} {w : World} {sz : Nat} {l : AV} {els : List (List AV)} {x : Value} (h : elsOf sz l = some els) (hx : Rep g f n w l x) : ∃ p cap, x = .slice p els.length cap := by
  unfold elsOf at h
  split at h
  · cases h
    exact ⟨none, 0, hx.nilslice_inv⟩
  · split at h
    · cases h
      obtain ⟨_, a, cap, vs, hc, _⟩ := hx.slice_inv.1.slice_inv
      exact ⟨some a, cap, hc⟩
    · cases h
  · cases h
theorem reps_append {g : Gh} {f : Fh} {n : Nat} {w : World} {a b : List AV} {va vb : List Value} (hl : a.length = va.length) (h1 : ∀ i (h : i < a.length) (h' : i < va.length), Rep g f n w a[i] va[i])
    (h2 : ∀ i (h : i < b.length) (h' : i < vb.length), Rep g f n w b[i] vb[i]) : ∀ i (h : i < (a ++ b).length) (h' : i < (va ++ vb).length), Rep g f n w (a ++ b)[i] (va ++ vb)[i] := by
  intro i h h'
  by_cases hi : i < a.length
  · rw [List.getElem_append_left hi, List.getElem_append_left (by omega)]
    exact h1 i hi (by omega)
  · rw [List.getElem_append_right (by omega), List.getElem_append_right (by omega)]
    simp only [List.length_append] at h h'
    have e : i - a.length = i - va.length := by omega
    simp only [← e]
    exact h2 (i - a.length) (by omega) (by omega)
theorem caught_inv {stop : Nat} {st st' : St} {r : Res} {o : Option (Res × St)} (h : caught stop st o = some (r, st')) :
    ∃ k s, o = some (.panic (.iface stop (.agg [.int .i64 k])), s) ∧ r = .ret (.int .i64 k) ∧ st' = s.trunc st.size := by
  unfold caught at h
  split at h
  · split at h
    · rename_i t k s ht
      cases h
      subst ht
      exact ⟨k, s, rfl, rfl, rfl⟩
    · cases h
  · cases h
theorem stop_val {g : Gh} {f : Fh} {n : Nat} {w : World} {k : Int} {c : Value} {t : Nat} (h : Rep g f n w (.iface t (.agg [.int .i64 k])) c) : c = .iface t (.agg #[.int .i64 k]) := by
  obtain ⟨x, rfl, _, hx⟩ := h.iface_inv
  obtain ⟨vs, rfl, hl, hv⟩ := hx.agg_inv
  match vs, hl with
  | [v], _ =>
    have := (hv.1 0 (by simp) (by simp))
    simp only [List.getElem_cons_zero] at this
    rw [this.int_inv]
theorem intr_run {W0 : World} : IntrOk Tryz.prog W0 54 (iRun 49 86 115) := by
  intro call vs st r st' hk
  refine ⟨⟨_, _, Tryz.func54, rfl, by decide⟩, fun g w args _ hcall hh hl hr => ?_⟩
  unfold iRun at hk
  split at hk
  case h_2 => cases hk
  rename_i l f first captured
  split at hk
  case h_2 => cases hk
  rename_i els hels
  split at hk
  case isFalse => cases hk
  rename_i hcond
  split at hk
  case h_2 => cases hk
  rename_i sz ls st1 hwds
  simp only [Bool.and_eq_true] at hcond
  obtain ⟨⟨hfirst, hcapt⟩, hpl⟩ := hcond
  obtain ⟨x, y, rfl, hx, hy⟩ := args2 hl hr
  obtain ⟨va, vb, rfl, hla, hlb, hva, hvb⟩ := hy.func_inv
  obtain ⟨px, cx, rfl⟩ := elsOf_val hels hx
  have hx' := plain1_rep hpl hx
  obtain ⟨hs1, he1⟩ := ext_alloc hh (.cells #[.int .i64 0] 3)
  obtain ⟨_, hc1⟩ := hcall _ _ _ _ _ hwds
  have hwd := hc1 g _ [] he1.grow hs1 rfl (fun i h => by simp at h)
  cases hcf : call f (first ++ [.ptr st1.size 0] ++ captured) (st1.push (.cells [l, .int .i64 0, .slice sz ls .no, .nilslice])) with
  | none => rw [hcf] at hk; cases hk
  | some res =>
  obtain ⟨r2, st2⟩ := res
  rw [hcf] at hk
  obtain ⟨hent, hc2⟩ := hcall _ _ _ _ _ hcf
  have hle1 : ∀ {g3 : Gh} {st3 : St} {w3 : World}, Ext g st (w.alloc (.cells #[.int .i64 0] 3)) g3 st3 w3 → st.size ≤ st3.size := fun h => h.grow.le
  refine run_walk w px els.length cx f va.toArray vb.toArray (CallPost g st w r st')
    (fun v w2 => ∃ g2, HSt g2 st1 w2 ∧ Ext g st (w.alloc (.cells #[.int .i64 0] 3)) g2 st1 w2 ∧ Rep g2 Fh.none st1.size w2 (.slice sz ls .no) v)
    (fun b w3 => ∃ g3 v2, r2 = .ret v2 ∧ HSt g3 st2 w3 ∧ Ext g st (w.alloc (.cells #[.int .i64 0] 3)) g3 st2 w3 ∧ g3.blk st1.size = b ∧ st1.size < st2.size)
    (fun k w3 => ∃ g3 st3, HSt g3 st3 w3 ∧ Ext g st (w.alloc (.cells #[.int .i64 0] 3)) g3 st3 w3 ∧ r = .ret (.int .i64 k) ∧ st' = st3.trunc st.size)
    (fun args w => run_enter hent args) ?_ ?_ ?_ ?_
  ·
    refine hwd.mono fun e w2 hp => ?_
    cases e with
    | returned c =>
      obtain ⟨g2, v, hv, k1, k2, k3⟩ := hp
      cases hv
      obtain ⟨_, a, cap, _, hc, _⟩ := k3.slice_inv.1.slice_inv
      subst hc
      exact ⟨_, _, _, rfl, g2, k1, k2, k3⟩
    | panicked c =>
      obtain ⟨_, _, _, hv, _⟩ := hp
      cases hv
    | outgrown => exact hp.elim
  ·
    rintro p n c w2 ⟨g2, k1, k2, k3⟩
    have I0 := Inv.start (g := g2) (st := st1) (w := w2) k1 (vs := []) (args := []) rfl (fun i h => by simp at h) 0 0
    have hchg : Chg (fun _ => False) w2 (w2.alloc (.cells #[.slice px els.length cx, .int .i64 0, .slice p n c, .slice none 0 0] 118)) := Chg.alloc _ _ _
    have hcell : ∀ b o, g2.imm b o → (w2.alloc (.cells #[.slice px els.length cx, .int .i64 0, .slice p n c, .slice none 0 0] 118)).cell? ⟨b, o, none⟩ = w2.cell? ⟨b, o, none⟩ := fun b o hb => cell_of_block (hchg.block b (k1.1.immlt b o hb) id) o
    have I1 := I0.push (o := .cells [l, .int .i64 0, .slice sz ls .no, .nilslice]) (x := .cells #[.slice px els.length cx, .int .i64 0, .slice p n c, .slice none 0 0] 118) (by
      intro cs hcs off sz' els' i p' h
      cases hcs
      match off, h with
      | 0, h =>
        simp only [List.getElem?_cons_zero, Option.some.injEq] at h
        rw [h] at hpl
        cases hpl
      | 1, h => cases h
      | 2, h => cases h
      | 3, h => cases h
      | n + 4, h => simp at h) (by
      refine ⟨#[.slice px els.length cx, .int .i64 0, .slice p n c, .slice none 0 0], 118, ?_, rfl, ?_⟩
      · show (w2.heap.push _)[(if _ then _ else _ : Nat)]? = _
        rw [if_pos rfl, Array.getElem?_push_size]
      · intro i h h'
        have r0 : PRep (w2.alloc (.cells #[.slice px els.length cx, .int .i64 0, .slice p n c, .slice none 0 0] 118)) g2.imm l (.slice px els.length cx) :=
          hx'.mono (fun b o hb => k2.grow.imm b o hb) (fun b o hb => (hcell b o (k2.grow.imm b o hb)).trans ((k2.grow.cell b o hb).trans (he1.grow.cell b o hb)))
        have r2 : PRep (w2.alloc (.cells #[.slice px els.length cx, .int .i64 0, .slice p n c, .slice none 0 0] 118)) g2.imm (.slice sz ls .no) (.slice p n c) :=
          (plain1_rep rfl k3).mono (fun _ _ h => h) hcell
        match i, h with
        | 0, _ => exact ⟨.plain r0, rfl⟩
        | 1, _ => exact ⟨.plain (.int _ _), rfl⟩
        | 2, _ => exact ⟨.plain r2, rfl⟩
        | 3, _ => exact ⟨.plain .nilslice, rfl⟩)
    have hE := k2.trans I1.ext
    have hblk : (g2.push st1.size w2.heap.size).blk st1.size = w2.heap.size := by show (if _ then _ else _) = _; rw [if_pos rfl]
    have hsz : (st1.push (.cells [l, .int .i64 0, .slice sz ls .no, .nilslice])).size = st1.size + 1 := size_pushH _
    have hargs : va.toArray.push (Value.pointer (some ⟨w2.heap.size, 0, none⟩)) ++ vb.toArray = (va ++ [Value.pointer (some ⟨w2.heap.size, 0, none⟩)] ++ vb).toArray := by simp
    have hG := (he1.trans hE).grow
    have hcall2 := hc2 (g2.push st1.size w2.heap.size) _ (va ++ [Value.pointer (some ⟨w2.heap.size, 0, none⟩)] ++ vb) hG I1.hst (by simp [hla, hlb]) (by
      refine reps_append (by simp [hla]) (reps_append hla (fun i h h' => (hva i h h').mono hG (FGrow.refl _)) ?_) (fun i h h' => (hvb i h h').mono hG (FGrow.refl _))
      intro i h h'
      match i, h with
      | 0, _ =>
        have := Rep.ptr (g := g2.push st1.size w2.heap.size) (f := Fh.none) (n := st1.size + 1) (w := w2.alloc (.cells #[.slice px els.length cx, .int .i64 0, .slice p n c, .slice none 0 0] 118)) st1.size 0 (Nat.lt_succ_self _)
        rw [hblk] at this
        rw [hsz]
        exact this)
    rw [hargs]
    refine hcall2.mono fun e w3 hp => ?_
    cases e with
    | returned c =>
      obtain ⟨g3, v, hv, k4, k5, k6⟩ := hp
      refine .inl ⟨c, rfl, g3, v, hv, k4, hE.trans k5, ?_, ?_⟩
      · rw [k5.grow.blk st1.size (by rw [hsz]; omega), hblk]
      · have := k5.grow.le
        rw [hsz] at this
        omega
    | panicked ch =>
      obtain ⟨g3, v, c, hv, hth, rfl, k4, k5, k6⟩ := hp
      subst hv
      obtain ⟨k, s, hs, rfl, rfl⟩ := caught_inv hk
      cases hs
      rw [stop_val k6]
      exact .inr ⟨k, rfl, g3, _, k4, hE.trans k5, rfl, rfl⟩
    | outgrown => exact hp.elim
  ·
    rintro k w3 ⟨g3, st3, k1, k2, rfl, rfl⟩
    have hat : AtOk w w3 := at_still hh _ _ k2
    refine ⟨hat, ?_⟩
    have hlt := (at_cell hat).2.2
    obtain ⟨a1, a2⟩ := ext_alloc k1 (.cells #[.int .i64 k] 115)
    exact at_post hh a1 (k2.trans a2) (chg_set _ _ _) (hle1 k2) (fun g n w => .plain (.int _ _))
  ·
    rintro b w3 ⟨g3, v2, rfl, k1, k2, hb, hlt⟩
    have hat : AtOk w w3 := at_still hh _ _ k2
    simp only at hk
    split at hk
    case h_2 => cases hk
    rename_i c0 k c2 c3 hcs
    have hobj := k1.1.obj st1.size _ (St.cells_eq.1 hcs)
    obtain ⟨vs, e, h1, h2, h3⟩ := hobj
    have h2' : vs.size = 4 := by simpa using h2.symm
    have hv1 := (h3 1 (by simp) (by omega)).1.int_inv
    refine ⟨k, ?_, hat, fun hlt2 => ?_, fun hge => ?_⟩
    · rw [hb] at h1
      simp [World.cell?, h1, h2', hv1]
    · rw [if_pos hlt2] at hk
      obtain ⟨k2', s, hs, rfl, rfl⟩ := caught_inv hk
      obtain ⟨_, hc3⟩ := hcall _ _ _ _ _ hs
      have hp := hc3 g3 w3 [.pointer (some ⟨b, 0, none⟩)] (he1.trans k2).grow k1 rfl (fun i h h' => by
        match i, h with
        | 0, _ =>
          have := Rep.ptr (g := g3) (f := Fh.none) (n := st2.size) (w := w3) st1.size 0 hlt
          rw [hb] at this
          exact this)
      refine hp.mono fun e w4 hp => ?_
      cases e with
      | returned c =>
        obtain ⟨_, _, hv, _⟩ := hp
        cases hv
      | panicked ch =>
        obtain ⟨g4, v, c, hv, hth, rfl, k4, k5, k6⟩ := hp
        cases hv
        rw [stop_val k6]
        exact ⟨_, rfl, g4, _, k4, k2.trans k5, rfl, rfl⟩
      | outgrown => exact hp.elim
    · rw [if_neg hge] at hk
      cases hk
      exact at_post hh k1 k2 (chg_set _ _ _) (hle1 k2) (fun g n w => .plain (.int _ _))
end Go.Proofs.YtelpkgbghhpgaaaGreatDoor.Sx
end
section
set_option maxRecDepth 100000
namespace Go.Proofs.YtelpkgbghhpgaaaGreatDoor.Sx
open Go.RowKit
theorem wrap_nat64 (n : Nat) (h : n < 9223372036854775808) : IntKind.i64.wrap (n : Int) = n := by
  have e1 : (2 : Int) ^ 64 = 18446744073709551616 := by decide
  have e2 : (2 : Int) ^ (64 - 1) = 9223372036854775808 := by decide
  simp only [IntKind.wrap, IntKind.signed, IntKind.bits, Bool.true_and, decide_eq_true_eq, e1, e2]
  split <;> omega
theorem run_append_make {P : Program} {w : World} (t u ty e : TypeId) (i : TypeInfo) (z : Value) (ht : P.underlying t = some (.slice e)) (hu : P.underlying u = some (.int .i64)) (hi : P.info? e = some i) (hz : i.zero = some z) (hs : 0 < i.size)
    (n : Nat) (h0 : 0 < n) (h63 : (n : Int) ≤ 1099511627776) (h48 : n * i.bytes ≤ 281474976710656) :
    (Builtin.append_ #[t, u] ty #[.slice none 0 0, .int .i64 n]).run P w =
      .ok (.slice (some ⟨w.heap.size, 0, none⟩) n (grownCap w n 0 e)) (w.drew.alloc (.cells (Builtin.zeroCells z.cells n ++ Builtin.zeroCells z.cells (grownCap w n 0 e - n)) e)) := by
  have hn : n ≠ 0 := by omega
  have hw : IntKind.i64.wrap (n : Int) = n := wrap_nat64 n (by omega)
  have h63' : ¬ (9223372036854775807 < (n : Int)) := by omega
  have h48' : ¬ (281474976710656 < Builtin.nextslicecap n 0 * i.bytes) := by rw [nextslicecap_zero h0]; omega
  have h48'' : ¬ ((281474976710656 : Int) < (n : Int) * (i.bytes : Int)) := by
    have e : ((n * i.bytes : Nat) : Int) = (n : Int) * (i.bytes : Int) := Int.natCast_mul _ _
    rw [← e]
    generalize n * i.bytes = m at h48
    omega
  have hneg : ¬ ((n : Int) < 0) := by omega
  have hns : ¬ (n = 0 ∨ i.size = 0) := by omega
  simp [Builtin.append_, run_underlying ht, run_underlying hu, sizeOf, typeInfo, zeroValue, hi, hz, Builtin.lenOf, hn, hw, hneg, hns, h63', h48', h48'', Question.forced, run_firstCells_none, newRow, grownCap, asInt, asIntOf]
  intro h
  exact absurd (Nat.mul_eq_zero.1 h) hns
def zeroX7 : Value := .agg #[.int .i64 0, .string ⟨#[]⟩, .int .i64 0, .int .i64 0, .string ⟨#[]⟩, .slice none 0 0, .slice none 0 0]
theorem infoX : (Tryz.prog.info? 29).map (fun i => (i.zero, i.size, i.bytes)) = some (some zeroX7, 7, 104) := by kernel_rfl
theorem wpList_append_is {P : Program} {w w' : World} {ops : Array Oper} {rest : List Oper} {o : Oper} {a : Act} {Q : Exit → Act → World → Prop} (hg : o.guard = none) (s x : Operand) (t u : TypeId)
    (hop : o.op = Op.call { callee := Callee.builtin Builtin.append, args := #[s, x], argTypes := #[t, u] }) (vs vx r : Value) (hs : a.eval s = vs) (hx : a.eval x = vx) (hrun : (Builtin.append_ #[t, u] o.type #[vs, vx]).run P w = .ok r w')
    (hK : wpList P ops Q rest (a.put o.dst r) w') : wpList P ops Q (o :: rest) a w := by
  refine wpList_plain hg fun K hK' => ?_
  unfold Oper.wp
  simp [execOp, hop, resolve, invoke, builtin, hs, hx, hrun, Result.andThen]
  exact hK' _ _ hK
theorem grow_walk (N : Nat) (h0 : 0 < N) (hN : N * 168 ≤ 1099511627776) (w : World) : Calls Tryz.prog 185 #[.slice none 0 0, .int .i64 N] w fun e w' =>
    ∃ cap cur, e = .returned (.slice (some ⟨w.heap.size, 0, none⟩) 0 cap) ∧ N ≤ cap ∧ cap ≤ maxLen ∧ cur.size = cap * 7 ∧ w' = (w.alloc (.cells cur 29)).drew := by
  obtain ⟨i, hi, hz, hs, hb⟩ : ∃ i, Tryz.prog.info? 29 = some i ∧ i.zero = some zeroX7 ∧ i.size = 7 ∧ i.bytes = 104 := by
    have := infoX
    cases h : Tryz.prog.info? 29 with
    | none => rw [h] at this; cases this
    | some i =>
      rw [h] at this
      simp only [Option.map_some, Option.some.injEq, Prod.mk.injEq] at this
      exact ⟨i, rfl, this.1, this.2.1, this.2.2⟩
  have happ := run_append_make (P := Tryz.prog) (w := w) 27 3 27 29 i zeroX7 Tryz.underlying27 Tryz.underlying3 hi hz (by omega) N h0 (by omega) (by rw [hb]; omega)
  have hge := grownCap_ge w N 0 29
  have hmx := grownCap_le_maxLen w N 0 29 (by simp only [maxLen]; omega)
  obtain ⟨arr, harr, hsz⟩ : ∃ arr, Builtin.zeroCells zeroX7.cells N ++ Builtin.zeroCells zeroX7.cells (grownCap w N 0 29 - N) = arr ∧ arr.size = grownCap w N 0 29 * 7 := by
    refine ⟨_, rfl, ?_⟩
    have hz7 : zeroX7.cells.size = 7 := rfl
    rw [Array.size_append, size_zeroCells, size_zeroCells, hz7]
    omega
  rw [harr] at happ
  generalize grownCap w N 0 29 = cap at *
  have hpos : (N : Int) > 0 := by omega
  have hneg : ¬ ((N : Int) < 0) := by omega
  go_enter Tryz.func185, Tryz.ntmps185
  go_wp2_with (at_builtin; refine wpList_append_is rfl (.tmp 20) (.tmp 21) 27 3 rfl _ _ _ rfl rfl happ ?_)
  all_goals go_ret
  all_goals exact ⟨cap, rfl, hge, hmx, arr, hsz, rfl⟩
theorem grow_none (w : World) : Calls Tryz.prog 185 #[.slice none 0 0, .int .i64 0] w fun e w' => e = .returned (.slice none 0 0) ∧ w' = w := by
  go_enter Tryz.func185, Tryz.ntmps185
  go_wp2
  all_goals go_ret
  all_goals exact ⟨rfl, rfl⟩
theorem run_append_zero {P : Program} {w : World} (t ty e : TypeId) (i : TypeInfo) (ht : P.underlying t = some (.slice e)) (hi : P.info? e = some i) (ao : Option Addr) (c : Nat) :
    (Builtin.append_ #[t, t] ty #[.slice none 0 0, .slice ao 0 c]).run P w = .ok (.slice none 0 0) w := by
  cases ao with
  | none => simp [Builtin.append_, run_underlying ht, sizeOf, typeInfo, hi, Builtin.lenOf, run_firstCells_none]
  | some a =>
    have hf := run_firstCells_some (P := P) w i.size 0 a 0 c [] (by simp) (by simp)
    simp [Builtin.append_, run_underlying ht, sizeOf, typeInfo, hi, Builtin.lenOf, hf]
end Go.Proofs.YtelpkgbghhpgaaaGreatDoor.Sx
end
