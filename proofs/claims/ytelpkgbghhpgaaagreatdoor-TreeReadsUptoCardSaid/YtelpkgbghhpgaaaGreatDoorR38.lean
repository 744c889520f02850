/- TreeReads returns true for all texts whose data are not larger than a bound. slices.AppendSeq: one round, the whole call. slices.AppendSeq: one round. slices.AppendSeq over tokens: the whole call. slices.AppendSeq over tokens: the contract. slices.AppendSeq over tokens: the contract, joined. -/
import Derived.Test.YtelpkgbghhpgaaaGreatDoorR36
import Derived.Test.YtelpkgbghhpgaaaGreatDoorR37
set_option linter.all false
section
set_option maxRecDepth 100000
namespace Go.Proofs.YtelpkgbghhpgaaaGreatDoor.Sx
open Go.RowKit
theorem run_append_own2 {P : Program} {w : World} (base : Nat) (t ty e : TypeId) (i : TypeInfo) (z : Value) (size bytes : Nat) (ht : P.underlying t = some (.slice e)) (hi : P.info? e = some i) (hz : i.zero = some z)
    (hsize : i.size = size) (hby : i.bytes = bytes) (hzs : z.cells.size = size) (hsz : 0 < size)
    (v : Value) (n : Nat) (xs : List Value) (hown : w.ownsRow base e size v n xs)
    (a : Addr) (m c : Nat) (news : List Value) (hl : news.length = m * size) (hnews : ∀ (j : Nat) (u : Value), news[j]? = some u → w.cell? (a.add j) = some u) (h1 : ∀ u ∈ news, u.oneCell' = true)
    (h63 : n + m ≤ maxLen) (hbytes : (n + m) * bytes ≤ 140737488355328) (hbase : base ≤ w.heap.size) :
    ∃ v' w', (Builtin.append_ #[t, t] ty #[v, .slice (some a) m c]).run P w = .ok v' w' ∧ w'.ownsRow base e size v' (n + m) (xs ++ news) ∧ w.grownBy w' v.ownBlock ∧
      (v' = .slice none 0 0 ↔ v = .slice none 0 0 ∧ m = 0) ∧ (v'.ownBlock = v.ownBlock ∨ v'.ownBlock = some w.heap.size) := by
  obtain ⟨v', w', hrun, k1, k2, k3⟩ := run_append_own (P := P) (w := w) base t ty e i z size bytes ht hi hz hsize hby hzs hsz v n xs hown a m c news hl hnews h1 h63 hbytes hbase
  refine ⟨v', w', hrun, k1, k2, k3, ?_⟩
  subst hsize
  subst hby
  have hsmall : n + m ≤ 9223372036854775807 := by simp only [maxLen] at h63; omega
  rcases hown.2 with ⟨rfl, rfl⟩ | ⟨g, cap, cur, rfl, hbg, hg, hnc, hcm, hcs, htake⟩
  · by_cases hm : m = 0
    · exact .inl (by rw [k3.2 ⟨rfl, hm⟩])
    · have hr := run_append_nil (P := P) w t ty e i z ht hi hz a m c news hl hnews (by omega) (by omega) (by have hb := hbytes; simp only [Nat.zero_add] at hb; omega)
      rw [hr] at hrun
      cases hrun
      exact .inr rfl
  · by_cases hroom : n + m ≤ cap
    · have hfit : n * i.size + news.length ≤ cur.size := by rw [hl, hcs, ← Nat.add_mul]; exact Nat.mul_le_mul_right _ hroom
      have hr := run_append_room (P := P) w t ty e i ht hi g n cap cur hg a m c news hl hnews h1 hroom hfit
      rw [hr] at hrun
      cases hrun
      exact .inl rfl
    · have holds : ∀ (j : Nat) (u : Value), xs[j]? = some u → w.cell? ((⟨g, 0, none⟩ : Addr).add j) = some u := hown.cells (g := g) rfl
      have hr := run_append_grow (P := P) w t ty e i z ht hi hz ⟨g, 0, none⟩ n cap xs hown.1 holds a m c news hl hnews (by omega) (by omega) (growslice_fits (by omega) hbytes)
      rw [hr] at hrun
      cases hrun
      exact .inr rfl
theorem wpListIn_append_own2 {F : Fence} {n : Nat} {P : Program} (w : World) {ops : Array Oper} {rest : List Oper} {o : Oper} {a : Act} {Q : Exit → Act → World → Prop}
    (hg : o.guard = none) (s x : Operand) (t : TypeId) (hop : o.op = Op.call { callee := Callee.builtin Builtin.append, args := #[s, x], argTypes := #[t, t] })
    (base : Nat) (e : TypeId) (i : TypeInfo) (z : Value) (size bytes : Nat) (h1 : P.underlying t = some (.slice e)) (h2 : P.info? e = some i) (h3 : i.zero = some z) (h4 : i.size = size) (h5 : i.bytes = bytes) (h6 : z.cells.size = size) (h7 : 0 < size)
    (v : Value) (k : Nat) (xs : List Value) (hs : a.eval s = v) (hown : w.ownsRow base e size v k xs) (ad : Addr) (m c : Nat) (news : List Value) (hx : a.eval x = .slice (some ad) m c) (hn : news.length = m * size)
    (hc : ∀ (j : Nat) (u : Value), news[j]? = some u → w.cell? (ad.add j) = some u) (h1c : ∀ u ∈ news, u.oneCell' = true) (b1 : k + m ≤ maxLen) (b2 : (k + m) * bytes ≤ 140737488355328) (b3 : base ≤ w.heap.size)
    (hK : ∀ v' w', w'.ownsRow base e size v' (k + m) (xs ++ news) → w.grownBy w' v.ownBlock → (v' = .slice none 0 0 ↔ v = .slice none 0 0 ∧ m = 0) → (v'.ownBlock = v.ownBlock ∨ v'.ownBlock = some w.heap.size) → wpListIn F n P ops Q rest (a.put o.dst v') w') :
    wpListIn F n P ops Q (o :: rest) a w := by
  refine wpListIn_plain hg fun K hK' => ?_
  obtain ⟨v', w', hrun, r1, r2, r3, r4⟩ := run_append_own2 (P := P) (w := w) base t o.type e i z size bytes h1 h2 h3 h4 h5 h6 h7 v k xs hown ad m c news hn hc h1c b1 b2 b3
  unfold Oper.wpIn
  refine ⟨?_, ?_⟩
  · simp [Oper.about, hop, resolve, Target.leads, Sem.run_pure]
  · rw [Oper.semAt_plain F _ _ (by rw [hop]; intro c hc'; cases hc')]
    simp [execOp, hop, resolve, invoke, builtin, hs, hx, hrun, Result.andThen]
    exact hK' _ _ (hK v' w' r1 r2 r3 r4)
def zeroT3 : Value := .agg #[.int .i64 0, .int .i64 0, .string ⟨#[]⟩]
theorem infoT0 : (Tryz.prog.info? 89).map (fun i => (i.zero, i.size, i.bytes)) = some (some zeroT3, 3, 32) := by kernel_rfl
end Go.Proofs.YtelpkgbghhpgaaaGreatDoor.Sx
end
section
set_option maxRecDepth 100000
namespace Go.Proofs.YtelpkgbghhpgaaaGreatDoor.Sx
open Go.RowKit
noncomputable def apParts : Code × Code := match Tryz.f82.body with
  | some (.seq _ (.seq (.seq _ (.block _ (.rangeFunc _ _ a b))) _)) => (a, b)
  | _ => (.skip, .skip)
noncomputable def apRec (fn : FuncId) (sv : Value) (B D : Nat) (st : LoopState) (pend : Option Code) : Loop :=
  { state := st, pending := pend, fn, tmps := #[.slice none 0 0, sv, .pointer (some ⟨B, 0, none⟩), undef, .slice none 0 0, undef, sv, undef, undef, undef, undef, undef, undef], params := #[7], assign := apParts.1, body := apParts.2, defers := D }
def Row (W : World) (B b : Nat) : Prop := ∃ v, W.heap[B]? = some (.cells #[v] 51 (0, 0)) ∧ v.ownBlock = some b
structure TokAt (base B l D : Nat) (fn : FuncId) (sv : Value) (n : Nat) (els : List Value) (W : World) : Prop where
  box : ∃ v, W.heap[B]? = some (.cells #[v] 51 (0, 0)) ∧ W.ownsRow base 89 3 v n els ∧ (v = .slice none 0 0 ↔ n = 0)
  L : W.heap[l]? = some (.loop (apRec fn sv B D .ready none))
  K : W.heap[D]? = some (.deferred (some []))
theorem infoTok : ∃ i, Tryz.prog.info? 89 = some i ∧ i.zero = some zeroT3 ∧ i.size = 3 ∧ i.bytes = 32 := by
  have := infoT0
  cases h : Tryz.prog.info? 89 with
  | none => rw [h] at this; cases this
  | some i =>
    rw [h] at this
    simp only [Option.map_some, Option.some.injEq, Prod.mk.injEq] at this
    exact ⟨i, rfl, this.1, this.2.1, this.2.2⟩
theorem chg_grown {X : Nat → Prop} {w w' : World} {row : Option Nat} (h : w.grownBy w' row) (hX : ∀ k, row = some k → X k) : Chg X w w' :=
  ⟨h.os, h.tape, h.output, h.size, fun b hb hn => h.block b hb (fun e => hn (hX b e.symm))⟩
set_option maxHeartbeats 2000000 in
theorem tokYield (m base B l D : Nat) (fn : FuncId) (sv : Value) (hBl : B ≠ l) (hDl : D ≠ l) (hDB : D ≠ B) (n : Nat) (els : List Value) (x y z : Value) (hx : x.oneCell' = true) (hy : y.oneCell' = true) (hz : z.oneCell' = true)
    (hn : (n + 1) * 72 ≤ 1099511627776) (W : World) (hbase : base ≤ W.heap.size) (h : TokAt base B l D fn sv n els W) :
    YieldAt Fence.wide m Tryz.prog l #[.agg #[x, y, z]] W fun e W' => e = .returned (.bool true) ∧ TokAt base B l D fn sv (n + 1) (els ++ [x, y, z]) W' ∧
      Chg (fun b => b = B ∨ b = l ∨ Row W B b) W W' ∧ (∀ b, Row W' B b → Row W B b ∨ W.heap.size ≤ b) := by
  obtain ⟨i0, hi, hz0, hz1, hz2⟩ := infoTok
  obtain ⟨v, hv, hrow, hnil⟩ := h.box
  refine ⟨fn, #[.slice none 0 0, sv, .pointer (some ⟨B, 0, none⟩), undef, .slice none 0 0, undef, sv, .agg #[x, y, z], undef, undef, undef, undef, undef], apParts.1, apParts.2, by simpa [apRec] using run_yield (P := Tryz.prog) (args := #[.agg #[x, y, z]]) h.L rfl, roundIn_of_wpIn trivial ?_⟩
  have hl : l < W.heap.size := (Array.getElem?_eq_some_iff.1 h.L).1
  have hB : B < W.heap.size := (Array.getElem?_eq_some_iff.1 hv).1
  have hD : D < W.heap.size := (Array.getElem?_eq_some_iff.1 h.K).1
  have hst := store3 W x y z hx hy hz
  obtain ⟨W1, hW1⟩ : ∃ W1, W.alloc (.cells #[x, y, z] 89) = W1 := ⟨_, rfl⟩
  rw [hW1] at hst
  have hold1 : ∀ k, k < W.heap.size → W1.heap[k]? = W.heap[k]? := fun k hk => by rw [← hW1]; exact Below.heap_alloc _ _ k hk
  have hs1 : W1.heap.size = W.heap.size + 1 := by rw [← hW1]; simp
  have hnew1 : W1.heap[W.heap.size]? = some (.cells #[x, y, z] 89 (0, 0)) := by rw [← hW1]; exact World.alloc_heap_new W _
  have hrow1 : W1.ownsRow base 89 3 v n els := by rw [← hW1]; exact hrow.alloc _
  have hL1 := (hold1 l hl).trans h.L
  have hbr := run_beginRound (P := Tryz.prog) hL1 rfl
  obtain ⟨W2, hW2⟩ : ∃ W2, W1.putObj l (.loop { apRec fn sv B D .ready none with state := .busy }) = W2 := ⟨_, rfl⟩
  rw [hW2] at hbr
  have hoth2 : ∀ k, k ≠ l → W2.heap[k]? = W1.heap[k]? := fun k hk => by rw [← hW2]; exact World.putObj_heap_other hk
  have hg2 : W1.grownBy W2 (some l) := by rw [← hW2]; exact grownBy_putObj_a _ _ _
  have hs2 : W2.heap.size = W1.heap.size := by rw [← hW2]; simp
  have hL2 : W2.heap[l]? = some (.loop { apRec fn sv B D .ready none with state := .busy }) := by rw [← hW2]; exact World.putObj_heap_same (by omega)
  have hv2 : W2.heap[B]? = some (.cells #[v] 51 (0, 0)) := (hoth2 B hBl).trans ((hold1 B hB).trans hv)
  have hK2 : W2.heap[D]? = some (.deferred (some [])) := (hoth2 D hDl).trans ((hold1 D hD).trans h.K)
  have hnew2 : W2.heap[W.heap.size]? = some (.cells #[x, y, z] 89 (0, 0)) := (hoth2 _ (by omega)).trans hnew1
  have hrow2 : W2.ownsRow base 89 3 v n els := hrow1.kept hg2 (ownsRow_ne_a hrow1 hL1 (fun cur e => by cases e))
  have hcB : W2.cell? ⟨B, 0, none⟩ = some v := by simp [World.cell?, hv2]
  have hfB : W2.frozen? ⟨B, 0, none⟩ = false := by simp [World.frozen?, hv2]
  have hc0 : W2.cell? ⟨W.heap.size, 0, none⟩ = some x := by simp [World.cell?, hnew2]
  have hc1 : W2.cell? ⟨W.heap.size, 1, none⟩ = some y := by simp [World.cell?, hnew2]
  have hc2 : W2.cell? ⟨W.heap.size, 2, none⟩ = some z := by simp [World.cell?, hnew2]
  simp only [apParts, Tryz.f82]
  have hs22 : W2.heap.size = W.heap.size + 1 := by omega
  have hcells : ∀ (j : Nat) (u : Value), [x, y, z][j]? = some u → (W2.alloc (.cells #[x, y, z] 89)).cell? ((⟨W.heap.size + 1, 0, none⟩ : Addr).add j) = some u := fun j u hj => by
    rw [Addr.add_lit, ← hs22, cell_new]
    simpa using hj
  have hrow2a := hrow2.alloc (.cells #[x, y, z] 89)
  have hneB : some B ≠ v.ownBlock := fun e => by
    rcases ownsRow_ne_a hrow2 hv2 (fun cur e => by cases e) with e' | e'
    · rw [e'] at e; cases e
    · exact e' e.symm
  have hnel : some l ≠ v.ownBlock := fun e => by
    rcases ownsRow_ne_a hrow2 hL2 (fun cur e => by cases e) with e' | e'
    · rw [e'] at e; cases e
    · exact e' e.symm
  have hneD : some D ≠ v.ownBlock := fun e => by
    rcases ownsRow_ne_a hrow2 hK2 (fun cur e => by cases e) with e' | e'
    · rw [e'] at e; cases e
    · exact e' e.symm
  have hold3 : ∀ k, k < W2.heap.size → (W2.alloc (.cells #[x, y, z] 89)).heap[k]? = W2.heap[k]? := fun k hk => Below.heap_alloc _ _ k hk
  gi_wp2_with (first
    | (gi_at_builtin; refine wpListIn_append_own2 _ rfl (.tmp 8) (.tmp 10) 51 rfl base 89 i0 zeroT3 3 32 Tryz.underlying51 hi hz0 hz1 hz2 rfl (by decide) _ _ _ rfl hrow2a ⟨W.heap.size + 1, 0, none⟩ 1 1 [x, y, z] rfl rfl hcells (by simp [hx, hy, hz]) (by simp only [maxLen]; omega) (by omega) (by simp; omega) ?_
       intro v' w3 hown' hg3 hnil3 hblk
       have hv3 : w3.heap[B]? = some (.cells #[v] 51 (0, 0)) := (hg3.block B (by simp; omega) hneB).trans ((hold3 B (by omega)).trans hv2)
       have hc3 : w3.cell? ⟨B, 0, none⟩ = some v := by simp [World.cell?, hv3]
       have hf3 : w3.frozen? ⟨B, 0, none⟩ = false := by simp [World.frozen?, hv3]
       obtain ⟨g', cap', cur', rfl, hbase', hgb', hr1, hr2, hr3, hr4⟩ : ∃ g' cap' cur', v' = .slice (some ⟨g', 0, none⟩) (n + 1) cap' ∧ base ≤ g' ∧ w3.heap[g']? = some (.cells cur' 89 (0, 0)) ∧ n + 1 ≤ cap' ∧ cap' ≤ maxLen ∧ cur'.size = cap' * 3 ∧ cur'.toList.take ((n + 1) * 3) = els ++ [x, y, z] := by
         rcases hown'.2 with ⟨_, h0⟩ | h'
         · exact absurd h0 (by omega)
         · exact h'
       )
    | (rw [Oper.semAt_eq _ _ _ (fun c h => by cases h)]; go_simp; try go_bits))
  have hL3 : w3.heap[l]? = some (.loop { apRec fn sv B D .ready none with state := .busy }) := (hg3.block l (by simp; omega) hnel).trans ((hold3 l (by omega)).trans hL2)
  have hK3 : w3.heap[D]? = some (.deferred (some [])) := (hg3.block D (by simp; omega) hneD).trans ((hold3 D (by omega)).trans hK2)
  obtain ⟨w4, hw4⟩ : ∃ w4, w3.setCell ⟨B, 0, none⟩ (.slice (some ⟨g', 0, none⟩) (n + 1) cap') = w4 := ⟨_, rfl⟩
  have hw4' := hw4
  rw [hw4]
  have hg4 : w3.grownBy w4 (some B) := by rw [← hw4]; exact grownBy_setCell0_a _ _ _
  have hv4 : w4.heap[B]? = some (.cells #[.slice (some ⟨g', 0, none⟩) (n + 1) cap'] 51 (0, 0)) := by rw [← hw4]; exact heap_setCell_box_a _ hv3
  have hL4 : w4.heap[l]? = some (.loop { apRec fn sv B D .ready none with state := .busy }) := (hg4.block l (Array.getElem?_eq_some_iff.1 hL3).1 (fun e => hBl (by cases e; rfl))).trans hL3
  have hK4 : w4.heap[D]? = some (.deferred (some [])) := (hg4.block D (Array.getElem?_eq_some_iff.1 hK3).1 (fun e => hDB (by cases e; rfl))).trans hK3
  have hrow4 := hown'.kept hg4 (ownsRow_ne_a hown' hv3 (fun cur e => by cases e))
  have hl4 : l < w4.heap.size := (Array.getElem?_eq_some_iff.1 hL4).1
  have h5 := grownBy_putObj_a w4 l (.loop { { apRec fn sv B D .ready none with state := .busy } with state := if (none : Option Code).isNone then .ready else .done, pending := none })
  have hrow5 := hrow4.kept h5 (ownsRow_ne_a hrow4 hL4 (fun cur e => by cases e))
  have hv5 := (World.putObj_heap_other (w := w4) (o := .loop { { apRec fn sv B D .ready none with state := .busy } with state := if (none : Option Code).isNone then .ready else .done, pending := none }) hBl).trans hv4
  have hblk' : W.heap.size ≤ g' ∨ v.ownBlock = some g' := by
    rcases hblk with e | e
    · exact .inr e.symm
    · left
      have : some g' = some (W2.alloc (.cells #[x, y, z] 89)).heap.size := e
      cases this
      simp; omega
  refine ⟨_, _, run_endRound none hL4, rfl, ⟨⟨_, hv5, hrow5, by simp⟩, World.putObj_heap_same hl4, (World.putObj_heap_other hDl).trans hK4⟩, ?_, ?_⟩
  · have c1 : Chg (fun b => b = B ∨ b = l ∨ Row W B b) W W1 := by rw [← hW1]; exact Chg.alloc _ _ _
    have c2 : Chg (fun b => b = B ∨ b = l ∨ Row W B b) W1 W2 := chg_grown hg2 (fun k e => by cases e; exact .inr (.inl rfl))
    have c3 : Chg (fun b => b = B ∨ b = l ∨ Row W B b) (W2.alloc (.cells #[x, y, z] 89)) w3 := chg_grown hg3 (fun k e => .inr (.inr ⟨v, hv, e⟩))
    have c4 : Chg (fun b => b = B ∨ b = l ∨ Row W B b) w3 w4 := chg_grown hg4 (fun k e => by cases e; exact .inl rfl)
    exact ((((c1.trans c2).trans (Chg.alloc _ _ _)).trans c3).trans c4).trans (chg_grown h5 (fun k e => by cases e; exact .inr (.inl rfl)))
  · rintro b ⟨u, hu, hub⟩
    rw [hv5] at hu
    cases hu
    cases hub
    rcases hblk' with e | e
    · exact .inr e
    · exact .inl ⟨v, hv, e⟩
end Go.Proofs.YtelpkgbghhpgaaaGreatDoor.Sx
end
section
set_option maxRecDepth 100000
namespace Go.Proofs.YtelpkgbghhpgaaaGreatDoor.Sx
open Go.RowKit
theorem TokAt.keep {base B l D : Nat} {fn : FuncId} {sv : Value} {n : Nat} {els : List Value} {W W' : World} (h : TokAt base B l D fn sv n els W)
    (hk : ∀ b, (b = B ∨ b = D ∨ b = l ∨ Row W B b) → W'.heap[b]? = W.heap[b]?) : TokAt base B l D fn sv n els W' := by
  obtain ⟨v, hv, hrow, hnil⟩ := h.box
  refine ⟨⟨v, (hk B (.inl rfl)).trans hv, ⟨hrow.1, ?_⟩, hnil⟩, (hk l (.inr (.inr (.inl rfl)))).trans h.L, (hk D (.inr (.inl rfl))).trans h.K⟩
  rcases hrow.2 with h0 | ⟨g, cap, cur, rfl, h1, h2, h3⟩
  · exact .inl h0
  · exact .inr ⟨g, cap, cur, rfl, h1, (hk g (.inr (.inr (.inr ⟨_, hv, rfl⟩)))).trans h2, h3⟩
theorem Row.lt {base B l D : Nat} {fn : FuncId} {sv : Value} {n : Nat} {els : List Value} {W : World} (h : TokAt base B l D fn sv n els W) {b : Nat} (hb : Row W B b) : base ≤ b ∧ b < W.heap.size := by
  obtain ⟨v, hv, hrow, hnil⟩ := h.box
  obtain ⟨u, hu, hub⟩ := hb
  rw [hv] at hu
  cases hu
  exact hrow.lt b hub
theorem TokAt.lts {base B l D : Nat} {fn : FuncId} {sv : Value} {n : Nat} {els : List Value} {W : World} (h : TokAt base B l D fn sv n els W) : ∀ b, (b = B ∨ b = D ∨ b = l ∨ Row W B b) → b < W.heap.size := by
  rintro b (rfl | rfl | rfl | hb)
  · obtain ⟨v, hv, _⟩ := h.box; exact (Array.getElem?_eq_some_iff.1 hv).1
  · exact (Array.getElem?_eq_some_iff.1 h.K).1
  · exact (Array.getElem?_eq_some_iff.1 h.L).1
  · exact (Row.lt h hb).2
theorem TokAt.alloc {base B l D : Nat} {fn : FuncId} {sv : Value} {n : Nat} {els : List Value} {W : World} (h : TokAt base B l D fn sv n els W) (o : Obj) : TokAt base B l D fn sv n els (W.alloc o) :=
  h.keep fun b hb => Below.heap_alloc _ _ b (h.lts b hb)
theorem Row.alloc {base B l D : Nat} {fn : FuncId} {sv : Value} {n : Nat} {els : List Value} {W : World} (h : TokAt base B l D fn sv n els W) (o : Obj) (b : Nat) : Row (W.alloc o) B b ↔ Row W B b := by
  unfold Row
  rw [show (W.alloc o).heap[B]? = W.heap[B]? from Below.heap_alloc _ _ B (h.lts B (.inl rfl))]
set_option maxHeartbeats 2000000 in
theorem append_walk (w : World) (pb : Addr) (c : Value) (I : Nat → Nat → List Value → World → Prop) (Fin : Nat → List Value → World → Prop) (k0 : Nat)
    (h0 : ∀ W1, Chg (fun _ => False) w W1 → W1.heap.size = w.heap.size + 3 → (∀ b, ¬ Row W1 w.heap.size b) → I k0 0 [] W1)
    (hc : ∀ k n els W, I k n els W → W.cell? pb = some c)
    (hN : ∀ k n els W, I k n els W → (∀ b, (b = w.heap.size ∨ b = w.heap.size + 1 ∨ b = w.heap.size + 2 ∨ Row W w.heap.size b) → b < W.heap.size) → Calls Tryz.prog 84 #[c] W fun e W' => ∃ x y z ok, e = .returned (.tuple #[.agg #[x, y, z], .bool ok]) ∧ x.oneCell' = true ∧ y.oneCell' = true ∧ z.oneCell' = true ∧
      (∀ b, (b = w.heap.size ∨ b = w.heap.size + 1 ∨ b = w.heap.size + 2 ∨ Row W w.heap.size b) → W'.heap[b]? = W.heap[b]?) ∧
      (ok = false → Fin n els W') ∧
      (ok = true → (n + 1) * 72 ≤ 1099511627776 ∧ ∃ k', k' < k ∧ ∀ W'', Chg (fun b => b = w.heap.size ∨ b = w.heap.size + 2 ∨ Row W' w.heap.size b) (W'.alloc (.cells #[x, y, z] 89)) W'' → (∀ b, Row W'' w.heap.size b → Row W' w.heap.size b ∨ W'.heap.size ≤ b) → I k' (n + 1) (els ++ [x, y, z]) W'')) :
    Calls Tryz.prog 82 #[.slice none 0 0, .func (.func 83) #[] #[.pointer (some pb)]] w fun e w' => ∃ v n els W2, e = .returned v ∧ Fin n els W2 ∧
      Chg (fun b => b = w.heap.size + 1 ∨ b = w.heap.size + 2) W2 w' ∧ w'.ownsRow w.heap.size 89 3 v n els ∧ (v = .slice none 0 0 ↔ n = 0) ∧ (∀ b, v.ownBlock = some b → Row W2 w.heap.size b) := by
  refine (callsIn_wide (n := 5)).1 ?_
  refine callsIn_of_wp_marks Tryz.func82 rfl trivial ?_ rfl
  simp only [Tryz.ntmps82, List.size_toArray, List.length_cons, List.length_nil, Nat.reduceAdd, Nat.reduceSub, Array.replicate_succ, Array.replicate_zero, List.push_toArray, List.append_toArray, List.nil_append, List.cons_append]
  gi_wp2
  refine wpIn_rangeFunc ?_
  intro fn hfn
  obtain ⟨sv, hsv⟩ : ∃ sv : Value, sv = .func (.func 83) #[] #[.pointer (some pb)] := ⟨_, rfl⟩
  obtain ⟨W0, hW0⟩ : ∃ W0, w.alloc (.cells #[.slice none 0 0] 51) = W0 := ⟨_, rfl⟩
  have hs0 : W0.heap.size = w.heap.size + 1 := by rw [← hW0]; simp
  have hv0 : W0.heap[w.heap.size]? = some (.cells #[.slice none 0 0] 51 (0, 0)) := by rw [← hW0]; exact World.alloc_heap_new w _
  have hch0 : Chg (fun _ => False) w W0 := by rw [← hW0]; exact Chg.alloc _ _ _
  rw [hW0]
  obtain ⟨W1, hW1⟩ : ∃ W1, (W0.alloc (.deferred (some []))).alloc (.loop (apRec fn sv w.heap.size W0.heap.size .ready none)) = W1 := ⟨_, rfl⟩
  have hold : ∀ k, k < W0.heap.size → W1.heap[k]? = W0.heap[k]? := fun k hk => by
    rw [← hW1]; exact (Below.heap_alloc _ _ k (by simp; omega)).trans (Below.heap_alloc _ _ k hk)
  have hch1 : Chg (fun _ => False) w W1 := by rw [← hW1]; exact (hch0.trans (Chg.alloc _ _ _)).trans (Chg.alloc _ _ _)
  have hs1 : W1.heap.size = w.heap.size + 3 := by rw [← hW1]; simp; omega
  have hv1 := (hold w.heap.size (by omega)).trans hv0
  have hM : TokAt w.heap.size w.heap.size (w.heap.size + 2) (w.heap.size + 1) fn sv 0 [] W1 :=
    ⟨⟨_, hv1, ⟨rfl, .inl ⟨rfl, rfl⟩⟩, by simp⟩,
     by rw [← hW1, ← hs0]; have := World.alloc_heap_new (W0.alloc (.deferred (some []))) (.loop (apRec fn sv w.heap.size W0.heap.size .ready none)); rw [World.size_alloc] at this; rw [show w.heap.size + 2 = W0.heap.size + 1 by omega]; exact this,
     by rw [← hW1, ← hs0]; exact (Below.heap_alloc _ _ _ (by simp)).trans (World.alloc_heap_new W0 _)⟩
  have hI0 : I k0 0 [] W1 := h0 W1 hch1 hs1 (fun b ⟨u, hu, hub⟩ => by rw [hv1] at hu; cases hu; cases hub)
  have hall := all_in 4 (by omega) (w.heap.size + 2) pb c
    (fun k W => ∃ n els, TokAt w.heap.size w.heap.size (w.heap.size + 2) (w.heap.size + 1) fn sv n els W ∧ w.heap.size ≤ W.heap.size ∧ I k n els W)
    (fun k t W => ∃ n els x y z, t = #[x, y, z] ∧ x.oneCell' = true ∧ y.oneCell' = true ∧ z.oneCell' = true ∧ (n + 1) * 72 ≤ 1099511627776 ∧ w.heap.size ≤ W.heap.size ∧ TokAt w.heap.size w.heap.size (w.heap.size + 2) (w.heap.size + 1) fn sv n els W ∧
      ∀ W'', Chg (fun b => b = w.heap.size ∨ b = w.heap.size + 2 ∨ Row W w.heap.size b) W W'' → (∀ b, Row W'' w.heap.size b → Row W w.heap.size b ∨ W.heap.size ≤ b) → I k (n + 1) (els ++ [x, y, z]) W'')
    (fun W => ∃ n els x y z W2, W = W2.alloc (.cells #[x, y, z] 89) ∧ TokAt w.heap.size w.heap.size (w.heap.size + 2) (w.heap.size + 1) fn sv n els W2 ∧ Fin n els W2)
    (fun k W ⟨n, els, _, _, hI⟩ => hc k n els W hI)
    ?_ ?_ k0 W1 ⟨0, [], hM, by omega, hI0⟩
  · refine ⟨w.heap.size + 2, [{ target := .collected (w.heap.size + 1), args := #[] }], W1, { target := .fn (.func 83) #[.pointer (some pb)], args := #[.func (.yield (w.heap.size + 2)) #[] #[]] }, W1, 83,
      #[.func (.yield (w.heap.size + 2)) #[] #[]] ++ #[.pointer (some pb)], W1, ?_, ?_, ?_, ?_, fun _ => by omega, ?_⟩
    · rw [← hW1, show w.heap.size + 2 = W0.heap.size + 1 by omega, ← hs0, hsv]; exact run_enterLoop_outer _ _ _ _ _
    · simp [resolve, go_sem]
    · intro f' hf'; exact trivial
    · simp [invoke, go_sem, run_enter ⟨_, _, Tryz.func83, rfl, by decide⟩]
    · refine hall.mono ?_
      rintro e W2 ⟨⟨v0, rfl⟩, n, els, x, y, z, W2', rfl, hT, hF⟩
      have hT2 := hT.alloc (.cells #[x, y, z] 89)
      have hrows := Row.alloc hT (.cells #[x, y, z] 89)
      obtain ⟨W2, hW2⟩ : ∃ W2, W2'.alloc (.cells #[x, y, z] 89) = W2 := ⟨_, rfl⟩
      rw [hW2] at hT2 ⊢
      rw [hW2] at hrows
      have hc2 : Chg (fun b => b = w.heap.size + 1 ∨ b = w.heap.size + 2) W2' W2 := by rw [← hW2]; exact Chg.alloc _ _ _
      obtain ⟨v, hv, hrow, hnil⟩ := hT2.box
      have hend := run_endLoop (P := Tryz.prog) hT2.L (by simp [apRec])
      obtain ⟨W3, hW3⟩ : ∃ W3, W2.putObj (w.heap.size + 2) (.loop { apRec fn sv w.heap.size (w.heap.size + 1) .ready none with state := .exhausted }) = W3 := ⟨_, rfl⟩
      rw [hW3] at hend
      have hg3 : W2.grownBy W3 (some (w.heap.size + 2)) := by rw [← hW3]; exact grownBy_putObj_a _ _ _
      have hv3 : W3.heap[w.heap.size]? = some (.cells #[v] 51 (0, 0)) := by rw [← hW3]; exact (World.putObj_heap_other (by omega)).trans hv
      have hK3 : W3.heap[w.heap.size + 1]? = some (.deferred (some [])) := by rw [← hW3]; exact (World.putObj_heap_other (by omega)).trans hT2.K
      have hrow3 := hrow.kept hg3 (ownsRow_ne_a hrow hT2.L (fun cur e => by cases e))
      obtain ⟨hc3, hf3⟩ := cell_of_box_a hv3
      clear hW3
      refine ⟨none, W3, hend, ?_⟩
      gi_wp2
      refine ⟨by simp, .inl ⟨_, _, rfl, run_takeDeferred hK3, ?_⟩⟩
      have hg4 := grownBy_putObj_a W3 (w.heap.size + 1) (.deferred none)
      exact ⟨_, results_tmp rfl _ _ _, v, n, els, W2', rfl, hF, (hc2.trans (chg_grown hg3 (fun k e => by cases e; exact .inr rfl))).trans (chg_grown (grownBy_putObj_a _ _ _) (fun k e => by cases e; exact .inl rfl)), hrow3.kept (grownBy_putObj_a _ _ _) (ownsRow_ne_a hrow3 hK3 (fun cur e => by cases e)), hnil, fun b hb => (hrows b).1 ⟨v, hv, hb⟩⟩
  · rintro k W ⟨n, els, hT, hsz, hI⟩
    refine (hN k n els W hI hT.lts).mono ?_
    rintro e W' ⟨x, y, z, ok, rfl, hx, hy, hz, hkeep, hf, ht⟩
    have hT' := hT.keep hkeep
    refine ⟨x, y, z, ok, rfl, hx, hy, hz, fun h => ⟨n, els, x, y, z, W', rfl, hT', hf h⟩, fun h => ?_⟩
    obtain ⟨hn, k', hk', hI'⟩ := ht h
    have hsz' : w.heap.size ≤ W'.heap.size := Nat.le_of_lt (hT'.lts _ (.inl rfl))
    refine ⟨k', hk', n, els, x, y, z, rfl, hx, hy, hz, hn, by simp; omega, hT'.alloc _, fun W'' h1 h2 => hI' W'' ?_ ?_⟩
    · exact h1.mono fun b hb => by rw [Row.alloc hT'] at hb; exact hb
    · intro b hb
      rcases h2 b hb with h3 | h3
      · exact .inl ((Row.alloc hT' _ b).1 h3)
      · exact .inr (by simp at h3; omega)
  · rintro k t W ⟨n, els, x, y, z, rfl, hx, hy, hz, hn, hsz, hT, hI'⟩
    have := tokYield (4 - 1) w.heap.size w.heap.size (w.heap.size + 2) (w.heap.size + 1) fn sv (by omega) (by omega) (by omega) n els x y z hx hy hz hn W hsz hT
    obtain ⟨fn', tmps, ac, bo, h1, h2⟩ := this
    refine ⟨fn', tmps, ac, bo, h1, h2.mono ?_⟩
    rintro e W' ⟨rfl, hT', hch, hrows⟩
    exact ⟨rfl, n + 1, _, hT', Nat.le_of_lt (hT'.lts _ (.inl rfl)), hI' W' hch hrows⟩
end Go.Proofs.YtelpkgbghhpgaaaGreatDoor.Sx
end
section
set_option maxRecDepth 100000
namespace Go.Proofs.YtelpkgbghhpgaaaGreatDoor.Sx
open Go.RowKit AV
def Priv (g : Gh) (st : St) (b : Nat) : Prop := (∀ o, ¬ HClaim g st o b) ∧ ∀ o, ¬ g.imm b o
theorem priv_new {g : Gh} {st : St} {w : World} (h : HSt g st w) {b : Nat} (hb : w.heap.size ≤ b) : Priv g st b :=
  ⟨fun o ho => by have := h.1.lt _ _ ho; omega, fun o ho => by have := h.1.immlt _ _ ho; omega⟩
theorem Priv.ext {g g' : Gh} {st st' : St} {w w' : World} {b : Nat} (h : Priv g st b) (he : Ext g st w g' st' w') (hb : b < w.heap.size) : Priv g' st' b :=
  ⟨fun o ho => by obtain ⟨o', h'⟩ := he.claim o b ho hb; exact h.1 o' h', fun o ho => h.2 o (he.newimm b o ho hb h.1)⟩
theorem priv_step {g0 g : Gh} {st0 st : St} {w0 w w' : World} {X : Nat → Prop} (h : HSt g st w) (he : Ext g0 st0 w0 g st w) (hc : Chg X w w') (hX : ∀ b, X b → Priv g st b ∧ w0.heap.size ≤ b) : HSt g st w' ∧ Ext g0 st0 w0 g st w' := by
  have hcell : ∀ b o, g.imm b o → w'.cell? ⟨b, o, none⟩ = w.cell? ⟨b, o, none⟩ := fun b o hb => cell_of_block (hc.block b (h.1.immlt b o hb) (fun hx => (hX b hx).1.2 o hb)) o
  have hI : HInv g w' st := h.1.trans (I := g.imm) hc (fun _ _ h => h) (fun o b ho hx => (hX b hx).1.1 o ho) hcell (fun _ _ h => .inl h) (fun b o hb => Nat.lt_of_lt_of_le (h.1.immlt b o hb) hc.size)
  exact ⟨⟨hI, h.2⟩, Ext.step he hc (fun b hb => .inl (.inl (hX b hb).2)) ⟨Nat.le_refl _, fun _ _ => rfl, fun _ _ _ _ _ h => h, fun _ _ h => h, hcell⟩ (fun _ _ h => .inl h) (fun o b h _ => .inr ⟨o, h⟩)⟩
structure SeqAt (g0 : Gh) (st0 : St) (w0 : World) (st : St) (acc : List (List AV)) (n : Nat) (els : List Value) (W : World) : Prop where
  ex : ∃ g, HSt g st W ∧ Ext g0 st0 w0 g st W ∧ Rows2 W g.imm acc.flatten els ∧ (∀ b, (b = w0.heap.size ∨ b = w0.heap.size + 1 ∨ b = w0.heap.size + 2 ∨ Row W w0.heap.size b) → Priv g st b ∧ w0.heap.size ≤ b)
  len : acc.length = n
  unit : ∀ e ∈ acc, e.length = 3
  size : st.size = st0.size
theorem Rows2.mono {w w' : World} {I I' : Nat → Nat → Prop} {a : List AV} {c : List Value} (h : Rows2 w I a c) (hi : ∀ b o, I b o → I' b o) (hw : ∀ b o, I b o → w'.cell? ⟨b, o, none⟩ = w.cell? ⟨b, o, none⟩) : Rows2 w' I' a c :=
  ⟨h.1, fun j x hx => by obtain ⟨c, h1, h2⟩ := h.2 j x hx; exact ⟨c, h1, h2.mono hi hw⟩⟩
theorem SeqAt.own {g0 : Gh} {st0 st : St} {w0 W W' : World} {acc : List (List AV)} {n : Nat} {els : List Value} (h : SeqAt g0 st0 w0 st acc n els W)
    (hc : Chg (fun b => b = w0.heap.size ∨ b = w0.heap.size + 2 ∨ Row W w0.heap.size b) W W') (hr : ∀ b, Row W' w0.heap.size b → Row W w0.heap.size b ∨ W.heap.size ≤ b) : SeqAt g0 st0 w0 st acc n els W' := by
  obtain ⟨g, h1, h2, h3, h4⟩ := h.ex
  obtain ⟨k1, k2⟩ := priv_step h1 h2 hc (fun b hb => h4 b (by rcases hb with hb | hb | hb <;> simp [hb]))
  refine ⟨⟨g, k1, k2, h3.mono (fun _ _ h => h) (fun b o hb => cell_of_block (hc.block b (h1.1.immlt b o hb) (fun hx => (h4 b (by rcases hx with hx | hx | hx <;> simp [hx])).1.2 o hb)) o), fun b hb => ?_⟩, h.len, h.unit, h.size⟩
  rcases hb with hb | hb | hb | hb
  · exact h4 b (.inl hb)
  · exact h4 b (.inr (.inl hb))
  · exact h4 b (.inr (.inr (.inl hb)))
  · rcases hr b hb with h5 | h5
    · exact h4 b (.inr (.inr (.inr h5)))
    · exact ⟨priv_new h1 h5, Nat.le_trans h2.size h5⟩
end Go.Proofs.YtelpkgbghhpgaaaGreatDoor.Sx
end
section
set_option maxRecDepth 100000
namespace Go.Proofs.YtelpkgbghhpgaaaGreatDoor.Sx
open Go.RowKit AV
theorem boxIs_cells {st : St} {b s o : Nat} (h : boxIs st b s o = true) : st.cells b = some [.ptr s o] := by
  unfold boxIs at h
  split at h
  · rename_i s' o' e
    simp only [Bool.and_eq_true, beq_iff_eq] at h
    rw [e, h.1, h.2]
  · cases h
theorem box_val {g : Gh} {st : St} {W : World} {b s o : Nat} (hh : HSt g st W) (h : boxIs st b s o = true) : b < st.size ∧ s < st.size ∧ W.cell? ⟨g.blk b, 0, none⟩ = some (.pointer (some ⟨g.blk s, o, none⟩)) := by
  have hc := St.cells_eq.1 (boxIs_cells h)
  obtain ⟨vs, e, h1, h2, h3⟩ := hh.1.obj b _ hc
  have h2' : vs.size = 1 := h2.symm
  obtain ⟨hs, hv⟩ := (h3 0 (by simp) (by omega)).1.ptr_inv
  have hb : b < st.size := (List.getElem?_eq_some_iff.1 hc).1
  refine ⟨hb, by omega, ?_⟩
  have : vs[0]? = some vs[0] := Array.getElem?_eq_getElem (by omega)
  simp [World.cell?, h1, this, hv]
theorem SeqAt.next {g0 : Gh} {st0 st st2 : St} {w0 W W' : World} {acc : List (List AV)} {n : Nat} {els : List Value} {g g2 : Gh} (h : SeqAt g0 st0 w0 st acc n els W) (hsz : st2.size = st.size)
    (h1 : HSt g st W) (h2 : Ext g0 st0 w0 g st W) (h3 : Rows2 W g.imm acc.flatten els) (h4 : ∀ b, (b = w0.heap.size ∨ b = w0.heap.size + 1 ∨ b = w0.heap.size + 2 ∨ Row W w0.heap.size b) → Priv g st b ∧ w0.heap.size ≤ b)
    (hlt : ∀ b, (b = w0.heap.size ∨ b = w0.heap.size + 1 ∨ b = w0.heap.size + 2 ∨ Row W w0.heap.size b) → b < W.heap.size)
    (k1 : HSt g2 st2 W') (k2 : Ext g st W g2 st2 W') : SeqAt g0 st0 w0 st2 acc n els W' ∧ ∀ b, (b = w0.heap.size ∨ b = w0.heap.size + 1 ∨ b = w0.heap.size + 2 ∨ Row W w0.heap.size b) → W'.heap[b]? = W.heap[b]? := by
  have hkeep : ∀ b, (b = w0.heap.size ∨ b = w0.heap.size + 1 ∨ b = w0.heap.size + 2 ∨ Row W w0.heap.size b) → W'.heap[b]? = W.heap[b]? := fun b hb => k2.block b (hlt b hb) (h4 b hb).1.1
  refine ⟨⟨⟨g2, k1, h2.trans k2, h3.mono k2.grow.imm k2.grow.cell, fun b hb => ?_⟩, h.len, h.unit, hsz.trans h.size⟩, hkeep⟩
  have hb' : b = w0.heap.size ∨ b = w0.heap.size + 1 ∨ b = w0.heap.size + 2 ∨ Row W w0.heap.size b := by
    rcases hb with hb | hb | hb | ⟨u, hu, hub⟩
    · exact .inl hb
    · exact .inr (.inl hb)
    · exact .inr (.inr (.inl hb))
    · rw [hkeep _ (.inl rfl)] at hu
      exact .inr (.inr (.inr ⟨u, hu, hub⟩))
  exact ⟨(h4 b hb').1.ext k2 (hlt b hb'), (h4 b hb').2⟩
theorem tok_val {g : Gh} {n : Nat} {w : World} {t : List AV} {ok : Bool} {c : Value} (ht : t.length = 3) (hp : t.all AV.plain1 = true) (h : Rep g Fh.none n w (.tuple [.agg t, .bool ok]) c) :
    ∃ x y z, c = .tuple #[.agg #[x, y, z], .bool ok] ∧ x.oneCell' = true ∧ y.oneCell' = true ∧ z.oneCell' = true ∧ Rows2 w g.imm t [x, y, z] := by
  obtain ⟨vs, rfl, hl, hv⟩ := h.tuple_inv
  match vs, hl with
  | [a, b], _ =>
    have hb : b = .bool ok := (hv 1 (by simp) (by simp)).bool_inv
    obtain ⟨us, ha, hl2, hu, h1⟩ := (hv 0 (by simp) (by simp)).agg_inv
    have ha' : a = .agg us.toArray := ha
    subst hb ha'
    match us, (hl2.symm.trans ht : us.length = 3) with
    | [x, y, z], _ =>
      refine ⟨x, y, z, rfl, h1 x (by simp), h1 y (by simp), h1 z (by simp), ht.symm, fun j u hj => ?_⟩
      obtain ⟨hjt, rfl⟩ := List.getElem?_eq_some_iff.1 hj
      have hj3 : j < [x, y, z].length := by simp; omega
      exact ⟨[x, y, z][j], List.getElem?_eq_getElem hj3, plain1_rep (List.all_eq_true.1 hp _ (List.getElem_mem hjt)) (hu j hjt hj3)⟩
theorem tok_end {g : Gh} {n : Nat} {w : World} {a : AV} {c : Value} (h : Rep g Fh.none n w (.tuple [a, .bool false]) c) : ∃ v, c = .tuple #[v, .bool false] ∧ Rep g Fh.none n w a v := by
  obtain ⟨vs, rfl, hl, hv⟩ := h.tuple_inv
  match vs, hl with
  | [a, b], _ =>
    have hb : b = .bool false := (hv 1 (by simp) (by simp)).bool_inv
    subst hb
    exact ⟨a, rfl, hv 0 (by simp) (by simp)⟩
theorem SeqAt.add {g0 : Gh} {st0 st st2 : St} {w0 W W' : World} {acc : List (List AV)} {n : Nat} {els : List Value} {g g2 : Gh} {t : List AV} {cs : List Value} (h : SeqAt g0 st0 w0 st acc n els W) (h3 : Rows2 W g.imm acc.flatten els)
    (h2 : SeqAt g0 st0 w0 st2 acc n els W') (k1 : HSt g2 st2 W') (k2 : Ext g st W g2 st2 W') (he : Ext g0 st0 w0 g2 st2 W') (hp : ∀ b, (b = w0.heap.size ∨ b = w0.heap.size + 1 ∨ b = w0.heap.size + 2 ∨ Row W' w0.heap.size b) → Priv g2 st2 b ∧ w0.heap.size ≤ b)
    (ht : t.length = 3) (hr : Rows2 W' g2.imm t cs) : SeqAt g0 st0 w0 st2 (acc ++ [t]) (n + 1) (els ++ cs) W' := by
  refine ⟨⟨g2, k1, he, ?_, hp⟩, by simp [h.len], ?_, h2.size⟩
  · rw [List.flatten_append]
    simpa using (h3.mono k2.grow.imm k2.grow.cell).append hr
  · intro e he
    rcases List.mem_append.1 he with he | he
    · exact h.unit e he
    · simp at he; rw [he]; exact ht
theorem SeqAt.alloc {g0 : Gh} {st0 st : St} {w0 W : World} {acc : List (List AV)} {n : Nat} {els : List Value} (h : SeqAt g0 st0 w0 st acc n els W) (hB : w0.heap.size < W.heap.size) (o : Obj) : SeqAt g0 st0 w0 st acc n els (W.alloc o) :=
  h.own (Chg.alloc _ _ _) fun b ⟨u, hu, hub⟩ => .inl ⟨u, by rw [← hu]; exact (Below.heap_alloc _ _ _ hB).symm, hub⟩
end Go.Proofs.YtelpkgbghhpgaaaGreatDoor.Sx
end
