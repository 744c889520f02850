/- TreeSames returns true for all programs whose data are not larger than a bound. The program's scanner: the table of classes; ends of lines; lines that go on. The program's scanner: ends of lines, lines that go on, words and numbers. The program's scanner: signs, dates, texts. -/
import Derived.Test.YtelpkgbghhpgaaaGreatDoorS24
set_option linter.all false
section
/- The program's scanner: the table of classes; ends of lines; lines that go on. -/
set_option maxRecDepth 100000
namespace Go.Proofs.YtelpkgbghhpgaaaGreatDoor.Sx
section
variable {st : St} {id a : Nat} {s : List UInt8} {line begun : Bool} {bad : Int} {Q : Res → St → Prop} {o : HObj}

/-- The table, as far as `n`. -/
def clsTo (n : Nat) : List AV := (List.range 256).map fun (b : Nat) => .int .u8 (if b < n then clsOf b else 0)
theorem clsTo_length (n : Nat) : (clsTo n).length = 256 := by simp [clsTo]
theorem clsTo_zero : clsTo 0 = zs256 := by
  unfold clsTo zs256
  rw [List.eq_replicate_iff]
  exact ⟨by simp, fun b hb => by
    obtain ⟨k, _, hk⟩ := List.mem_map.1 hb
    rw [← hk, if_neg (Nat.not_lt_zero _)]⟩
theorem clsTo_all : clsTo 256 = clsList := by
  unfold clsTo clsList
  exact List.map_congr_left fun b hb => by rw [if_pos (List.mem_range.1 hb)]
theorem clsTo_step {n : Nat} (h : n < 256) : (clsTo n).take n ++ [AV.int .u8 (clsOf n)] ++ (clsTo n).drop (n + 1) = clsTo (n + 1) := by
  rw [List.append_assoc, List.singleton_append]
  apply List.ext_getElem
  · simp [clsTo]; omega
  · intro i h1 h2
    simp only [clsTo, List.length_map, List.length_range] at h2
    by_cases hi : i < n
    · rw [List.getElem_append_left (by simp [clsTo]; omega)]
      simp [clsTo, hi, show i < n + 1 by omega]
    · rw [List.getElem_append_right (by simp [clsTo]; omega)]
      simp only [List.length_take, clsTo_length, show min n 256 = n by omega]
      by_cases he : i = n
      · subst he; simp [clsTo]
      · obtain ⟨d, rfl⟩ : ∃ d, i = n + 1 + d := ⟨i - n - 1, by omega⟩
        simp only [show n + 1 + d - n = d + 1 by omega, List.getElem_cons_succ, List.getElem_drop]
        simp [clsTo, show ¬ n + 1 + d < n by omega, show ¬ n + 1 + d < n + 1 by omega]
theorem clsTo_same {n : Nat} (h : n < 256) (h0 : clsOf n = 0) : clsTo n = clsTo (n + 1) := by
  unfold clsTo
  refine List.map_congr_left fun b hb => ?_
  by_cases hb2 : b < n
  · rw [if_pos hb2, if_pos (by omega)]
  · rw [if_neg hb2]
    by_cases hb3 : b = n
    · subst hb3; rw [if_pos (by omega), h0]
    · rw [if_neg (by omega)]
theorem clsTo_okIn (n : Nat) : (clsTo n).all AV.okIn = true := by simp [clsTo, AV.okIn, AV.out1, AV.out0]
theorem clsList_strip1 : clsList.map AV.strip1 = clsList := by simp [clsList, AV.strip1]
theorem clsList_out1 : clsList.all AV.out1 = true := by simp [clsList, AV.out1, AV.out0]
theorem clsList_okIn : clsList.all AV.okIn = true := by simp [clsList, AV.okIn, AV.out1, AV.out0]
theorem clsList_refs : AV.refs1L clsList = 0 := by decide +kernel
theorem zs256_length : zs256.length = 256 := by simp [zs256]

theorem w8 {n : Nat} (h : n < 256) : IntKind.u8.wrap (n : Int) = n := by
  have e1 : (2 : Int) ^ 8 = 256 := by decide
  simp only [IntKind.wrap, IntKind.signed, IntKind.bits, Bool.false_and, Bool.false_eq_true, if_false, e1]
  omega

theorem classes_eq : CallA S 51 [] st Q = Q (.ret (.agg clsList)) st := by
  refine callA_eq (fun Q hQ => ?_) Q
  refine callA_body (by rfl) (by rfl) rfl ?_
  simp only [b51, go_sem]
  refine wp_loop (fun m fr st' => ∃ n ser ser2, m + n = 256 ∧ st' = st ∧ fr = ⟨[(0, .lptr 0 1 0), (1, .lptr 1 ser 0), (4, .int .i64 (n : Int))], [(1, zs256), (ser, clsTo n)], [], ser2⟩) 256 ⟨0, 2, _, rfl, rfl, by rw [clsTo_zero]; rfl⟩ ?_
  rintro m fr st' ⟨n, ser, ser2, hm, rfl, rfl⟩
  by_cases hn : (n : Int) < 256
  · have hn' : n < 256 := by omega
    have h1 : (n : Int) < ((256 : Nat) : Int) := by omega
    have hle : n + 1 ≤ 256 := by omega
    have hw := w8 hn'
    have hw1 := wrap_one n (by omega)
    have e := clsTo_step hn'
    have len := clsTo_length n
    rcases (by omega : (n = 9) ∨ (n = 32) ∨ (n = 95) ∨ (97 ≤ n ∧ n ≤ 122) ∨ (65 ≤ n ∧ n ≤ 90) ∨ (48 ≤ n ∧ n ≤ 57) ∨ (n = 10) ∨ (n < 32 ∧ n ≠ 9 ∧ n ≠ 10) ∨ (n > 126) ∨ (33 ≤ n ∧ n ≤ 47) ∨ (58 ≤ n ∧ n ≤ 64) ∨ (91 ≤ n ∧ n ≤ 94) ∨ (n = 96) ∨ (123 ≤ n ∧ n ≤ 126)) with hr | hr | hr | hr | hr | hr | hr | hr | hr | hr | hr | hr | hr | hr
    · have hc : clsOf n = 3 := by unfold clsOf; (repeat' split) <;> omega
      have e9 : ((n : Int) == 9) = true := by rw [beq_iff_eq]; omega
      have e32 : ((n : Int) == 32) = false := by rw [beq_eq_false_iff_ne]; omega
      have e95 : ((n : Int) == 95) = false := by rw [beq_eq_false_iff_ne]; omega
      have g97 : ¬ (n : Int) ≥ 97 := by omega
      have g65 : ¬ (n : Int) ≥ 65 := by omega
      have g48 : ¬ (n : Int) ≥ 48 := by omega
      have l122 : (n : Int) ≤ 122 := by omega
      have l90 : (n : Int) ≤ 90 := by omega
      have l57 : (n : Int) ≤ 57 := by omega
      have n10 : ((n : Int) != 10) = true := by rw [bne_iff_ne]; omega
      have s32 : (n : Int) < 32 := by omega
      have s126 : ¬ (n : Int) > 126 := by omega
      simp only [b51l0, go_sem, hn, hw, h1, and_self, Nat.mul_one, len, hle, hw1, e9, e32, e95, g97, g65, g48, l122, l90, l57, n10, s32, s126]
      exact ⟨m - 1, by omega, n + 1, ser, _, by omega, by rw [← e, hc]⟩
    · have hc : clsOf n = 3 := by unfold clsOf; (repeat' split) <;> omega
      have e9 : ((n : Int) == 9) = false := by rw [beq_eq_false_iff_ne]; omega
      have e32 : ((n : Int) == 32) = true := by rw [beq_iff_eq]; omega
      have e95 : ((n : Int) == 95) = false := by rw [beq_eq_false_iff_ne]; omega
      have g97 : ¬ (n : Int) ≥ 97 := by omega
      have g65 : ¬ (n : Int) ≥ 65 := by omega
      have g48 : ¬ (n : Int) ≥ 48 := by omega
      have l122 : (n : Int) ≤ 122 := by omega
      have l90 : (n : Int) ≤ 90 := by omega
      have l57 : (n : Int) ≤ 57 := by omega
      have n10 : ((n : Int) != 10) = true := by rw [bne_iff_ne]; omega
      have s32 : ¬ (n : Int) < 32 := by omega
      have s126 : ¬ (n : Int) > 126 := by omega
      simp only [b51l0, go_sem, hn, hw, h1, and_self, Nat.mul_one, len, hle, hw1, e9, e32, e95, g97, g65, g48, l122, l90, l57, n10, s32, s126]
      exact ⟨m - 1, by omega, n + 1, ser, _, by omega, by rw [← e, hc]⟩
    · have hc : clsOf n = 1 := by unfold clsOf; (repeat' split) <;> omega
      have e9 : ((n : Int) == 9) = false := by rw [beq_eq_false_iff_ne]; omega
      have e32 : ((n : Int) == 32) = false := by rw [beq_eq_false_iff_ne]; omega
      have e95 : ((n : Int) == 95) = true := by rw [beq_iff_eq]; omega
      have g97 : ¬ (n : Int) ≥ 97 := by omega
      have g65 : (n : Int) ≥ 65 := by omega
      have g48 : (n : Int) ≥ 48 := by omega
      have l122 : (n : Int) ≤ 122 := by omega
      have l90 : ¬ (n : Int) ≤ 90 := by omega
      have l57 : ¬ (n : Int) ≤ 57 := by omega
      have n10 : ((n : Int) != 10) = true := by rw [bne_iff_ne]; omega
      have s32 : ¬ (n : Int) < 32 := by omega
      have s126 : ¬ (n : Int) > 126 := by omega
      simp only [b51l0, go_sem, hn, hw, h1, and_self, Nat.mul_one, len, hle, hw1, e9, e32, e95, g97, g65, g48, l122, l90, l57, n10, s32, s126]
      exact ⟨m - 1, by omega, n + 1, ser, _, by omega, by rw [← e, hc]⟩
    · have hc : clsOf n = 1 := by unfold clsOf; (repeat' split) <;> omega
      have e9 : ((n : Int) == 9) = false := by rw [beq_eq_false_iff_ne]; omega
      have e32 : ((n : Int) == 32) = false := by rw [beq_eq_false_iff_ne]; omega
      have e95 : ((n : Int) == 95) = false := by rw [beq_eq_false_iff_ne]; omega
      have g97 : (n : Int) ≥ 97 := by omega
      have g65 : (n : Int) ≥ 65 := by omega
      have g48 : (n : Int) ≥ 48 := by omega
      have l122 : (n : Int) ≤ 122 := by omega
      have l90 : ¬ (n : Int) ≤ 90 := by omega
      have l57 : ¬ (n : Int) ≤ 57 := by omega
      have n10 : ((n : Int) != 10) = true := by rw [bne_iff_ne]; omega
      have s32 : ¬ (n : Int) < 32 := by omega
      have s126 : ¬ (n : Int) > 126 := by omega
      simp only [b51l0, go_sem, hn, hw, h1, and_self, Nat.mul_one, len, hle, hw1, e9, e32, e95, g97, g65, g48, l122, l90, l57, n10, s32, s126]
      exact ⟨m - 1, by omega, n + 1, ser, _, by omega, by rw [← e, hc]⟩
    · have hc : clsOf n = 1 := by unfold clsOf; (repeat' split) <;> omega
      have e9 : ((n : Int) == 9) = false := by rw [beq_eq_false_iff_ne]; omega
      have e32 : ((n : Int) == 32) = false := by rw [beq_eq_false_iff_ne]; omega
      have e95 : ((n : Int) == 95) = false := by rw [beq_eq_false_iff_ne]; omega
      have g97 : ¬ (n : Int) ≥ 97 := by omega
      have g65 : (n : Int) ≥ 65 := by omega
      have g48 : (n : Int) ≥ 48 := by omega
      have l122 : (n : Int) ≤ 122 := by omega
      have l90 : (n : Int) ≤ 90 := by omega
      have l57 : ¬ (n : Int) ≤ 57 := by omega
      have n10 : ((n : Int) != 10) = true := by rw [bne_iff_ne]; omega
      have s32 : ¬ (n : Int) < 32 := by omega
      have s126 : ¬ (n : Int) > 126 := by omega
      simp only [b51l0, go_sem, hn, hw, h1, and_self, Nat.mul_one, len, hle, hw1, e9, e32, e95, g97, g65, g48, l122, l90, l57, n10, s32, s126]
      exact ⟨m - 1, by omega, n + 1, ser, _, by omega, by rw [← e, hc]⟩
    · have hc : clsOf n = 2 := by unfold clsOf; (repeat' split) <;> omega
      have e9 : ((n : Int) == 9) = false := by rw [beq_eq_false_iff_ne]; omega
      have e32 : ((n : Int) == 32) = false := by rw [beq_eq_false_iff_ne]; omega
      have e95 : ((n : Int) == 95) = false := by rw [beq_eq_false_iff_ne]; omega
      have g97 : ¬ (n : Int) ≥ 97 := by omega
      have g65 : ¬ (n : Int) ≥ 65 := by omega
      have g48 : (n : Int) ≥ 48 := by omega
      have l122 : (n : Int) ≤ 122 := by omega
      have l90 : (n : Int) ≤ 90 := by omega
      have l57 : (n : Int) ≤ 57 := by omega
      have n10 : ((n : Int) != 10) = true := by rw [bne_iff_ne]; omega
      have s32 : ¬ (n : Int) < 32 := by omega
      have s126 : ¬ (n : Int) > 126 := by omega
      simp only [b51l0, go_sem, hn, hw, h1, and_self, Nat.mul_one, len, hle, hw1, e9, e32, e95, g97, g65, g48, l122, l90, l57, n10, s32, s126]
      exact ⟨m - 1, by omega, n + 1, ser, _, by omega, by rw [← e, hc]⟩
    · have hc : clsOf n = 0 := by unfold clsOf; (repeat' split) <;> omega
      have e9 : ((n : Int) == 9) = false := by rw [beq_eq_false_iff_ne]; omega
      have e32 : ((n : Int) == 32) = false := by rw [beq_eq_false_iff_ne]; omega
      have e95 : ((n : Int) == 95) = false := by rw [beq_eq_false_iff_ne]; omega
      have g97 : ¬ (n : Int) ≥ 97 := by omega
      have g65 : ¬ (n : Int) ≥ 65 := by omega
      have g48 : ¬ (n : Int) ≥ 48 := by omega
      have l122 : (n : Int) ≤ 122 := by omega
      have l90 : (n : Int) ≤ 90 := by omega
      have l57 : (n : Int) ≤ 57 := by omega
      have n10 : ((n : Int) != 10) = false := by rw [bne_eq_false_iff_eq]; omega
      have s32 : (n : Int) < 32 := by omega
      have s126 : ¬ (n : Int) > 126 := by omega
      simp only [b51l0, go_sem, hn, hw, h1, and_self, Nat.mul_one, len, hle, hw1, e9, e32, e95, g97, g65, g48, l122, l90, l57, n10, s32, s126]
      exact ⟨m - 1, by omega, n + 1, ser, _, by omega, by rw [← clsTo_same hn' hc]⟩
    · have hc : clsOf n = 4 := by unfold clsOf; (repeat' split) <;> omega
      have e9 : ((n : Int) == 9) = false := by rw [beq_eq_false_iff_ne]; omega
      have e32 : ((n : Int) == 32) = false := by rw [beq_eq_false_iff_ne]; omega
      have e95 : ((n : Int) == 95) = false := by rw [beq_eq_false_iff_ne]; omega
      have g97 : ¬ (n : Int) ≥ 97 := by omega
      have g65 : ¬ (n : Int) ≥ 65 := by omega
      have g48 : ¬ (n : Int) ≥ 48 := by omega
      have l122 : (n : Int) ≤ 122 := by omega
      have l90 : (n : Int) ≤ 90 := by omega
      have l57 : (n : Int) ≤ 57 := by omega
      have n10 : ((n : Int) != 10) = true := by rw [bne_iff_ne]; omega
      have s32 : (n : Int) < 32 := by omega
      have s126 : ¬ (n : Int) > 126 := by omega
      simp only [b51l0, go_sem, hn, hw, h1, and_self, Nat.mul_one, len, hle, hw1, e9, e32, e95, g97, g65, g48, l122, l90, l57, n10, s32, s126]
      exact ⟨m - 1, by omega, n + 1, ser, _, by omega, by rw [← e, hc]⟩
    · have hc : clsOf n = 4 := by unfold clsOf; (repeat' split) <;> omega
      have e9 : ((n : Int) == 9) = false := by rw [beq_eq_false_iff_ne]; omega
      have e32 : ((n : Int) == 32) = false := by rw [beq_eq_false_iff_ne]; omega
      have e95 : ((n : Int) == 95) = false := by rw [beq_eq_false_iff_ne]; omega
      have g97 : (n : Int) ≥ 97 := by omega
      have g65 : (n : Int) ≥ 65 := by omega
      have g48 : (n : Int) ≥ 48 := by omega
      have l122 : ¬ (n : Int) ≤ 122 := by omega
      have l90 : ¬ (n : Int) ≤ 90 := by omega
      have l57 : ¬ (n : Int) ≤ 57 := by omega
      have n10 : ((n : Int) != 10) = true := by rw [bne_iff_ne]; omega
      have s32 : ¬ (n : Int) < 32 := by omega
      have s126 : (n : Int) > 126 := by omega
      simp only [b51l0, go_sem, hn, hw, h1, and_self, Nat.mul_one, len, hle, hw1, e9, e32, e95, g97, g65, g48, l122, l90, l57, n10, s32, s126]
      exact ⟨m - 1, by omega, n + 1, ser, _, by omega, by rw [← e, hc]⟩
    · have hc : clsOf n = 0 := by unfold clsOf; (repeat' split) <;> omega
      have e9 : ((n : Int) == 9) = false := by rw [beq_eq_false_iff_ne]; omega
      have e32 : ((n : Int) == 32) = false := by rw [beq_eq_false_iff_ne]; omega
      have e95 : ((n : Int) == 95) = false := by rw [beq_eq_false_iff_ne]; omega
      have g97 : ¬ (n : Int) ≥ 97 := by omega
      have g65 : ¬ (n : Int) ≥ 65 := by omega
      have g48 : ¬ (n : Int) ≥ 48 := by omega
      have l122 : (n : Int) ≤ 122 := by omega
      have l90 : (n : Int) ≤ 90 := by omega
      have l57 : (n : Int) ≤ 57 := by omega
      have n10 : ((n : Int) != 10) = true := by rw [bne_iff_ne]; omega
      have s32 : ¬ (n : Int) < 32 := by omega
      have s126 : ¬ (n : Int) > 126 := by omega
      simp only [b51l0, go_sem, hn, hw, h1, and_self, Nat.mul_one, len, hle, hw1, e9, e32, e95, g97, g65, g48, l122, l90, l57, n10, s32, s126]
      exact ⟨m - 1, by omega, n + 1, ser, _, by omega, by rw [← clsTo_same hn' hc]⟩
    · have hc : clsOf n = 0 := by unfold clsOf; (repeat' split) <;> omega
      have e9 : ((n : Int) == 9) = false := by rw [beq_eq_false_iff_ne]; omega
      have e32 : ((n : Int) == 32) = false := by rw [beq_eq_false_iff_ne]; omega
      have e95 : ((n : Int) == 95) = false := by rw [beq_eq_false_iff_ne]; omega
      have g97 : ¬ (n : Int) ≥ 97 := by omega
      have g65 : ¬ (n : Int) ≥ 65 := by omega
      have g48 : (n : Int) ≥ 48 := by omega
      have l122 : (n : Int) ≤ 122 := by omega
      have l90 : (n : Int) ≤ 90 := by omega
      have l57 : ¬ (n : Int) ≤ 57 := by omega
      have n10 : ((n : Int) != 10) = true := by rw [bne_iff_ne]; omega
      have s32 : ¬ (n : Int) < 32 := by omega
      have s126 : ¬ (n : Int) > 126 := by omega
      simp only [b51l0, go_sem, hn, hw, h1, and_self, Nat.mul_one, len, hle, hw1, e9, e32, e95, g97, g65, g48, l122, l90, l57, n10, s32, s126]
      exact ⟨m - 1, by omega, n + 1, ser, _, by omega, by rw [← clsTo_same hn' hc]⟩
    · have hc : clsOf n = 0 := by unfold clsOf; (repeat' split) <;> omega
      have e9 : ((n : Int) == 9) = false := by rw [beq_eq_false_iff_ne]; omega
      have e32 : ((n : Int) == 32) = false := by rw [beq_eq_false_iff_ne]; omega
      have e95 : ((n : Int) == 95) = false := by rw [beq_eq_false_iff_ne]; omega
      have g97 : ¬ (n : Int) ≥ 97 := by omega
      have g65 : (n : Int) ≥ 65 := by omega
      have g48 : (n : Int) ≥ 48 := by omega
      have l122 : (n : Int) ≤ 122 := by omega
      have l90 : ¬ (n : Int) ≤ 90 := by omega
      have l57 : ¬ (n : Int) ≤ 57 := by omega
      have n10 : ((n : Int) != 10) = true := by rw [bne_iff_ne]; omega
      have s32 : ¬ (n : Int) < 32 := by omega
      have s126 : ¬ (n : Int) > 126 := by omega
      simp only [b51l0, go_sem, hn, hw, h1, and_self, Nat.mul_one, len, hle, hw1, e9, e32, e95, g97, g65, g48, l122, l90, l57, n10, s32, s126]
      exact ⟨m - 1, by omega, n + 1, ser, _, by omega, by rw [← clsTo_same hn' hc]⟩
    · have hc : clsOf n = 0 := by unfold clsOf; (repeat' split) <;> omega
      have e9 : ((n : Int) == 9) = false := by rw [beq_eq_false_iff_ne]; omega
      have e32 : ((n : Int) == 32) = false := by rw [beq_eq_false_iff_ne]; omega
      have e95 : ((n : Int) == 95) = false := by rw [beq_eq_false_iff_ne]; omega
      have g97 : ¬ (n : Int) ≥ 97 := by omega
      have g65 : (n : Int) ≥ 65 := by omega
      have g48 : (n : Int) ≥ 48 := by omega
      have l122 : (n : Int) ≤ 122 := by omega
      have l90 : ¬ (n : Int) ≤ 90 := by omega
      have l57 : ¬ (n : Int) ≤ 57 := by omega
      have n10 : ((n : Int) != 10) = true := by rw [bne_iff_ne]; omega
      have s32 : ¬ (n : Int) < 32 := by omega
      have s126 : ¬ (n : Int) > 126 := by omega
      simp only [b51l0, go_sem, hn, hw, h1, and_self, Nat.mul_one, len, hle, hw1, e9, e32, e95, g97, g65, g48, l122, l90, l57, n10, s32, s126]
      exact ⟨m - 1, by omega, n + 1, ser, _, by omega, by rw [← clsTo_same hn' hc]⟩
    · have hc : clsOf n = 0 := by unfold clsOf; (repeat' split) <;> omega
      have e9 : ((n : Int) == 9) = false := by rw [beq_eq_false_iff_ne]; omega
      have e32 : ((n : Int) == 32) = false := by rw [beq_eq_false_iff_ne]; omega
      have e95 : ((n : Int) == 95) = false := by rw [beq_eq_false_iff_ne]; omega
      have g97 : (n : Int) ≥ 97 := by omega
      have g65 : (n : Int) ≥ 65 := by omega
      have g48 : (n : Int) ≥ 48 := by omega
      have l122 : ¬ (n : Int) ≤ 122 := by omega
      have l90 : ¬ (n : Int) ≤ 90 := by omega
      have l57 : ¬ (n : Int) ≤ 57 := by omega
      have n10 : ((n : Int) != 10) = true := by rw [bne_iff_ne]; omega
      have s32 : ¬ (n : Int) < 32 := by omega
      have s126 : ¬ (n : Int) > 126 := by omega
      simp only [b51l0, go_sem, hn, hw, h1, and_self, Nat.mul_one, len, hle, hw1, e9, e32, e95, g97, g65, g48, l122, l90, l57, n10, s32, s126]
      exact ⟨m - 1, by omega, n + 1, ser, _, by omega, by rw [← clsTo_same hn' hc]⟩
  · have : n = 256 := by omega
    subst this
    simp only [b51l0, go_sem, hn, clsTo_all, clsList_length, clsList_okIn, clsList_strip1, clsList_out1, clsList_refs, zs256_length, show clsList.take 256 = clsList from List.take_of_length_le (by rw [clsList_length]; exact Nat.le_refl _), show zs256.drop 256 = [] from List.drop_of_length_le (by rw [zs256_length]; exact Nat.le_refl _), show clsList.drop 256 = [] from List.drop_of_length_le (by rw [clsList_length]; exact Nat.le_refl _), trunc_self]
    exact hQ
end
end Go.Proofs.YtelpkgbghhpgaaaGreatDoor.Sx
end
section
/- The program's scanner: ends of lines, lines that go on, words and numbers. -/
set_option maxRecDepth 100000
namespace Go.Proofs.YtelpkgbghhpgaaaGreatDoor.Sx

theorem runTo_le {p : Nat → Bool} : ∀ (n a : Nat), a ≤ runTo p n a ∧ runTo p n a ≤ a + n
  | 0, a => ⟨Nat.le_refl _, Nat.le_refl _⟩
  | n + 1, a => by
    simp only [runTo]
    split
    · have := runTo_le (p := p) n (a + 1); omega
    · omega
theorem skipB_le {s : List UInt8} {a : Nat} (h : a ≤ s.length) : a ≤ skipB s a ∧ skipB s a ≤ s.length := by
  have := runTo_le (p := fun i => isC s i 3) (s.length - a) a
  unfold skipB; omega

theorem beq_byte (b : UInt8) (k : Nat) (hk : k < 256) : ((b.toNat : Int) == (k : Int)) = decide (b = UInt8.ofNat k) := by
  rw [Bool.eq_iff_iff, beq_iff_eq, decide_eq_true_eq]
  constructor
  · intro h
    have : b.toNat = k := by omega
    rw [← this]; simp
  · rintro rfl
    simp [Nat.mod_eq_of_lt hk]

section
variable {st : St} {id a : Nat} {s : List UInt8} {line begun : Bool} {bad : Int} {Q : Res → St → Prop} {o : HObj}

theorem end_eq' (hid : id < st.size) (hs : s.length < 65536) (ha : a ≤ s.length) :
    CallA S 110 [.ptr id 0] (W st id s a line line bad) Q =
      Q (.ret (.tuple [.agg (if line = true then [.int .i64 5, .int .i64 (a : Int), .str []] else [.int .i64 0, .int .i64 0, .str []]), .bool (line || decide (a = s.length))])) (W st id s (if a = s.length then a else a + 1) false false bad) := by
  refine callA_eq (fun Q hQ => ?_) Q
  refine callA_body (by rfl) (by rfl) rfl ?_
  by_cases h : a = s.length
  · have e : ((a : Int) == (s.length : Int)) = true := by rw [beq_iff_eq]; omega
    cases line
    · simp only [h, decide_true, if_true, Bool.or_true, Bool.false_eq_true, if_false] at hQ e ⊢
      simp only [b110, go_sem, W_cells hid, e, W_set, W_size, W_trunc]
      exact hQ
    · simp only [h, decide_true, if_true, Bool.or_true, Bool.false_eq_true, if_false] at hQ e ⊢
      simp only [b110, go_sem, W_cells hid, e, W_set, W_size, W_trunc]
      exact hQ
  · have e : ((a : Int) == (s.length : Int)) = false := by rw [beq_eq_false_iff_ne]; omega
    cases line
    · simp only [h, decide_false, if_true, Bool.or_false, Bool.false_eq_true, if_false] at hQ
      simp only [b110, go_sem, W_cells hid, e, wrap_one a (by omega), W_set, W_size, W_trunc]
      exact hQ
    · simp only [h, decide_false, if_true, Bool.or_false, Bool.false_eq_true, if_false] at hQ
      simp only [b110, go_sem, W_cells hid, e, wrap_one a (by omega), W_set, W_size, W_trunc]
      exact hQ

/-- What `continues` comes to. -/
def contQ (st : St) (id : Nat) (s : List UInt8) (a : Nat) (line : Bool) (bad : Int) (Q : Res → St → Prop) : Prop :=
  if goesOn s a = true then
    match commentP s (skipB s (a + 1)) with
    | some p => Q (.ret (.tuple [.bool true, .bool false])) (W st id s p line line (p : Int))
    | none => Q (.ret (.tuple [.bool true, .bool true])) (W st id s (if lineEnd s (skipB s (a + 1)) < s.length then lineEnd s (skipB s (a + 1)) + 1 else lineEnd s (skipB s (a + 1))) line line bad)
  else Q (.ret (.tuple [.bool false, .bool true])) (W st id s a line line bad)

theorem continues_ok (hid : id < st.size) (hs : s.length < 65536) (ha : a < s.length) (hQ : contQ st id s a line bad Q) :
    CallA S 113 [.ptr id 0] (W st id s a line line bad) Q := by
  refine callA_body (by rfl) (by rfl) rfl ?_
  simp only [b113, go_sem, W_cells hid, wrap_one a (by omega)]
  refine wp_loop (fun n fr st' => ∃ i ser, n + i = s.length ∧ st' = W st id s a line line bad ∧ skipB s (a + 1) = runTo (fun i => isC s i 3) n i ∧ fr = ⟨[(0, .ptr id 0), (4, .int .i64 (i : Int))], [], [], ser⟩) (s.length - (a + 1)) ⟨a + 1, _, by omega, rfl, rfl, rfl⟩ ?_
  rintro n fr st' ⟨i, ser, hn, rfl, hr, rfl⟩
  simp only [b113l0, go_sem, is_eq hid hs]
  cases h : isC s i 3 with
  | true =>
    have hlt := isC_lt h
    cases n with
    | zero => omega
    | succ n =>
      simp only [runTo, h, if_true] at hr
      simp only [go_sem, wrap_one i (by omega)]
      exact ⟨n, Nat.lt_succ_self n, i + 1, _, by omega, hr, rfl⟩
  | false =>
    have hk : skipB s (a + 1) = i := by cases n <;> simp [runTo, h] at hr <;> exact hr
    have hle := skipB_le (s := s) (a := a + 1) (by omega)
    rw [hk] at hle
    have h1 : (i : Int) ≤ (s.length : Int) := by omega
    have h2 : (s.length : Int) ≤ (s.length : Int) := by omega
    have ht : s.take s.length = s := List.take_length
    have rest : goesOn s a = true → (match commentP s i with
        | some p => Q (.ret (.tuple [.bool true, .bool false])) (W st id s p line line (p : Int))
        | none => Q (.ret (.tuple [.bool true, .bool true])) (W st id s (if lineEnd s i < s.length then lineEnd s i + 1 else lineEnd s i) line line bad)) := by
      intro hg
      unfold contQ at hQ
      rw [if_pos hg, hk] at hQ
      exact hQ
    have no : goesOn s a = false → Q (.ret (.tuple [.bool false, .bool true])) (W st id s a line line bad) := by
      intro hg
      unfold contQ at hQ
      rw [hg] at hQ
      exact hQ
    have hgo : goesOn s a = (decide (i = s.length) || decide (s[i]? = some 10) || hasPre (s.drop i) [38, 38]) := by unfold goesOn; rw [hk]
    by_cases c1 : i = s.length
    · have e : ((i : Int) == (s.length : Int)) = true := by rw [beq_iff_eq]; omega
      have hQ := rest (by rw [hgo]; simp [c1])
      simp only [go_sem, W_cells hid, e, W_set]
      rw [comment_eq hid hs hle.2]
      have hle2 := lineEnd_le hle.2
      cases hcp : commentP s i with
      | some p =>
        simp only [hcp] at hQ
        simp only [go_sem, W_size, W_trunc]
        exact hQ
      | none =>
        simp only [hcp] at hQ
        by_cases hl : lineEnd s i < s.length
        · have hl' : (lineEnd s i : Int) < (s.length : Int) := by omega
          rw [if_pos hl] at hQ
          simp only [go_sem, W_cells hid, hl', wrap_one (lineEnd s i) (by omega), W_set, W_size, W_trunc]
          exact hQ
        · have hl' : ¬ (lineEnd s i : Int) < (s.length : Int) := by omega
          rw [if_neg hl] at hQ
          simp only [go_sem, W_cells hid, hl', W_set, W_size, W_trunc]
          exact hQ
    · have e : ((i : Int) == (s.length : Int)) = false := by rw [beq_eq_false_iff_ne]; omega
      have hlt : i < s.length := by omega
      have e10 : ((s[i].toNat : Int) == 10) = decide (s[i] = 10) := beq_byte s[i] 10 (by omega)
      by_cases c2 : s[i] = 10
      · have hQ := rest (by rw [hgo, getB hlt]; simp [c2])
        rw [decide_eq_true c2] at e10
        simp only [go_sem, W_cells hid, e, getB hlt, e10, W_set]
        rw [comment_eq hid hs hle.2]
        have hle2 := lineEnd_le hle.2
        cases hcp : commentP s i with
        | some p =>
          simp only [hcp] at hQ
          simp only [go_sem, W_size, W_trunc]
          exact hQ
        | none =>
          simp only [hcp] at hQ
          by_cases hl : lineEnd s i < s.length
          · have hl' : (lineEnd s i : Int) < (s.length : Int) := by omega
            rw [if_pos hl] at hQ
            simp only [go_sem, W_cells hid, hl', wrap_one (lineEnd s i) (by omega), W_set, W_size, W_trunc]
            exact hQ
          · have hl' : ¬ (lineEnd s i : Int) < (s.length : Int) := by omega
            rw [if_neg hl] at hQ
            simp only [go_sem, W_cells hid, hl', W_set, W_size, W_trunc]
            exact hQ
      · rw [decide_eq_false c2] at e10
        cases c3 : hasPre (s.drop i) [38, 38] with
        | true =>
          have hQ := rest (by rw [hgo, c3]; simp)
          simp only [go_sem, W_cells hid, e, getB hlt, e10, h1, h2, and_self, ht, hasPrefix_eq, c3, W_set]
          rw [comment_eq hid hs hle.2]
          have hle2 := lineEnd_le hle.2
          cases hcp : commentP s i with
          | some p =>
            simp only [hcp] at hQ
            simp only [go_sem, W_size, W_trunc]
            exact hQ
          | none =>
            simp only [hcp] at hQ
            by_cases hl : lineEnd s i < s.length
            · have hl' : (lineEnd s i : Int) < (s.length : Int) := by omega
              rw [if_pos hl] at hQ
              simp only [go_sem, W_cells hid, hl', wrap_one (lineEnd s i) (by omega), W_set, W_size, W_trunc]
              exact hQ
            · have hl' : ¬ (lineEnd s i : Int) < (s.length : Int) := by omega
              rw [if_neg hl] at hQ
              simp only [go_sem, W_cells hid, hl', W_set, W_size, W_trunc]
              exact hQ
        | false =>
          have hQ := no (by rw [hgo, getB hlt, c3]; simp [c1, c2])
          simp only [go_sem, W_cells hid, e, getB hlt, e10, h1, h2, and_self, ht, hasPrefix_eq, c3, W_set, W_size, W_trunc]
          exact hQ
end
end Go.Proofs.YtelpkgbghhpgaaaGreatDoor.Sx
end
section
/- The program's scanner: signs, dates, texts. -/
set_option maxRecDepth 100000
namespace Go.Proofs.YtelpkgbghhpgaaaGreatDoor.Sx
section
variable {st : St} {id a : Nat} {s : List UInt8} {line begun : Bool} {bad : Int} {Q : Res → St → Prop} {o : HObj}

theorem toUpper_eq (t : List UInt8) (h : t.length < 1048576) : CallA S 159 [.str t] st Q = Q (.ret (.str (upperS t))) st := by
  refine callA_intr (n := 0) (k := iUpper) (by rfl) ?_ Q
  simp only [iUpper, if_pos h]

theorem signs_eq : CallA S 210 [] st Q = Q (.ret (.slice 1 (encStr allSigns) .no)) st := by
  refine callA_eq (fun Q hQ => ?_) Q
  refine callA_body (by rfl) (by rfl) rfl ?_
  have e : encStr allSigns = [[.str [46, 78, 85, 76, 76, 46]], [.str [46, 65, 78, 68, 46]], [.str [46, 78, 79, 84, 46]], [.str [46, 79, 82, 46]], [.str [46, 84, 46]], [.str [46, 70, 46]], [.str [58, 61]], [.str [61, 61]], [.str [60, 62]], [.str [33, 61]], [.str [60, 61]], [.str [62, 61]], [.str [45, 62]], [.str [40]], [.str [41]], [.str [91]], [.str [93]], [.str [123]], [.str [125]], [.str [44]], [.str [124]], [.str [58]], [.str [46]], [.str [61]], [.str [35]], [.str [60]], [.str [62]], [.str [43]], [.str [45]], [.str [42]], [.str [47]], [.str [37]], [.str [94]], [.str [36]], [.str [38]], [.str [63]], [.str [64]], [.str [33]]] := rfl
  rw [e] at hQ
  simp only [b210, go_sem, trunc_self]
  exact hQ

theorem signs_len : ∀ w ∈ allSigns, w.length ≤ 6 := by decide

/-- What `sign` comes to. -/
def signQ (st : St) (id : Nat) (s : List UInt8) (a : Nat) (line begun : Bool) (bad : Int) (t : Tok) (Q : Res → St → Prop) : Prop :=
  match signP s a with
  | some w => Q (.ret (.tuple [.agg [.int .i64 4, .int .i64 t.at_, .str w], .bool true])) (W st id s (a + w.length) line begun bad)
  | none => Q (.ret (.tuple [.agg [.int .i64 4, .int .i64 t.at_, .str t.text], .bool false])) (W st id s a line begun (a : Int))

theorem sign_ok (hid : id < st.size) (hs : s.length < 65536) (ha : a ≤ s.length) (t : Tok) (hQ : signQ st id s a line begun bad t Q) :
    CallA S 163 [.ptr id 0, .agg [.int .i64 t.kind, .int .i64 t.at_, .str t.text]] (W st id s a line begun bad) Q := by
  refine callA_body (by rfl) (by rfl) rfl ?_
  unfold signQ signP at hQ
  simp only [b163, go_sem, signs_eq, encStr_length]
  refine wp_loop (fun n fr st' => ∃ i ser ser2, n + i = allSigns.length ∧ st' = W st id s a line begun bad ∧ allSigns.find? (signFits s a) = (allSigns.drop i).find? (signFits s a) ∧
    fr = ⟨[(0, .ptr id 0), (3, .lptr 0 ser 0), (4, .lptr 1 ser 0), (10, .slice 1 (encStr allSigns) .no), (11, .int .i64 (allSigns.length : Int)), (12, .int .i64 (i : Int))], [(ser, [.int .i64 4, .int .i64 t.at_, .str t.text]), (ser, [.int .i64 0, .int .i64 0, .str []])], [], ser2⟩) allSigns.length ⟨0, _, _, rfl, rfl, rfl, rfl⟩ ?_
  rintro n fr st' ⟨i, ser, ser2, hn, rfl, hf, rfl⟩
  rw [hf] at hQ
  by_cases hi : i < allSigns.length
  · have hi' : (i : Int) < (allSigns.length : Int) := by omega
    have hall : allSigns.length = 38 := rfl
    have hw := signs_len allSigns[i] (List.getElem_mem hi)
    have hel : (encStr allSigns)[i]? = some [.str allSigns[i]] := by simp [encStr, hi]
    generalize hgw : allSigns[i] = w at hw hel
    rw [List.drop_eq_getElem_cons hi, hgw] at hQ hf
    rw [List.find?_cons] at hQ hf
    have hadd := wrap_add a w.length (by omega)
    have hnext := wrap_one i (by omega)
    by_cases hle : ((a + w.length : Nat) : Int) ≤ (s.length : Int)
    · have h1 : (a : Int) ≤ ((a + w.length : Nat) : Int) := by omega
      have hsub : (s.take (a + w.length)).drop a = sub s a (a + w.length) := rfl
      have hlen : (sub s a (a + w.length)).length < 1048576 := by simp [sub]; omega
      have hfit : signFits s a w = (upperS (sub s a (a + w.length)) == w) := by
        unfold signFits
        rw [decide_eq_true (show a + w.length ≤ s.length by omega), Bool.true_and]
      rw [hfit] at hQ hf
      cases hb : (upperS (sub s a (a + w.length)) == w) with
      | true =>
        simp only [hb] at hQ
        simp only [b163l0, go_sem, hi', hel, W_cells hid, hadd, hle, h1, and_self, hsub, toUpper_eq _ hlen, hb, W_set, W_size, W_trunc]
        exact hQ
      | false =>
        simp only [hb] at hf
        simp only [b163l0, go_sem, hi', hel, W_cells hid, hadd, hle, h1, and_self, hsub, toUpper_eq _ hlen, hb, hnext]
        exact ⟨n - 1, by omega, i + 1, ser, _, by omega, hf, rfl⟩
    · have hfit : signFits s a w = false := by
        unfold signFits
        rw [decide_eq_false (show ¬ a + w.length ≤ s.length by omega), Bool.false_and]
      rw [hfit] at hf
      simp only [b163l0, go_sem, hi', hel, W_cells hid, hadd, hle, hnext]
      exact ⟨n - 1, by omega, i + 1, ser, _, by omega, hf, rfl⟩
  · have hi' : ¬ (i : Int) < (allSigns.length : Int) := by omega
    rw [List.drop_of_length_le (by omega)] at hQ
    simp only [b163l0, go_sem, hi', W_cells hid, W_set, W_size, W_trunc]
    exact hQ

theorem short_eq (hid : id < st.size) (t : Tok) (m : Int) :
    CallA S 160 [.ptr id 0, .agg [.int .i64 t.kind, .int .i64 t.at_, .str t.text], .int .i64 m] (W st id s a line begun bad) Q =
      Q (.ret (.bool (!decide ((t.text.length : Int) > m)))) (if (t.text.length : Int) > m then W st id s a line begun t.at_ else W st id s a line begun bad) := by
  refine callA_eq (fun Q hQ => ?_) Q
  refine callA_body (by rfl) (by rfl) rfl ?_
  by_cases h : (t.text.length : Int) > m
  · rw [if_pos h, decide_eq_true h] at hQ
    simp only [b160, go_sem, h, W_cells hid, W_set, W_size, W_trunc]
    exact hQ
  · rw [if_neg h, decide_eq_false h] at hQ
    simp only [b160, go_sem, h, W_size, W_trunc]
    exact hQ

theorem date_eq (hid : id < st.size) (hs : s.length < 65536) (ha : a ≤ s.length) :
    CallA S 162 [.ptr id 0] (W st id s a line begun bad) Q = Q (.ret (.tuple [.str (dateP s a).1, .int .i64 (dateP s a).2.1, .bool (dateP s a).2.2])) (W st id s a line begun bad) := by
  refine callA_eq (fun Q hQ => ?_) Q
  refine callA_body (by rfl) (by rfl) rfl ?_
  have h1 : (a : Int) ≤ (s.length : Int) := by omega
  have h2 : (s.length : Int) ≤ (s.length : Int) := by omega
  have ht : s.take s.length = s := List.take_length
  unfold dateP at hQ
  have htl : (s.drop a).length < 65536 := by simp; omega
  generalize hg : s.drop a = t at hQ htl
  cases hp : hasPre t [123, 125] with
  | true =>
    simp only [hp, if_true] at hQ
    simp only [b162, go_sem, W_cells hid, h1, h2, and_self, ht, hg, hasPrefix_eq, hp, W_size, W_trunc]
    exact hQ
  | false =>
    simp only [hp, Bool.false_eq_true, if_false] at hQ
    by_cases hl : (t.length : Int) < 13
    · have : dateLike t = false := by unfold dateLike; rw [decide_eq_false (by omega)]; rfl
      simp only [this, Bool.false_eq_true, if_false] at hQ
      simp only [b162, go_sem, W_cells hid, h1, h2, and_self, ht, hg, hasPrefix_eq, hp, hl, W_size, W_trunc]
      exact hQ
    · have q2 : (2 : Int) ≤ (t.length : Int) := by omega
      have q6 : (6 : Int) ≤ (t.length : Int) := by omega
      have q9 : (9 : Int) ≤ (t.length : Int) := by omega
      have q12 : (12 : Int) ≤ (t.length : Int) := by omega
      have g6 := getB (s := t) (i := 6) (by omega)
      have g9 := getB (s := t) (i := 9) (by omega)
      have g12 := getB (s := t) (i := 12) (by omega)
      have e6 : ((t[6].toNat : Int) != 45) = !decide (t[6] = 45) := congrArg (!·) (beq_byte t[6] 45 (by omega))
      have e9 : ((t[9].toNat : Int) != 45) = !decide (t[9] = 45) := congrArg (!·) (beq_byte t[9] 45 (by omega))
      have e12 : ((t[12].toNat : Int) != 125) = !decide (t[12] = 125) := congrArg (!·) (beq_byte t[12] 125 (by omega))
      have hlike : dateLike t = (t.take 2 == [123, 94] && decide (t[6] = 45) && decide (t[9] = 45) && decide (t[12] = 125)) := by
        unfold dateLike
        rw [decide_eq_true (by omega), Bool.true_and, g6, g9, g12]
        simp only [Option.some.injEq]
      generalize t[6] = b6 at *
      generalize t[9] = b9 at *
      generalize t[12] = b12 at *
      rw [hlike] at hQ
      cases f2 : (t.take 2 == [123, 94]) with
      | false =>
        simp only [f2, Bool.false_and, Bool.false_eq_true, if_false] at hQ
        simp only [b162, go_sem, W_cells hid, h1, h2, and_self, ht, hg, hasPrefix_eq, hp, hl, q2, f2, W_size, W_trunc]
        exact hQ
      | true =>
        by_cases f6 : b6 = 45
        case neg =>
          rw [decide_eq_false f6] at e6 hQ
          simp only [f2, Bool.and_false, Bool.false_and, Bool.false_eq_true, if_false, Bool.not_false] at hQ e6
          simp only [b162, go_sem, W_cells hid, h1, h2, and_self, ht, hg, hasPrefix_eq, hp, hl, q2, f2, g6, e6, W_size, W_trunc]
          exact hQ
        rw [decide_eq_true f6] at e6 hQ
        simp only [Bool.not_true] at e6
        by_cases f9 : b9 = 45
        case neg =>
          rw [decide_eq_false f9] at e9 hQ
          simp only [f2, Bool.and_false, Bool.false_and, Bool.false_eq_true, if_false, Bool.not_false] at hQ e9
          simp only [b162, go_sem, W_cells hid, h1, h2, and_self, ht, hg, hasPrefix_eq, hp, hl, q2, f2, g6, e6, g9, e9, W_size, W_trunc]
          exact hQ
        rw [decide_eq_true f9] at e9 hQ
        simp only [Bool.not_true] at e9
        by_cases f12 : b12 = 125
        case neg =>
          rw [decide_eq_false f12] at e12 hQ
          simp only [f2, Bool.and_false, Bool.false_and, Bool.false_eq_true, if_false, Bool.not_false] at hQ e12
          simp only [b162, go_sem, W_cells hid, h1, h2, and_self, ht, hg, hasPrefix_eq, hp, hl, q2, f2, g6, e6, g9, e9, g12, e12, W_size, W_trunc]
          exact hQ
        rw [decide_eq_true f12] at e12 hQ
        simp only [Bool.not_true] at e12
        simp only [f2, Bool.and_self, if_true] at hQ
        have s1 : (t.take 6).drop 2 = sub t 2 6 := rfl
        have s2 : (t.take 9).drop 7 = sub t 7 9 := rfl
        have s3 : (t.take 12).drop 10 = sub t 10 12 := rfl
        have l1 : (sub t 2 6).length = 4 := by simp [sub]; omega
        have l2 : (sub t 7 9).length = 2 := by simp [sub]; omega
        have l3 : (sub t 10 12).length = 2 := by simp [sub]; omega
        have l12 : (sub t 2 6 ++ sub t 7 9).length = 6 := by simp [l1, l2]
        have hd : sub t 2 6 ++ sub t 7 9 ++ sub t 10 12 = dateDigits t := rfl
        have hdl : (dateDigits t).length < 65536 := by unfold dateDigits; simp [l1, l2, l3]
        have i26 : (2 : Int) ≤ 6 := by omega
        have i79 : (7 : Int) ≤ 9 := by omega
        have i1012 : (10 : Int) ≤ 12 := by omega
        simp only [b162, go_sem, W_cells hid, h1, h2, and_self, ht, hg, hasPrefix_eq, hp, hl, q2, f2, g6, e6, g9, e9, g12, e12, q6, q9, q12, s1, s2, s3, l1, l2, l3, l12, hd, unstamp_eq _ hdl]
        cases hok : (dateDigits t == blanks8 || dayOk (dateDigits t)) with
        | false =>
          simp only [hok, Bool.false_and] at hQ
          simp only [hok, go_sem, W_size, W_trunc]
          exact hQ
        | true =>
          simp only [hok, Bool.true_and] at hQ
          simp only [hok, go_sem, W_size, W_trunc]
          exact hQ
end
end Go.Proofs.YtelpkgbghhpgaaaGreatDoor.Sx
end
