/- TreeExprSames returns true for all expressions whose data are not larger than a bound. The program's functions as plain code. -/
import Derived.Test.YtelpkgbghhpgaaaGreatDoorK11
import Derived.Test.YtelpkgbghhpgaaaGreatDoorK17
import Derived.Test.YtelpkgbghhpgaaaGreatDoorK29
import Derived.KernelRfl
import Derived.Test.YtelpkgbghhpgaaaGreatDoorProg
set_option linter.all false
section
set_option maxRecDepth 100000
namespace Go.Proofs.YtelpkgbghhpgaaaGreatDoor.Sx
theorem chk133 : chkFunc Tryz.prog 133 a133 = true := by kernel_rfl
theorem chk134 : chkFunc Tryz.prog 134 a134 = true := by kernel_rfl
theorem chk135 : chkFunc Tryz.prog 135 a135 = true := by kernel_rfl
theorem chk156 : chkFunc Tryz.prog 156 a156 = true := by kernel_rfl
theorem chk157 : chkFunc Tryz.prog 157 a157 = true := by kernel_rfl
theorem chk158 : chkFunc Tryz.prog 158 a158 = true := by kernel_rfl
theorem chk159 : chkFunc Tryz.prog 159 a159 = true := by kernel_rfl
theorem chk160 : chkFunc Tryz.prog 160 a160 = true := by kernel_rfl
theorem chk161 : chkFunc Tryz.prog 161 a161 = true := by kernel_rfl
theorem chk162 : chkFunc Tryz.prog 162 a162 = true := by kernel_rfl
theorem chk163 : chkFunc Tryz.prog 163 a163 = true := by kernel_rfl
theorem chk164 : chkFunc Tryz.prog 164 a164 = true := by kernel_rfl
theorem chk165 : chkFunc Tryz.prog 165 a165 = true := by kernel_rfl
theorem chk166 : chkFunc Tryz.prog 166 a166 = true := by kernel_rfl
theorem chk167 : chkFunc Tryz.prog 167 a167 = true := by kernel_rfl
theorem chk178 : chkFunc Tryz.prog 178 a178 = true := by kernel_rfl
theorem chk180 : chkFunc Tryz.prog 180 a180 = true := by kernel_rfl
theorem chk181 : chkFunc Tryz.prog 181 a181 = true := by kernel_rfl
theorem chk182 : chkFunc Tryz.prog 182 a182 = true := by kernel_rfl
theorem chk183 : chkFunc Tryz.prog 183 a183 = true := by kernel_rfl
theorem chk184 : chkFunc Tryz.prog 184 a184 = true := by kernel_rfl
theorem chk202 : chkFunc Tryz.prog 202 a202 = true := by kernel_rfl
theorem chk209 : chkFunc Tryz.prog 209 a209 = true := by kernel_rfl
theorem chk210 : chkFunc Tryz.prog 210 a210 = true := by kernel_rfl
theorem chk211 : chkFunc Tryz.prog 211 a211 = true := by kernel_rfl
theorem chk215 : chkFunc Tryz.prog 215 a215 = true := by kernel_rfl
theorem chk223 : chkFunc Tryz.prog 223 a223 = true := by kernel_rfl
theorem chk224 : chkFunc Tryz.prog 224 a224 = true := by kernel_rfl
theorem chk225 : chkFunc Tryz.prog 225 a225 = true := by kernel_rfl
theorem chk226 : chkFunc Tryz.prog 226 a226 = true := by kernel_rfl
theorem chk227 : chkFunc Tryz.prog 227 a227 = true := by kernel_rfl
theorem chk237 : chkFunc Tryz.prog 237 a237 = true := by kernel_rfl
theorem chk242 : chkFunc Tryz.prog 242 a242 = true := by kernel_rfl
theorem chk243 : chkFunc Tryz.prog 243 a243 = true := by kernel_rfl
theorem chk244 : chkFunc Tryz.prog 244 a244 = true := by kernel_rfl
theorem chk256 : chkFunc Tryz.prog 256 a256 = true := by kernel_rfl
theorem chk258 : chkFunc Tryz.prog 258 a258 = true := by kernel_rfl
theorem chk259 : chkFunc Tryz.prog 259 a259 = true := by kernel_rfl
theorem chk261 : chkFunc Tryz.prog 261 a261 = true := by kernel_rfl
theorem chk269 : chkFunc Tryz.prog 269 a269 = true := by kernel_rfl
theorem chk270 : chkFunc Tryz.prog 270 a270 = true := by kernel_rfl
theorem chk271 : chkFunc Tryz.prog 271 a271 = true := by kernel_rfl
theorem chk272 : chkFunc Tryz.prog 272 a272 = true := by kernel_rfl
theorem chk273 : chkFunc Tryz.prog 273 a273 = true := by kernel_rfl
theorem chk274 : chkFunc Tryz.prog 274 a274 = true := by kernel_rfl
theorem chk275 : chkFunc Tryz.prog 275 a275 = true := by kernel_rfl
theorem chk278 : chkFunc Tryz.prog 278 a278 = true := by kernel_rfl
theorem chk279 : chkFunc Tryz.prog 279 a279 = true := by kernel_rfl
theorem chk284 : chkFunc Tryz.prog 284 a284 = true := by kernel_rfl
theorem chk285 : chkFunc Tryz.prog 285 a285 = true := by kernel_rfl
theorem chk287 : chkFunc Tryz.prog 287 a287 = true := by kernel_rfl
theorem chk288 : chkFunc Tryz.prog 288 a288 = true := by kernel_rfl
theorem chk289 : chkFunc Tryz.prog 289 a289 = true := by kernel_rfl
end Go.Proofs.YtelpkgbghhpgaaaGreatDoor.Sx
end
section
set_option maxRecDepth 100000
namespace Go.Proofs.YtelpkgbghhpgaaaGreatDoor.Sx
theorem codeOk (f : Nat) (af : AFunc) (h : codeTab f = some af) : chkFunc Tryz.prog f af = true := by
  unfold codeTab at h
  by_cases h1 : f < 129
  · rw [if_pos h1] at h
    by_cases h2 : f < 67
    · rw [if_pos h2] at h
      by_cases h3 : f < 34
      · rw [if_pos h3] at h
        by_cases h4 : f < 22
        · rw [if_pos h4] at h
          by_cases h5 : f < 11
          · rw [if_pos h5] at h
            by_cases h6 : f < 8
            · rw [if_pos h6] at h
              by_cases e : f = 5
              · rw [if_pos e] at h
                cases h
                subst e
                exact chk5
              · rw [if_neg e] at h
                cases h
            · rw [if_neg h6] at h
              by_cases h7 : f < 9
              · rw [if_pos h7] at h
                by_cases e : f = 8
                · rw [if_pos e] at h
                  cases h
                  subst e
                  exact chk8
                · rw [if_neg e] at h
                  cases h
              · rw [if_neg h7] at h
                by_cases e : f = 9
                · rw [if_pos e] at h
                  cases h
                  subst e
                  exact chk9
                · rw [if_neg e] at h
                  cases h
          · rw [if_neg h5] at h
            by_cases h6 : f < 15
            · rw [if_pos h6] at h
              by_cases h7 : f < 12
              · rw [if_pos h7] at h
                by_cases e : f = 11
                · rw [if_pos e] at h
                  cases h
                  subst e
                  exact chk11
                · rw [if_neg e] at h
                  cases h
              · rw [if_neg h7] at h
                by_cases e : f = 12
                · rw [if_pos e] at h
                  cases h
                  subst e
                  exact chk12
                · rw [if_neg e] at h
                  cases h
            · rw [if_neg h6] at h
              by_cases h7 : f < 16
              · rw [if_pos h7] at h
                by_cases e : f = 15
                · rw [if_pos e] at h
                  cases h
                  subst e
                  exact chk15
                · rw [if_neg e] at h
                  cases h
              · rw [if_neg h7] at h
                by_cases e : f = 16
                · rw [if_pos e] at h
                  cases h
                  subst e
                  exact chk16
                · rw [if_neg e] at h
                  cases h
        · rw [if_neg h4] at h
          by_cases h5 : f < 25
          · rw [if_pos h5] at h
            by_cases h6 : f < 23
            · rw [if_pos h6] at h
              by_cases e : f = 22
              · rw [if_pos e] at h
                cases h
                subst e
                exact chk22
              · rw [if_neg e] at h
                cases h
            · rw [if_neg h6] at h
              by_cases h7 : f < 24
              · rw [if_pos h7] at h
                by_cases e : f = 23
                · rw [if_pos e] at h
                  cases h
                  subst e
                  exact chk23
                · rw [if_neg e] at h
                  cases h
              · rw [if_neg h7] at h
                by_cases e : f = 24
                · rw [if_pos e] at h
                  cases h
                  subst e
                  exact chk24
                · rw [if_neg e] at h
                  cases h
          · rw [if_neg h5] at h
            by_cases h6 : f < 32
            · rw [if_pos h6] at h
              by_cases h7 : f < 26
              · rw [if_pos h7] at h
                by_cases e : f = 25
                · rw [if_pos e] at h
                  cases h
                  subst e
                  exact chk25
                · rw [if_neg e] at h
                  cases h
              · rw [if_neg h7] at h
                by_cases e : f = 26
                · rw [if_pos e] at h
                  cases h
                  subst e
                  exact chk26
                · rw [if_neg e] at h
                  cases h
            · rw [if_neg h6] at h
              by_cases h7 : f < 33
              · rw [if_pos h7] at h
                by_cases e : f = 32
                · rw [if_pos e] at h
                  cases h
                  subst e
                  exact chk32
                · rw [if_neg e] at h
                  cases h
              · rw [if_neg h7] at h
                by_cases e : f = 33
                · rw [if_pos e] at h
                  cases h
                  subst e
                  exact chk33
                · rw [if_neg e] at h
                  cases h
      · rw [if_neg h3] at h
        by_cases h4 : f < 52
        · rw [if_pos h4] at h
          by_cases h5 : f < 41
          · rw [if_pos h5] at h
            by_cases h6 : f < 35
            · rw [if_pos h6] at h
              by_cases e : f = 34
              · rw [if_pos e] at h
                cases h
                subst e
                exact chk34
              · rw [if_neg e] at h
                cases h
            · rw [if_neg h6] at h
              by_cases h7 : f < 36
              · rw [if_pos h7] at h
                by_cases e : f = 35
                · rw [if_pos e] at h
                  cases h
                  subst e
                  exact chk35
                · rw [if_neg e] at h
                  cases h
              · rw [if_neg h7] at h
                by_cases e : f = 36
                · rw [if_pos e] at h
                  cases h
                  subst e
                  exact chk36
                · rw [if_neg e] at h
                  cases h
          · rw [if_neg h5] at h
            by_cases h6 : f < 43
            · rw [if_pos h6] at h
              by_cases h7 : f < 42
              · rw [if_pos h7] at h
                by_cases e : f = 41
                · rw [if_pos e] at h
                  cases h
                  subst e
                  exact chk41
                · rw [if_neg e] at h
                  cases h
              · rw [if_neg h7] at h
                by_cases e : f = 42
                · rw [if_pos e] at h
                  cases h
                  subst e
                  exact chk42
                · rw [if_neg e] at h
                  cases h
            · rw [if_neg h6] at h
              by_cases h7 : f < 51
              · rw [if_pos h7] at h
                by_cases e : f = 43
                · rw [if_pos e] at h
                  cases h
                  subst e
                  exact chk43
                · rw [if_neg e] at h
                  cases h
              · rw [if_neg h7] at h
                by_cases e : f = 51
                · rw [if_pos e] at h
                  cases h
                  subst e
                  exact chk51
                · rw [if_neg e] at h
                  cases h
        · rw [if_neg h4] at h
          by_cases h5 : f < 56
          · rw [if_pos h5] at h
            by_cases h6 : f < 53
            · rw [if_pos h6] at h
              by_cases e : f = 52
              · rw [if_pos e] at h
                cases h
                subst e
                exact chk52
              · rw [if_neg e] at h
                cases h
            · rw [if_neg h6] at h
              by_cases h7 : f < 55
              · rw [if_pos h7] at h
                by_cases e : f = 53
                · rw [if_pos e] at h
                  cases h
                  subst e
                  exact chk53
                · rw [if_neg e] at h
                  cases h
              · rw [if_neg h7] at h
                by_cases e : f = 55
                · rw [if_pos e] at h
                  cases h
                  subst e
                  exact chk55
                · rw [if_neg e] at h
                  cases h
          · rw [if_neg h5] at h
            by_cases h6 : f < 58
            · rw [if_pos h6] at h
              by_cases h7 : f < 57
              · rw [if_pos h7] at h
                by_cases e : f = 56
                · rw [if_pos e] at h
                  cases h
                  subst e
                  exact chk56
                · rw [if_neg e] at h
                  cases h
              · rw [if_neg h7] at h
                by_cases e : f = 57
                · rw [if_pos e] at h
                  cases h
                  subst e
                  exact chk57
                · rw [if_neg e] at h
                  cases h
            · rw [if_neg h6] at h
              by_cases h7 : f < 66
              · rw [if_pos h7] at h
                by_cases e : f = 58
                · rw [if_pos e] at h
                  cases h
                  subst e
                  exact chk58
                · rw [if_neg e] at h
                  cases h
              · rw [if_neg h7] at h
                by_cases e : f = 66
                · rw [if_pos e] at h
                  cases h
                  subst e
                  exact chk66
                · rw [if_neg e] at h
                  cases h
    · rw [if_neg h2] at h
      by_cases h3 : f < 98
      · rw [if_pos h3] at h
        by_cases h4 : f < 87
        · rw [if_pos h4] at h
          by_cases h5 : f < 77
          · rw [if_pos h5] at h
            by_cases h6 : f < 68
            · rw [if_pos h6] at h
              by_cases e : f = 67
              · rw [if_pos e] at h
                cases h
                subst e
                exact chk67
              · rw [if_neg e] at h
                cases h
            · rw [if_neg h6] at h
              by_cases h7 : f < 69
              · rw [if_pos h7] at h
                by_cases e : f = 68
                · rw [if_pos e] at h
                  cases h
                  subst e
                  exact chk68
                · rw [if_neg e] at h
                  cases h
              · rw [if_neg h7] at h
                by_cases e : f = 69
                · rw [if_pos e] at h
                  cases h
                  subst e
                  exact chk69
                · rw [if_neg e] at h
                  cases h
          · rw [if_neg h5] at h
            by_cases h6 : f < 84
            · rw [if_pos h6] at h
              by_cases h7 : f < 83
              · rw [if_pos h7] at h
                by_cases e : f = 77
                · rw [if_pos e] at h
                  cases h
                  subst e
                  exact chk77
                · rw [if_neg e] at h
                  cases h
              · rw [if_neg h7] at h
                by_cases e : f = 83
                · rw [if_pos e] at h
                  cases h
                  subst e
                  exact chk83
                · rw [if_neg e] at h
                  cases h
            · rw [if_neg h6] at h
              by_cases h7 : f < 86
              · rw [if_pos h7] at h
                by_cases e : f = 84
                · rw [if_pos e] at h
                  cases h
                  subst e
                  exact chk84
                · rw [if_neg e] at h
                  cases h
              · rw [if_neg h7] at h
                by_cases e : f = 86
                · rw [if_pos e] at h
                  cases h
                  subst e
                  exact chk86
                · rw [if_neg e] at h
                  cases h
        · rw [if_neg h4] at h
          by_cases h5 : f < 90
          · rw [if_pos h5] at h
            by_cases h6 : f < 88
            · rw [if_pos h6] at h
              by_cases e : f = 87
              · rw [if_pos e] at h
                cases h
                subst e
                exact chk87
              · rw [if_neg e] at h
                cases h
            · rw [if_neg h6] at h
              by_cases h7 : f < 89
              · rw [if_pos h7] at h
                by_cases e : f = 88
                · rw [if_pos e] at h
                  cases h
                  subst e
                  exact chk88
                · rw [if_neg e] at h
                  cases h
              · rw [if_neg h7] at h
                by_cases e : f = 89
                · rw [if_pos e] at h
                  cases h
                  subst e
                  exact chk89
                · rw [if_neg e] at h
                  cases h
          · rw [if_neg h5] at h
            by_cases h6 : f < 96
            · rw [if_pos h6] at h
              by_cases h7 : f < 95
              · rw [if_pos h7] at h
                by_cases e : f = 90
                · rw [if_pos e] at h
                  cases h
                  subst e
                  exact chk90
                · rw [if_neg e] at h
                  cases h
              · rw [if_neg h7] at h
                by_cases e : f = 95
                · rw [if_pos e] at h
                  cases h
                  subst e
                  exact chk95
                · rw [if_neg e] at h
                  cases h
            · rw [if_neg h6] at h
              by_cases h7 : f < 97
              · rw [if_pos h7] at h
                by_cases e : f = 96
                · rw [if_pos e] at h
                  cases h
                  subst e
                  exact chk96
                · rw [if_neg e] at h
                  cases h
              · rw [if_neg h7] at h
                by_cases e : f = 97
                · rw [if_pos e] at h
                  cases h
                  subst e
                  exact chk97
                · rw [if_neg e] at h
                  cases h
      · rw [if_neg h3] at h
        by_cases h4 : f < 113
        · rw [if_pos h4] at h
          by_cases h5 : f < 109
          · rw [if_pos h5] at h
            by_cases h6 : f < 99
            · rw [if_pos h6] at h
              by_cases e : f = 98
              · rw [if_pos e] at h
                cases h
                subst e
                exact chk98
              · rw [if_neg e] at h
                cases h
            · rw [if_neg h6] at h
              by_cases h7 : f < 100
              · rw [if_pos h7] at h
                by_cases e : f = 99
                · rw [if_pos e] at h
                  cases h
                  subst e
                  exact chk99
                · rw [if_neg e] at h
                  cases h
              · rw [if_neg h7] at h
                by_cases e : f = 100
                · rw [if_pos e] at h
                  cases h
                  subst e
                  exact chk100
                · rw [if_neg e] at h
                  cases h
          · rw [if_neg h5] at h
            by_cases h6 : f < 111
            · rw [if_pos h6] at h
              by_cases h7 : f < 110
              · rw [if_pos h7] at h
                by_cases e : f = 109
                · rw [if_pos e] at h
                  cases h
                  subst e
                  exact chk109
                · rw [if_neg e] at h
                  cases h
              · rw [if_neg h7] at h
                by_cases e : f = 110
                · rw [if_pos e] at h
                  cases h
                  subst e
                  exact chk110
                · rw [if_neg e] at h
                  cases h
            · rw [if_neg h6] at h
              by_cases h7 : f < 112
              · rw [if_pos h7] at h
                by_cases e : f = 111
                · rw [if_pos e] at h
                  cases h
                  subst e
                  exact chk111
                · rw [if_neg e] at h
                  cases h
              · rw [if_neg h7] at h
                by_cases e : f = 112
                · rw [if_pos e] at h
                  cases h
                  subst e
                  exact chk112
                · rw [if_neg e] at h
                  cases h
        · rw [if_neg h4] at h
          by_cases h5 : f < 116
          · rw [if_pos h5] at h
            by_cases h6 : f < 114
            · rw [if_pos h6] at h
              by_cases e : f = 113
              · rw [if_pos e] at h
                cases h
                subst e
                exact chk113
              · rw [if_neg e] at h
                cases h
            · rw [if_neg h6] at h
              by_cases h7 : f < 115
              · rw [if_pos h7] at h
                by_cases e : f = 114
                · rw [if_pos e] at h
                  cases h
                  subst e
                  exact chk114
                · rw [if_neg e] at h
                  cases h
              · rw [if_neg h7] at h
                by_cases e : f = 115
                · rw [if_pos e] at h
                  cases h
                  subst e
                  exact chk115
                · rw [if_neg e] at h
                  cases h
          · rw [if_neg h5] at h
            by_cases h6 : f < 118
            · rw [if_pos h6] at h
              by_cases h7 : f < 117
              · rw [if_pos h7] at h
                by_cases e : f = 116
                · rw [if_pos e] at h
                  cases h
                  subst e
                  exact chk116
                · rw [if_neg e] at h
                  cases h
              · rw [if_neg h7] at h
                by_cases e : f = 117
                · rw [if_pos e] at h
                  cases h
                  subst e
                  exact chk117
                · rw [if_neg e] at h
                  cases h
            · rw [if_neg h6] at h
              by_cases h7 : f < 128
              · rw [if_pos h7] at h
                by_cases e : f = 118
                · rw [if_pos e] at h
                  cases h
                  subst e
                  exact chk118
                · rw [if_neg e] at h
                  cases h
              · rw [if_neg h7] at h
                by_cases e : f = 128
                · rw [if_pos e] at h
                  cases h
                  subst e
                  exact chk128
                · rw [if_neg e] at h
                  cases h
  · rw [if_neg h1] at h
    by_cases h2 : f < 211
    · rw [if_pos h2] at h
      by_cases h3 : f < 163
      · rw [if_pos h3] at h
        by_cases h4 : f < 156
        · rw [if_pos h4] at h
          by_cases h5 : f < 132
          · rw [if_pos h5] at h
            by_cases h6 : f < 130
            · rw [if_pos h6] at h
              by_cases e : f = 129
              · rw [if_pos e] at h
                cases h
                subst e
                exact chk129
              · rw [if_neg e] at h
                cases h
            · rw [if_neg h6] at h
              by_cases h7 : f < 131
              · rw [if_pos h7] at h
                by_cases e : f = 130
                · rw [if_pos e] at h
                  cases h
                  subst e
                  exact chk130
                · rw [if_neg e] at h
                  cases h
              · rw [if_neg h7] at h
                by_cases e : f = 131
                · rw [if_pos e] at h
                  cases h
                  subst e
                  exact chk131
                · rw [if_neg e] at h
                  cases h
          · rw [if_neg h5] at h
            by_cases h6 : f < 134
            · rw [if_pos h6] at h
              by_cases h7 : f < 133
              · rw [if_pos h7] at h
                by_cases e : f = 132
                · rw [if_pos e] at h
                  cases h
                  subst e
                  exact chk132
                · rw [if_neg e] at h
                  cases h
              · rw [if_neg h7] at h
                by_cases e : f = 133
                · rw [if_pos e] at h
                  cases h
                  subst e
                  exact chk133
                · rw [if_neg e] at h
                  cases h
            · rw [if_neg h6] at h
              by_cases h7 : f < 135
              · rw [if_pos h7] at h
                by_cases e : f = 134
                · rw [if_pos e] at h
                  cases h
                  subst e
                  exact chk134
                · rw [if_neg e] at h
                  cases h
              · rw [if_neg h7] at h
                by_cases e : f = 135
                · rw [if_pos e] at h
                  cases h
                  subst e
                  exact chk135
                · rw [if_neg e] at h
                  cases h
        · rw [if_neg h4] at h
          by_cases h5 : f < 159
          · rw [if_pos h5] at h
            by_cases h6 : f < 157
            · rw [if_pos h6] at h
              by_cases e : f = 156
              · rw [if_pos e] at h
                cases h
                subst e
                exact chk156
              · rw [if_neg e] at h
                cases h
            · rw [if_neg h6] at h
              by_cases h7 : f < 158
              · rw [if_pos h7] at h
                by_cases e : f = 157
                · rw [if_pos e] at h
                  cases h
                  subst e
                  exact chk157
                · rw [if_neg e] at h
                  cases h
              · rw [if_neg h7] at h
                by_cases e : f = 158
                · rw [if_pos e] at h
                  cases h
                  subst e
                  exact chk158
                · rw [if_neg e] at h
                  cases h
          · rw [if_neg h5] at h
            by_cases h6 : f < 161
            · rw [if_pos h6] at h
              by_cases h7 : f < 160
              · rw [if_pos h7] at h
                by_cases e : f = 159
                · rw [if_pos e] at h
                  cases h
                  subst e
                  exact chk159
                · rw [if_neg e] at h
                  cases h
              · rw [if_neg h7] at h
                by_cases e : f = 160
                · rw [if_pos e] at h
                  cases h
                  subst e
                  exact chk160
                · rw [if_neg e] at h
                  cases h
            · rw [if_neg h6] at h
              by_cases h7 : f < 162
              · rw [if_pos h7] at h
                by_cases e : f = 161
                · rw [if_pos e] at h
                  cases h
                  subst e
                  exact chk161
                · rw [if_neg e] at h
                  cases h
              · rw [if_neg h7] at h
                by_cases e : f = 162
                · rw [if_pos e] at h
                  cases h
                  subst e
                  exact chk162
                · rw [if_neg e] at h
                  cases h
      · rw [if_neg h3] at h
        by_cases h4 : f < 181
        · rw [if_pos h4] at h
          by_cases h5 : f < 166
          · rw [if_pos h5] at h
            by_cases h6 : f < 164
            · rw [if_pos h6] at h
              by_cases e : f = 163
              · rw [if_pos e] at h
                cases h
                subst e
                exact chk163
              · rw [if_neg e] at h
                cases h
            · rw [if_neg h6] at h
              by_cases h7 : f < 165
              · rw [if_pos h7] at h
                by_cases e : f = 164
                · rw [if_pos e] at h
                  cases h
                  subst e
                  exact chk164
                · rw [if_neg e] at h
                  cases h
              · rw [if_neg h7] at h
                by_cases e : f = 165
                · rw [if_pos e] at h
                  cases h
                  subst e
                  exact chk165
                · rw [if_neg e] at h
                  cases h
          · rw [if_neg h5] at h
            by_cases h6 : f < 178
            · rw [if_pos h6] at h
              by_cases h7 : f < 167
              · rw [if_pos h7] at h
                by_cases e : f = 166
                · rw [if_pos e] at h
                  cases h
                  subst e
                  exact chk166
                · rw [if_neg e] at h
                  cases h
              · rw [if_neg h7] at h
                by_cases e : f = 167
                · rw [if_pos e] at h
                  cases h
                  subst e
                  exact chk167
                · rw [if_neg e] at h
                  cases h
            · rw [if_neg h6] at h
              by_cases h7 : f < 180
              · rw [if_pos h7] at h
                by_cases e : f = 178
                · rw [if_pos e] at h
                  cases h
                  subst e
                  exact chk178
                · rw [if_neg e] at h
                  cases h
              · rw [if_neg h7] at h
                by_cases e : f = 180
                · rw [if_pos e] at h
                  cases h
                  subst e
                  exact chk180
                · rw [if_neg e] at h
                  cases h
        · rw [if_neg h4] at h
          by_cases h5 : f < 184
          · rw [if_pos h5] at h
            by_cases h6 : f < 182
            · rw [if_pos h6] at h
              by_cases e : f = 181
              · rw [if_pos e] at h
                cases h
                subst e
                exact chk181
              · rw [if_neg e] at h
                cases h
            · rw [if_neg h6] at h
              by_cases h7 : f < 183
              · rw [if_pos h7] at h
                by_cases e : f = 182
                · rw [if_pos e] at h
                  cases h
                  subst e
                  exact chk182
                · rw [if_neg e] at h
                  cases h
              · rw [if_neg h7] at h
                by_cases e : f = 183
                · rw [if_pos e] at h
                  cases h
                  subst e
                  exact chk183
                · rw [if_neg e] at h
                  cases h
          · rw [if_neg h5] at h
            by_cases h6 : f < 209
            · rw [if_pos h6] at h
              by_cases h7 : f < 202
              · rw [if_pos h7] at h
                by_cases e : f = 184
                · rw [if_pos e] at h
                  cases h
                  subst e
                  exact chk184
                · rw [if_neg e] at h
                  cases h
              · rw [if_neg h7] at h
                by_cases e : f = 202
                · rw [if_pos e] at h
                  cases h
                  subst e
                  exact chk202
                · rw [if_neg e] at h
                  cases h
            · rw [if_neg h6] at h
              by_cases h7 : f < 210
              · rw [if_pos h7] at h
                by_cases e : f = 209
                · rw [if_pos e] at h
                  cases h
                  subst e
                  exact chk209
                · rw [if_neg e] at h
                  cases h
              · rw [if_neg h7] at h
                by_cases e : f = 210
                · rw [if_pos e] at h
                  cases h
                  subst e
                  exact chk210
                · rw [if_neg e] at h
                  cases h
    · rw [if_neg h2] at h
      by_cases h3 : f < 261
      · rw [if_pos h3] at h
        by_cases h4 : f < 237
        · rw [if_pos h4] at h
          by_cases h5 : f < 224
          · rw [if_pos h5] at h
            by_cases h6 : f < 215
            · rw [if_pos h6] at h
              by_cases e : f = 211
              · rw [if_pos e] at h
                cases h
                subst e
                exact chk211
              · rw [if_neg e] at h
                cases h
            · rw [if_neg h6] at h
              by_cases h7 : f < 223
              · rw [if_pos h7] at h
                by_cases e : f = 215
                · rw [if_pos e] at h
                  cases h
                  subst e
                  exact chk215
                · rw [if_neg e] at h
                  cases h
              · rw [if_neg h7] at h
                by_cases e : f = 223
                · rw [if_pos e] at h
                  cases h
                  subst e
                  exact chk223
                · rw [if_neg e] at h
                  cases h
          · rw [if_neg h5] at h
            by_cases h6 : f < 226
            · rw [if_pos h6] at h
              by_cases h7 : f < 225
              · rw [if_pos h7] at h
                by_cases e : f = 224
                · rw [if_pos e] at h
                  cases h
                  subst e
                  exact chk224
                · rw [if_neg e] at h
                  cases h
              · rw [if_neg h7] at h
                by_cases e : f = 225
                · rw [if_pos e] at h
                  cases h
                  subst e
                  exact chk225
                · rw [if_neg e] at h
                  cases h
            · rw [if_neg h6] at h
              by_cases h7 : f < 227
              · rw [if_pos h7] at h
                by_cases e : f = 226
                · rw [if_pos e] at h
                  cases h
                  subst e
                  exact chk226
                · rw [if_neg e] at h
                  cases h
              · rw [if_neg h7] at h
                by_cases e : f = 227
                · rw [if_pos e] at h
                  cases h
                  subst e
                  exact chk227
                · rw [if_neg e] at h
                  cases h
        · rw [if_neg h4] at h
          by_cases h5 : f < 244
          · rw [if_pos h5] at h
            by_cases h6 : f < 242
            · rw [if_pos h6] at h
              by_cases e : f = 237
              · rw [if_pos e] at h
                cases h
                subst e
                exact chk237
              · rw [if_neg e] at h
                cases h
            · rw [if_neg h6] at h
              by_cases h7 : f < 243
              · rw [if_pos h7] at h
                by_cases e : f = 242
                · rw [if_pos e] at h
                  cases h
                  subst e
                  exact chk242
                · rw [if_neg e] at h
                  cases h
              · rw [if_neg h7] at h
                by_cases e : f = 243
                · rw [if_pos e] at h
                  cases h
                  subst e
                  exact chk243
                · rw [if_neg e] at h
                  cases h
          · rw [if_neg h5] at h
            by_cases h6 : f < 258
            · rw [if_pos h6] at h
              by_cases h7 : f < 256
              · rw [if_pos h7] at h
                by_cases e : f = 244
                · rw [if_pos e] at h
                  cases h
                  subst e
                  exact chk244
                · rw [if_neg e] at h
                  cases h
              · rw [if_neg h7] at h
                by_cases e : f = 256
                · rw [if_pos e] at h
                  cases h
                  subst e
                  exact chk256
                · rw [if_neg e] at h
                  cases h
            · rw [if_neg h6] at h
              by_cases h7 : f < 259
              · rw [if_pos h7] at h
                by_cases e : f = 258
                · rw [if_pos e] at h
                  cases h
                  subst e
                  exact chk258
                · rw [if_neg e] at h
                  cases h
              · rw [if_neg h7] at h
                by_cases e : f = 259
                · rw [if_pos e] at h
                  cases h
                  subst e
                  exact chk259
                · rw [if_neg e] at h
                  cases h
      · rw [if_neg h3] at h
        by_cases h4 : f < 275
        · rw [if_pos h4] at h
          by_cases h5 : f < 271
          · rw [if_pos h5] at h
            by_cases h6 : f < 269
            · rw [if_pos h6] at h
              by_cases e : f = 261
              · rw [if_pos e] at h
                cases h
                subst e
                exact chk261
              · rw [if_neg e] at h
                cases h
            · rw [if_neg h6] at h
              by_cases h7 : f < 270
              · rw [if_pos h7] at h
                by_cases e : f = 269
                · rw [if_pos e] at h
                  cases h
                  subst e
                  exact chk269
                · rw [if_neg e] at h
                  cases h
              · rw [if_neg h7] at h
                by_cases e : f = 270
                · rw [if_pos e] at h
                  cases h
                  subst e
                  exact chk270
                · rw [if_neg e] at h
                  cases h
          · rw [if_neg h5] at h
            by_cases h6 : f < 273
            · rw [if_pos h6] at h
              by_cases h7 : f < 272
              · rw [if_pos h7] at h
                by_cases e : f = 271
                · rw [if_pos e] at h
                  cases h
                  subst e
                  exact chk271
                · rw [if_neg e] at h
                  cases h
              · rw [if_neg h7] at h
                by_cases e : f = 272
                · rw [if_pos e] at h
                  cases h
                  subst e
                  exact chk272
                · rw [if_neg e] at h
                  cases h
            · rw [if_neg h6] at h
              by_cases h7 : f < 274
              · rw [if_pos h7] at h
                by_cases e : f = 273
                · rw [if_pos e] at h
                  cases h
                  subst e
                  exact chk273
                · rw [if_neg e] at h
                  cases h
              · rw [if_neg h7] at h
                by_cases e : f = 274
                · rw [if_pos e] at h
                  cases h
                  subst e
                  exact chk274
                · rw [if_neg e] at h
                  cases h
        · rw [if_neg h4] at h
          by_cases h5 : f < 285
          · rw [if_pos h5] at h
            by_cases h6 : f < 279
            · rw [if_pos h6] at h
              by_cases h7 : f < 278
              · rw [if_pos h7] at h
                by_cases e : f = 275
                · rw [if_pos e] at h
                  cases h
                  subst e
                  exact chk275
                · rw [if_neg e] at h
                  cases h
              · rw [if_neg h7] at h
                by_cases e : f = 278
                · rw [if_pos e] at h
                  cases h
                  subst e
                  exact chk278
                · rw [if_neg e] at h
                  cases h
            · rw [if_neg h6] at h
              by_cases h7 : f < 284
              · rw [if_pos h7] at h
                by_cases e : f = 279
                · rw [if_pos e] at h
                  cases h
                  subst e
                  exact chk279
                · rw [if_neg e] at h
                  cases h
              · rw [if_neg h7] at h
                by_cases e : f = 284
                · rw [if_pos e] at h
                  cases h
                  subst e
                  exact chk284
                · rw [if_neg e] at h
                  cases h
          · rw [if_neg h5] at h
            by_cases h6 : f < 288
            · rw [if_pos h6] at h
              by_cases h7 : f < 287
              · rw [if_pos h7] at h
                by_cases e : f = 285
                · rw [if_pos e] at h
                  cases h
                  subst e
                  exact chk285
                · rw [if_neg e] at h
                  cases h
              · rw [if_neg h7] at h
                by_cases e : f = 287
                · rw [if_pos e] at h
                  cases h
                  subst e
                  exact chk287
                · rw [if_neg e] at h
                  cases h
            · rw [if_neg h6] at h
              by_cases h7 : f < 289
              · rw [if_pos h7] at h
                by_cases e : f = 288
                · rw [if_pos e] at h
                  cases h
                  subst e
                  exact chk288
                · rw [if_neg e] at h
                  cases h
              · rw [if_neg h7] at h
                by_cases e : f = 289
                · rw [if_pos e] at h
                  cases h
                  subst e
                  exact chk289
                · rw [if_neg e] at h
                  cases h
end Go.Proofs.YtelpkgbghhpgaaaGreatDoor.Sx
end
