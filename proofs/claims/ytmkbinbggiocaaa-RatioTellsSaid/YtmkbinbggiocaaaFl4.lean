/- Floats: their kinds. -/
import Derived.Test.YtmkbinbggiocaaaFl3
set_option linter.unusedVariables false
set_option linter.unusedSimpArgs false
namespace Go.Proofs.Ytmkbinbggiocaaa
open Go.RowKit
namespace Fl
theorem neg_no (w : World) (b : Nat) (h : fl b = none ∨ b = 0) : Calls Try.prog 61 #[.float .f64 b] w fun e w' => e = .returned (.bool false) ∧ w' = w := by
  have kb := run_f64bits
  have hs := self_eq b
  go_enter Try.func61, Try.ntmps61
  rcases h with h | h
  · rw [h] at hs
    simp only [Option.isSome_none] at hs
    go_wp2
    go_ret
    exact ⟨rfl, rfl⟩
  · subst h
    have e2 : fl 0 = some 0 := by decide +kernel
    rw [e2] at hs
    simp only [Option.isSome_some] at hs
    go_wp2
    go_ret
    exact ⟨rfl, rfl⟩
theorem kind_nan (w : World) (b : Nat) (h : fl b = none) : Calls Try.prog 60 #[.float .f64 b] w fun e w' => e = .returned (.int .i64 0) ∧ w' = w := by
  have kb := run_f64bits
  have hs := self_ne b
  rw [h] at hs
  simp only [Option.isNone_none] at hs
  go_enter Try.func60, Try.ntmps60
  go_wp2
  go_ret
  exact ⟨rfl, rfl⟩
theorem kind_inf (w : World) : Calls Try.prog 60 #[.float .f64 9218868437227405312] w fun e w' => e = .returned (.int .i64 1) ∧ w' = w := by
  have kb := run_f64bits
  have hs := self_ne 9218868437227405312
  have e2 : fl 9218868437227405312 = some 9218868437227405312 := by decide +kernel
  rw [e2] at hs
  simp only [Option.isNone_some] at hs
  have ha : bits .andNot .u64 9218868437227405312 9223372036854775808 = 9218868437227405312 := by decide +kernel
  go_enter Try.func60, Try.ntmps60
  go_wp2
  go_ret
  exact ⟨rfl, rfl⟩
theorem kind02 (w : World) (m : Nat) (hm : m < 18446744073709551616) : Calls Try.prog 55 #[.int .u64 (m : Int)] w fun e w' => ∃ k : Int, e = .returned (.int .i64 k) ∧ (k == 0) = (fl m).isNone ∧ w' = w := by
  have h1 := bits_and_u64_nat (m / 4503599627370496) 2047 (by omega) (by omega)
  have h2 := bits_and_u64_nat m 4503599627370495 hm (by omega)
  have p1 : m / 4503599627370496 &&& 2047 = m / 4503599627370496 % 2048 := Nat.and_two_pow_sub_one_eq_mod _ 11
  have p2 : m &&& 4503599627370495 = m % 4503599627370496 := Nat.and_two_pow_sub_one_eq_mod _ 52
  rw [p1] at h1
  rw [p2] at h2
  clear p1 p2
  have e0 : ((m / 4503599627370496 : Nat) : Int) = (m : Int) / 4503599627370496 := by omega
  rw [e0] at h1
  have h1 : bits .and .u64 ((m : Int) / 4503599627370496) 2047 = ((m / 4503599627370496 % 2048 : Nat) : Int) := h1
  have h2 : bits .and .u64 (m : Int) 4503599627370495 = ((m % 4503599627370496 : Nat) : Int) := h2
  have hfl : (fl m).isNone = decide (m / 4503599627370496 % 2048 = 2047 ∧ m % 4503599627370496 ≠ 0) := by
    rw [fl_eq]
    by_cases h : 9218868437227405312 < m % 9223372036854775808
    · rw [if_pos h, decide_eq_true (by omega)]; rfl
    · rw [if_neg h, decide_eq_false (by omega)]; rfl
  rw [hfl]
  clear hfl e0
  generalize m / 4503599627370496 % 2048 = E at *
  generalize m % 4503599627370496 = F at *
  go_enter Try.func55, Try.ntmps55
  go_wp2
  all_goals
    go_ret
    refine ⟨_, rfl, ?_, rfl⟩
    simp_all
    try omega
end Fl
end Go.Proofs.Ytmkbinbggiocaaa
