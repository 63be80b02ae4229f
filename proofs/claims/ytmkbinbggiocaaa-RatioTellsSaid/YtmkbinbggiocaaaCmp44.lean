/- cmp.Compare, cmp.Or. -/
import Derived.Test.YtmkbinbggiocaaaOf44b
set_option linter.unusedVariables false
set_option linter.unusedSimpArgs false
namespace Go.Proofs.Ytmkbinbggiocaaa
open Go.RowKit
namespace Ratio
def cmpI (x y : Int) : Int := if x < y then -1 else if y < x then 1 else 0
theorem compare_int (x y : Int) (w : World) : Calls Try.prog 124 #[.int .i64 x, .int .i64 y] w fun e w' => e = .returned (.int .i64 (cmpI x y)) ∧ w' = w := by
  rcases Int.lt_trichotomy x y with h | h | h
  · have e : Hid (cmpI x y = -1) := Lib.hid (by unfold cmpI; rw [if_pos h])
    go_enter Try.func124, Try.ntmps124
    go_wp2
    all_goals go_ret
    all_goals exact ⟨by rw [e.out]; rfl, rfl⟩
  · subst h
    have e : Hid (cmpI x x = 0) := Lib.hid (by unfold cmpI; rw [if_neg (by omega), if_neg (by omega)])
    go_enter Try.func124, Try.ntmps124
    go_wp2
    all_goals go_ret
    all_goals exact ⟨by rw [e.out]; rfl, rfl⟩
  · have e : Hid (cmpI x y = 1) := Lib.hid (by unfold cmpI; rw [if_neg (by omega), if_pos h])
    have h2 : ¬ x < y := by omega
    go_enter Try.func124, Try.ntmps124
    go_wp2
    all_goals go_ret
    all_goals exact ⟨by rw [e.out]; rfl, rfl⟩
theorem compare_u64 (x y : Int) (w : World) : Calls Try.prog 127 #[.int .u64 x, .int .u64 y] w fun e w' => e = .returned (.int .i64 (cmpI x y)) ∧ w' = w := by
  rcases Int.lt_trichotomy x y with h | h | h
  · have e : Hid (cmpI x y = -1) := Lib.hid (by unfold cmpI; rw [if_pos h])
    go_enter Try.func127, Try.ntmps127
    go_wp2
    all_goals go_ret
    all_goals exact ⟨by rw [e.out]; rfl, rfl⟩
  · subst h
    have e : Hid (cmpI x x = 0) := Lib.hid (by unfold cmpI; rw [if_neg (by omega), if_neg (by omega)])
    go_enter Try.func127, Try.ntmps127
    go_wp2
    all_goals go_ret
    all_goals exact ⟨by rw [e.out]; rfl, rfl⟩
  · have e : Hid (cmpI x y = 1) := Lib.hid (by unfold cmpI; rw [if_neg (by omega), if_pos h])
    have h2 : ¬ x < y := by omega
    go_enter Try.func127, Try.ntmps127
    go_wp2
    all_goals go_ret
    all_goals exact ⟨by rw [e.out]; rfl, rfl⟩
end Ratio
end Go.Proofs.Ytmkbinbggiocaaa
