/- The law of a nil heap: its walk. -/
import Derived.Test.YtmkbinbggiocaaaHp11
set_option linter.unusedVariables false
set_option linter.unusedSimpArgs false
namespace Go.Proofs.Ytmkbinbggiocaaa
open Go.RowKit
namespace Hp
set_option maxRecDepth 100000 in
set_option maxHeartbeats 4000000 in
theorem none_any (v key : Int) (w : World) : Calls Try.prog 12 #[.int .i64 v, .int .i64 key] w fun e w' => e = .returned (.bool true) ∧ Mod [] w w' := by
  go_enter Try.func12, Try.ntmps12
  go_wp2_with fail
  refine (pop_nil _).mono ?_
  rintro e w1 ⟨rfl, rfl⟩
  try dsimp only
  go_wp2_with fail
  refine (top_nil _).mono ?_
  rintro e w1 ⟨rfl, rfl⟩
  try dsimp only
  go_wp2_with fail
  refine (key_nil _ _).mono ?_
  rintro e w1 ⟨rfl, rfl⟩
  try dsimp only
  go_wp2_with fail
  refine (room_nil _).mono ?_
  rintro e w1 ⟨rfl, rfl⟩
  try dsimp only
  go_wp2_with fail
  refine (push_nil _ _ _).mono ?_
  rintro e w1 ⟨rfl, rfl⟩
  try dsimp only
  go_wp2_with fail
  refine (raise_nil _ _ _).mono ?_
  rintro e w2 ⟨rfl, hm⟩
  try dsimp only
  have hm' := Lib.hid hm
  clear hm
  go_wp2_with fail
  refine (drop_nil _ _).mono ?_
  rintro e w3 ⟨rfl, rfl⟩
  try dsimp only
  go_wp2_with fail
  refine (len_nil _).mono ?_
  rintro e w3 ⟨rfl, rfl⟩
  try dsimp only
  go_wp2_with fail
  refine (links_nil _).mono ?_
  rintro e w3 ⟨rfl, rfl⟩
  try dsimp only
  go_wp2_with fail
  refine (awake12 _).mono ?_
  rintro e w4 ⟨rfl, hm⟩
  try dsimp only
  have hm2 := Lib.hid (hm'.out.trans hm (by simp))
  clear hm hm'
  go_wp2_with fail
  go_ret
  exact ⟨rfl, hm2.out⟩
end Hp
end Go.Proofs.Ytmkbinbggiocaaa
