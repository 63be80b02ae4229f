/- ratio.Of. -/
import Derived.Test.YtmkbinbggiocaaaParts
set_option linter.unusedVariables false
set_option linter.unusedSimpArgs false
namespace Go.Proofs.Ytmkbinbggiocaaa
open Go.RowKit
namespace Ratio
open Go.Proofs.Ytmkbinbggiocaaa.Code Go.Proofs.Ytmkbinbggiocaaa.Fl
@[local go_sem] theorem run_store_float {P : Program} {w : World} {a : Addr} {m : Mode} (k : FloatKind) (b : Nat) : (store a (.float k b) m).run P w = stored P w a (.float k b) m := run_store P w a _ m rfl
set_option maxRecDepth 100000 in
set_option maxHeartbeats 2000000 in
theorem do_of_yes {w : World} {v x : Value} {n W : Int} {l : List Int} {Bn Bc Bo : Nat} (h : Rd w 1 v l.length (vi64 l)) (hy : may n W l) (hW : W ≤ 9223372036854775807)
    (h1 : Has w Bn [.int .i64 n] 3) (h2 : Has w Bc [.int .i64 W, v] 95) (h3 : Has w Bo [x] 81) :
    Calls Try.prog 120 #[.pointer (some ⟨Bn, 0, none⟩), .pointer (some ⟨Bc, 0, none⟩), .pointer (some ⟨Bo, 0, none⟩)] w (DoOut true fun w' => ∃ q, fl q = fquo (some (cv W)) (some (cv (byN n l))) ∧ Has w' Bo [.float .f64 q] 81 ∧ Mod [Bo] w w') := by
  obtain ⟨a1, c1, rfl⟩ := h.val
  have c0 := h1.cell 0 rfl
  have d0 := h2.cell 0 rfl
  have d1 := h2.cell 1 rfl
  have dl := h2.lt
  have hp := Lib.hid (parts_ok h hy hW)
  have h3' := Lib.hid h3
  clear h hy h1 h2 h3
  go_enter Try.func120, Try.ntmps120
  go_wp2_with fail
  refine hp.out.mono ?_
  rintro e w1 ⟨rfl, hm⟩
  try dsimp only
  have h3 := h3'.out.keep hm (by simp)
  have e0 := h3.cell 0 rfl
  have ez := h3.free 0
  have el := h3.lt
  obtain ⟨q, w2, hrun, hq, _, hw⟩ := run_quo (P := Try.prog) w1 81 (cv W) (cv (byN n l))
  rw [fl_cv, fl_cv] at hq
  have hm2 : Mod [] w w2 ∧ Has w2 Bo [x] 81 := by
    rcases hw with rfl | rfl
    · exact ⟨hm, h3⟩
    · exact ⟨hm.drew, h3.drew⟩
  have e0 := hm2.2.cell 0 rfl
  have ez := hm2.2.free 0
  have el := hm2.2.lt
  have hfin := Lib.hid (show ∃ q', fl q' = fquo (some (cv W)) (some (cv (byN n l))) ∧ Has (w2.setCell ⟨Bo, 0, none⟩ (.float .f64 q)) Bo [.float .f64 q'] 81 ∧ Mod [Bo] w (w2.setCell ⟨Bo, 0, none⟩ (.float .f64 q)) from
    ⟨q, hq, hm2.2.set 0 _, hm2.1.of0.setCell _ _ (by simp)⟩)
  clear hm hw hm2 hq h3 hp c0 d0 d1 dl
  unfold cv at hrun
  go_wp2_with fail
  exact bodyPost_end (v := .tuple #[]) (by simp [results, Try.results120, go_sem]) rfl ⟨rfl, hfin.out⟩
set_option maxRecDepth 100000 in
set_option maxHeartbeats 2000000 in
theorem do_of_no {w : World} {v : Value} {n W : Int} {l : List Int} {Bn Bc Bo : Nat} (h : Rd w 1 v l.length (vi64 l)) (hy : ¬ may n W l)
    (h1 : Has w Bn [.int .i64 n] 3) (h2 : Has w Bc [.int .i64 W, v] 95) :
    Calls Try.prog 120 #[.pointer (some ⟨Bn, 0, none⟩), .pointer (some ⟨Bc, 0, none⟩), .pointer (some ⟨Bo, 0, none⟩)] w (DoOut false fun w' => Mod [] w w') := by
  obtain ⟨a1, c1, rfl⟩ := h.val
  have c0 := h1.cell 0 rfl
  have d0 := h2.cell 0 rfl
  have d1 := h2.cell 1 rfl
  have dl := h2.lt
  have hp := Lib.hid (parts_no h hy)
  clear h hy h1 h2
  go_enter Try.func120, Try.ntmps120
  go_wp2_with fail
  refine hp.out.mono ?_
  rintro e w1 ⟨rfl, hm⟩
  try dsimp only
  try go_wp2_with fail
  exact (show bodyPost _ _ _ (Exit.panic [wrongP]) _ _ from ⟨rfl, rfl, hm⟩)
end Ratio
end Go.Proofs.Ytmkbinbggiocaaa
