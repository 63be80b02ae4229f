/- The reference's New over several objects side by side: the value's four cells, and the row that it brings, if any. -/
import Derived.Test.YtkhbnopmeapfjaaRefN1
set_option linter.unusedVariables false
set_option linter.unusedSimpArgs false
namespace Go.Proofs.Ytkhbnopmeapfjaa
open Go.RowKit
namespace Edge
/-- What the reference's New gives: no graph, and no row; or a graph, and its row. -/
def RN (n : Int) (l : List Ed) (m : Int) (a : Option Addr) (k c : Nat) (q p : Int) (R : List Part) : Prop :=
  (newE n l ≠ (0, 0) ∧ m = 0 ∧ a = none ∧ k = 0 ∧ c = 0 ∧ q = (newE n l).1 ∧ p = (newE n l).2 ∧ R = []) ∨
    (newE n l = (0, 0) ∧ m = n ∧ k = (merged l).length ∧ q = 0 ∧ p = 0 ∧ R = [Row 41 3 (merged l).length (.slice a (merged l).length c) (flat encEd (merged l))])
theorem rnew_sep (n : Int) {l : List Ed} {v : Value} {w0 w : World} {L : List Part} (h : Rd w 3 v l.length (flat encEd l)) (hS : Sep w0 w L) :
    Calls Try.prog 16 #[.int .i64 n, v] w fun e w' => ∃ m a k c q p R, e = .returned (.agg #[.int .i64 m, .slice a k c, .int .i64 q, .int .i64 p]) ∧ RN n l m a k c q p R ∧ Mod [] w w' ∧ Sep w0 w' (R ++ L) := by
  refine (rnew_any n h).mono ?_
  rintro e w' hR
  rcases hR.out with ⟨hne, rfl, hm⟩ | ⟨he, a, c, rfl, hm⟩
  · exact ⟨_, _, _, _, _, _, [], rfl, .inl ⟨hne, rfl, rfl, rfl, rfl, rfl, rfl, rfl⟩, hm, hS.still hm⟩
  · exact ⟨_, _, _, _, _, _, _, rfl, .inr ⟨he, rfl, rfl, rfl, rfl, rfl⟩, hm.mod, hS.made hm⟩
/-- Four cells of a block set. -/
theorem sep_set4 {w0 w : World} {b : Nat} {y0 y1 y2 y3 : Value} {t : TypeId} {L : List Part} (h : Sep w0 w (Blk b [y0, y1, y2, y3] t :: L)) (x0 x1 x2 x3 : Value) :
    Sep w0 ((((w.setCell ⟨b, 0, none⟩ x0).setCell ⟨b, 1, none⟩ x1).setCell ⟨b, 2, none⟩ x2).setCell ⟨b, 3, none⟩ x3) (Blk b [x0, x1, x2, x3] t :: L) :=
  (((h.set 0 x0).set 1 x1).set 2 x2).set 3 x3
end Edge
end Go.Proofs.Ytkhbnopmeapfjaa
