/- What the law of ratios asks of floats. -/
import Derived.Test.YtmkbinbggiocaaaOrder44
import Derived.Test.YtmkbinbggiocaaaMono2
set_option linter.unusedVariables false
set_option linter.unusedSimpArgs false
namespace Go.Proofs.Ytmkbinbggiocaaa
open Go.RowKit
namespace Ratio
open Go.Proofs.Ytmkbinbggiocaaa.Code Go.Proofs.Ytmkbinbggiocaaa.Fl
/-- How thin a cut is, as a float. -/
def ratF (n W : Int) (s : List Int) : Option Nat := if mayB n W s then fquo (some (cv W)) (some (cv (byN n s))) else none
theorem of_all {w : World} {v : Value} {n W : Int} {l : List Int} (h : Rd w 1 v l.length (vi64 l)) (hW : W ≤ 9223372036854775807) :
    Calls Try.prog 64 #[.int .i64 n, .agg #[.int .i64 W, v]] w fun e w' => ∃ q, e = .returned (.float .f64 q) ∧ fl q = ratF n W l ∧ Mod [] w w' := by
  cases hb : mayB n W l with
  | true =>
    refine (of_yes h ((mayB_iff _ _ _).1 hb) hW).mono ?_
    rintro e w' ⟨q, rfl, hq, hm⟩
    exact ⟨q, rfl, by unfold ratF; rw [hb, hq]; rfl, hm⟩
  | false =>
    refine (of_no h (fun hy => by rw [(mayB_iff _ _ _).2 hy] at hb; cases hb)).mono ?_
    rintro e w' ⟨q, rfl, hq, hm⟩
    exact ⟨q, rfl, by unfold ratF; rw [hb, hq]; rfl, hm⟩
theorem may_nums {n W : Int} {s : List Int} (h : mayB n W s = true) (hW : W ≤ 9007199254740992) : ∃ x p : Nat, W = x ∧ byN n s = p ∧ x ≤ 9007199254740992 ∧ p ≠ 0 ∧ p ≤ 9007199254740992 := by
  have y := (mayB_iff _ _ _).1 h
  have z := by_bd y
  have y2 := y.2.2
  exact ⟨W.toNat, (byN n s).toNat, by omega, by omega, by omega, by omega, by omega⟩
theorem ratF_plain {n W : Int} {s : List Int} (hW : W ≤ 9007199254740992) : plain63 (ratF n W s) := by
  intro b hb
  unfold ratF at hb
  cases h : mayB n W s with
  | false => rw [h] at hb; cases hb
  | true =>
    rw [h, if_pos rfl] at hb
    obtain ⟨x, p, rfl, hp, h1, h2, h3⟩ := may_nums h hW
    rw [hp] at hb
    obtain ⟨r1, r2, e1, e2, l1, _⟩ := quo_mono h1 h1 h2 h2 h3 h3
    rw [e1] at hb
    simp only [Option.some.injEq] at hb
    omega
theorem cmpI_pos {x y : Int} : ¬ cmpI x y > 0 ↔ x ≤ y := by unfold cmpI; split <;> (try split) <;> omega
theorem cmpI_zero {x y : Int} : cmpI x y = 0 ↔ x = y := by unfold cmpI; split <;> (try split) <;> omega
theorem cmpI_neg {x y : Int} : cmpI x y < 0 ↔ x < y := by unfold cmpI; split <;> (try split) <;> omega
theorem pl_le {x : Option Nat} (h : plain63 x) : pl x ≤ 9223372036854775807 := by
  cases x with
  | none => exact Int.le_refl _
  | some b => have := h b rfl; unfold pl; simp only; omega
theorem tells_law {n W1 W2 : Int} {s1 s2 : List Int} (hW1 : W1 ≤ 9007199254740992) (hW2 : W2 ≤ 9007199254740992) :
    (cmpP n W1 s1 W2 s2 < 0 → ¬ cmpI (pl (ratF n W1 s1)) (pl (ratF n W2 s2)) > 0) ∧ (cmpP n W1 s1 W2 s2 = 0 → cmpI (pl (ratF n W1 s1)) (pl (ratF n W2 s2)) = 0) := by
  rw [cmpI_pos, cmpI_zero]
  have hp1 := pl_le (ratF_plain (n := n) (s := s1) hW1)
  unfold cmpP
  cases h1 : mayB n W1 s1 with
  | false =>
    have e1 : ratF n W1 s1 = none := by unfold ratF; rw [h1]; rfl
    cases h2 : mayB n W2 s2 with
    | false =>
      have e2 : ratF n W2 s2 = none := by unfold ratF; rw [h2]; rfl
      rw [e1, e2]
      exact ⟨fun _ => Int.le_refl _, fun _ => rfl⟩
    | true =>
      simp only [Bool.false_and, Bool.false_eq_true, if_false, rk]
      constructor
      · intro h; exact absurd h (by decide +kernel)
      · intro h; exact absurd h (by decide +kernel)
  | true =>
    cases h2 : mayB n W2 s2 with
    | false =>
      have e2 : ratF n W2 s2 = none := by unfold ratF; rw [h2]; rfl
      simp only [Bool.true_and, Bool.false_eq_true, if_false, rk]
      constructor
      · intro _; rw [e2]; exact hp1
      · intro h; exact absurd h (by decide +kernel)
    | true =>
      have e1 : ratF n W1 s1 = fquo (some (cv W1)) (some (cv (byN n s1))) := by unfold ratF; rw [h1]; rfl
      have e2 : ratF n W2 s2 = fquo (some (cv W2)) (some (cv (byN n s2))) := by unfold ratF; rw [h2]; rfl
      rw [e1, e2]
      obtain ⟨x1, p1, rfl, hp1, a1, a2, a3⟩ := may_nums h1 hW1
      obtain ⟨x2, p2, rfl, hp2, b1, b2, b3⟩ := may_nums h2 hW2
      rw [hp1, hp2]
      obtain ⟨r1, r2, q1, q2, _, _, hm⟩ := quo_mono a1 b1 a2 b2 a3 b3
      obtain ⟨r3, r4, q3, q4, _, _, hm2⟩ := quo_mono b1 a1 b2 a2 b3 a3
      rw [q1] at q4
      rw [q2] at q3
      simp only [Option.some.injEq] at q3 q4
      subst q3 q4
      rw [q1, q2]
      simp only [Bool.true_and, if_true, cmpI_neg, cmpI_zero, pl]
      have c1 : (x1 : Int) * (p2 : Int) = ((x1 * p2 : Nat) : Int) := by simp
      have c2 : (x2 : Int) * (p1 : Int) = ((x2 * p1 : Nat) : Int) := by simp
      rw [c1, c2]
      constructor
      · intro h
        have := hm (by omega)
        omega
      · intro h
        have t1 := hm (by omega)
        have t2 := hm2 (by omega)
        omega
end Ratio
end Go.Proofs.Ytmkbinbggiocaaa
