/- Floats: a quotient of whole numbers grows with the ratio. -/
import Derived.Test.YtmkbinbggiocaaaMono
set_option linter.unusedVariables false
set_option linter.unusedSimpArgs false
namespace Go.Proofs.Ytmkbinbggiocaaa
open Go.RowKit
namespace Fl
theorem cross {m n W B a b k d P Q : Nat} (hx : m * 2 ^ a = W * P) (hy : n * 2 ^ b = B * P) (hP : 0 < P) (hQ : 2 ^ 55 = Q) (hk : k + (d + a) = 55 + b) :
    m * 2 ^ 54 * (2 * B) = W * 2 ^ k * (n * 2 ^ d) := by
  have hpp : 2 ^ k * 2 ^ d * 2 ^ a = Q * 2 ^ b := by
    rw [← hQ, Nat.mul_assoc, ← Nat.pow_add, ← Nat.pow_add, ← Nat.pow_add]
    congr 1
  have h55 : 2 ^ 54 * 2 = Q := by rw [← hQ, ← Nat.pow_succ]
  have hpos : 0 < 2 ^ a * P := Nat.mul_pos (Nat.two_pow_pos a) hP
  apply Nat.eq_of_mul_eq_mul_right hpos
  generalize 2 ^ 54 = R at *
  generalize 2 ^ a = Xa at *
  generalize 2 ^ b = Xb at *
  generalize 2 ^ k = Xk at *
  generalize 2 ^ d = Xd at *
  calc m * R * (2 * B) * (Xa * P) = (m * Xa) * (B * P) * (R * 2) := by ac_rfl
    _ = (W * P) * (n * Xb) * Q := by rw [hx, ← hy, h55]
    _ = W * n * P * (Q * Xb) := by ac_rfl
    _ = W * n * P * (Xk * Xd * Xa) := by rw [hpp]
    _ = W * Xk * (n * Xd) * (Xa * P) := by ac_rfl
theorem log_at {Q t : Nat} (h0 : 2 ^ t ≤ Q) (h1 : Q < 2 ^ (t + 1)) : Q.log2 = t := by
  have hne : Q ≠ 0 := by have := Nat.two_pow_pos t; omega
  have hL := Nat.log2_self_le hne
  have hU := Nat.lt_log2_self (n := Q)
  rcases Nat.lt_trichotomy Q.log2 t with h | h | h
  · have : 2 ^ (Q.log2 + 1) ≤ 2 ^ t := Nat.pow_le_pow_right (by omega) h
    omega
  · exact h
  · have : 2 ^ (t + 1) ≤ 2 ^ Q.log2 := Nat.pow_le_pow_right (by omega) h
    omega
theorem read_cv {k : Nat} (h0 : k ≠ 0) (h1 : k ≤ 9007199254740992) : ∃ (m : Nat) (e : Int), Ieee.double.read (cv (k : Int)) = .number false m e ∧ 4503599627370496 ≤ m ∧ m < 9007199254740992 ∧ -52 ≤ e ∧ e ≤ 1 ∧ m * 2 ^ (e + 52).toNat = k * 2 ^ 52 := by
  have e : cv (k : Int) = Ieee.double.nearest false k 0 := by
    rw [cv_eq]
    have : decide ((k : Int) < 0) = false := by simp
    rw [this, Int.natAbs_natCast]
  rw [e]
  exact near_exact h0 h1
/-- A ratio between 2^52 and 2^53 places. -/
theorem near_rung (A n d h : Nat) (p : Int) (hn : 0 < n) (hd : 2 ^ d = 4 * h) (hl : (2 * (A / n) + (A % n != 0).toNat).log2 = 52 + d) (hp1 : -1000 ≤ p) (hp2 : p ≤ 500) (hd8 : d ≤ 8) (hr : rhe A (n * (2 * h)) ≤ 9007199254740992) :
    Ieee.double.nearest false (2 * (A / n) + (A % n != 0).toNat) p = (p + d + 1074).toNat * 4503599627370496 + rhe A (n * (2 * h)) := by
  have hne : 2 * (A / n) + (A % n != 0).toNat ≠ 0 := by
    intro h0
    rw [h0] at hl
    have : Nat.log2 0 = 0 := by decide +kernel
    omega
  have hc := cut_rhe A n h d hn hd (by rw [hl]; omega)
  generalize 2 * (A / n) + (A % n != 0).toNat = Q at *
  unfold Ieee.Format.nearest
  rw [if_neg hne]
  simp only
  have fb : (Ieee.double.fractionBits : Int) = 52 := rfl
  rw [lp, bi, ir, fb, hl]
  have e1 : max (p + ((52 + d : Nat) : Int) - 52) (-1074) = p + d := by omega
  rw [e1]
  have e2 : (p - (p + (d : Int))).toNat = 0 := by omega
  have e3 : (p + (d : Int) - p).toNat = d := by omega
  have e4 : (p + (d : Int) - -1074) = p + d + 1074 := by omega
  rw [e2, e3, e4, Nat.shiftLeft_zero, hc, word_eq]
  simp only [Bool.false_eq_true, if_false]
  exact Nat.min_eq_left (by omega)
theorem quo_rung {W B : Nat} (hW0 : W ≠ 0) (hW : W ≤ 9007199254740992) (hB0 : B ≠ 0) (hB : B ≤ 9007199254740992) :
    ∃ k : Nat, k ≤ 200 ∧ 9007199254740992 * B ≤ W * 2 ^ k ∧ W * 2 ^ k < 18014398509481984 * B ∧ fquo (some (cv (W : Int))) (some (cv (B : Int))) = some ((1075 - k) * 4503599627370496 + rhe (W * 2 ^ k) (2 * B)) := by
  obtain ⟨m, e, hrm, m1, m2, e1, e2, hx⟩ := read_cv hW0 hW
  obtain ⟨n, j, hrn, n1, n2, j1, j2, hy⟩ := read_cv hB0 hB
  show ∃ k : Nat, _ ∧ _ ∧ _ ∧ Ieee.double.div (cv (W : Int)) (cv (B : Int)) = _
  rw [div_def, hrm, hrn]
  simp only [Ieee.Datum.quotient]
  rw [if_neg (by omega), Option.map_some, log52 m1 m2, log52 n1 n2]
  show ∃ k : Nat, _ ∧ _ ∧ _ ∧ some (Ieee.double.nearest (false ^^ false) _ (e - j - ((54 : Nat) : Int) - 1)) = _
  have hsh : m <<< (54 + 52 - 52) = m * 2 ^ 54 := Nat.shiftLeft_eq _ _
  rw [hsh]
  have q1 : 2 ^ 53 ≤ m * 2 ^ 54 / n := (Nat.le_div_iff_mul_le (by omega)).2 (by omega)
  have q2 : m * 2 ^ 54 / n < 2 ^ 55 := (Nat.div_lt_iff_lt_mul (by omega)).2 (by omega)
  have s1 : (m * 2 ^ 54 % n != 0).toNat ≤ 1 := Bool.toNat_le _
  have hlog : ∃ d h : Nat, (d = 2 ∧ h = 1 ∨ d = 3 ∧ h = 2) ∧ (2 * (m * 2 ^ 54 / n) + (m * 2 ^ 54 % n != 0).toNat).log2 = 52 + d ∧ 2 ^ (52 + d) ≤ 2 * (m * 2 ^ 54 / n) + 1 ∧ 2 * (m * 2 ^ 54 / n) + 1 < 2 ^ (53 + d) := by
    rcases Nat.lt_or_ge (m * 2 ^ 54 / n) (2 ^ 54) with h | h
    · exact ⟨2, 1, .inl ⟨rfl, rfl⟩, log_at (by omega) (by omega), by omega, by omega⟩
    · exact ⟨3, 2, .inr ⟨rfl, rfl⟩, log_at (by omega) (by omega), by omega, by omega⟩
  obtain ⟨d, h, hdh, hl, b1, b2⟩ := hlog
  have hd4 : 2 ^ d = 4 * h := by rcases hdh with ⟨rfl, rfl⟩ | ⟨rfl, rfl⟩ <;> rfl
  have hd2 : 2 * h = 2 ^ (d - 1) := by rcases hdh with ⟨rfl, rfl⟩ | ⟨rfl, rfl⟩ <;> rfl
  have hcr := cross (m := m) (n := n) (W := W) (B := B) (k := (56 - d - e + j).toNat) (d := d - 1) (Q := 2 ^ 55) hx hy (Nat.two_pow_pos _) rfl (by omega)
  have hk : (56 - (d : Int) - e + j) = (((56 - (d : Int) - e + j).toNat : Nat) : Int) := by omega
  generalize (56 - (d : Int) - e + j).toNat = k at *
  have hrh : rhe (m * 2 ^ 54) (n * (2 * h)) = rhe (W * 2 ^ k) (2 * B) := by
    rw [hd2]
    exact rhe_eq (Nat.mul_pos (by omega) (Nat.two_pow_pos _)) (by omega) hcr
  have hA1 : 2 ^ 52 * (n * 2 ^ (d - 1)) ≤ m * 2 ^ 54 := by
    rw [← Nat.le_div_iff_mul_le (Nat.mul_pos (by omega) (Nat.two_pow_pos _)), ← Nat.div_div_eq_div_mul, Nat.le_div_iff_mul_le (Nat.two_pow_pos _), ← Nat.pow_add]
    rcases hdh with ⟨rfl, rfl⟩ | ⟨rfl, rfl⟩ <;> omega
  have hA2 : m * 2 ^ 54 < 2 ^ 53 * (n * 2 ^ (d - 1)) := by
    rw [← Nat.div_lt_iff_lt_mul (Nat.mul_pos (by omega) (Nat.two_pow_pos _)), ← Nat.div_div_eq_div_mul, Nat.div_lt_iff_lt_mul (Nat.two_pow_pos _), ← Nat.pow_add]
    rcases hdh with ⟨rfl, rfl⟩ | ⟨rfl, rfl⟩ <;> omega
  have hD : 0 < n * 2 ^ (d - 1) := Nat.mul_pos (by omega) (Nat.two_pow_pos _)
  have c1 : 2 ^ 52 * (2 * B) ≤ W * 2 ^ k := by
    apply Nat.le_of_mul_le_mul_right _ hD
    rw [← hcr, Nat.mul_right_comm]
    exact Nat.mul_le_mul_right _ hA1
  have c2 : W * 2 ^ k < 2 ^ 53 * (2 * B) := by
    apply Nat.lt_of_mul_lt_mul_right (a := n * 2 ^ (d - 1))
    rw [← hcr, Nat.mul_right_comm (2 ^ 53)]
    exact Nat.mul_lt_mul_of_pos_right hA2 (by omega)
  refine ⟨k, by omega, by omega, by omega, ?_⟩
  have hrl : rhe (m * 2 ^ 54) (n * (2 * h)) ≤ 9007199254740992 := by
    rw [hrh]
    refine Nat.le_trans (rhe_le _ _) ?_
    have : W * 2 ^ k / (2 * B) < 2 ^ 53 := (Nat.div_lt_iff_lt_mul (by omega)).2 c2
    omega
  have hf : (false ^^ false) = false := rfl
  rw [hf, near_rung _ n d h _ (by omega) hd4 hl (by omega) (by omega) (by omega) hrl, hrh]
  have : (e - j - ((54 : Nat) : Int) - 1 + (d : Int) + 1074).toNat = 1075 - k := by omega
  rw [this]
theorem quo_zero {B : Nat} (hB0 : B ≠ 0) (hB : B ≤ 9007199254740992) : fquo (some (cv ((0 : Nat) : Int))) (some (cv (B : Int))) = some 0 := by
  obtain ⟨n, j, hrn, n1, n2, j1, j2, hy⟩ := read_cv hB0 hB
  show Ieee.double.div (cv 0) (cv (B : Int)) = _
  rw [div_def, hrn, cv_zero, read_zero]
  simp only [Ieee.Datum.quotient]
  rw [if_neg (by omega), Option.map_some]
  simp only [Nat.zero_shiftLeft, Nat.zero_div, Nat.zero_mod, Nat.mul_zero, Option.map_some, bne_self_eq_false, Bool.toNat_false, Nat.add_zero]
  show some (Ieee.double.nearest _ _ _) = _
  unfold Ieee.Format.nearest
  rw [if_pos rfl]
  rfl
theorem quo_mono {W1 B1 W2 B2 : Nat} (hW1 : W1 ≤ 9007199254740992) (hW2 : W2 ≤ 9007199254740992) (h1 : B1 ≠ 0) (h2 : B2 ≠ 0) (hB1 : B1 ≤ 9007199254740992) (hB2 : B2 ≤ 9007199254740992) :
    ∃ r1 r2 : Nat, fquo (some (cv (W1 : Int))) (some (cv (B1 : Int))) = some r1 ∧ fquo (some (cv (W2 : Int))) (some (cv (B2 : Int))) = some r2 ∧ r1 < 9218868437227405312 ∧ r2 < 9218868437227405312 ∧ (W1 * B2 ≤ W2 * B1 → r1 ≤ r2) := by
  have bound : ∀ {W B k : Nat}, B ≠ 0 → k ≤ 200 → W * 2 ^ k < 18014398509481984 * B → 9007199254740992 * B ≤ W * 2 ^ k → 4503599627370496 ≤ rhe (W * 2 ^ k) (2 * B) ∧ rhe (W * 2 ^ k) (2 * B) ≤ 9007199254740992 := by
    intro W B k hB hk hb ha
    have h1 := rhe_le (W * 2 ^ k) (2 * B)
    have h2 := rhe_ge (W * 2 ^ k) (2 * B)
    have h3 : W * 2 ^ k / (2 * B) < 9007199254740992 := (Nat.div_lt_iff_lt_mul (by omega)).2 (by omega)
    have h4 : 4503599627370496 ≤ W * 2 ^ k / (2 * B) := (Nat.le_div_iff_mul_le (by omega)).2 (by omega)
    omega
  by_cases hz1 : W1 = 0
  · subst hz1
    by_cases hz2 : W2 = 0
    · subst hz2
      exact ⟨0, 0, quo_zero h1 hB1, quo_zero h2 hB2, by omega, by omega, fun _ => Nat.le_refl _⟩
    · obtain ⟨k2, hk2, a2, b2, q2⟩ := quo_rung hz2 hW2 h2 hB2
      have := bound h2 hk2 b2 a2
      exact ⟨0, _, quo_zero h1 hB1, q2, by omega, by omega, fun _ => Nat.zero_le _⟩
  · obtain ⟨k1, hk1, a1, b1, q1⟩ := quo_rung hz1 hW1 h1 hB1
    have o1 := bound h1 hk1 b1 a1
    by_cases hz2 : W2 = 0
    · subst hz2
      refine ⟨_, 0, q1, quo_zero h2 hB2, by omega, by omega, fun h => ?_⟩
      have : 0 < W1 * B2 := Nat.mul_pos (by omega) (by omega)
      omega
    · obtain ⟨k2, hk2, a2, b2, q2⟩ := quo_rung hz2 hW2 h2 hB2
      have o2 := bound h2 hk2 b2 a2
      refine ⟨_, _, q1, q2, by omega, by omega, fun h => ?_⟩
      rcases Nat.lt_trichotomy k1 k2 with hk | hk | hk
      · exfalso
        have e1 : 2 ^ (k1 + 1) ≤ 2 ^ k2 := Nat.pow_le_pow_right (by omega) hk
        have e2 : W2 * 2 ^ (k1 + 1) ≤ W2 * 2 ^ k2 := Nat.mul_le_mul_left _ e1
        have e3 : W2 * 2 ^ (k1 + 1) = 2 * (W2 * 2 ^ k1) := by rw [Nat.pow_succ]; ac_rfl
        have e4 : W2 * 2 ^ k1 < 9007199254740992 * B2 := by omega
        have e5 : W2 * 2 ^ k1 * B1 < 9007199254740992 * B2 * B1 := Nat.mul_lt_mul_of_pos_right e4 (by omega)
        have e6 : 9007199254740992 * B1 * B2 ≤ W1 * 2 ^ k1 * B2 := Nat.mul_le_mul_right _ a1
        have e7 : 9007199254740992 * B2 * B1 = 9007199254740992 * B1 * B2 := Nat.mul_right_comm _ _ _
        have e8 : W2 * B1 * 2 ^ k1 < W1 * B2 * 2 ^ k1 := by
          rw [Nat.mul_right_comm W2, Nat.mul_right_comm W1]
          omega
        have := Nat.lt_of_mul_lt_mul_right e8
        omega
      · subst hk
        have : rhe (W1 * 2 ^ k1) (2 * B1) ≤ rhe (W2 * 2 ^ k1) (2 * B2) := rhe_mono (by omega) (by omega) (by
          have := Nat.mul_le_mul_right (2 ^ k1 * 2) h
          calc W1 * 2 ^ k1 * (2 * B2) = W1 * B2 * (2 ^ k1 * 2) := by ac_rfl
            _ ≤ W2 * B1 * (2 ^ k1 * 2) := this
            _ = W2 * 2 ^ k1 * (2 * B1) := by ac_rfl)
        omega
      · omega
end Fl
end Go.Proofs.Ytmkbinbggiocaaa
