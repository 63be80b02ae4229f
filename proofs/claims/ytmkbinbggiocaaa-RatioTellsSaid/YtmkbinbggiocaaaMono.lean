/- Floats: a quotient of whole numbers grows with the ratio. -/
import Derived.Test.YtmkbinbggiocaaaFl2
set_option linter.unusedVariables false
set_option linter.unusedSimpArgs false
namespace Go.Proofs.Ytmkbinbggiocaaa
open Go.RowKit
namespace Fl
/-- N / D to the nearest whole number, halves to the even one. -/
def rhe (N D : Nat) : Nat := N / D + if D < 2 * (N % D) ∨ (D = 2 * (N % D) ∧ N / D % 2 = 1) then 1 else 0
theorem rhe_ge (N D : Nat) : N / D ≤ rhe N D := by unfold rhe; omega
theorem rhe_le (N D : Nat) : rhe N D ≤ N / D + 1 := by unfold rhe; split <;> omega
theorem rhe_mono {N1 D1 N2 D2 : Nat} (h1 : 0 < D1) (h2 : 0 < D2) (h : N1 * D2 ≤ N2 * D1) : rhe N1 D1 ≤ rhe N2 D2 := by
  have e1 := Nat.div_add_mod N1 D1
  have e2 := Nat.div_add_mod N2 D2
  have l1 := Nat.mod_lt N1 h1
  have l2 := Nat.mod_lt N2 h2
  have hle : N1 / D1 ≤ N2 / D2 := by
    rw [Nat.le_div_iff_mul_le h2]
    have a : N1 / D1 * D1 ≤ N1 := Nat.div_mul_le_self _ _
    have b : N1 / D1 * D1 * D2 ≤ N2 * D1 := Nat.le_trans (Nat.mul_le_mul_right _ a) h
    have c : N1 / D1 * D2 * D1 ≤ N2 * D1 := by rw [Nat.mul_right_comm]; exact b
    exact Nat.le_of_mul_le_mul_right c h1
  rcases Nat.lt_or_ge (N1 / D1) (N2 / D2) with hl | hg
  · exact Nat.le_trans (rhe_le _ _) (Nat.le_trans hl (rhe_ge _ _))
  · have he : N1 / D1 = N2 / D2 := by omega
    have hr : N1 % D1 * D2 ≤ N2 % D2 * D1 := by
      have k1 : N1 * D2 = D1 * (N1 / D1) * D2 + N1 % D1 * D2 := by rw [← Nat.add_mul, e1]
      have k2 : N2 * D1 = D2 * (N2 / D2) * D1 + N2 % D2 * D1 := by rw [← Nat.add_mul, e2]
      have k3 : D1 * (N1 / D1) * D2 = D2 * (N2 / D2) * D1 := by
        rw [he, Nat.mul_right_comm, Nat.mul_comm D1 D2, Nat.mul_right_comm]
      omega
    unfold rhe
    rw [he]
    generalize N1 % D1 = r1 at *
    generalize N2 % D2 = r2 at *
    by_cases c1 : D1 < 2 * r1 ∨ (D1 = 2 * r1 ∧ N2 / D2 % 2 = 1)
    · rw [if_pos c1]
      have hD : D1 * D2 ≤ 2 * r1 * D2 := Nat.mul_le_mul_right _ (by omega)
      have hE : 2 * r1 * D2 ≤ 2 * r2 * D1 := by rw [Nat.mul_assoc, Nat.mul_assoc]; omega
      have hF : D2 ≤ 2 * r2 := by
        have : D2 * D1 ≤ 2 * r2 * D1 := by rw [Nat.mul_comm D2 D1]; omega
        exact Nat.le_of_mul_le_mul_right this h1
      rw [if_pos]
      · exact Nat.le_refl _
      rcases c1 with c1 | c1
      · left
        have hD' : D1 * D2 < 2 * r1 * D2 := Nat.mul_lt_mul_of_pos_right c1 h2
        have : D2 * D1 < 2 * r2 * D1 := by rw [Nat.mul_comm D2 D1]; omega
        exact Nat.lt_of_mul_lt_mul_right this
      · rcases Nat.lt_or_ge D2 (2 * r2) with h | h
        · exact .inl h
        · exact .inr ⟨by omega, c1.2⟩
    · rw [if_neg c1]
      omega
theorem rhe_eq {N1 D1 N2 D2 : Nat} (h1 : 0 < D1) (h2 : 0 < D2) (h : N1 * D2 = N2 * D1) : rhe N1 D1 = rhe N2 D2 :=
  Nat.le_antisymm (rhe_mono h1 h2 (Nat.le_of_eq h)) (rhe_mono h2 h1 (Nat.le_of_eq h.symm))
theorem near_exact {k : Nat} (h0 : k ≠ 0) (h1 : k ≤ 9007199254740992) : ∃ (m : Nat) (e : Int), Ieee.double.read (Ieee.double.nearest false k 0) = .number false m e ∧ 4503599627370496 ≤ m ∧ m < 9007199254740992 ∧ -52 ≤ e ∧ e ≤ 1 ∧ m * 2 ^ (e + 52).toNat = k * 2 ^ 52 := by
  by_cases hk : k = 9007199254740992
  · subst hk
    exact ⟨4503599627370496, 1, by decide +kernel, by omega, by omega, by omega, by omega, by decide +kernel⟩
  have hL := Nat.log2_self_le h0
  have hU := Nat.lt_log2_self (n := k)
  have hL52 : k.log2 ≤ 52 := by
    rcases Nat.lt_or_ge 52 k.log2 with h | h
    · have : 2 ^ 53 ≤ 2 ^ k.log2 := Nat.pow_le_pow_right (by omega) h
      omega
    · exact h
  have p1 : 2 ^ k.log2 * 2 ^ (52 - k.log2) = 2 ^ 52 := by rw [← Nat.pow_add]; congr 1; omega
  have p2 : 2 ^ (k.log2 + 1) * 2 ^ (52 - k.log2) = 2 ^ 53 := by rw [← Nat.pow_add]; congr 1; omega
  have q1 := Nat.mul_le_mul_right (2 ^ (52 - k.log2)) hL
  have q2 := Nat.mul_lt_mul_of_pos_right hU (Nat.two_pow_pos (52 - k.log2))
  have key : Ieee.double.nearest false k 0 = Ieee.double.word false (min ((k.log2 + 1022) * 4503599627370496 + k * 2 ^ (52 - k.log2)) 9218868437227405312) := by
    unfold Ieee.Format.nearest
    rw [if_neg h0]
    simp only
    have fb : (Ieee.double.fractionBits : Int) = 52 := rfl
    rw [lp, bi, ir, fb]
    have e1 : max ((0 : Int) + (k.log2 : Int) - 52) (-1074) = (k.log2 : Int) - 52 := by omega
    rw [e1]
    have e2 : ((k.log2 : Int) - 52 - -1074).toNat = k.log2 + 1022 := by omega
    rw [e2]
    have e3 : ((0 : Int) - ((k.log2 : Int) - 52)).toNat = 52 - k.log2 := by omega
    have e4 : ((k.log2 : Int) - 52 - 0).toNat = 0 := by omega
    rw [e3, e4, cut_zero, Nat.shiftLeft_eq]
  have hex : k * 2 ^ (52 - k.log2) * 2 ^ k.log2 = k * 2 ^ 52 := by rw [Nat.mul_assoc, Nat.mul_comm (2 ^ (52 - k.log2)), p1]
  have r1 : 4503599627370496 ≤ k * 2 ^ (52 - k.log2) := by omega
  have r2 : k * 2 ^ (52 - k.log2) < 9007199254740992 := by omega
  clear q1 q2 p1 p2 hL hU
  generalize k * 2 ^ (52 - k.log2) = kept at *
  generalize hlg : k.log2 = lg at *
  rw [key, Nat.min_eq_left (by omega), read_word false (by omega), if_neg (by omega), if_pos (by omega)]
  have hm : 4503599627370496 + ((lg + 1022) * 4503599627370496 + kept) % 4503599627370496 = kept := by omega
  have hd : ((lg + 1022) * 4503599627370496 + kept) / 4503599627370496 - 1 = lg + 1022 := by omega
  rw [hm, hd]
  refine ⟨kept, _, rfl, r1, r2, by omega, by omega, ?_⟩
  have he : ((-1074 : Int) + ((lg + 1022 : Nat) : Int) + 52).toNat = lg := by omega
  rw [he, hex]
/-- What nearest cuts off, is rounded as the ratio is. -/
theorem cut_rhe (A n h : Nat) (d : Nat) (hn : 0 < n) (hd : 2 ^ d = 4 * h) (hlog : d ≤ (2 * (A / n) + (A % n != 0).toNat).log2 + 2) :
    Ieee.Toward.even.cut false (2 * (A / n) + (A % n != 0).toNat) d = rhe A (n * (2 * h)) := by
  have hh : 0 < h := by have := Nat.two_pow_pos d; omega
  unfold Ieee.Toward.cut
  simp only
  rw [Nat.min_eq_left hlog, Nat.one_shiftLeft, hd]
  unfold rhe
  have e1 : A / (n * (2 * h)) = A / n / (2 * h) := (Nat.div_div_eq_div_mul _ _ _).symm
  have e2 : A % (n * (2 * h)) = n * (A / n % (2 * h)) + A % n := by rw [Nat.mod_mul, Nat.add_comm]
  rw [e1, e2]
  have hr := Nat.mod_lt A hn
  generalize hs : A % n = r at *
  generalize A / n = q at *
  have hu := Nat.mod_lt q (show 0 < 2 * h by omega)
  have hq := Nat.div_add_mod q (2 * h)
  generalize hu2 : q % (2 * h) = u at *
  generalize hl : q / (2 * h) = l at *
  obtain ⟨s, hs2, hs1⟩ : ∃ s : Nat, (r != 0).toNat = s ∧ ((r = 0 ∧ s = 0) ∨ (0 < r ∧ s = 1)) := by
    by_cases hr0 : r = 0
    · exact ⟨0, by simp [hr0], .inl ⟨hr0, rfl⟩⟩
    · exact ⟨1, by simp [hr0], .inr ⟨by omega, rfl⟩⟩
  rw [hs2]
  have e3 : (2 * q + s) / (4 * h) = l := by
    rw [Nat.div_eq_iff (by omega)]
    have : 4 * h * l = 2 * (2 * h * l) := by rw [show 4 * h = 2 * (2 * h) by omega, Nat.mul_assoc]
    rw [Nat.mul_comm l]
    omega
  have e4 : (2 * q + s) % (4 * h) = 2 * u + s := by
    have := Nat.div_add_mod (2 * q + s) (4 * h)
    rw [e3] at this
    have t : 4 * h * l = 2 * (2 * h * l) := by rw [show 4 * h = 2 * (2 * h) by omega, Nat.mul_assoc]
    omega
  rw [e3, e4]
  have t1 : n * (2 * h) < 2 * (n * u + r) ↔ 4 * h < 2 * (2 * u + s) := by
    have a1 : n * (2 * h) = 2 * (n * h) := by rw [Nat.mul_left_comm]
    rw [a1]
    rcases Nat.lt_trichotomy h u with g | g | g
    · have := Nat.mul_le_mul_left n (show h + 1 ≤ u from g)
      rw [Nat.mul_add, Nat.mul_one] at this
      constructor <;> intro <;> omega
    · subst g
      rcases hs1 with ⟨rfl, rfl⟩ | ⟨g, rfl⟩
      · constructor <;> intro <;> omega
      · constructor <;> intro <;> omega
    · have := Nat.mul_le_mul_left n (show u + 1 ≤ h from g)
      rw [Nat.mul_add, Nat.mul_one] at this
      constructor <;> intro <;> omega
  have t2 : n * (2 * h) = 2 * (n * u + r) ↔ 4 * h = 2 * (2 * u + s) := by
    have a1 : n * (2 * h) = 2 * (n * h) := by rw [Nat.mul_left_comm]
    rw [a1]
    rcases Nat.lt_trichotomy h u with g | g | g
    · have := Nat.mul_le_mul_left n (show h + 1 ≤ u from g)
      rw [Nat.mul_add, Nat.mul_one] at this
      constructor <;> intro <;> omega
    · subst g
      rcases hs1 with ⟨rfl, rfl⟩ | ⟨g, rfl⟩
      · constructor <;> intro <;> omega
      · constructor <;> intro <;> omega
    · have := Nat.mul_le_mul_left n (show u + 1 ≤ h from g)
      rw [Nat.mul_add, Nat.mul_one] at this
      constructor <;> intro <;> omega
  have hb : (decide (4 * h < 2 * (2 * u + s)) || ((4 * h == 2 * (2 * u + s)) && (l % 2 == 1))) = true ↔ (n * (2 * h) < 2 * (n * u + r) ∨ (n * (2 * h) = 2 * (n * u + r) ∧ l % 2 = 1)) := by
    rw [t1, t2, Bool.or_eq_true, Bool.and_eq_true, decide_eq_true_eq, beq_iff_eq, beq_iff_eq]
  clear t1 t2 e3 e4 e1 e2
  by_cases c : n * (2 * h) < 2 * (n * u + r) ∨ (n * (2 * h) = 2 * (n * u + r) ∧ l % 2 = 1)
  · rw [if_pos c, hb.2 c, Bool.toNat_true]
  · rw [if_neg c, Bool.eq_false_iff.2 (mt hb.1 c), Bool.toNat_false]
end Fl
end Go.Proofs.Ytmkbinbggiocaaa
