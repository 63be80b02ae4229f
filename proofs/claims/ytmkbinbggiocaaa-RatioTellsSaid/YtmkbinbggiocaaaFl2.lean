/- Floats: whole numbers as floats, their quotients; plain laws. -/
import Derived.Test.YtmkbinbggiocaaaFl1
set_option linter.unusedVariables false
set_option linter.unusedSimpArgs false
namespace Go.Proofs.Ytmkbinbggiocaaa
open Go.RowKit
namespace Fl
theorem read_word (s : Bool) {r : Nat} (h : r < 9223372036854775808) : Ieee.double.read (Ieee.double.word s r) =
    if r < 4503599627370496 then .number s r (-1074)
    else if r < 9218868437227405312 then .number s (4503599627370496 + r % 4503599627370496) (-1074 + (r / 4503599627370496 - 1 : Nat))
    else if r = 9218868437227405312 then .infinity s else .nan s (r - 9218868437227405312) := by
  rw [read_eq, word_eq]
  cases s with
  | true =>
    rw [if_pos rfl]
    have e1 : (9223372036854775808 + r) % 9223372036854775808 = r := by omega
    have e2 : (9223372036854775808 + r) / 9223372036854775808 % 2 = 1 := by omega
    rw [e1, e2]; rfl
  | false =>
    simp only [Bool.false_eq_true, if_false]
    have e1 : r % 9223372036854775808 = r := by omega
    have e2 : r / 9223372036854775808 % 2 = 0 := by omega
    rw [e1, e2]; rfl
theorem word_mod (s : Bool) {r : Nat} (h : r < 9223372036854775808) : Ieee.double.word s r % 9223372036854775808 = r := by
  rw [word_eq]; split <;> omega
theorem cut_even (neg : Bool) (n d : Nat) : n / (1 <<< min d (n.log2 + 2)) ≤ Ieee.Toward.even.cut neg n d ∧ Ieee.Toward.even.cut neg n d ≤ n / (1 <<< min d (n.log2 + 2)) + 1 := by
  unfold Ieee.Toward.cut
  simp only
  generalize (decide (1 <<< min d (n.log2 + 2) < 2 * (n % 1 <<< min d (n.log2 + 2))) || (1 <<< min d (n.log2 + 2) == 2 * (n % 1 <<< min d (n.log2 + 2)) && n / 1 <<< min d (n.log2 + 2) % 2 == 1)) = q
  have := Bool.toNat_le q
  omega
theorem cut_zero (neg : Bool) (n : Nat) : Ieee.Toward.even.cut neg n 0 = n := by
  unfold Ieee.Toward.cut
  simp
  omega
/-- How a whole number above 0 stands as a float. -/
theorem near_whole (s : Bool) {k : Nat} (h0 : k ≠ 0) (h1 : k < 18446744073709551616) : ∃ m e, Ieee.double.read (Ieee.double.nearest s k 0) = .number s m e ∧ 4503599627370496 ≤ m ∧ m < 9007199254740992 ∧ -52 ≤ e ∧ e ≤ 12 := by
  have hL := Nat.log2_self_le h0
  have hU := Nat.lt_log2_self (n := k)
  have hL63 : k.log2 ≤ 63 := by
    rcases Nat.lt_or_ge 63 k.log2 with h | h
    · have : 2 ^ 64 ≤ 2 ^ k.log2 := Nat.pow_le_pow_right (by omega) h
      omega
    · exact h
  have key : ∃ kept, 4503599627370496 ≤ kept ∧ kept ≤ 9007199254740992 ∧ Ieee.double.nearest s k 0 = Ieee.double.word s (min ((k.log2 + 1022) * 4503599627370496 + kept) 9218868437227405312) := by
    unfold Ieee.Format.nearest
    rw [if_neg h0]
    simp only
    have fb : (Ieee.double.fractionBits : Int) = 52 := rfl
    rw [lp, bi, ir, fb]
    have e1 : max ((0 : Int) + (k.log2 : Int) - 52) (-1074) = (k.log2 : Int) - 52 := by omega
    rw [e1]
    have e2 : ((k.log2 : Int) - 52 - -1074).toNat = k.log2 + 1022 := by omega
    rw [e2]
    rcases Nat.lt_or_ge 52 k.log2 with h | h
    · have e3 : ((0 : Int) - ((k.log2 : Int) - 52)).toNat = 0 := by omega
      have e4 : ((k.log2 : Int) - 52 - 0).toNat = k.log2 - 52 := by omega
      rw [e3, e4, Nat.shiftLeft_zero]
      have hc := cut_even s k (k.log2 - 52)
      have e5 : min (k.log2 - 52) (k.log2 + 2) = k.log2 - 52 := by omega
      rw [e5, Nat.one_shiftLeft] at hc
      have p1 : 2 ^ 52 * 2 ^ (k.log2 - 52) = 2 ^ k.log2 := by rw [← Nat.pow_add]; congr 1; omega
      have p2 : 2 ^ 53 * 2 ^ (k.log2 - 52) = 2 ^ (k.log2 + 1) := by rw [← Nat.pow_add]; congr 1; omega
      have q1 : 2 ^ 52 ≤ k / 2 ^ (k.log2 - 52) := (Nat.le_div_iff_mul_le (Nat.two_pow_pos _)).2 (by rw [p1]; exact hL)
      have q2 : k / 2 ^ (k.log2 - 52) < 2 ^ 53 := (Nat.div_lt_iff_lt_mul (Nat.two_pow_pos _)).2 (by rw [p2]; exact hU)
      exact ⟨_, by omega, by omega, rfl⟩
    · have e3 : ((0 : Int) - ((k.log2 : Int) - 52)).toNat = 52 - k.log2 := by omega
      have e4 : ((k.log2 : Int) - 52 - 0).toNat = 0 := by omega
      rw [e3, e4, cut_zero, Nat.shiftLeft_eq]
      have p1 : 2 ^ k.log2 * 2 ^ (52 - k.log2) = 2 ^ 52 := by rw [← Nat.pow_add]; congr 1; omega
      have p2 : 2 ^ (k.log2 + 1) * 2 ^ (52 - k.log2) = 2 ^ 53 := by rw [← Nat.pow_add]; congr 1; omega
      have q1 := Nat.mul_le_mul_right (2 ^ (52 - k.log2)) hL
      have q2 := Nat.mul_lt_mul_of_pos_right hU (Nat.two_pow_pos (52 - k.log2))
      exact ⟨_, by omega, by omega, rfl⟩
  obtain ⟨kept, a1, a2, a3⟩ := key
  rw [a3, Nat.min_eq_left (by omega), read_word s (by omega), if_neg (by omega), if_pos (by omega)]
  rcases Nat.lt_or_ge kept 9007199254740992 with h | h
  · exact ⟨_, _, rfl, by omega, by omega, by omega, by omega⟩
  · exact ⟨_, _, rfl, by omega, by omega, by omega, by omega⟩
/-- A whole number as a float. -/
def cv (n : Int) : Nat := floatOfInt .f64 n
theorem cv_eq (n : Int) : cv n = Ieee.double.nearest (decide (n < 0)) n.natAbs 0 := rfl
theorem cv_zero : cv 0 = 0 := by decide +kernel
theorem cv_read {n : Int} (h0 : n ≠ 0) (h1 : n.natAbs < 18446744073709551616) : ∃ m e, Ieee.double.read (cv n) = .number (decide (n < 0)) m e ∧ 4503599627370496 ≤ m ∧ m < 9007199254740992 ∧ -52 ≤ e ∧ e ≤ 12 := by
  rw [cv_eq]; exact near_whole _ (by omega) h1
theorem fl_cv (n : Int) : fl (cv n) = some (cv n) := fl_nearest _ _ _
theorem read_zero : Ieee.double.read 0 = .number false 0 (-1074) := by decide +kernel
theorem log52 {m : Nat} (h0 : 4503599627370496 ≤ m) (h1 : m < 9007199254740992) : m.log2 = 52 := by
  have a := Nat.log2_self_le (n := m) (by omega)
  have b := Nat.lt_log2_self (n := m)
  rcases Nat.lt_trichotomy m.log2 52 with h | h | h
  · have : 2 ^ (m.log2 + 1) ≤ 2 ^ 52 := Nat.pow_le_pow_right (by omega) h
    omega
  · exact h
  · have : 2 ^ 53 ≤ 2 ^ m.log2 := Nat.pow_le_pow_right (by omega) h
    omega
/-- The quotient of two whole numbers that are not 0 is not 0. -/
theorem near_pos (s : Bool) {m : Nat} {p : Int} (h0 : 4503599627370496 ≤ m) (hp : -1000 ≤ p) : ∃ r, 0 < r ∧ r ≤ 9218868437227405312 ∧ Ieee.double.nearest s m p = Ieee.double.word s r := by
  unfold Ieee.Format.nearest
  rw [if_neg (by omega)]
  simp only
  have fb : (Ieee.double.fractionBits : Int) = 52 := rfl
  rw [lp, bi, ir, fb]
  have hl : 52 ≤ m.log2 := by
    have b := Nat.lt_log2_self (n := m)
    rcases Nat.lt_or_ge m.log2 52 with h | h
    · have : 2 ^ (m.log2 + 1) ≤ 2 ^ 52 := Nat.pow_le_pow_right (by omega) h
      omega
    · exact h
  have e1 : max (p + (m.log2 : Int) - 52) (-1074) = p + (m.log2 : Int) - 52 := by omega
  rw [e1]
  have e2 : 0 < (p + (m.log2 : Int) - 52 - -1074).toNat := by omega
  generalize (p + (m.log2 : Int) - 52 - -1074).toNat = u at *
  generalize Ieee.Toward.even.cut s _ _ = v
  have : 0 < u * 4503599627370496 + v := by omega
  exact ⟨_, by omega, Nat.min_le_right _ _, rfl⟩
def fplain (x : Option Nat) : Option Nat := x.map fun b => if b % 9223372036854775808 = 0 then 0 else b
theorem fplain_word (s : Bool) {r : Nat} (h : r < 9223372036854775808) : fplain (some (Ieee.double.word s r)) = some (if r = 0 then 0 else Ieee.double.word s r) := by
  unfold fplain
  rw [Option.map_some, word_mod s h]
theorem div_def (x y : Nat) : Ieee.double.div x y = ((Ieee.double.read x).quotient 54 (Ieee.double.read y)).map Ieee.double.write := rfl
theorem share_law {a b : Int} (ha : a.natAbs < 18446744073709551616) (hb : b.natAbs < 18446744073709551616) :
    fplain (fquo (some (cv a)) (some (cv b))) = if a ≠ 0 ∨ b = 0 then fquo (some (cv a)) (some (cv b)) else some 0 := by
  show fplain (Ieee.double.div (cv a) (cv b)) = if a ≠ 0 ∨ b = 0 then Ieee.double.div (cv a) (cv b) else some 0
  rw [div_def]
  by_cases ha0 : a = 0
  · subst ha0
    rw [cv_zero, read_zero]
    by_cases hb0 : b = 0
    · subst hb0
      rw [cv_zero, read_zero]
      rfl
    · obtain ⟨n, j, r, h1, h2, h3, h4⟩ := cv_read hb0 hb
      rw [r]
      simp only [Ieee.Datum.quotient]
      rw [if_neg (by omega), if_neg (by simp [hb0])]
      simp only [Nat.zero_shiftLeft, Nat.zero_div, Nat.zero_mod, Nat.mul_zero, Option.map_some, bne_self_eq_false, Bool.toNat_false, Nat.add_zero]
      have e : Ieee.double.write (.number (false ^^ decide (b < 0)) 0 (-1074 - j - ((54 + n.log2 - Nat.log2 0 : Nat) : Int) - 1)) = Ieee.double.word (false ^^ decide (b < 0)) 0 := by
        show Ieee.double.nearest _ _ _ = _
        unfold Ieee.Format.nearest
        rw [if_pos rfl]
      rw [e, fplain_word _ (by omega)]
      rfl
  · obtain ⟨m, i, r, g1, g2, g3, g4⟩ := cv_read ha0 ha
    rw [r, if_pos (Or.inl ha0)]
    by_cases hb0 : b = 0
    · subst hb0
      rw [cv_zero, read_zero]
      simp only [Ieee.Datum.quotient]
      rw [if_pos trivial, if_neg (by omega)]
      rw [Option.map_some]
      have e : Ieee.double.write (.infinity (decide (a < 0) ^^ false)) = Ieee.double.word (decide (a < 0) ^^ false) 9218868437227405312 := by
        show Ieee.double.word _ _ = _
        rw [ir]
      rw [e, fplain_word _ (by omega), if_neg (by omega)]
    · obtain ⟨n, j, r2, h1, h2, h3, h4⟩ := cv_read hb0 hb
      rw [r2]
      simp only [Ieee.Datum.quotient]
      rw [if_neg (by omega), Option.map_some, log52 g1 g2, log52 h1 h2]
      show fplain (some (Ieee.double.nearest _ _ _)) = some (Ieee.double.nearest _ _ _)
      have hq : 2 ^ 53 ≤ m <<< (54 + 52 - 52) / n := by
        rw [Nat.shiftLeft_eq]
        exact (Nat.le_div_iff_mul_le (by omega)).2 (by omega)
      obtain ⟨q, q0, q1, q2⟩ := near_pos (decide (a < 0) ^^ decide (b < 0)) (m := 2 * (m <<< (54 + 52 - 52) / n) + (m <<< (54 + 52 - 52) % n != 0).toNat) (p := i - j - ((54 + 52 - 52 : Nat) : Int) - 1) (by omega) (by omega)
      rw [q2, fplain_word _ (by omega), if_neg (by omega)]
theorem share_zero (b : Int) (hb : b.natAbs < 18446744073709551616) : fplain (fquo (some (cv 0)) (some (cv b))) = none ∨ fplain (fquo (some (cv 0)) (some (cv b))) = some 0 := by
  rw [share_law (by simp) hb]
  by_cases h : b = 0
  · subst h
    left
    rw [if_pos (Or.inr rfl), cv_zero]
    decide +kernel
  · right
    rw [if_neg (by simp [h])]
/-- A float against +0. -/
theorem zero_eq (b : Nat) : (FloatKind.f64.format.order b 0 == some .eq) = decide (b % 9223372036854775808 = 0) := by
  have h : FloatKind.f64.format.order b 0 = (Ieee.double.read b).order (Ieee.double.read 0) := rfl
  rw [h, read_zero, read_eq]
  have key : ∀ (s : Bool) (m : Nat) (p : Int), ((Ieee.Datum.number s m p).order (.number false 0 (-1074)) == some .eq) = decide (m = 0) := by
    intro s m p
    simp only [Ieee.Datum.order]
    have e0 : Ieee.signed false 0 (-1074 - min p (-1074)).toNat = 0 := by simp [Ieee.signed]
    rw [e0]
    have e1 : Ieee.signed s m (p - min p (-1074)).toNat = 0 ↔ m = 0 := by
      unfold Ieee.signed
      have : (m <<< (p - min p (-1074)).toNat = 0) ↔ m = 0 := by
        rw [Nat.shiftLeft_eq]
        constructor
        · intro h
          rcases Nat.mul_eq_zero.1 h with h | h
          · exact h
          · have := Nat.two_pow_pos (p - min p (-1074)).toNat; omega
        · rintro rfl; simp
      split <;> omega
    by_cases hm : m = 0
    · rw [e1.2 hm, decide_eq_true hm]; rfl
    · rw [decide_eq_false hm]
      have e2 : Ieee.signed s m (p - min p (-1074)).toNat ≠ 0 := fun h => hm (e1.1 h)
      generalize Ieee.signed s m (p - min p (-1074)).toNat = z at *
      have : compare z 0 ≠ .eq := fun h => e2 (by simpa using h)
      simp [this]
  split
  · rw [key]
  · split
    · rw [key, decide_eq_false (by omega), decide_eq_false (by omega)]
    · split
      · rw [decide_eq_false (by omega)]
        generalize (b / 9223372036854775808 % 2 == 1) = s
        cases s <;> rfl
      · rw [decide_eq_false (by omega)]; rfl
end Fl
end Go.Proofs.Ytmkbinbggiocaaa
