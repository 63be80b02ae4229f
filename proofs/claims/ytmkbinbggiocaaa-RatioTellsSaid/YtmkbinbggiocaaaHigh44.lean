/- The reference's high: the upper half of a product. -/
import Derived.Test.YtmkbinbggiocaaaRef44
set_option linter.unusedVariables false
set_option linter.unusedSimpArgs false
namespace Go.Proofs.Ytmkbinbggiocaaa
open Go.RowKit
namespace Ratio
open Go.Proofs.Ytmkbinbggiocaaa.Code
theorem bit_and (b i : Nat) (hb : b < 9223372036854775808) : bits .and .i64 ((b : Int) / 2 ^ i) 1 = ((b / 2 ^ i % 2 : Nat) : Int) := by
  have hle : b / 2 ^ i ≤ b := Nat.div_le_self _ _
  have e : (b : Int) / 2 ^ i = ((b / 2 ^ i : Nat) : Int) := by simp
  rw [e]
  generalize b / 2 ^ i = x at *
  have h1 : (BitVec.ofInt 64 (x : Int)).toNat = x := by
    rw [BitVec.ofInt_natCast, BitVec.toNat_ofNat]; exact Nat.mod_eq_of_lt (by omega)
  have h2 : (BitVec.ofInt 64 (1 : Int)).toNat = 1 := by decide +kernel
  show IntKind.i64.wrap ((BitVec.ofInt 64 (x : Int) &&& BitVec.ofInt 64 (1 : Int)).toNat : Int) = _
  have p1 : x &&& 1 = x % 2 := Nat.and_two_pow_sub_one_eq_mod _ 1
  rw [BitVec.toNat_and, h1, h2, p1]
  exact IntWalk.i64_in _ (by omega)
/-- One digit more. -/
theorem high_step {a b h l i : Nat} (ha : a < 9223372036854775808) (hb : b < 9223372036854775808) (hinv : h * 18446744073709551616 + l = a * (b / 2 ^ (i + 1))) :
    2 * (h * 18446744073709551616 + l) + a * (b / 2 ^ i % 2) = a * (b / 2 ^ i) ∧ a * (b / 2 ^ i) < 85070591730234615865843651857942052864 := by
  have e : b / 2 ^ (i + 1) = b / 2 ^ i / 2 := by rw [Nat.pow_succ, Nat.div_div_eq_div_mul]
  have e2 := Nat.div_add_mod (b / 2 ^ i) 2
  constructor
  · rw [hinv, e, ← Nat.mul_assoc, Nat.mul_comm 2 a, Nat.mul_assoc, ← Nat.mul_add, e2]
  · have h1 : b / 2 ^ i ≤ b := Nat.div_le_self _ _
    calc a * (b / 2 ^ i) ≤ a * b := Nat.mul_le_mul_left _ h1
      _ ≤ 9223372036854775807 * b := Nat.mul_le_mul_right _ (by omega)
      _ ≤ 9223372036854775807 * 9223372036854775807 := Nat.mul_le_mul_left _ (by omega)
      _ < 85070591730234615865843651857942052864 := by omega
set_option maxHeartbeats 4000000 in
theorem high_any (a b : Nat) (ha : a < 9223372036854775808) (hb : b < 9223372036854775808) (w : World) :
    Calls Try.prog 128 #[.int .i64 (a : Int), .int .i64 (b : Int)] w fun e w' => e = .returned (.int .u64 ((a * b / 18446744073709551616 : Nat) : Int)) ∧ w' = w := by
  go_enter Try.func128, Try.ntmps128
  go_wp2
  go_loopw [5, 6, 7] (fun hv lv iv wr => ∃ h l t : Nat, t ≤ 63 ∧ hv = .int .u64 (h : Int) ∧ lv = .int .u64 (l : Int) ∧ iv = .int .i64 ((t : Int) - 1) ∧ wr = w ∧ l < 18446744073709551616 ∧ Hid (h * 18446744073709551616 + l = a * (b / 2 ^ t))) (fun _ _ iv _ => (intOf iv + 1).toNat)
  case atStart => exact ⟨0, 0, 63, by omega, rfl, rfl, rfl, rfl, by omega, Lib.hid (by
    rw [Nat.div_eq_of_lt (by omega)]; omega)⟩
  case round =>
    obtain ⟨h, l, t, ht, rfl, rfl, rfl, rfl, hl, hinv⟩ := hrel
    by_cases h0 : t = 0
    · subst h0
      have hz : (((0 : Nat) : Int) - 1) = -1 := by omega
      rw [hz]
      have hres := Lib.hid (show h = a * b / 18446744073709551616 by
        have := hinv.out
        rw [Nat.pow_zero, Nat.div_one] at this
        rw [← this]
        omega)
      clear hinv
      go_wp2
      go_ret
      exact ⟨by rw [← hres.out]; rfl, rfl⟩
    · obtain ⟨i, rfl⟩ : ∃ i, t = i + 1 := ⟨t - 1, by omega⟩
      have hi : (((i + 1 : Nat) : Int) - 1) = (i : Int) := by omega
      rw [hi]
      clear hi h0
      obtain ⟨s1, s2⟩ := high_step ha hb hinv.out
      have hba := bit_and b i hb
      have hbl : b / 2 ^ i % 2 < 2 := Nat.mod_lt _ (by omega)
      clear hinv
      by_cases hbit : b / 2 ^ i % 2 = 1
      · rw [hbit] at s1 hba
        rw [Nat.mul_one] at s1
        generalize hP : a * (b / 2 ^ i) = P at *
        have hP' := Lib.hid hP
        clear hP hbl hbit
        by_cases hc : IntKind.u64.wrap (IntKind.u64.wrap ((l : Int) * 2) + (a : Int)) < IntKind.u64.wrap ((l : Int) * 2)
        · have hfin := Lib.hid (show ∃ h2 l2 : Nat, IntKind.u64.wrap (IntKind.u64.wrap (IntKind.u64.wrap ((h : Int) * 2) + (l : Int) / 9223372036854775808) + 1) = (h2 : Int) ∧ IntKind.u64.wrap (IntKind.u64.wrap ((l : Int) * 2) + (a : Int)) = (l2 : Int) ∧ l2 < 18446744073709551616 ∧ h2 * 18446744073709551616 + l2 = P from by
            simp only [IntKind.wrap_u64] at hc ⊢
            exact ⟨P / 18446744073709551616, P % 18446744073709551616, by omega, by omega, by omega, by omega⟩)
          clear s1 s2
          go_wp2
          go_roundw
          case rel =>
            obtain ⟨h2, l2, f1, f2, f3, f4⟩ := hfin.out
            exact ⟨h2, l2, i, by omega, by rw [f1], by rw [f2], by go_num, by first | rfl | trivial, f3, Lib.hid (by rw [hP'.out, f4])⟩
          case measure => first | (simp [intOf]; done) | (simp [intOf]; omega)
        · have hfin := Lib.hid (show ∃ h2 l2 : Nat, IntKind.u64.wrap (IntKind.u64.wrap ((h : Int) * 2) + (l : Int) / 9223372036854775808) = (h2 : Int) ∧ IntKind.u64.wrap (IntKind.u64.wrap ((l : Int) * 2) + (a : Int)) = (l2 : Int) ∧ l2 < 18446744073709551616 ∧ h2 * 18446744073709551616 + l2 = P from by
            simp only [IntKind.wrap_u64] at hc ⊢
            exact ⟨P / 18446744073709551616, P % 18446744073709551616, by omega, by omega, by omega, by omega⟩)
          clear s1 s2
          go_wp2
          go_roundw
          case rel =>
            obtain ⟨h2, l2, f1, f2, f3, f4⟩ := hfin.out
            exact ⟨h2, l2, i, by omega, by rw [f1], by rw [f2], by go_num, by first | rfl | trivial, f3, Lib.hid (by rw [hP'.out, f4])⟩
          case measure => first | (simp [intOf]; done) | (simp [intOf]; omega)
      · have hbit0 : b / 2 ^ i % 2 = 0 := by omega
        rw [hbit0] at s1 hba
        rw [Nat.mul_zero, Nat.add_zero] at s1
        generalize hP : a * (b / 2 ^ i) = P at *
        have hP' := Lib.hid hP
        have hfin := Lib.hid (show ∃ h2 l2 : Nat, IntKind.u64.wrap (IntKind.u64.wrap ((h : Int) * 2) + (l : Int) / 9223372036854775808) = (h2 : Int) ∧ IntKind.u64.wrap ((l : Int) * 2) = (l2 : Int) ∧ l2 < 18446744073709551616 ∧ h2 * 18446744073709551616 + l2 = P from by
          simp only [IntKind.wrap_u64]
          exact ⟨P / 18446744073709551616, P % 18446744073709551616, by omega, by omega, by omega, by omega⟩)
        clear hP hbl hbit hbit0 s1 s2
        go_wp2
        go_roundw
        case rel =>
          obtain ⟨h2, l2, f1, f2, f3, f4⟩ := hfin.out
          exact ⟨h2, l2, i, by omega, by rw [f1], by rw [f2], by go_num, by first | rfl | trivial, f3, Lib.hid (by rw [hP'.out, f4])⟩
        case measure => first | (simp [intOf]; done) | (simp [intOf]; omega)
end Ratio
end Go.Proofs.Ytmkbinbggiocaaa
