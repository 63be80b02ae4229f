/- math/bits.Mul64. -/
import Derived.Test.YtmkbinbggiocaaaCmp44
set_option linter.unusedVariables false
set_option linter.unusedSimpArgs false
namespace Go.Proofs.Ytmkbinbggiocaaa
open Go.RowKit
namespace Ratio
theorem and32 (x : Nat) (h : x < 18446744073709551616) : bits .and .u64 (x : Int) 4294967295 = ((x % 4294967296 : Nat) : Int) := by
  have h1 := bits_and_u64_nat x 4294967295 h (by omega)
  have p1 : x &&& 4294967295 = x % 4294967296 := Nat.and_two_pow_sub_one_eq_mod _ 32
  rw [p1] at h1
  exact h1
theorem hi_law (x y : Nat) (hx : x < 18446744073709551616) (hy : y < 18446744073709551616) :
    IntKind.u64.wrap (IntKind.u64.wrap (IntKind.u64.wrap ((x : Int) / 4294967296 * ((y : Int) / 4294967296)) + IntKind.u64.wrap (IntKind.u64.wrap ((x : Int) / 4294967296 * ((y : Int) % 4294967296)) + IntKind.u64.wrap ((x : Int) % 4294967296 * ((y : Int) % 4294967296)) / 4294967296) / 4294967296) +
      IntKind.u64.wrap (bits .and .u64 (IntKind.u64.wrap (IntKind.u64.wrap ((x : Int) / 4294967296 * ((y : Int) % 4294967296)) + IntKind.u64.wrap ((x : Int) % 4294967296 * ((y : Int) % 4294967296)) / 4294967296)) 4294967295 + IntKind.u64.wrap ((x : Int) % 4294967296 * ((y : Int) / 4294967296))) / 4294967296) = ((x * y / 18446744073709551616 : Nat) : Int) := by
  have b1 : x / 4294967296 ≤ 4294967295 := by omega
  have b2 : y / 4294967296 ≤ 4294967295 := by omega
  have b3 : x % 4294967296 ≤ 4294967295 := by omega
  have b4 : y % 4294967296 ≤ 4294967295 := by omega
  have hxy : x * y = (x / 4294967296 * (y / 4294967296)) * 18446744073709551616 + (x / 4294967296 * (y % 4294967296) + x % 4294967296 * (y / 4294967296)) * 4294967296 + x % 4294967296 * (y % 4294967296) := by
    have e1 : x = x / 4294967296 * 4294967296 + x % 4294967296 := by omega
    have e2 : y = y / 4294967296 * 4294967296 + y % 4294967296 := by omega
    generalize x / 4294967296 = p at *
    generalize x % 4294967296 = q at *
    generalize y / 4294967296 = r at *
    generalize y % 4294967296 = s at *
    subst e1 e2
    have e3 : (p * 4294967296 + q) * (r * 4294967296 + s) = p * 4294967296 * (r * 4294967296) + p * 4294967296 * s + q * (r * 4294967296) + q * s := by
      rw [Nat.add_mul, Nat.mul_add, Nat.mul_add]; omega
    have e4 : p * 4294967296 * (r * 4294967296) = p * r * 18446744073709551616 := by
      rw [Nat.mul_mul_mul_comm, show (4294967296 * 4294967296 : Nat) = 18446744073709551616 by decide +kernel]
    have e5 : p * 4294967296 * s = p * s * 4294967296 := by rw [Nat.mul_right_comm]
    have e6 : q * (r * 4294967296) = q * r * 4294967296 := by rw [Nat.mul_assoc]
    rw [e3, e4, e5, e6, Nat.add_mul]
    clear e3 e4 e5 e6
    generalize p * r = u1
    generalize p * s = u2
    generalize q * r = u3
    generalize q * s = u4
    omega
  have m1 : x / 4294967296 * (y / 4294967296) ≤ 4294967295 * 4294967295 := Nat.mul_le_mul b1 b2
  have m2 : x / 4294967296 * (y % 4294967296) ≤ 4294967295 * 4294967295 := Nat.mul_le_mul b1 b4
  have m3 : x % 4294967296 * (y / 4294967296) ≤ 4294967295 * 4294967295 := Nat.mul_le_mul b3 b2
  have m4 : x % 4294967296 * (y % 4294967296) ≤ 4294967295 * 4294967295 := Nat.mul_le_mul b3 b4
  have c1 : (x : Int) / 4294967296 * ((y : Int) / 4294967296) = ((x / 4294967296 * (y / 4294967296) : Nat) : Int) := by simp
  have c2 : (x : Int) / 4294967296 * ((y : Int) % 4294967296) = ((x / 4294967296 * (y % 4294967296) : Nat) : Int) := by simp
  have c3 : (x : Int) % 4294967296 * ((y : Int) / 4294967296) = ((x % 4294967296 * (y / 4294967296) : Nat) : Int) := by simp
  have c4 : (x : Int) % 4294967296 * ((y : Int) % 4294967296) = ((x % 4294967296 * (y % 4294967296) : Nat) : Int) := by simp
  rw [c1, c2, c3, c4, hxy]
  generalize x / 4294967296 * (y / 4294967296) = p11 at *
  generalize x / 4294967296 * (y % 4294967296) = p10 at *
  generalize x % 4294967296 * (y / 4294967296) = p01 at *
  generalize x % 4294967296 * (y % 4294967296) = p00 at *
  have t0 : IntKind.u64.wrap (IntKind.u64.wrap (p10 : Int) + IntKind.u64.wrap (p00 : Int) / 4294967296) = ((p10 + p00 / 4294967296 : Nat) : Int) := by
    simp only [IntKind.wrap_u64]
    omega
  rw [t0, and32 _ (by omega)]
  simp only [IntKind.wrap_u64]
  omega
set_option maxRecDepth 100000 in
theorem mul64_any (x y : Nat) (hx : x < 18446744073709551616) (hy : y < 18446744073709551616) (w : World) :
    Calls Try.prog 125 #[.int .u64 (x : Int), .int .u64 (y : Int)] w fun e w' => e = .returned (.tuple #[.int .u64 ((x * y / 18446744073709551616 : Nat) : Int), .int .u64 ((x * y % 18446744073709551616 : Nat) : Int)]) ∧ w' = w := by
  have a1 := and32 x hx
  have a2 := and32 y hy
  have ah := Lib.hid (hi_law x y hx hy)
  have al : Hid (IntKind.u64.wrap ((x : Int) * (y : Int)) = ((x * y % 18446744073709551616 : Nat) : Int)) := Lib.hid (by rw [IntKind.wrap_u64]; simp)
  go_enter Try.func125, Try.ntmps125
  go_wp2
  rw [ah.out, al.out]
  exact bodyPost_ret (v := .tuple #[.int .u64 ((x * y / 18446744073709551616 : Nat) : Int), .int .u64 ((x * y % 18446744073709551616 : Nat) : Int)]) (by simp [results, Try.results125, go_sem]) rfl ⟨rfl, rfl⟩
end Ratio
end Go.Proofs.Ytmkbinbggiocaaa
