/- Numbers as bytes: bytes.Clone, code.Nat. -/
import Derived.Test.YtjpfmkfikidgkaaGreatRd
set_option linter.unusedVariables false
set_option linter.unusedSimpArgs false
namespace Go.Proofs.YtjpfmkfikidgkaaGreat
open Go.RowKit
namespace Code
theorem infoU8 : (Tryz.prog.info? 5).map (fun i => (i.zero, i.size, i.bytes)) = some (some (.int .u8 0), 1, 1) := by kernel_rfl
/-! ### code.Nat -/
/-- A number's bytes: seven bits each, the lowest first. -/
def natB (n : Nat) : List Int := if n < 128 then [(n : Int)] else ((n % 128 + 128 : Nat) : Int) :: natB (n / 128)
termination_by n
decreasing_by omega
theorem natB_small {n : Nat} (h : n < 128) : natB n = [(n : Int)] := by rw [natB, if_pos h]
theorem natB_big {n : Nat} (h : ¬ n < 128) : natB n = ((n % 128 + 128 : Nat) : Int) :: natB (n / 128) := by rw [natB, if_neg h]
theorem natB_len (k : Nat) : ∀ n, n < 128 ^ k → 0 < k → (natB n).length ≤ k := by
  induction k with
  | zero => intro n _ h; omega
  | succ k ih =>
    intro n hn _
    by_cases h : n < 128
    · rw [natB_small h]; simp
    · rw [natB_big h, List.length_cons]
      have : n / 128 < 128 ^ k := by rw [Nat.div_lt_iff_lt_mul (by omega)]; rw [Nat.pow_succ] at hn; omega
      have hk : 0 < k := by
        rcases Nat.eq_zero_or_pos k with rfl | h'
        · simp at this; omega
        · exact h'
      have := ih _ this hk
      omega
theorem or128 (m : Nat) : bits .or .u8 ((m : Int) % 256) 128 = ((m % 128 + 128 : Nat) : Int) := by
  have h : ∀ x : Fin 256, bits .or .u8 ((x.val : Nat) : Int) 128 = ((x.val % 128 + 128 : Nat) : Int) := by decide +kernel
  have h1 := h ⟨m % 256, Nat.mod_lt _ (by omega)⟩
  simp only at h1
  rw [show ((m : Int) % 256) = ((m % 256 : Nat) : Int) from by omega, h1]
  omega
/-! ### sign, Int -/
def signN (n : Int) : Nat := if 0 ≤ n then (2 * n).toNat else (-2 * n - 1).toNat
theorem xor_ones (x : Nat) (h : x < 18446744073709551616) : x ^^^ 18446744073709551615 = 18446744073709551615 - x := by
  have h1 : (BitVec.ofNat 64 x ^^^ BitVec.allOnes 64).toNat = x ^^^ 18446744073709551615 := by
    rw [BitVec.toNat_xor, BitVec.toNat_ofNat, BitVec.toNat_allOnes]
    have : x % 2 ^ 64 = x := Nat.mod_eq_of_lt (by simpa using h)
    rw [this]
  have h2 : (~~~ (BitVec.ofNat 64 x)).toNat = 18446744073709551615 - x := by
    rw [BitVec.toNat_not, BitVec.toNat_ofNat]
    have : x % 2 ^ 64 = x := Nat.mod_eq_of_lt (by simpa using h)
    rw [this]
  rw [← h1, BitVec.xor_allOnes, h2]
theorem sign_pos_bits (n : Int) (h0 : 0 ≤ n) (h1 : n ≤ 9223372036854775807) : bits .xor .u64 (n * 2) (n / 9223372036854775808) = ((signN n : Nat) : Int) := by
  have e : n / 9223372036854775808 = 0 := by omega
  rw [e, u64_xor _ _ (by omega) (by omega) (by omega) (by omega)]
  simp only [Int.toNat_zero, Nat.xor_zero, signN, if_pos h0]
  omega
theorem sign_neg_bits (n : Int) (h0 : n < 0) (h1 : -9223372036854775808 ≤ n) : bits .xor .u64 (IntKind.u64.wrap (IntKind.u64.wrap n * 2)) (IntKind.u64.wrap (n / 9223372036854775808)) = ((signN n : Nat) : Int) := by
  have e : n / 9223372036854775808 = -1 := by omega
  have e1 : IntKind.u64.wrap (-1) = 18446744073709551615 := by rw [IntKind.wrap_u64]; rfl
  have e2 : IntKind.u64.wrap (IntKind.u64.wrap n * 2) = 2 * n + 18446744073709551616 := by rw [IntKind.wrap_u64, IntKind.wrap_u64]; omega
  rw [e, e1, e2, u64_xor _ _ (by omega) (by omega) (by omega) (by omega)]
  rw [show (18446744073709551615 : Int).toNat = 18446744073709551615 from rfl, xor_ones _ (by omega)]
  simp only [signN, if_neg (show ¬ 0 ≤ n by omega)]
  omega
theorem signN_lt (n : Int) (h0 : -9223372036854775808 ≤ n) (h1 : n ≤ 9223372036854775807) : signN n < 18446744073709551616 := by
  unfold signN; split <;> omega
end Code
end Go.Proofs.YtjpfmkfikidgkaaGreat
