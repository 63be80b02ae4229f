/- Reading numbers that stand as bytes: the plain law. -/
import Derived.Test.YtmkbinbggiocaaaCode1
set_option linter.unusedVariables false
set_option linter.unusedSimpArgs false
namespace Go.Proofs.Ytmkbinbggiocaaa
open Go.RowKit
namespace Code
/-- The number that stands at the head of bytes, and how many bytes it has; i bytes have gone ahead. -/
def natP : Nat → List Int → Option (Nat × Nat)
  | _, [] => none
  | i, x :: r =>
    if 9 < i ∨ (i = 9 ∧ 1 < x % 128) then none
    else if x < 128 then (if i = 0 ∨ 0 < x then some (x.toNat, 1) else none)
    else (natP (i + 1) r).map fun p => ((x % 128).toNat + 128 * p.1, p.2 + 1)
theorem natP_cons (i : Nat) (x : Int) (r : List Int) : natP i (x :: r) = if 9 < i ∨ (i = 9 ∧ 1 < x % 128) then none
    else if x < 128 then (if i = 0 ∨ 0 < x then some (x.toNat, 1) else none)
    else (natP (i + 1) r).map fun p => ((x % 128).toNat + 128 * p.1, p.2 + 1) := by rw [natP]
theorem pow7 (j : Nat) : (2 : Int) ^ (7 * j) = ((128 ^ j : Nat) : Int) := by
  rw [Int.natCast_pow, Int.pow_mul]; rfl
theorem or_shift (m p j : Nat) (hm : m < 128 ^ j) (hp : p * 128 ^ j < 18446744073709551616) (hs : m + p * 128 ^ j < 18446744073709551616) :
    bits .or .u64 (m : Int) (IntKind.u64.wrap ((p : Int) * 2 ^ (7 * j))) = ((m + p * 128 ^ j : Nat) : Int) := by
  rw [pow7]
  have e : IntKind.u64.wrap ((p : Int) * ((128 ^ j : Nat) : Int)) = ((p * 128 ^ j : Nat) : Int) := by
    rw [IntKind.wrap_u64, ← Int.natCast_mul]; omega
  rw [e, u64_or _ _ (by omega) (by omega) (by omega) (by omega)]
  simp only [Int.toNat_natCast]
  have h7 : 128 ^ j = 2 ^ (7 * j) := by rw [Nat.pow_mul]
  rw [Nat.or_comm, h7, Nat.mul_comm p]
  rw [h7] at hm
  rw [← Nat.two_pow_add_eq_or_of_lt hm p, Nat.add_comm]
theorem natB_ne (n : Nat) : natB n ≠ [] := by
  by_cases h : n < 128
  · rw [natB_small h]; simp
  · rw [natB_big h]; simp
theorem natP_sound : ∀ (xs : List Int) (i n k : Nat), (∀ x ∈ xs, 0 ≤ x ∧ x < 256) → natP i xs = some (n, k) → natB n = xs.take k ∧ k = (natB n).length ∧ (i = 0 ∨ 0 < n) ∧ i ≤ 9 ∧ n < 2 * 128 ^ (9 - i)
  | [], i, n, k, _, h => by simp [natP] at h
  | x :: r, i, n, k, hb, h => by
    have hx := hb x (by simp)
    unfold natP at h
    split at h
    · exact absurd h (by simp)
    rename_i hi
    split at h
    · rename_i h1
      split at h
      · rename_i h2
        simp only [Option.some.injEq, Prod.mk.injEq] at h
        obtain ⟨rfl, rfl⟩ := h
        rw [natB_small (by omega)]
        refine ⟨by simp; omega, rfl, by omega, by omega, ?_⟩
        have hi9 : i ≤ 9 := by omega
        rcases Nat.lt_or_ge i 9 with h9 | h9
        · have : 128 ^ 1 ≤ 128 ^ (9 - i) := Nat.pow_le_pow_right (by omega) (by omega)
          omega
        · have : i = 9 := by omega
          subst this
          have : x % 128 = x := by omega
          simp; omega
      · exact absurd h (by simp)
    · rename_i h1
      cases hp : natP (i + 1) r with
      | none => simp [hp] at h
      | some p =>
        obtain ⟨m, j⟩ := p
        simp only [hp, Option.map_some, Option.some.injEq, Prod.mk.injEq] at h
        obtain ⟨rfl, rfl⟩ := h
        obtain ⟨h3, h4, h5, h6, h7⟩ := natP_sound r (i + 1) m j (fun y hy => hb y (by simp [hy])) hp
        have hm : 0 < m := by omega
        rw [natB_big (by omega)]
        have e1 : ((x % 128).toNat + 128 * m) / 128 = m := by omega
        have e2 : (((x % 128).toNat + 128 * m) % 128 + 128 : Nat) = x.toNat := by omega
        rw [e1, e2, List.length_cons, ← h4, h3]
        refine ⟨by simp; omega, rfl, by omega, by omega, ?_⟩
        have : 128 ^ (9 - i) = 128 * 128 ^ (9 - (i + 1)) := by rw [← Nat.pow_succ']; congr 1; omega
        omega
theorem natP_full : ∀ (n i : Nat) (xs : List Int), i ≤ 9 → n < 2 * 128 ^ (9 - i) → (i = 0 ∨ 0 < n) → natP i (natB n ++ xs) = some (n, (natB n).length) := by
  intro n
  induction n using Nat.strongRecOn with
  | ind n ih =>
    intro i xs hi hn h0
    by_cases h : n < 128
    · rw [natB_small h, List.singleton_append]
      unfold natP
      have : ¬ (9 < i ∨ (i = 9 ∧ 1 < (n : Int) % 128)) := by
        rintro (h1 | ⟨rfl, h1⟩)
        · omega
        · simp at hn; omega
      rw [if_neg this, if_pos (by omega), if_pos (by omega)]
      simp
    · rw [natB_big h, List.cons_append]
      unfold natP
      have h9 : i < 9 := by
        rcases Nat.lt_or_ge i 9 with h9 | h9
        · exact h9
        · have : i = 9 := by omega
          subst this
          simp at hn; omega
      have : ¬ (9 < i ∨ (i = 9 ∧ 1 < ((n % 128 + 128 : Nat) : Int) % 128)) := by omega
      rw [if_neg this, if_neg (by omega)]
      have e : 128 ^ (9 - i) = 128 * 128 ^ (9 - (i + 1)) := by rw [← Nat.pow_succ']; congr 1; omega
      rw [ih (n / 128) (by omega) (i + 1) xs (by omega) (by omega) (by omega)]
      simp only [Option.map_some, List.length_cons]
      congr 2
      omega
theorem natP_back (n : Nat) (h : n < 18446744073709551616) (xs : List Int) : natP 0 (natB n ++ xs) = some (n, (natB n).length) :=
  natP_full n 0 xs (by omega) (by simpa using h) (.inl rfl)
end Code
end Go.Proofs.Ytmkbinbggiocaaa
