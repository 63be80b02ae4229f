/- What the reference tells of an arc's weight, and of the arcs that lead out of a vertex. -/
import Derived.Test.YtjpfmkfikidgkaaGreatCsr1
set_option linter.unusedVariables false
set_option linter.unusedSimpArgs false
namespace Go.Proofs.YtjpfmkfikidgkaaGreat
open Go.RowKit
namespace Edge
/-- Is it an arc from v to u? -/
def isArc (L : List Ed) (v : Int) (u i : Nat) : Bool := decide (0 ≤ v ∧ tailE L i = v ∧ headE L i = (u : Int))
/-- The arcs that the reference has found so far. -/
def accO (L : List Ed) (v : Int) (u k : Nat) : List Nat := ((List.range u).flatMap fun (x : Nat) => (List.range (2 * L.length)).filter fun i => isArc L v x i) ++ (List.range k).filter fun i => isArc L v u i
theorem accO_step (L : List Ed) (v : Int) (u k : Nat) : accO L v u (k + 1) = accO L v u k ++ if isArc L v u k = true then [k] else [] := by
  unfold accO
  rw [List.range_succ, List.filter_append, List.append_assoc]
  congr 2
  by_cases h : isArc L v u k = true <;> simp [h]
theorem accO_next (L : List Ed) (v : Int) (u : Nat) : accO L v (u + 1) 0 = accO L v u (2 * L.length) := by
  unfold accO
  rw [List.range_succ, List.flatMap_append]
  simp
theorem accO_zero (L : List Ed) (v : Int) : accO L v 0 0 = [] := by simp [accO]
theorem accO_len (L : List Ed) (v : Int) : ∀ u k : Nat, (accO L v u k).length ≤ u * (2 * L.length) + k
  | 0, k => by
    have := List.length_filter_le (fun i => isArc L v 0 i) (List.range k)
    simp [accO] at this ⊢; exact this
  | u + 1, k => by
    have h1 := accO_len L v u (2 * L.length)
    have h2 := List.length_filter_le (fun i => isArc L v (u + 1) i) (List.range k)
    have e : accO L v (u + 1) k = accO L v (u + 1) 0 ++ (List.range k).filter fun i => isArc L v (u + 1) i := by simp [accO]
    have h3 : (u + 1) * (2 * L.length) = u * (2 * L.length) + 2 * L.length := Nat.succ_mul _ _
    rw [e, accO_next, List.length_append, h3]
    simp only [List.length_range] at h2
    omega
/-- The arcs out of any vertex, in the order of their heads; none of what is no vertex. -/
def outI (n : Nat) (L : List Ed) (v : Int) : List Int := ints (if 0 ≤ v ∧ v < n then ofS n L v.toNat else [])
theorem accO_all {n : Nat} {L : List Ed} (hG : GOk n L) (v : Int) : ints (accO L v n 0) = outI n L v := by
  have e0 : accO L v n 0 = (List.range n).flatMap fun (x : Nat) => (List.range (2 * L.length)).filter fun i => isArc L v x i := by simp [accO]
  unfold outI
  rw [e0]
  by_cases h : 0 ≤ v ∧ v < n
  · rw [if_pos h]
    congr 1
    unfold ofS
    congr 1
    funext u
    congr 1
    funext i
    unfold isArc
    congr 1
    apply propext
    constructor
    · rintro ⟨_, h2, h3⟩; exact ⟨by omega, h3⟩
    · rintro ⟨h2, h3⟩; exact ⟨h.1, by omega, h3⟩
  · rw [if_neg h]
    have : ((List.range n).flatMap fun (x : Nat) => (List.range (2 * L.length)).filter fun i => isArc L v x i) = [] := by
      rw [List.flatMap_eq_nil_iff]
      intro u _
      rw [List.filter_eq_nil_iff]
      intro i hi
      rw [List.mem_range] at hi
      have := tail_in hG hi
      unfold isArc
      simp only [decide_eq_true_eq]
      omega
    rw [this]
theorem ints_snoc (l : List Nat) (k : Nat) : i64s (ints (l ++ [k])) = i64s (ints l) ++ [.int .i64 (k : Int)] := by simp [i64s, ints]
end Edge
end Go.Proofs.YtjpfmkfikidgkaaGreat
