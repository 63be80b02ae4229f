/- Sums over a graph: every degree is the sum of the weights; all degrees together are twice all weights. -/
import Derived.Test.YtjpfmkfikidgkaaGreatNetLaw
set_option linter.unusedVariables false
set_option linter.unusedSimpArgs false
namespace Go.Proofs.YtjpfmkfikidgkaaGreat
namespace Edge
theorem weight_nonneg {n : Nat} {L : List Ed} (hG : GOk n L) (u v : Int) : 0 ≤ weight L u v := by
  rw [weight_wt hG.rising.apart]
  exact wt_nonneg (fun e he => by have := hG.pos e he; omega)
def wsum (L : List Ed) (v : Int) : List Int → Int
  | [] => 0
  | u :: l => weight L v u + wsum L v l
theorem wsum_append (L : List Ed) (v : Int) : ∀ l m : List Int, wsum L v (l ++ m) = wsum L v l + wsum L v m
  | [], m => by simp [wsum]
  | u :: l, m => by simp only [List.cons_append, wsum, wsum_append L v l m]; omega
theorem wsum_nonneg {n : Nat} {L : List Ed} (hG : GOk n L) (v : Int) : ∀ l : List Int, 0 ≤ wsum L v l
  | [] => Int.le_refl _
  | u :: l => by have h1 := wsum_nonneg hG v l; have h2 := weight_nonneg hG v u; simp only [wsum]; omega
theorem upto_succ (k : Nat) (p : Int → Bool) : upto (k + 1) p = upto k p ++ (if p k = true then [(k : Int)] else []) := by
  unfold upto
  rw [List.range_succ, List.map_append, List.filter_append]
  congr 1
  simp only [List.map_cons, List.map_nil, List.filter_cons, List.filter_nil]
theorem wsum_upto {n : Nat} {L : List Ed} (hG : GOk n L) (v : Int) : ∀ k : Nat, wsum L v (upto k fun u => decide (0 < weight L u v)) = sumTo (fun u => weight L u v) k
  | 0 => rfl
  | k + 1 => by
    rw [upto_succ, wsum_append, wsum_upto hG v k]
    simp only [sumTo]
    have h := weight_nonneg hG (k : Int) v
    by_cases c : 0 < weight L (k : Int) v
    · rw [if_pos (by simpa using c)]
      simp only [wsum]
      rw [weight_comm L v k]
      omega
    · rw [if_neg (by simpa using c)]
      simp only [wsum]
      omega
theorem wsum_near {n : Nat} {L : List Ed} (hG : GOk n L) (v : Int) : wsum L v (near n L v) = degree L v := by
  unfold near
  rw [wsum_upto hG v n, degree_sum hG.rising.apart hG.ends]
theorem wsum_take {n : Nat} {L : List Ed} (hG : GOk n L) (v : Int) (j : Nat) : 0 ≤ wsum L v ((near n L v).take j) ∧ wsum L v ((near n L v).take j) ≤ 2251799813685248 := by
  have h1 := wsum_near hG v
  rw [← List.take_append_drop j (near n L v), wsum_append] at h1
  have h2 := wsum_nonneg hG v ((near n L v).take j)
  have h3 := wsum_nonneg hG v ((near n L v).drop j)
  have h4 := (degree_le (v := v) (L := L) (fun e he => (hG.ends e he).2.1) hG.pos).2
  have h5 := hG.tot
  omega
theorem near_weight {n : Nat} {L : List Ed} {v u : Int} (h : u ∈ near n L v) : 0 < weight L v u ∧ weight L v u = weight L u v := by
  unfold near at h
  have := (mem_upto.1 h).2
  rw [weight_comm L v u]
  exact ⟨by simpa using this, rfl⟩
theorem degrees {n : Nat} : ∀ {L : List Ed}, (∀ e ∈ L, 0 ≤ e.1 ∧ e.1 < e.2.1 ∧ e.2.1 < n) → sumTo (degree L) n = 2 * total L
  | [], _ => by rw [sumTo_zero (fun u _ => by rfl)]; rfl
  | e :: l, h => by
    have h1 := h e (by simp)
    have ih := degrees (n := n) (L := l) (fun x hx => h x (List.mem_cons_of_mem _ hx))
    have e1 : sumTo (degree (e :: l)) n = sumTo (fun v => ((if v = ((e.1.toNat : Nat) : Int) then e.2.2 else 0) + (if v = ((e.2.1.toNat : Nat) : Int) then e.2.2 else 0)) + degree l v) n := sumTo_congr fun u hu => by
      simp only [degree]
      rw [show ((e.1.toNat : Nat) : Int) = e.1 by omega, show ((e.2.1.toNat : Nat) : Int) = e.2.1 by omega]
      simp only [eq_comm]
    rw [e1, sumTo_add, sumTo_add, sumTo_one, sumTo_one, if_pos (by omega), if_pos (by omega), ih]
    simp only [total]
    omega
theorem sumTo_mono {f : Int → Int} (hf : ∀ v, 0 ≤ f v) {k n : Nat} (h : k ≤ n) : 0 ≤ sumTo f k ∧ sumTo f k ≤ sumTo f n := by
  induction n with
  | zero => obtain rfl : k = 0 := by omega
            exact ⟨Int.le_refl _, Int.le_refl _⟩
  | succ n ih =>
    by_cases hk : k ≤ n
    · have := ih hk
      have h2 := hf n
      simp only [sumTo]
      omega
    · obtain rfl : k = n + 1 := by omega
      refine ⟨?_, Int.le_refl _⟩
      clear ih h hk
      induction n with
      | zero => have := hf 0; simp only [sumTo]; have e : ((0 : Nat) : Int) = 0 := rfl; rw [e]; omega
      | succ n ih => have := hf ((n + 1 : Nat) : Int); simp only [sumTo] at ih ⊢; omega
theorem degrees_some {n : Nat} {L : List Ed} (hG : GOk n L) {k : Nat} (h : k ≤ n) : 0 ≤ sumTo (degree L) k ∧ sumTo (degree L) k ≤ 4503599627370496 := by
  have h1 := sumTo_mono (f := degree L) (fun v => (degree_le (v := v) (L := L) (fun e he => (hG.ends e he).2.1) hG.pos).1) h
  have h2 := degrees (L := L) hG.ends
  have h3 := hG.tot
  omega
end Edge
end Go.Proofs.YtjpfmkfikidgkaaGreat
