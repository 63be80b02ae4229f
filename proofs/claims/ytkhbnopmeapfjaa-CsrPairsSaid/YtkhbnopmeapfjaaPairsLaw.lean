/- How often each arc has come: the arcs of the vertices so far, and of this vertex the first ones. -/
import Derived.Test.YtkhbnopmeapfjaaCsrLaw
set_option linter.unusedVariables false
set_option linter.unusedSimpArgs false
namespace Go.Proofs.Ytkhbnopmeapfjaa
namespace Edge
def cameL (L : List Ed) (v : Nat) (T : List Nat) : List Int := (List.range (2 * L.length)).map fun i => if tailE L i < (v : Int) ∨ i ∈ T then 1 else 0
theorem came_len (L : List Ed) (v : Nat) (T : List Nat) : (cameL L v T).length = 2 * L.length := by simp [cameL]
theorem came_get {L : List Ed} {v : Nat} {T : List Nat} {i : Nat} (h : i < (cameL L v T).length) : (cameL L v T)[i] = if tailE L i < (v : Int) ∨ i ∈ T then 1 else 0 := by simp [cameL]
theorem came_zero {n : Nat} {L : List Ed} (hG : GOk n L) : cameL L 0 [] = List.replicate (2 * L.length) 0 := by
  apply List.eq_replicate_iff.2 ⟨came_len _ _ _, ?_⟩
  intro x hx
  simp only [cameL, List.mem_map, List.mem_range] at hx
  obtain ⟨i, hi, rfl⟩ := hx
  have := tail_in hG hi
  rw [if_neg (by simp; omega)]
theorem came_all {n : Nat} {L : List Ed} (hG : GOk n L) : cameL L n [] = List.replicate (2 * L.length) 1 := by
  apply List.eq_replicate_iff.2 ⟨came_len _ _ _, ?_⟩
  intro x hx
  simp only [cameL, List.mem_map, List.mem_range] at hx
  obtain ⟨i, hi, rfl⟩ := hx
  have := tail_in hG hi
  rw [if_pos (by left; omega)]
theorem came_next {n : Nat} {L : List Ed} (hG : GOk n L) (v : Nat) : cameL L v (ofS n L v) = cameL L (v + 1) [] := by
  unfold cameL
  apply List.map_congr_left
  intro i hi
  rw [List.mem_range] at hi
  simp only [mem_ofS hG]
  by_cases h1 : tailE L i < (v : Int)
  · rw [if_pos (.inl h1), if_pos (by left; omega)]
  · by_cases h2 : tailE L i = (v : Int)
    · rw [if_pos (.inr ⟨hi, h2⟩), if_pos (by left; omega)]
    · rw [if_neg (by rintro (h | h); exact h1 h; exact h2 h.2), if_neg (by simp; omega)]
theorem came_old {L : List Ed} {v : Nat} {T : List Nat} {x : Nat} (hx : x < 2 * L.length) (ht : tailE L x = (v : Int)) (hn : x ∉ T) : (cameL L v T)[x]? = some 0 := by
  rw [List.getElem?_eq_getElem (by rw [came_len]; exact hx), came_get, if_neg (by rintro (h | h); omega; exact hn h)]
theorem came_step {L : List Ed} {v : Nat} {T : List Nat} {x : Nat} (hx : x < 2 * L.length) : (cameL L v T).set x 1 = cameL L v (T ++ [x]) := by
  apply List.ext_getElem
  · simp [came_len]
  intro i g1 g2
  rw [came_get, List.getElem_set]
  by_cases c : x = i
  · subst c; rw [if_pos rfl, if_pos (by right; simp)]
  · rw [if_neg c, came_get]
    have e : (i ∈ T ++ [x]) ↔ i ∈ T := by
      rw [List.mem_append, List.mem_singleton]
      exact ⟨fun h => h.elim id (fun h => absurd h.symm c), .inl⟩
    simp only [e]
/-- The arcs of a vertex, one by one. -/
theorem ofS_nth {n : Nat} {L : List Ed} (hG : GOk n L) {v k : Nat} (hk : k < (ofS n L v).length) :
    (ofS n L v)[k] < 2 * L.length ∧ tailE L (ofS n L v)[k] = (v : Int) ∧ (ofS n L v)[k] ∉ (ofS n L v).take k ∧ ∀ j (hj : j < k), headE L ((ofS n L v)[j]'(by omega)) < headE L (ofS n L v)[k] := by
  have h1 := (mem_ofS hG).1 (List.getElem_mem hk)
  have h2 := List.pairwise_iff_getElem.1 (ofS_asc hG v)
  refine ⟨h1.1, h1.2, fun hm => ?_, fun j hj => h2 j k (by omega) hk hj⟩
  obtain ⟨j, hj, e⟩ := List.mem_iff_getElem.1 hm
  rw [List.length_take] at hj
  rw [List.getElem_take] at e
  have := h2 j k (by omega) hk (by omega)
  rw [e] at this
  omega
end Edge
end Go.Proofs.Ytkhbnopmeapfjaa
