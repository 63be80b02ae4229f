/- What edges weigh together bounds what each one weighs, also while they are merged. -/
import Derived.Test.YtjpfmkfikidgkaaGreatNetLaw
import Derived.Test.YtjpfmkfikidgkaaGreatPosLaw
set_option linter.unusedVariables false
set_option linter.unusedSimpArgs false
namespace Go.Proofs.YtjpfmkfikidgkaaGreat
namespace Edge
def NN (l : List Ed) : Prop := ∀ e ∈ l, 0 ≤ e.2.2
theorem tot_in : ∀ {l : List Ed}, NN l → 0 ≤ total l ∧ ∀ x ∈ l, x.2.2 ≤ total l
  | [], _ => ⟨Int.le_refl _, by simp⟩
  | y :: l, h => by
    obtain ⟨h1, h2⟩ := tot_in (l := l) (fun x hx => h x (List.mem_cons_of_mem _ hx))
    have hy := h y (by simp)
    simp only [total]
    refine ⟨by omega, fun x hx => ?_⟩
    rcases List.mem_cons.1 hx with rfl | hx
    · omega
    · have := h2 x hx; omega
theorem tot_take {l : List Ed} (h : NN l) (k : Nat) : total (l.take k) ≤ total l := by
  have e : total l = total (l.take k) + total (l.drop k) := by rw [← total_append, List.take_append_drop]
  have := (tot_in (l := l.drop k) (fun x hx => h x (List.mem_of_mem_drop hx))).1
  omega
theorem nn_ins {l : List Ed} (h : NN l) : NN (ins l) := by
  intro e he
  obtain ⟨y, hy, _, rfl⟩ := mem_ins he
  rw [norm_w]
  exact h y hy
theorem tot_ins : ∀ {l : List Ed}, NN l → total (ins l) ≤ total l
  | [], _ => by simp [ins, total]
  | e :: l, h => by
    have h1 := tot_ins (l := l) (fun x hx => h x (List.mem_cons_of_mem _ hx))
    have h2 := h e (by simp)
    unfold ins at h1 ⊢
    rw [List.filter_cons]
    by_cases c : e.1 ≠ e.2.1
    · rw [if_pos (by simpa using c), List.map_cons]
      simp only [total, norm_w]; omega
    · rw [if_neg (by simpa using c)]
      simp only [total]; omega
theorem addP_tot {e : Ed} : ∀ {l : List Ed}, total (addP l e) = total l + e.2.2
  | [] => by simp [addP, total]
  | x :: l => by
    unfold addP
    by_cases c : key x = key e
    · rw [if_pos c]; simp only [total]; omega
    · rw [if_neg c]; simp only [total, addP_tot (l := l)]; omega
theorem addP_nn {e : Ed} (he : 0 ≤ e.2.2) : ∀ {l : List Ed}, NN l → NN (addP l e)
  | [], _, x, hx => by
    simp only [addP, List.mem_singleton] at hx
    subst hx
    exact he
  | y :: l, h, x, hx => by
    have hy := h y (by simp)
    unfold addP at hx
    by_cases c : key y = key e
    · rw [if_pos c] at hx
      rcases List.mem_cons.1 hx with rfl | hx
      · simp only; omega
      · exact h x (List.mem_cons_of_mem _ hx)
    · rw [if_neg c] at hx
      rcases List.mem_cons.1 hx with rfl | hx
      · exact hy
      · exact addP_nn he (fun z hz => h z (List.mem_cons_of_mem _ hz)) x hx
theorem soFar_t {l : List Ed} (h : NN l) : ∀ k, NN (soFar l k) ∧ total (soFar l k) ≤ total (l.take k)
  | 0 => by simp [soFar, ins, NN, total]
  | k + 1 => by
    obtain ⟨h1, h2⟩ := soFar_t h k
    by_cases hk : k < l.length
    · have hw := h l[k] (List.getElem_mem hk)
      have hs : total (l.take (k + 1)) = total (l.take k) + l[k].2.2 := by rw [List.take_succ_eq_append_getElem hk, total_append]; simp [total]
      by_cases c : l[k].1 = l[k].2.1
      · rw [soFar_loop hk c]; exact ⟨h1, by omega⟩
      · rw [soFar_step hk c]
        refine ⟨addP_nn (by rw [norm_w]; exact hw) h1, ?_⟩
        rw [addP_tot, norm_w]; omega
    · have : soFar l (k + 1) = soFar l k := by unfold soFar; rw [List.take_of_length_le (by omega), List.take_of_length_le (by omega)]
      rw [this, List.take_of_length_le (by omega)]
      rw [List.take_of_length_le (by omega)] at h2
      exact ⟨h1, h2⟩
/-- What is merged so far weighs no more than all together. -/
theorem soFar_le {l : List Ed} (h : NN l) (k : Nat) : ∀ x ∈ soFar l k, 0 ≤ x.2.2 ∧ x.2.2 ≤ total l := fun x hx => by
  obtain ⟨h1, h2⟩ := soFar_t h k
  have h3 := (tot_in h1).2 x hx
  have h4 := tot_take h k
  exact ⟨h1 x hx, by omega⟩
end Edge
end Go.Proofs.YtjpfmkfikidgkaaGreat
