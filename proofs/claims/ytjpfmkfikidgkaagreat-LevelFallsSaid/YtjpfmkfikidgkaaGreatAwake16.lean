/- The law's awake: a graph is made at all, and tells. -/
import Derived.Test.YtjpfmkfikidgkaaGreatNet5
import Derived.Laws.EntriesVeiled
set_option linter.unusedVariables false
set_option linter.unusedSimpArgs false
namespace Go.Proofs.YtjpfmkfikidgkaaGreat
open Go.RowKit
namespace Edge
theorem rd_ed {w : World} {b : Nat} {l : List Ed} {t : TypeId} (h : Has w b (flat encEd l) t) (hl : l.length ≤ 1000000000) : Rd w 3 (.slice (some ⟨b, 0, none⟩) l.length l.length) l.length (flat encEd l) :=
  ⟨flat_length encEd_len l, .inr ⟨⟨b, 0, none⟩, l.length, rfl, Nat.le_refl _, by simp only [maxLen]; omega, fun j u hu => by rw [Addr.add_lit, Nat.zero_add]; exact h.cell j hu⟩⟩
section
variable {w0 w : World} {b n : Nat} {L : List Ed} {R : List Part}
theorem n_sep (h : Sep w0 w (NetP b n L :: R)) : Calls Tryz.prog 72 #[.pointer (some ⟨b, 0, none⟩)] w fun e w' => e = .returned (.int .i64 n) ∧ w' = w := by
  obtain ⟨F, h1, _⟩ := h.first
  exact n_net h1
theorem m_sep (h : Sep w0 w (NetP b n L :: R)) : Calls Tryz.prog 73 #[.pointer (some ⟨b, 0, none⟩)] w fun e w' => e = .returned (.int .i64 L.length) ∧ w' = w := by
  obtain ⟨F, h1, _⟩ := h.first
  exact m_net h1
theorem total_sep (h : Sep w0 w (NetP b n L :: R)) : Calls Tryz.prog 95 #[.pointer (some ⟨b, 0, none⟩)] w fun e w' => e = .returned (.int .i64 (total L)) ∧ w' = w := by
  obtain ⟨F, h1, _⟩ := h.first
  exact total_net h1
theorem near_sep (h : Sep w0 w (NetP b n L :: R)) (hG : GOk n L) (v : Int) : Calls Tryz.prog 141 #[.pointer (some ⟨b, 0, none⟩), .int .i64 v] w fun e w' => ∃ a c, e = .returned (.slice a (near n L v).length c) ∧ Sep w0 w' (Row 3 1 (near n L v).length (.slice a (near n L v).length c) (i64s (near n L v)) :: NetP b n L :: R) := by
  obtain ⟨F, h1, _⟩ := h.first
  refine (near_net h1 hG v).mono ?_
  rintro e w' ⟨a, c, rfl, hm⟩
  exact ⟨a, c, rfl, h.made hm⟩
theorem weight_sep (h : Sep w0 w (NetP b n L :: R)) (hG : GOk n L) (u v : Int) : Calls Tryz.prog 143 #[.pointer (some ⟨b, 0, none⟩), .int .i64 u, .int .i64 v] w fun e w' => e = .returned (.int .i64 (weight L u v)) ∧ Mod [] w w' := by
  obtain ⟨F, h1, _⟩ := h.first
  exact weight_net h1 hG u v
end
theorem newE_ok {n : Int} {l : List Ed} (h : newE n l = (0, 0)) : 0 ≤ n ∧ n ≤ 4096 ∧ l.length ≤ 1048576 ∧ ∀ e ∈ l, checkE n e = 0 := by
  unfold newE at h
  split at h
  · cases h
  split at h
  · cases h
  · exact ⟨by omega, by omega, by omega, checksE_ok.1 (by rw [h])⟩
theorem new_ok {n : Int} {l : List Ed} (h : newE n l = (0, 0)) : GOk n.toNat (merged l) := by
  obtain ⟨h1, h2, h3, h4⟩ := newE_ok h
  exact merged_ok (by omega) h3 (fun e he => by rw [show ((n.toNat : Nat) : Int) = n by omega]; exact h4 e he)
theorem merged16 : merged [(1, 0, 2), (0, 1, 3)] = [(0, 1, 5)] := by decide +kernel
end Edge
end Go.Proofs.YtjpfmkfikidgkaaGreat
