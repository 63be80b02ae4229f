/- A row of edges. -/
import Derived.Test.YtjpfmkfikidgkaaGreatEdge1
set_option linter.unusedVariables false
set_option linter.unusedSimpArgs false
namespace Go.Proofs.YtjpfmkfikidgkaaGreat
open Go.RowKit
namespace Edge
theorem infoEd : (Tryz.prog.info? 146).map (fun i => (i.zero, i.size, i.bytes)) = some (some (.agg #[.int .i64 0, .int .i64 0, .int .i64 0]), 3, 24) := by kernel_rfl
theorem encEd_one (l : List Ed) : ∀ u ∈ flat encEd l, u.oneCell' = true := by
  intro u hu
  unfold flat at hu
  obtain ⟨e, _, h⟩ := List.mem_flatMap.1 hu
  simp only [encEd, List.mem_cons, List.mem_nil_iff, or_false] at h
  rcases h with rfl | rfl | rfl <;> rfl
theorem ed_row {w : World} {L : List Ed} {a : Option Addr} {c j : Nat} (h : w.ownsRow 0 146 3 (.slice a L.length c) L.length (flat encEd L)) (hj : j < L.length) :
    ∃ g, a = some ⟨g, 0, none⟩ ∧ g < w.heap.size ∧ (∀ i, w.frozen? ⟨g, i, none⟩ = false) ∧ w.cell? ⟨g, j * 3, none⟩ = some (.int .i64 L[j].1) ∧ w.cell? ⟨g, j * 3 + 1, none⟩ = some (.int .i64 L[j].2.1) ∧ w.cell? ⟨g, j * 3 + 2, none⟩ = some (.int .i64 L[j].2.2) := by
  rcases h.2 with ⟨he, h0⟩ | ⟨g, cap, cur, he, _⟩
  · omega
  · injection he with he _ hc
    subst he
    have hl : ∀ i, i < 3 → j * 3 + i < L.length * 3 := fun i hi => by omega
    have k0 := flat_get encEd_len L j 0 hj (by omega)
    have k1 := flat_get encEd_len L j 1 hj (by omega)
    have k2 := flat_get encEd_len L j 2 hj (by omega)
    refine ⟨g, rfl, own_lt h rfl, fun i => h.frozenAt i, ?_, ?_, ?_⟩
    · have := h.cellAt (j * 3 + 0) (hl 0 (by omega)); rw [k0] at this; simpa [encEd] using this
    · have := h.cellAt (j * 3 + 1) (hl 1 (by omega)); rw [k1] at this; simpa [encEd] using this
    · have := h.cellAt (j * 3 + 2) (hl 2 (by omega)); rw [k2] at this; simpa [encEd] using this
/-- One cell of the row set: the weight of an edge. -/
theorem flat_setw {L : List Ed} {j : Nat} (hj : j < L.length) (x : Int) : (flat encEd L).set (j * 3 + 2) (.int .i64 x) = flat encEd (L.set j (L[j].1, L[j].2.1, x)) := by
  rw [flat_split L j hj, mid_set _ _ _ (j * 3) 2 _ (flat_take_length encEd_len L j hj) (by simp [encEd]), ← flat_mid L j hj]
  rfl
end Edge
end Go.Proofs.YtjpfmkfikidgkaaGreat
