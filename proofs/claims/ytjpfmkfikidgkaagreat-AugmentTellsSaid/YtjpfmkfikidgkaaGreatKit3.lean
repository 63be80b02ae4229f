/- A row that make lays. -/
import Derived.Test.YtjpfmkfikidgkaaGreatRd
import Derived.Laws.MakeOwn
set_option linter.unusedVariables false
set_option linter.unusedSimpArgs false
namespace Go.Proofs.YtjpfmkfikidgkaaGreat
open Go.RowKit
/-- make([]T, m), T of one cell: laid ahead of go_enter, the walk takes it as a rule. -/
theorem make_run {P : Program} (t e : TypeId) (z : Value) (bytes : Nat) (ht : P.underlying t = some (.slice e)) (hinfo : (P.info? e).map (fun i => (i.zero, i.size, i.bytes)) = some (some z, 1, bytes)) (hz : z.cells = #[z]) (hb0 : 0 < bytes)
    (m : Nat) (hn : m * bytes ≤ 281474976710656) :
    ∀ W : World, (Instr.makeSlice t (.int .i64 (m : Int)) (.int .i64 (m : Int))).run P W = .ok (.slice (some ⟨W.heap.size, 0, none⟩) m m) (W.alloc (.cells (madeCells #[z] m) e)) := by
  intro W
  have hm : m ≤ 281474976710656 := Nat.le_trans (Nat.le_mul_of_pos_right _ hb0) hn
  exact run_make_row' t e z bytes ht hinfo hz .i64 .i64 m (by rw [Nat.mul_comm]; exact hn) (by omega) W
theorem made_made (w : World) (e : Nat) (z : Value) (m : Nat) (hm : m ≤ 1000000000) : Made w (w.alloc (.cells (madeCells #[z] m) e)) e 1 (some ⟨w.heap.size, 0, none⟩) m m (List.replicate m z) := by
  have h := World.ownsRow_lit (base := 0) (e := e) (size := 1) w (madeCells #[z] m) m (Nat.zero_le _) (by simp only [maxLen]; omega) (by simp [size_madeCells])
  have hl : (madeCells #[z] m).toList = List.replicate m z := by
    apply List.ext_getElem
    · simp [madeCells]
    · intro i h1 h2; simp [madeCells, Nat.mod_one]
  rw [hl] at h
  exact ⟨h, (Mod.refl _ _).alloc _, by simp [Value.ownBlock]⟩
theorem Made.form {w w' : World} {e n c : Nat} {a : Option Addr} {xs : List Value} (h : Made w w' e 1 a n c xs) (hn : 0 < n) : ∃ g, a = some ⟨g, 0, none⟩ := by
  rcases h.own.2 with ⟨he, h0⟩ | ⟨g, cap, cur, he, _⟩
  · omega
  · injection he with he; exact ⟨g, he⟩
/-- A cell of an own row is stored. -/
theorem Made.store {w w' : World} {e n c g : Nat} {xs : List Value} (h : Made w w' e 1 (some ⟨g, 0, none⟩) n c xs) (j : Nat) (u : Value) : Made w (w'.setCell ⟨g, j, none⟩ u) e 1 (some ⟨g, 0, none⟩) n c (xs.set j u) := by
  have hg := h.new g rfl
  exact ⟨(h.own.stored j u).1, h.mod.setCell _ _ (fun hlt => by simp only at hlt; omega), h.new⟩
theorem Made.cell {w w' : World} {e n c g : Nat} {xs : List Value} (h : Made w w' e 1 (some ⟨g, 0, none⟩) n c xs) (j : Nat) {u : Value} (hu : xs[j]? = some u) : w'.cell? ⟨g, j, none⟩ = some u := by
  have hj := (List.getElem?_eq_some_iff.1 hu).1
  rw [h.own.cellAt j (by rw [← h.own.1]; exact hj), hu]
theorem Made.drewN {w w' : World} {e size n c : Nat} {a : Option Addr} {xs : List Value} (h : Made w w' e size a n c xs) (k : Nat) : Made w (w'.drewN k) e size a n c xs := h.still ((Mod.refl _ _).drewN k)
end Go.Proofs.YtjpfmkfikidgkaaGreat
