/- A part of a row of numbers of the call's own that the library sorts by a function. -/
import Derived.Test.YtjpfmkfikidgkaaGreatSortRow
import Derived.Shelf.SlSortCmp.Whole1
set_option linter.unusedVariables false
set_option linter.unusedSimpArgs false
namespace Go.Proofs.YtjpfmkfikidgkaaGreat
open Go.RowKit Go.Sort
theorem put_mod {α : Type} [Inhabited α] (enc : α → Value) (w : World) (g off m : Nat) (d : Array α) (os : Array Obj) : Mod [g] w (sortWorld enc w g off m d os) := by
  refine ⟨rfl, rfl, rfl, ?_, fun k hk hn => ?_⟩
  · unfold sortWorld
    rw [size_grow, size_putRow]
    show w.heap.size ≤ w.heap.size + os.size
    omega
  · unfold sortWorld
    rw [heap_grow_old _ _ (by rw [size_putRow]; exact hk)]
    show ((Sort.ahead w m).heap.modify g (onCells (putCells enc off d)))[k]? = _
    rw [Array.getElem?_modify, if_neg (fun e => hn (by simp [e])), heap_ahead]
/-- A part of the row is set anew, and blocks are made. -/
theorem own_put_at {α : Type} [Inhabited α] {enc : α → Value} {w : World} {e n g c m : Nat} {A B C : List Value} (h : w.ownsRow 0 e 1 (.slice (some ⟨g, 0, none⟩) n c) n (A ++ B ++ C)) (d : Array α) (hd : d.size = B.length) (os : Array Obj) :
    (sortWorld enc w g A.length m d os).ownsRow 0 e 1 (.slice (some ⟨g, 0, none⟩) n c) n (A ++ d.toList.map enc ++ C) := by
  rcases h.2 with ⟨he, _⟩ | ⟨g', cap, cur, he, hb, hg, hc1, hc2, hc3, hc4⟩
  · cases he
  injection he with e1 e2 e3
  injection e1 with e1
  injection e1 with e1
  subst e1
  subst e3
  have hgl : g < w.heap.size := (Array.getElem?_eq_some_iff.1 hg).1
  have hlen := h.1
  have hblk : (sortWorld enc w g A.length m d os).heap[g]? = some (.cells (putCells enc A.length d cur) e (0, 0)) := by
    unfold sortWorld
    rw [heap_grow_old _ _ (by rw [size_putRow]; exact hgl)]
    show ((Sort.ahead w m).heap.modify g (onCells (putCells enc A.length d)))[g]? = _
    rw [Array.getElem?_modify, if_pos rfl, heap_ahead, hg]
    rfl
  refine ⟨by simpa [hd] using hlen, .inr ⟨g, c, _, rfl, hb, hblk, hc1, hc2, ?_, ?_⟩⟩
  · simp [putCells, hc3]
  · have hl2 : (A ++ B ++ C).length = n := by simpa using hlen
    apply List.ext_getElem?
    intro i
    have hi := congrArg (fun l : List Value => l[i]?) hc4
    simp only [Nat.mul_one, List.getElem?_take] at hi ⊢
    simp only [List.length_append] at hl2
    by_cases hin : i < n
    · rw [if_pos hin] at hi ⊢
      have hic : i < cur.size := by omega
      rw [Array.getElem?_toList, Array.getElem?_eq_getElem hic] at hi
      rw [Array.getElem?_toList, Array.getElem?_eq_getElem (by simpa [putCells] using hic)]
      simp only [putCells, Array.getElem_mapIdx]
      by_cases ha : i < A.length
      · rw [if_neg (by omega), hi, List.append_assoc, List.append_assoc, List.getElem?_append_left ha, List.getElem?_append_left ha]
      · by_cases hbb : i < A.length + B.length
        · rw [if_pos ⟨by omega, by omega⟩, List.append_assoc, List.getElem?_append_right (by omega), List.getElem?_append_left (by simp; omega), getElem!_pos d (i - A.length) (by omega)]
          simp [show i - A.length < d.size by omega]
        · rw [if_neg (by omega), hi, List.getElem?_append_right (by simp; omega), List.getElem?_append_right (by simp; omega)]
          simp [hd]
    · rw [if_neg hin] at hi ⊢
      rw [List.getElem?_eq_none]
      simp [hd]; omega
theorem own_holds_at {α : Type} [Inhabited α] {enc : α → Value} {w : World} {e n g c : Nat} {A C : List Value} {d : Array α} (h : w.ownsRow 0 e 1 (.slice (some ⟨g, 0, none⟩) n c) n (A ++ d.toList.map enc ++ C)) : Holds enc w g A.length d := by
  intro j hj
  have hl := h.1
  simp only [List.length_append, List.length_map, Array.length_toList] at hl
  rw [h.cellAt (A.length + j) (by omega), h.frozenAt (A.length + j)]
  refine ⟨?_, rfl⟩
  rw [List.append_assoc, List.getElem?_append_right (by omega), Nat.add_sub_cancel_left, List.getElem?_append_left (by simpa using hj)]
  simp [hj]
end Go.Proofs.YtjpfmkfikidgkaaGreat
