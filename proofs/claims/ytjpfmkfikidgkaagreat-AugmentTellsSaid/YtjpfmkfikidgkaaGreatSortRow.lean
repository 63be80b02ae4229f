/- A row of the call's own that the library sorts. -/
import Derived.Test.YtjpfmkfikidgkaaGreatSep
import Derived.Shelf.SlSortCmp.WholeK
set_option linter.unusedVariables false
set_option linter.unusedSimpArgs false
namespace Go.Proofs.YtjpfmkfikidgkaaGreat
open Go.RowKit Go.Sort
/-- The row's cells are set anew, and blocks are made. -/
theorem own_put {w : World} {e size n g c m : Nat} {xs : List Value} (h : w.ownsRow 0 e size (.slice (some ⟨g, 0, none⟩) n c) n xs) (F : Array Value) (hF : F.size = n * size) (os : Array Obj) :
    (grow (putRow id (Sort.ahead w m) g 0 F) os).ownsRow 0 e size (.slice (some ⟨g, 0, none⟩) n c) n F.toList ∧ Mod [g] w (grow (putRow id (Sort.ahead w m) g 0 F) os) := by
  rcases h.2 with ⟨he, _⟩ | ⟨g', cap, cur, he, hb, hg, hc1, hc2, hc3, hc4⟩
  · cases he
  injection he with e1 e2 e3
  injection e1 with e1
  injection e1 with e1
  subst e1
  subst e3
  have hgl : g < w.heap.size := (Array.getElem?_eq_some_iff.1 hg).1
  have hle : n * size ≤ c * size := Nat.mul_le_mul_right _ hc1
  have hblk : (grow (putRow id (Sort.ahead w m) g 0 F) os).heap[g]? = some (.cells (putCells id 0 F cur) e (0, 0)) := by
    rw [heap_grow_old _ _ (by rw [size_putRow]; exact hgl)]
    show ((Sort.ahead w m).heap.modify g (onCells (putCells id 0 F)))[g]? = _
    rw [Array.getElem?_modify, if_pos rfl, heap_ahead, hg]
    rfl
  refine ⟨⟨by rw [Array.length_toList, hF], .inr ⟨g, c, _, rfl, hb, hblk, hc1, hc2, ?_, ?_⟩⟩, rfl, rfl, rfl, ?_, fun k hk hn => ?_⟩
  · simp [putCells, hc3]
  · apply List.ext_getElem
    · rw [List.length_take, Array.length_toList, Array.length_toList, hF]
      simp only [putCells, Array.size_mapIdx, hc3]
      omega
    · intro i h1 h2
      rw [Array.length_toList] at h2
      rw [List.getElem_take, Array.getElem_toList, Array.getElem_toList]
      simp only [putCells, Array.getElem_mapIdx, Nat.sub_zero, Nat.zero_add]
      rw [if_pos ⟨Nat.zero_le _, h2⟩, getElem!_pos F i h2]
      rfl
  · rw [size_grow, size_putRow]
    show w.heap.size ≤ w.heap.size + os.size
    omega
  · rw [heap_grow_old _ _ (by rw [size_putRow]; exact hk)]
    show ((Sort.ahead w m).heap.modify g (onCells (putCells id 0 F)))[k]? = _
    rw [Array.getElem?_modify, if_neg (fun e => hn (by simp [e])), heap_ahead]
theorem own_holds {w : World} {e size n g c : Nat} {xs : List Value} (h : w.ownsRow 0 e size (.slice (some ⟨g, 0, none⟩) n c) n xs) : Holds id w g 0 xs.toArray := by
  intro j hj
  simp only [List.size_toArray] at hj
  rw [Nat.zero_add, h.cellAt j (by rw [← h.1]; exact hj), h.frozenAt j]
  refine ⟨?_, rfl⟩
  rw [getElem!_pos _ _ (by simpa using hj), List.getElem?_eq_getElem hj]
  rfl
theorem flatK_eq {α : Type} [Inhabited α] {enc : α → List Value} {k : Nat} (hk : ∀ x, (enc x).length = k) (l : List α) : flatK enc k l.toArray = (flat enc l).toArray := by
  rcases Nat.eq_zero_or_pos k with h0 | h0
  · subst h0
    have h1 : (flat enc l).length = 0 := by rw [flat_length hk]; simp
    rw [List.eq_nil_of_length_eq_zero h1]
    have h2 : (flatK enc 0 l.toArray).size = 0 := by rw [size_flatK]; simp
    exact Array.eq_empty_of_size_eq_zero h2
  apply Array.ext
  · rw [size_flatK, List.size_toArray, List.size_toArray, flat_length hk]
  · intro i h1 h2
    rw [size_flatK, List.size_toArray] at h1
    have hj : i / k < l.length := by rw [Nat.div_lt_iff_lt_mul h0]; exact h1
    have hm : i % k < k := Nat.mod_lt _ h0
    have e1 := get_flatK enc k l.toArray i (by rw [List.size_toArray]; exact h1)
    rw [getElem!_pos _ _ (by rw [size_flatK, List.size_toArray]; exact h1)] at e1
    rw [e1]
    have e2 := flat_get hk l (i / k) (i % k) hj hm
    rw [show i / k * k + i % k = i by rw [Nat.mul_comm]; exact Nat.div_add_mod i k] at e2
    rw [List.getElem_toArray]
    have e3 : (flat enc l)[i]? = some ((flat enc l)[i]'(by simpa using h2)) := List.getElem?_eq_getElem _
    rw [e3] at e2
    rw [getElem!_pos l.toArray _ (by simpa using hj)]
    have h3 : i % k < (enc l[i / k]).length := by rw [hk]; exact hm
    rw [List.getElem?_eq_getElem h3] at e2
    simp only [Option.some.injEq] at e2
    rw [e2, getElem!_pos _ _ (by simpa using h3)]
    rfl
theorem own_holdsK {α : Type} [Inhabited α] {enc : α → List Value} {w : World} {e k g c : Nat} (hk : ∀ x, (enc x).length = k) {l : List α} (h : w.ownsRow 0 e k (.slice (some ⟨g, 0, none⟩) l.length c) l.length (flat enc l)) : HoldsK enc k w g 0 l.toArray := by
  unfold HoldsK
  rw [flatK_eq hk]
  exact own_holds h
theorem own_sortedK {α : Type} [Inhabited α] {enc : α → List Value} {w : World} {e k g c m : Nat} (hk : ∀ x, (enc x).length = k) {l l' : List α} (h : w.ownsRow 0 e k (.slice (some ⟨g, 0, none⟩) l.length c) l.length (flat enc l)) (hl : l'.length = l.length) (os : Array Obj) :
    (sortWorldK enc k w g 0 m l'.toArray os).ownsRow 0 e k (.slice (some ⟨g, 0, none⟩) l.length c) l.length (flat enc l') ∧ Mod [g] w (sortWorldK enc k w g 0 m l'.toArray os) := by
  have := own_put (m := m) h (flatK enc k l'.toArray) (by rw [size_flatK, List.size_toArray, hl]) os
  rw [show (flatK enc k l'.toArray).toList = flat enc l' by rw [flatK_eq hk]] at this
  exact this
end Go.Proofs.YtjpfmkfikidgkaaGreat
