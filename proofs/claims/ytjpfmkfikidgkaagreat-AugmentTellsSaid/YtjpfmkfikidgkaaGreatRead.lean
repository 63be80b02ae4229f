/- What an argument's reading as data says of the cells: slices of structs, of numbers; and the step from a walk to a law's row. -/
import Derived.Test.YtjpfmkfikidgkaaGreatKit2
import Derived.Test.YtjpfmkfikidgkaaGreatFlat
import Derived.ProofKit
import Derived.OpenShut
import Derived.ShutString
import Derived.ChangeOld
import Derived.Below
import Derived.Deep.Slices
import Derived.Deep.Fields
import Derived.ChangeSame
set_option linter.unusedVariables false
set_option linter.unusedSimpArgs false
namespace Go.Proofs.YtjpfmkfikidgkaaGreat
open Go.ChangeShapes Go.WideShapes Go.ChangeAt Go.RowKit Go.Deep
open Go.ChangeMaps (open_string shut_string)

theorem flat_ints (k : IntKind) (l : List Int) : flat (fun x => [Value.int k x]) l = l.map fun x => .int k x := by
  induction l with
  | nil => rfl
  | cons a l ih => simp only [flat, List.flatMap_cons, List.map_cons] at ih ⊢; rw [ih]; rfl
theorem own : ownKnob Tryz.prog.godebug = none := by kernel_rfl
theorem laidOut : laidOutB Tryz.prog = true := by kernel_rfl

theorem choose_list {α : Type} {P : Nat → α → Prop} (n : Nat) (h : ∀ i, i < n → ∃ x, P i x) : ∃ l : List α, l.length = n ∧ ∀ i x, l[i]? = some x → P i x := by
  induction n with
  | zero => exact ⟨[], rfl, by simp⟩
  | succ n ih =>
    obtain ⟨l, hl, hp⟩ := ih fun i hi => h i (by omega)
    obtain ⟨x, hx⟩ := h n (by omega)
    refine ⟨l ++ [x], by simp [hl], fun i y hy => ?_⟩
    by_cases hi : i < l.length
    · rw [List.getElem?_append_left hi] at hy; exact hp i y hy
    · have hlt := (List.getElem?_eq_some_iff.1 hy).1
      simp at hlt
      have e : i = l.length := by omega
      subst e
      rw [List.getElem?_append_right (Nat.le_refl _)] at hy
      simp at hy; subst hy; rw [hl]; exact hx
theorem reads_of_elems {α : Type} {enc : α → List Value} {size : Nat} (he : ∀ x, (enc x).length = size) (hs : 0 < size) (w : World) (l : List α) (g o c : Nat) (hlc : l.length ≤ c) (hc : c ≤ maxLen)
    (h : ∀ i x, l[i]? = some x → ∀ r u, (enc x)[r]? = some u → w.cell? ⟨g, o + (i * size + r), none⟩ = some u) :
    Reads w size (.slice (some ⟨g, o, none⟩) l.length c) l.length (flat enc l) := by
  refine ⟨flat_length he l, .inr ⟨g, o, c, rfl, hlc, hc, fun j u hu => ?_⟩⟩
  have hj := (List.getElem?_eq_some_iff.1 hu).1
  rw [flat_length he] at hj
  have hi : j / size < l.length := by rw [Nat.div_lt_iff_lt_mul hs]; exact hj
  have hr : j % size < size := Nat.mod_lt _ hs
  have e : j = j / size * size + j % size := by rw [Nat.mul_comm]; exact (Nat.div_add_mod j size).symm
  rw [e] at hu ⊢
  rw [flat_get he l _ _ hi hr] at hu
  exact h (j / size) _ (List.getElem?_eq_getElem hi) _ u hu
/-- A row that an argument leads to, as the walks want it. -/
def ArgRow (w : World) (size : Nat) (a : Option Addr) (n c : Nat) (xs : List Value) : Prop := 0 < n → Reads w size (.slice a n c) n xs
section
variable {H : Type} {enc : TypeId × Value → H} {w : World} {spare : Nat → Bool} {held : Bool}
/-- A slice whose elements read: each element's cells. -/
theorem open_row {α : Type} {encE : α → List Value} {size t e : Nat} (he : ∀ x, (encE x).length = size) (hs : 0 < size) (ht : Tryz.prog.underlying t = some (.slice e)) (hC : Tryz.prog.cellsOf e = size)
    (hel : ∀ n cs d p, DataW.trod enc Tryz.prog w 0 spare held n e cs = some (d, p) → ∃ x, cs = encE x) {fuel len cap : Nat} {a : Option Addr} {x : DataW H × List MemPlace}
    (h : DataW.trod enc Tryz.prog w 0 spare held fuel t [.slice a len cap] = some x) : ∃ l : List α, l.length = len ∧ ArgRow w size a l.length cap (flat encE l) := by
  rcases open_slice ht h with ⟨h0, _⟩ | ⟨ad, len', cap', m, n, D, Pl, hcs, _, hl, hm, hmm, _, hi⟩
  · simp at h0
    obtain ⟨rfl, rfl, rfl⟩ := h0
    exact ⟨[], rfl, fun h => absurd h (by simp)⟩
  · simp at hcs
    obtain ⟨rfl, rfl, rfl⟩ := hcs
    have hlm : len ≤ m := by rw [hmm]; split <;> omega
    obtain ⟨l, hll, hP⟩ := choose_list (α := α) (P := fun i x => w.cells? 0 (ad.add (i * size)) size = some (encE x)) len (fun i hi' => by
      obtain ⟨cs', h1, h2⟩ := hi i (by omega)
      obtain ⟨x, rfl⟩ := hel _ _ _ _ h2
      rw [hC] at h1
      exact ⟨x, h1⟩)
    refine ⟨l, hll, fun hpos => ?_⟩
    have hcell : ∀ i x, l[i]? = some x → ∀ r u, (encE x)[r]? = some u → w.cell? (ad.add (i * size + r)) = some u := by
      intro i x hx r u hu
      obtain ⟨_, hcl, hat⟩ := World.cells?_some (hP i x hx)
      have hr : r < size := by have := (List.getElem?_eq_some_iff.1 hu).1; rw [he] at this; exact this
      have := hat r hr
      rw [Go.Deep.add_add] at this
      rw [this, hu]
    obtain ⟨x0, hx0⟩ : ∃ x0, l[0]? = some x0 := ⟨l[0]'(by omega), List.getElem?_eq_getElem (by omega)⟩
    obtain ⟨u0, hu0⟩ : ∃ u0, (encE x0)[0]? = some u0 := ⟨(encE x0)[0]'(by rw [he]; exact hs), List.getElem?_eq_getElem _⟩
    have h00 := hcell 0 x0 hx0 0 u0 hu0
    obtain ⟨g, o, spot⟩ := ad
    have hspot : spot = none := by simpa [Addr.add] using World.cell?_spot h00
    subst hspot
    refine reads_of_elems he hs w l g o cap (by omega) hm fun i x hx r u hu => ?_
    have := hcell i x hx r u hu
    rwa [Addr.add_lit] at this
/-- A struct of one-cell fields: each field's own cell, and its reading. -/
theorem fields_of {t : Nat} {fs : Array Field} (ht : Tryz.prog.underlying t = some (.struct fs)) (hone : oneCellFields Tryz.prog fs = true) (hC : Tryz.prog.cellsOf t = fs.size) {n : Nat} {cs : List Value} {x : DataW H × List MemPlace}
    (h : DataW.trod enc Tryz.prog w 0 spare held n t cs = some x) : cs.length = fs.size ∧ ∀ (j : Nat) (f : Field), fs[j]? = some f → ∃ (v : Value) (y : DataW H × List MemPlace) (m : Nat), cs[j]? = some v ∧ DataW.trod enc Tryz.prog w 0 spare held m f.type [v] = some y := by
  obtain ⟨ys, n', hn', hy, hlen, hyl, hf⟩ := DataW.trod_struct ht h
  refine ⟨hlen.trans hC, fun j f hj => ?_⟩
  obtain ⟨ho, hk⟩ := hone_of hone j f hj
  have hjl : j < fs.size := (Array.getElem?_eq_some_iff.1 hj).1
  have h1 := hf j f hj
  rw [ho, hk] at h1
  have hjc : j < cs.length := by rw [hlen, hC]; exact hjl
  have hone' : (cs.drop j).take 1 = [cs[j]] := by
    rw [List.drop_eq_getElem_cons hjc]
    rfl
  rw [hone'] at h1
  have hys : ys[j]? = some (ys[j]'(by omega)) := List.getElem?_eq_getElem (by omega)
  exact ⟨_, _, n', List.getElem?_eq_getElem hjc, h1.trans hys⟩
theorem list3 {l : List Value} {a b c : Value} (hl : l.length = 3) (h0 : l[0]? = some a) (h1 : l[1]? = some b) (h2 : l[2]? = some c) : l = [a, b, c] := by
  apply List.ext_getElem?
  intro i
  rcases i with _ | _ | _ | i
  · simpa using h0
  · simpa using h1
  · simpa using h2
  · rw [List.getElem?_eq_none (by omega)]; simp
theorem list2 {l : List Value} {a b : Value} (hl : l.length = 2) (h0 : l[0]? = some a) (h1 : l[1]? = some b) : l = [a, b] := by
  apply List.ext_getElem?
  intro i
  rcases i with _ | _ | i
  · simpa using h0
  · simpa using h1
  · rw [List.getElem?_eq_none (by omega)]; simp
theorem cell_int {k : IntKind} {e : Nat} (ht : Tryz.prog.underlying e = some (.int k)) {n : Nat} {v : Value} {x : DataW H × List MemPlace} (h : DataW.trod enc Tryz.prog w 0 spare held n e [v] = some x) : ∃ a : Int, v = .int k a := by
  obtain ⟨a, ha, _⟩ := DataW.trod_int ht h
  simp at ha
  exact ⟨a, ha⟩
theorem elem_int {k : IntKind} {e : Nat} (ht : Tryz.prog.underlying e = some (.int k)) : ∀ n cs (d : DataW H) p, DataW.trod enc Tryz.prog w 0 spare held n e cs = some (d, p) → ∃ x : Int, cs = [.int k x] := by
  intro n cs d p h
  obtain ⟨x, rfl, _⟩ := DataW.trod_int ht h
  exact ⟨x, rfl⟩
end
end Go.Proofs.YtjpfmkfikidgkaaGreat
