/- Arguments read: slices of one-cell elements with a property, structs by value. -/
import Derived.Test.YtjpfmkfikidgkaaGreatRead
import Derived.Test.YtjpfmkfikidgkaaGreatRd
set_option linter.unusedVariables false
set_option linter.unusedSimpArgs false
namespace Go.Proofs.YtjpfmkfikidgkaaGreat
open Go.ChangeShapes Go.WideShapes Go.ChangeAt Go.RowKit Go.Deep
theorem wf64 {x : Int} (h : (Lit.int .i64 x).wf = true) : -9223372036854775808 ≤ x ∧ x ≤ 9223372036854775807 := by
  simp only [Lit.wf, Bool.and_eq_true, decide_eq_true_eq] at h
  have h1 : IntKind.i64.min = -9223372036854775808 := by decide
  have h2 : IntKind.i64.max = 9223372036854775807 := by decide
  omega
theorem wf8 {x : Int} (h : (Lit.int .u8 x).wf = true) : 0 ≤ x ∧ x < 256 := by
  simp only [Lit.wf, Bool.and_eq_true, decide_eq_true_eq] at h
  have h1 : IntKind.u8.min = 0 := by decide
  have h2 : IntKind.u8.max = 255 := by decide
  omega
section
variable {H : Type} {enc : TypeId × Value → H} {w : World} {spare : Nat → Bool} {held : Bool}
theorem open_rd {α : Type} {encE : α → List Value} {Pr : α → Prop} {size t e : Nat} (he : ∀ x, (encE x).length = size) (hs : 0 < size) (ht : Tryz.prog.underlying t = some (.slice e)) (hC : Tryz.prog.cellsOf e = size)
    (hel : ∀ n cs d p, DataW.trod enc Tryz.prog w 0 spare held n e cs = some (d, p) → ∃ x, cs = encE x ∧ Pr x) {fuel len cap : Nat} {a : Option Addr} {x : DataW H × List MemPlace}
    (h : DataW.trod enc Tryz.prog w 0 spare held fuel t [.slice a len cap] = some x) : ∃ l : List α, l.length = len ∧ Rd w size (.slice a len cap) len (flat encE l) ∧ ∀ x ∈ l, Pr x := by
  rcases open_slice ht h with ⟨h0, _⟩ | ⟨ad, len', cap', m, n, D, Pl, hcs, _, hl, hm, hmm, _, hi⟩
  · simp at h0
    obtain ⟨rfl, rfl, rfl⟩ := h0
    exact ⟨[], rfl, Rd.nil _ _, by simp⟩
  · simp at hcs
    obtain ⟨rfl, rfl, rfl⟩ := hcs
    have hlm : len ≤ m := by rw [hmm]; split <;> omega
    obtain ⟨l, hll, hP⟩ := choose_list (α := α) (P := fun i x => w.cells? 0 (ad.add (i * size)) size = some (encE x) ∧ Pr x) len (fun i hi' => by
      obtain ⟨cs', h1, h2⟩ := hi i (by omega)
      obtain ⟨x, rfl, hx⟩ := hel _ _ _ _ h2
      rw [hC] at h1
      exact ⟨x, h1, hx⟩)
    have hcell : ∀ i x, l[i]? = some x → ∀ r u, (encE x)[r]? = some u → w.cell? (ad.add (i * size + r)) = some u := by
      intro i x hx r u hu
      obtain ⟨_, hcl, hat⟩ := World.cells?_some (hP i x hx).1
      have hr : r < size := by have := (List.getElem?_eq_some_iff.1 hu).1; rw [he] at this; exact this
      have := hat r hr
      rw [Go.Deep.add_add] at this
      rw [this, hu]
    refine ⟨l, hll, ⟨?_, .inr ⟨ad, cap, rfl, by omega, hm, fun j u hu => ?_⟩⟩, fun x hx => ?_⟩
    · rw [← hll]
      clear hcell hP hll hi h
      induction l with
      | nil => simp [flat]
      | cons y l ih => simp only [flat, List.flatMap_cons, List.length_append, he, List.length_cons] at ih ⊢; rw [ih, Nat.add_mul]; omega
    · have hj : j < (flat encE l).length := (List.getElem?_eq_some_iff.1 hu).1
      have hi' : j / size < l.length := by
        rw [Nat.div_lt_iff_lt_mul hs]
        refine Nat.lt_of_lt_of_le hj (Nat.le_of_eq ?_)
        clear hcell hP hll hi h hu hj
        induction l with
        | nil => simp [flat]
        | cons y l ih => simp only [flat, List.flatMap_cons, List.length_append, he, List.length_cons] at ih ⊢; rw [ih, Nat.add_mul]; omega
      have hr : j % size < size := Nat.mod_lt _ hs
      have hjd : j = (j / size) * size + j % size := by rw [Nat.mul_comm]; exact (Nat.div_add_mod j size).symm
      rw [hjd] at hu ⊢
      rw [flat_get he l _ _ hi' hr] at hu
      exact hcell (j / size) _ (List.getElem?_eq_getElem hi') _ u hu
    · obtain ⟨i, hi2, rfl⟩ := List.getElem_of_mem hx
      exact (hP i _ (List.getElem?_eq_getElem hi2)).2
/-- An integer's cell: the number is one of its kind. -/
theorem elem_intw {k : IntKind} {e : Nat} (ht : Tryz.prog.underlying e = some (.int k)) : ∀ n cs (d : DataW H) p, DataW.trod enc Tryz.prog w 0 spare held n e cs = some (d, p) → ∃ x : Int, cs = [.int k x] ∧ (Lit.int k x).wf = true := by
  intro n cs d p h
  obtain ⟨x, rfl, _, hw⟩ := DataW.trod_int ht h
  exact ⟨x, rfl, hw⟩
/-- A slice of numbers. -/
theorem open_nums {k : IntKind} {t e : Nat} (ht : Tryz.prog.underlying t = some (.slice e)) (he : Tryz.prog.underlying e = some (.int k)) (hC : Tryz.prog.cellsOf e = 1) {fuel : Nat} {v : Value} {x : DataW H × List MemPlace}
    (h : DataW.trod enc Tryz.prog w 0 spare held fuel t [v] = some x) : ∃ l : List Int, Rd w 1 v l.length (l.map fun x => .int k x) ∧ ∀ x ∈ l, (Lit.int k x).wf = true := by
  have hv : ∃ a len cap, v = .slice a len cap := by
    rcases open_slice ht h with ⟨h0, _⟩ | ⟨ad, len', cap', m, n, D, Pl, hcs, _⟩
    · exact ⟨none, 0, 0, by simpa using h0⟩
    · exact ⟨some ad, len', cap', by simpa using hcs⟩
  obtain ⟨a, len, cap, rfl⟩ := hv
  have ho := open_rd (α := Int) (encE := fun x => [Value.int k x]) (Pr := fun x => (Lit.int k x).wf = true) (size := 1) (fun _ => by simp) (by omega) ht hC (elem_intw he) h
  obtain ⟨l, hl, hr, hp⟩ := ho
  rw [flat_ints] at hr
  subst hl
  exact ⟨l, hr, hp⟩
/-- A struct by value: its cells. -/
theorem open_agg {t : Nat} {fs : Array Field} (ht : Tryz.prog.underlying t = some (.struct fs)) {v : Value} (hval : ∃ cs, v = .agg cs) {d : DataW H} {p : List MemPlace}
    (h : DataW.Trod enc Tryz.prog w 0 spare held t v d p) : ∃ cs : List Value, v = .agg cs.toArray ∧ ∃ fuel, DataW.trod enc Tryz.prog w 0 spare held fuel t cs = some (d, p) := by
  obtain ⟨cs, rfl⟩ := hval
  obtain ⟨fuel, hf⟩ := h
  exact ⟨cs.toList, by simp, fuel, by simpa [Value.cells] using hf⟩
end
end Go.Proofs.YtjpfmkfikidgkaaGreat
