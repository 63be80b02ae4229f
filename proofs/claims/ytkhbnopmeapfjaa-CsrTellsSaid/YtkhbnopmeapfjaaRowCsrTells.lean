/- CsrTells: for every number of vertices, list of edges and pair of numbers the law returns true, and its arguments read as before. Conditions: none. -/
import Derived.Test.YtkhbnopmeapfjaaRead2
import Derived.Test.YtkhbnopmeapfjaaTells19
set_option linter.unusedVariables false
set_option linter.unusedSimpArgs false
namespace Go.Proofs.Ytkhbnopmeapfjaa
open Go.ChangeShapes Go.WideShapes Go.ChangeAt Go.RowKit Go.Deep
open Go.ChangeMaps (open_string shut_string)
section
variable {H : Type} {enc : TypeId × Value → H} {w : World} {spare : Nat → Bool} {held : Bool}
theorem elem_ed19 : ∀ n cs (d : DataW H) p, DataW.trod enc Try.prog w 0 spare held n 41 cs = some (d, p) → ∃ x : Edge.Ed, cs = Edge.encEd x ∧ True := by
  intro n cs d p h
  obtain ⟨hl, hf⟩ := fields_of Try.underlying41 (by kernel_rfl) (by kernel_rfl) h
  obtain ⟨v0, y0, m0, g0, f0⟩ := hf 0 _ rfl
  obtain ⟨v1, y1, m1, g1, f1⟩ := hf 1 _ rfl
  obtain ⟨v2, y2, m2, g2, f2⟩ := hf 2 _ rfl
  obtain ⟨a, rfl⟩ := cell_int Try.underlying3 f0
  obtain ⟨b, rfl⟩ := cell_int Try.underlying3 f1
  obtain ⟨c, rfl⟩ := cell_int Try.underlying2 f2
  exact ⟨(a, b, c), list3 hl g0 g1 g2, trivial⟩
end
section
variable {H : Type} {enc : TypeId × Value → H} {w : World} {spare : Nat → Bool} {held : Bool}
theorem okWide_pair19 {P : Program} {w : World} {t n e : Nat} (ht : P.underlying t = some (.array n e)) {r : Reach} {base : Nat} {v : Value} (h : Value.okWide P w r base t v) : ∃ cs, v = .agg cs := by
  simp only [Value.okWide, ht] at h
  obtain ⟨cs, h1, _⟩ := h
  exact ⟨cs, h1⟩
theorem cell_intW19 {k : IntKind} {e : Nat} (ht : Try.prog.underlying e = some (.int k)) {n : Nat} {v : Value} {d : DataW H} {p : List MemPlace} (h : DataW.trod enc Try.prog w 0 spare held n e [v] = some (d, p)) : ∃ a : Int, v = .int k a ∧ (Lit.int k a).wf = true := by
  obtain ⟨a, ha, _, hw⟩ := DataW.trod_int ht h
  simp only [List.cons.injEq, and_true] at ha
  exact ⟨a, ha, hw⟩
theorem open_pair19 {v : Value} (hval : ∃ cs, v = .agg cs) {d : DataW H} {p : List MemPlace} (h : DataW.Trod enc Try.prog w 0 spare held 34 v d p) : ∃ a b : Int, v = .agg #[.int .i64 a, .int .i64 b] ∧ (Lit.int .i64 a).wf = true ∧ (Lit.int .i64 b).wf = true := by
  obtain ⟨cs, rfl⟩ := hval
  obtain ⟨fuel, hf⟩ := h
  have hf' : DataW.trod enc Try.prog w 0 spare held fuel 34 cs.toList = some (d, p) := by simpa [Value.cells] using hf
  obtain ⟨xs, m, _, _, hl, hx, hi⟩ := DataW.trod_array Try.underlying34 hf'
  have hC : Try.prog.cellsOf 34 = 2 := by kernel_rfl
  have hE : Try.prog.cellsOf 3 = 1 := by kernel_rfl
  rw [hC] at hl
  rw [hE] at hi
  obtain ⟨c0, c1, hcs⟩ : ∃ c0 c1, cs.toList = [c0, c1] := by
    match hh : cs.toList, hl with
    | [a, b], _ => exact ⟨a, b, rfl⟩
  rw [hcs] at hi
  have i0 := hi 0 (by omega)
  have i1 := hi 1 (by omega)
  rw [List.getElem?_eq_getElem (by omega)] at i0 i1
  obtain ⟨a, e0, wa⟩ := cell_intW19 Try.underlying3 (v := c0) i0
  obtain ⟨b, e1, wb⟩ := cell_intW19 Try.underlying3 (v := c1) i1
  subst e0
  subst e1
  refine ⟨a, b, ?_, wa, wb⟩
  have e : cs = cs.toList.toArray := by simp
  rw [e, hcs]
end
namespace CsrTells
set_option maxRecDepth 100000 in
theorem lifted (os : Os) (started : os.Started) (H : Type) (enc : TypeId × Value → H) :
    ReturnsInHanded {} Try.checked os 5 .any (Rows.csrTellsSpec.pre6 enc Try.prog Try.f5 Rows.csrTellsRow.domain false) (Rows.csrTellsSpec.post enc Try.prog Try.f5 false true false false) := by
  refine returnsInHanded_of_change (C := Try.checked) own started (by kernel_rfl) Try.func5
    (ChangeSpec.witness6 (enc := enc) (C := Try.checked) false ⟨#[], #[.int .u8 0, .slice none 0 0, .agg #[.int .i64 0, .int .i64 0]], []⟩ 8 (by kernel_rfl) (by kernel_rfl) (by kernel_rfl) (by kernel_rfl)) ?_
  intro W base args ds gs before hval0 hW hcnd _
  have hval : ∀ (j : Nat) t v, Try.f5.params[j]? = some t → args[j]? = some v → Value.okWide Try.prog W .any base t v := hval0
  have hW' := hW
  obtain ⟨p, q, hA0, hV, rfl, hfz, hnd⟩ := hW
  have hA : DataW.TrodAll enc Try.prog W 0 (fun _ => true) true Try.f5.params.toList args.toList ds p := hA0
  rw [Try.params5] at hA hval
  obtain ⟨v0, vs0, d0, ds0, p0, q0, hargs, rfl, rfl, h0, r0⟩ := trodAll_cons hA
  obtain ⟨v1, vs1, d1, ds1, p1, q1, rfl, rfl, rfl, h1, r1⟩ := trodAll_cons r0
  obtain ⟨v2, vs2, d2, ds2, p2, q2, rfl, rfl, rfl, h2, r2⟩ := trodAll_cons r1
  obtain ⟨rfl, rfl, rfl⟩ := trodAll_nil r2
  obtain rfl : args = #[v0, v1, v2] := by cases args; simp_all
  obtain ⟨rfl, rfl⟩ := trodVars_none hV
  have k0 := h0
  have lt0 : ∀ x ∈ p0, x.block < W.heap.size := by obtain ⟨m, hm⟩ := k0; exact DataW.trod_lt m _ _ _ hm
  have k1 := h1
  have lt1 : ∀ x ∈ p1, x.block < W.heap.size := by obtain ⟨m, hm⟩ := k1; exact DataW.trod_lt m _ _ _ hm
  have k2 := h2
  have lt2 : ∀ x ∈ p2, x.block < W.heap.size := by obtain ⟨m, hm⟩ := k2; exact DataW.trod_lt m _ _ _ hm
  obtain ⟨x0, rfl, _, _, hw0⟩ := open_int Try.underlying5 (hval 0 5 v0 rfl rfl) h0
  obtain ⟨n0, hn0, rfl⟩ : ∃ n : Nat, n ≤ 255 ∧ x0 = (n : Int) := ⟨x0.toNat, by have := wf8 hw0; omega, by have := wf8 hw0; omega⟩
  obtain ⟨l1, hrd1⟩ : ∃ l : List Edge.Ed, Rd W 3 v1 l.length (flat Edge.encEd l) := by
    obtain ⟨a, len, cap, rfl⟩ := okWide_slice Try.underlying22 (hval 1 22 v1 rfl rfl)
    obtain ⟨fuel, hf⟩ := h1
    obtain ⟨l, hl, hr, _⟩ := open_rd Edge.encEd_len (by omega) Try.underlying22 (by kernel_rfl) elem_ed19 hf
    subst hl
    exact ⟨l, hr⟩
  obtain ⟨a2, b2, rfl, wa2, wb2⟩ := open_pair19 (okWide_pair19 Try.underlying34 (hval 2 34 v2 rfl rfl)) h2
  clear hA0 hval0
  refine (Edge.tells19_any n0 hn0 a2 b2 (wf64 wa2).2 hrd1).mono fun e W' ⟨he, hm⟩ => ?_
  have bel := hm.below
  subst he
  exact ⟨_, rfl, _, _, _, [], _, [], hW', trodAll_mk1 (shut_bool Try.underlying4 _), (trodAll_cons_mk (Below.trod laidOut (by kernel_rfl) (of_decide_eq_true (by kernel_rfl)) k0 bel lt0) (trodAll_cons_mk (Below.trod laidOut (by kernel_rfl) (of_decide_eq_true (by kernel_rfl)) k1 bel lt1) (trodAll_cons_mk (Below.trod laidOut (by kernel_rfl) (of_decide_eq_true (by kernel_rfl)) k2 bel lt2) trodAll_mk0))), rfl, bel.frame _, fun h => by cases h⟩
theorem proved : Rows.CsrTellsSaid :=
  OpenClaim.holds_of_wide 5 Try.f5 rfl rfl rfl rfl rfl rfl rfl ⟨rfl, rfl, rfl, rfl, rfl⟩ rfl rfl rfl rfl rfl (by kernel_rfl) Try.func5 (by kernel_rfl)
    (of_decide_eq_true (by kernel_rfl)) (by unfold Func.isWrapper; first | (rw [if_pos (by decide +kernel)]; kernel_rfl) | (rw [if_neg (by decide +kernel)]; exact ⟨rfl, rfl⟩))
    (fun os started H enc _ => lifted os started H enc)
end CsrTells
end Go.Proofs.Ytkhbnopmeapfjaa
