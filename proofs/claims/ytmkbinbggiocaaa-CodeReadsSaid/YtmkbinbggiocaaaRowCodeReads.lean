/- CodeReads: for all bytes and every list of calls the law returns true, and its arguments read as before. Conditions: none. -/
import Derived.Test.YtmkbinbggiocaaaRead2
import Derived.Test.YtmkbinbggiocaaaReads45
set_option linter.unusedVariables false
set_option linter.unusedSimpArgs false
namespace Go.Proofs.Ytmkbinbggiocaaa
open Go.ChangeShapes Go.WideShapes Go.ChangeAt Go.RowKit Go.Deep
open Go.ChangeMaps (open_string shut_string)
section
variable {H : Type} {enc : TypeId × Value → H} {w : World} {spare : Nat → Bool} {held : Bool}
theorem elem_opS : ∀ n cs (d : DataW H) p, DataW.trod enc Try.prog w 0 spare held n 78 cs = some (d, p) → ∃ x : Code.OpS, cs = Code.encOpS x ∧ x.2.2.size ≤ 9223372036854775807 := by
  intro n cs d p h
  obtain ⟨hl, hf⟩ := fields_of Try.underlying78 (by kernel_rfl) (by kernel_rfl) h
  obtain ⟨v0, y0, m0, g0, f0⟩ := hf 0 _ rfl
  obtain ⟨v1, y1, m1, g1, f1⟩ := hf 1 _ rfl
  obtain ⟨v2, y2, m2, g2, f2⟩ := hf 2 _ rfl
  obtain ⟨a, rfl⟩ := cell_int Try.underlying3 f0
  obtain ⟨b, rfl⟩ := cell_int Try.underlying3 f1
  obtain ⟨s, hs, _, hw⟩ := DataW.trod_string Try.underlying9 f2
  simp only [List.cons.injEq, and_true] at hs
  subst hs
  exact ⟨(a, b, s), list3 hl g0 g1 g2, by simpa [maxLen] using hw⟩
end
namespace CodeReads
set_option maxRecDepth 100000 in
theorem lifted (os : Os) (started : os.Started) (H : Type) (enc : TypeId × Value → H) :
    ReturnsInHanded {} Try.checked os 7 .any (Rows.codeReadsSpec.pre6 enc Try.prog Try.f7 Rows.codeReadsRow.domain false) (Rows.codeReadsSpec.post enc Try.prog Try.f7 false true false false) := by
  refine returnsInHanded_of_change (C := Try.checked) own started (by kernel_rfl) Try.func7
    (ChangeSpec.witness6 (enc := enc) (C := Try.checked) false ⟨#[], #[.slice none 0 0, .slice none 0 0], []⟩ 8 (by kernel_rfl) (by kernel_rfl) (by kernel_rfl) (by kernel_rfl)) ?_
  intro W base args ds gs before hval0 hW hcnd _
  have hval : ∀ (j : Nat) t v, Try.f7.params[j]? = some t → args[j]? = some v → Value.okWide Try.prog W .any base t v := hval0
  have hW' := hW
  obtain ⟨p, q, hA0, hV, rfl, hfz, hnd⟩ := hW
  have hA : DataW.TrodAll enc Try.prog W 0 (fun _ => true) true Try.f7.params.toList args.toList ds p := hA0
  rw [Try.params7] at hA hval
  obtain ⟨v0, vs0, d0, ds0, p0, q0, hargs, rfl, rfl, h0, r0⟩ := trodAll_cons hA
  obtain ⟨v1, vs1, d1, ds1, p1, q1, rfl, rfl, rfl, h1, r1⟩ := trodAll_cons r0
  obtain ⟨rfl, rfl, rfl⟩ := trodAll_nil r1
  obtain rfl : args = #[v0, v1] := by cases args; simp_all
  obtain ⟨rfl, rfl⟩ := trodVars_none hV
  have k0 := h0
  have lt0 : ∀ x ∈ p0, x.block < W.heap.size := by obtain ⟨m, hm⟩ := k0; exact DataW.trod_lt m _ _ _ hm
  have k1 := h1
  have lt1 : ∀ x ∈ p1, x.block < W.heap.size := by obtain ⟨m, hm⟩ := k1; exact DataW.trod_lt m _ _ _ hm
  obtain ⟨l0, hrd0, hw0⟩ : ∃ l : List Int, Rd W 1 v0 l.length (l.map fun x => .int .u8 x) ∧ ∀ x ∈ l, (Lit.int .u8 x).wf = true := by
    obtain ⟨a, len, cap, rfl⟩ := okWide_slice Try.underlying45 (hval 0 45 v0 rfl rfl)
    obtain ⟨fuel, hf⟩ := h0
    exact open_nums Try.underlying45 Try.underlying5 (by kernel_rfl) hf
  obtain ⟨l1, hrd1, hw1⟩ : ∃ l : List Code.OpS, Rd W 3 v1 l.length (flat Code.encOpS l) ∧ ∀ o ∈ l, o.2.2.size ≤ 9223372036854775807 := by
    obtain ⟨a, len, cap, rfl⟩ := okWide_slice Try.underlying72 (hval 1 72 v1 rfl rfl)
    obtain ⟨fuel, hf⟩ := h1
    obtain ⟨l, hl, hr, hp⟩ := open_rd Code.encOpS_len (by omega) Try.underlying72 (by kernel_rfl) elem_opS hf
    subst hl
    exact ⟨l, hr, hp⟩
  clear hA0 hval0
  refine (Code.reads_all l0 l1 hrd0 hw0 hrd1 hw1).mono fun e W' ⟨he, hm⟩ => ?_
  have bel := hm.below
  subst he
  exact ⟨_, rfl, _, _, _, [], _, [], hW', trodAll_mk1 (shut_bool Try.underlying4 _), (trodAll_cons_mk (Below.trod laidOut (by kernel_rfl) (of_decide_eq_true (by kernel_rfl)) k0 bel lt0) (trodAll_cons_mk (Below.trod laidOut (by kernel_rfl) (of_decide_eq_true (by kernel_rfl)) k1 bel lt1) trodAll_mk0)), rfl, bel.frame _, fun h => by cases h⟩
theorem proved : Rows.CodeReadsSaid :=
  OpenClaim.holds_of_wide 7 Try.f7 rfl rfl rfl rfl rfl rfl rfl ⟨rfl, rfl, rfl, rfl, rfl⟩ rfl rfl rfl rfl rfl (by kernel_rfl) Try.func7 (by kernel_rfl)
    (of_decide_eq_true (by kernel_rfl)) (by unfold Func.isWrapper; first | (rw [if_pos (by decide +kernel)]; kernel_rfl) | (rw [if_neg (by decide +kernel)]; exact ⟨rfl, rfl⟩))
    (fun os started H enc _ => lifted os started H enc)
end CodeReads
end Go.Proofs.Ytmkbinbggiocaaa
