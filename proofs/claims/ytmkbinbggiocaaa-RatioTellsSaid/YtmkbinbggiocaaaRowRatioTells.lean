/- RatioTells: for every number of vertices and every list of cuts the law returns true, and its arguments read as before. Conditions: none. -/
import Derived.Test.YtmkbinbggiocaaaRead2
import Derived.Test.YtmkbinbggiocaaaTells44
set_option linter.unusedVariables false
set_option linter.unusedSimpArgs false
namespace Go.Proofs.Ytmkbinbggiocaaa
open Go.ChangeShapes Go.WideShapes Go.ChangeAt Go.RowKit Go.Deep
open Go.ChangeMaps (open_string shut_string)
section
variable {H : Type} {enc : TypeId × Value → H} {w : World} {spare : Nat → Bool} {held : Bool}
theorem elem_cut : ∀ n cs (d : DataW H) p, DataW.trod enc Try.prog w 0 spare held n 95 cs = some (d, p) → ∃ x : Ratio.CutV, cs = Ratio.encCut x ∧ (Rd w 1 x.2.1 x.2.2.length (Code.vi64 x.2.2) ∧ x.1 ≤ 9223372036854775807) := by
  intro n cs d p h
  obtain ⟨hl, hf⟩ := fields_of Try.underlying95 (by kernel_rfl) (by kernel_rfl) h
  obtain ⟨v0, y0, m0, g0, f0⟩ := hf 0 _ rfl
  obtain ⟨v1, y1, m1, g1, f1⟩ := hf 1 _ rfl
  obtain ⟨W, hn, _, wn⟩ := DataW.trod_int Try.underlying2 f0
  obtain ⟨s, rs, _⟩ := open_nums Try.underlying36 Try.underlying3 (by kernel_rfl) f1
  simp only [List.cons.injEq, and_true] at hn
  subst hn
  exact ⟨(W, v1, s), list2 hl g0 g1, rs, (wf64 wn).2⟩
end
namespace RatioTells
set_option maxRecDepth 100000 in
theorem lifted (os : Os) (started : os.Started) (H : Type) (enc : TypeId × Value → H) :
    ReturnsInHanded {} Try.checked os 9 .any (Rows.ratioTellsSpec.pre6 enc Try.prog Try.f9 Rows.ratioTellsRow.domain false) (Rows.ratioTellsSpec.post enc Try.prog Try.f9 false true false false) := by
  refine returnsInHanded_of_change (C := Try.checked) own started (by kernel_rfl) Try.func9
    (ChangeSpec.witness6 (enc := enc) (C := Try.checked) false ⟨#[], #[.int .i64 0, .slice none 0 0], []⟩ 8 (by kernel_rfl) (by kernel_rfl) (by kernel_rfl) (by kernel_rfl)) ?_
  intro W base args ds gs before hval0 hW hcnd _
  have hval : ∀ (j : Nat) t v, Try.f9.params[j]? = some t → args[j]? = some v → Value.okWide Try.prog W .any base t v := hval0
  have hW' := hW
  obtain ⟨p, q, hA0, hV, rfl, hfz, hnd⟩ := hW
  have hA : DataW.TrodAll enc Try.prog W 0 (fun _ => true) true Try.f9.params.toList args.toList ds p := hA0
  rw [Try.params9] at hA hval
  obtain ⟨v0, vs0, d0, ds0, p0, q0, hargs, rfl, rfl, h0, r0⟩ := trodAll_cons hA
  obtain ⟨v1, vs1, d1, ds1, p1, q1, rfl, rfl, rfl, h1, r1⟩ := trodAll_cons r0
  obtain ⟨rfl, rfl, rfl⟩ := trodAll_nil r1
  obtain rfl : args = #[v0, v1] := by cases args; simp_all
  obtain ⟨rfl, rfl⟩ := trodVars_none hV
  have k0 := h0
  have lt0 : ∀ x ∈ p0, x.block < W.heap.size := by obtain ⟨m, hm⟩ := k0; exact DataW.trod_lt m _ _ _ hm
  have k1 := h1
  have lt1 : ∀ x ∈ p1, x.block < W.heap.size := by obtain ⟨m, hm⟩ := k1; exact DataW.trod_lt m _ _ _ hm
  obtain ⟨x0, rfl, _, _, _⟩ := open_int Try.underlying3 (hval 0 3 v0 rfl rfl) h0
  obtain ⟨l1, hc1⟩ : ∃ l : List Ratio.CutV, Ratio.Cuts W v1 l := by
    obtain ⟨a, len, cap, rfl⟩ := okWide_slice Try.underlying93 (hval 1 93 v1 rfl rfl)
    obtain ⟨fuel, hf⟩ := h1
    obtain ⟨l, hl, hr, hp⟩ := open_rd Ratio.encCut_len (by omega) Try.underlying93 (by kernel_rfl) elem_cut hf
    subst hl
    exact ⟨l, ⟨hr, fun c hc => (hp c hc).1, fun c hc => (hp c hc).2⟩⟩
  clear hA0 hval0
  refine (Ratio.tells_any hc1).mono fun e W' ⟨he, hm⟩ => ?_
  have bel := hm.below
  subst he
  exact ⟨_, rfl, _, _, _, [], _, [], hW', trodAll_mk1 (shut_bool Try.underlying4 _), (trodAll_cons_mk (Below.trod laidOut (by kernel_rfl) (of_decide_eq_true (by kernel_rfl)) k0 bel lt0) (trodAll_cons_mk (Below.trod laidOut (by kernel_rfl) (of_decide_eq_true (by kernel_rfl)) k1 bel lt1) trodAll_mk0)), rfl, bel.frame _, fun h => by cases h⟩
theorem proved : Rows.RatioTellsSaid :=
  OpenClaim.holds_of_wide 9 Try.f9 rfl rfl rfl rfl rfl rfl rfl ⟨rfl, rfl, rfl, rfl, rfl⟩ rfl rfl rfl rfl rfl (by kernel_rfl) Try.func9 (by kernel_rfl)
    (of_decide_eq_true (by kernel_rfl)) (by unfold Func.isWrapper; first | (rw [if_pos (by decide +kernel)]; kernel_rfl) | (rw [if_neg (by decide +kernel)]; exact ⟨rfl, rfl⟩))
    (fun os started H enc _ => lifted os started H enc)
end RatioTells
end Go.Proofs.Ytmkbinbggiocaaa
