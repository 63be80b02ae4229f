/- PheapPlays: for every room and every list of calls the law returns true, and its arguments read as before. Conditions: none. -/
import Derived.Test.YtmkbinbggiocaaaRead2
import Derived.Test.YtmkbinbggiocaaaPlays12
set_option linter.unusedVariables false
set_option linter.unusedSimpArgs false
namespace Go.Proofs.Ytmkbinbggiocaaa
open Go.ChangeShapes Go.WideShapes Go.ChangeAt Go.RowKit Go.Deep
open Go.ChangeMaps (open_string shut_string)
section
variable {H : Type} {enc : TypeId × Value → H} {w : World} {spare : Nat → Bool} {held : Bool}
theorem elem_op12 : ∀ n cs (d : DataW H) p, DataW.trod enc Try.prog w 0 spare held n 118 cs = some (d, p) → ∃ x : Ref12.OpV, cs = Ref12.encOp x := by
  intro n cs d p h
  obtain ⟨hl, hf⟩ := fields_of Try.underlying118 (by kernel_rfl) (by kernel_rfl) h
  obtain ⟨v0, y0, m0, g0, f0⟩ := hf 0 _ rfl
  obtain ⟨v1, y1, m1, g1, f1⟩ := hf 1 _ rfl
  obtain ⟨v2, y2, m2, g2, f2⟩ := hf 2 _ rfl
  obtain ⟨a, rfl⟩ := cell_int Try.underlying3 f0
  obtain ⟨b, rfl⟩ := cell_int Try.underlying3 f1
  obtain ⟨c, rfl⟩ := cell_int Try.underlying2 f2
  exact ⟨(a, b, c), list3 hl g0 g1 g2⟩
end
namespace PheapPlays
set_option maxRecDepth 100000 in
theorem lifted (os : Os) (started : os.Started) (H : Type) (enc : TypeId × Value → H) :
    ReturnsInHanded {} Try.checked os 11 .any (Rows.pheapPlaysSpec.pre6 enc Try.prog Try.f11 Rows.pheapPlaysRow.domain false) (Rows.pheapPlaysSpec.post enc Try.prog Try.f11 false true false false) := by
  refine returnsInHanded_of_change (C := Try.checked) own started (by kernel_rfl) Try.func11
    (ChangeSpec.witness6 (enc := enc) (C := Try.checked) false ⟨#[], #[.int .i64 0, .slice none 0 0], []⟩ 8 (by kernel_rfl) (by kernel_rfl) (by kernel_rfl) (by kernel_rfl)) ?_
  intro W base args ds gs before hval0 hW hcnd _
  have hval : ∀ (j : Nat) t v, Try.f11.params[j]? = some t → args[j]? = some v → Value.okWide Try.prog W .any base t v := hval0
  have hW' := hW
  obtain ⟨p, q, hA0, hV, rfl, hfz, hnd⟩ := hW
  have hA : DataW.TrodAll enc Try.prog W 0 (fun _ => true) true Try.f11.params.toList args.toList ds p := hA0
  rw [Try.params11] at hA hval
  obtain ⟨v0, vs0, d0, ds0, p0, q0, hargs, rfl, rfl, h0, r0⟩ := trodAll_cons hA
  obtain ⟨v1, vs1, d1, ds1, p1, q1, rfl, rfl, rfl, h1, r1⟩ := trodAll_cons r0
  obtain ⟨rfl, rfl, rfl⟩ := trodAll_nil r1
  obtain rfl : args = #[v0, v1] := by cases args; simp_all
  obtain ⟨rfl, rfl⟩ := trodVars_none hV
  have k0 := h0
  have lt0 : ∀ x ∈ p0, x.block < W.heap.size := by obtain ⟨m, hm⟩ := k0; exact DataW.trod_lt m _ _ _ hm
  have k1 := h1
  have lt1 : ∀ x ∈ p1, x.block < W.heap.size := by obtain ⟨m, hm⟩ := k1; exact DataW.trod_lt m _ _ _ hm
  obtain ⟨x0, rfl, _, _, _⟩ := open_int Try.underlying3 (hval 0 3 v0 rfl rfl) h0
  obtain ⟨a1, len1, c1, rfl⟩ := okWide_slice Try.underlying111 (hval 1 111 v1 rfl rfl)
  obtain ⟨l1, hlen1, hrow1⟩ : ∃ l : List (Ref12.OpV), l.length = len1 ∧ ArgRow W 3 a1 l.length c1 (flat (Ref12.encOp) l) := by
    obtain ⟨fuel, hf⟩ := h1
    exact open_row (size := 3) (Ref12.encOp_len) (by omega) Try.underlying111 (by kernel_rfl) (elem_op12) hf
  subst hlen1
  clear hA0 hval0
  refine (Ref12.plays_any x0 a1 c1 l1 W hrow1).mono fun e W' ⟨he, hm⟩ => ?_
  have bel := hm.below
  subst he
  exact ⟨_, rfl, _, _, _, [], _, [], hW', trodAll_mk1 (shut_bool Try.underlying4 _), (trodAll_cons_mk (Below.trod laidOut (by kernel_rfl) (of_decide_eq_true (by kernel_rfl)) k0 bel lt0) (trodAll_cons_mk (Below.trod laidOut (by kernel_rfl) (of_decide_eq_true (by kernel_rfl)) k1 bel lt1) trodAll_mk0)), rfl, bel.frame _, fun h => by cases h⟩
theorem proved : Rows.PheapPlaysSaid :=
  OpenClaim.holds_of_wide 11 Try.f11 rfl rfl rfl rfl rfl rfl rfl ⟨rfl, rfl, rfl, rfl, rfl⟩ rfl rfl rfl rfl rfl (by kernel_rfl) Try.func11 (by kernel_rfl)
    (of_decide_eq_true (by kernel_rfl)) (by unfold Func.isWrapper; first | (rw [if_pos (by decide +kernel)]; kernel_rfl) | (rw [if_neg (by decide +kernel)]; exact ⟨rfl, rfl⟩))
    (fun os started H enc _ => lifted os started H enc)
end PheapPlays
end Go.Proofs.Ytmkbinbggiocaaa
