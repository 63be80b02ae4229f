/- ContractTells: for every number of vertices, list of edges, naming and pair of numbers the law returns true, and its arguments read as before. Conditions: none. -/
import Derived.Test.YtkhbnopmeapfjaaRead2
import Derived.Test.YtkhbnopmeapfjaaTells40
set_option linter.unusedVariables false
set_option linter.unusedSimpArgs false
namespace Go.Proofs.Ytkhbnopmeapfjaa
open Go.ChangeShapes Go.WideShapes Go.ChangeAt Go.RowKit Go.Deep
open Go.ChangeMaps (open_string shut_string)
section
variable {H : Type} {enc : TypeId × Value → H} {w : World} {spare : Nat → Bool} {held : Bool}
theorem elem_ed40 : ∀ n cs (d : DataW H) p, DataW.trod enc Try.prog w 0 spare held n 41 cs = some (d, p) → ∃ x : Edge.Ed, cs = Edge.encEd x ∧ True := by
  intro n cs d p h
  obtain ⟨hl, hf⟩ := fields_of Try.underlying41 (by kernel_rfl) (by kernel_rfl) h
  obtain ⟨v0, y0, m0, g0, f0⟩ := hf 0 _ rfl
  obtain ⟨v1, y1, m1, g1, f1⟩ := hf 1 _ rfl
  obtain ⟨v2, y2, m2, g2, f2⟩ := hf 2 _ rfl
  obtain ⟨a, rfl⟩ := cell_int Try.underlying3 f0
  obtain ⟨b, rfl⟩ := cell_int Try.underlying3 f1
  obtain ⟨c, rfl⟩ := cell_int Try.underlying2 f2
  exact ⟨(a, b, c), list3 hl g0 g1 g2, trivial⟩
end
section
variable {H : Type} {enc : TypeId × Value → H} {w : World} {spare : Nat → Bool} {held : Bool}
theorem list4 {l : List Value} {a b c d : Value} (hl : l.length = 4) (h0 : l[0]? = some a) (h1 : l[1]? = some b) (h2 : l[2]? = some c) (h3 : l[3]? = some d) : l = [a, b, c, d] := by
  match l, hl with
  | [x, y, z, t], _ =>
    simp only [List.getElem?_cons_zero, List.getElem?_cons_succ, Option.some.injEq] at h0 h1 h2 h3
    subst h0
    subst h1
    subst h2
    subst h3
    rfl
theorem open_ask40 {v : Value} (hval : ∃ cs, v = .agg cs) {d : DataW H} {p : List MemPlace} (h : DataW.Trod enc Try.prog w 0 spare held 60 v d p) :
    ∃ (K : Int) (va : Value) (u z : Int) (la : List Int), v = .agg #[.int .i64 K, va, .int .i64 u, .int .i64 z] ∧ Rd w 1 va la.length (i64s la) := by
  obtain ⟨cs, rfl, fuel, hf⟩ := open_agg Try.underlying60 hval h
  obtain ⟨hl, hf⟩ := fields_of Try.underlying60 (by kernel_rfl) (by kernel_rfl) hf
  obtain ⟨v0, y0, m0, g0, f0⟩ := hf 0 _ rfl
  obtain ⟨v1, y1, m1, g1, f1⟩ := hf 1 _ rfl
  obtain ⟨v2, y2, m2, g2, f2⟩ := hf 2 _ rfl
  obtain ⟨v3, y3, m3, g3, f3⟩ := hf 3 _ rfl
  obtain ⟨K, rfl⟩ := cell_int Try.underlying3 f0
  obtain ⟨la, ra, wa⟩ := open_nums Try.underlying29 Try.underlying3 (by kernel_rfl) f1
  obtain ⟨u, rfl⟩ := cell_int Try.underlying3 f2
  obtain ⟨z, rfl⟩ := cell_int Try.underlying3 f3
  have e := list4 hl g0 g1 g2 g3
  subst e
  exact ⟨K, v1, u, z, la, rfl, ra⟩
end
namespace ContractTells
set_option maxRecDepth 100000 in
theorem lifted (os : Os) (started : os.Started) (H : Type) (enc : TypeId × Value → H) :
    ReturnsInHanded {} Try.checked os 8 .any (Rows.contractTellsSpec.pre6 enc Try.prog Try.f8 Rows.contractTellsRow.domain false) (Rows.contractTellsSpec.post enc Try.prog Try.f8 false true false false) := by
  refine returnsInHanded_of_change (C := Try.checked) own started (by kernel_rfl) Try.func8
    (ChangeSpec.witness6 (enc := enc) (C := Try.checked) false ⟨#[], #[.int .u8 0, .slice none 0 0, .agg #[.int .i64 0, .slice none 0 0, .int .i64 0, .int .i64 0]], []⟩ 8 (by kernel_rfl) (by kernel_rfl) (by kernel_rfl) (by kernel_rfl)) ?_
  intro W base args ds gs before hval0 hW hcnd _
  have hval : ∀ (j : Nat) t v, Try.f8.params[j]? = some t → args[j]? = some v → Value.okWide Try.prog W .any base t v := hval0
  have hW' := hW
  obtain ⟨p, q, hA0, hV, rfl, hfz, hnd⟩ := hW
  have hA : DataW.TrodAll enc Try.prog W 0 (fun _ => true) true Try.f8.params.toList args.toList ds p := hA0
  rw [Try.params8] at hA hval
  obtain ⟨v0, vs0, d0, ds0, p0, q0, hargs, rfl, rfl, h0, r0⟩ := trodAll_cons hA
  obtain ⟨v1, vs1, d1, ds1, p1, q1, rfl, rfl, rfl, h1, r1⟩ := trodAll_cons r0
  obtain ⟨v2, vs2, d2, ds2, p2, q2, rfl, rfl, rfl, h2, r2⟩ := trodAll_cons r1
  obtain ⟨rfl, rfl, rfl⟩ := trodAll_nil r2
  obtain rfl : args = #[v0, v1, v2] := by cases args; simp_all
  obtain ⟨rfl, rfl⟩ := trodVars_none hV
  have k0 := h0
  have lt0 : ∀ x ∈ p0, x.block < W.heap.size := by obtain ⟨m, hm⟩ := k0; exact DataW.trod_lt m _ _ _ hm
  have k1 := h1
  have lt1 : ∀ x ∈ p1, x.block < W.heap.size := by obtain ⟨m, hm⟩ := k1; exact DataW.trod_lt m _ _ _ hm
  have k2 := h2
  have lt2 : ∀ x ∈ p2, x.block < W.heap.size := by obtain ⟨m, hm⟩ := k2; exact DataW.trod_lt m _ _ _ hm
  obtain ⟨x0, rfl, _, _, hw0⟩ := open_int Try.underlying5 (hval 0 5 v0 rfl rfl) h0
  obtain ⟨n0, hn0, rfl⟩ : ∃ n : Nat, n ≤ 255 ∧ x0 = (n : Int) := ⟨x0.toNat, by have := wf8 hw0; omega, by have := wf8 hw0; omega⟩
  obtain ⟨l1, hrd1⟩ : ∃ l : List Edge.Ed, Rd W 3 v1 l.length (flat Edge.encEd l) := by
    obtain ⟨a, len, cap, rfl⟩ := okWide_slice Try.underlying22 (hval 1 22 v1 rfl rfl)
    obtain ⟨fuel, hf⟩ := h1
    obtain ⟨l, hl, hr, _⟩ := open_rd Edge.encEd_len (by omega) Try.underlying22 (by kernel_rfl) elem_ed40 hf
    subst hl
    exact ⟨l, hr⟩
  obtain ⟨K2, va2, u2, z2, la2, rfl, ra2⟩ := open_ask40 (by obtain ⟨cs, hcs, _⟩ := okWide_struct Try.underlying60 (hval 2 60 v2 rfl rfl); exact ⟨cs, hcs⟩) h2
  clear hA0 hval0
  refine (Edge.tells40_any n0 hn0 K2 u2 z2 hrd1 ra2).mono fun e W' ⟨he, hm⟩ => ?_
  have bel := hm.below
  subst he
  exact ⟨_, rfl, _, _, _, [], _, [], hW', trodAll_mk1 (shut_bool Try.underlying4 _), (trodAll_cons_mk (Below.trod laidOut (by kernel_rfl) (of_decide_eq_true (by kernel_rfl)) k0 bel lt0) (trodAll_cons_mk (Below.trod laidOut (by kernel_rfl) (of_decide_eq_true (by kernel_rfl)) k1 bel lt1) (trodAll_cons_mk (Below.trod laidOut (by kernel_rfl) (of_decide_eq_true (by kernel_rfl)) k2 bel lt2) trodAll_mk0))), rfl, bel.frame _, fun h => by cases h⟩
theorem proved : Rows.ContractTellsSaid :=
  OpenClaim.holds_of_wide 8 Try.f8 rfl rfl rfl rfl rfl rfl rfl ⟨rfl, rfl, rfl, rfl, rfl⟩ rfl rfl rfl rfl rfl (by kernel_rfl) Try.func8 (by kernel_rfl)
    (of_decide_eq_true (by kernel_rfl)) (by unfold Func.isWrapper; first | (rw [if_pos (by decide +kernel)]; kernel_rfl) | (rw [if_neg (by decide +kernel)]; exact ⟨rfl, rfl⟩))
    (fun os started H enc _ => lifted os started H enc)
end ContractTells
end Go.Proofs.Ytkhbnopmeapfjaa
