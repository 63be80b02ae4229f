/- CodeBack: for all bytes and every list of numbers, room and list of members the law returns true, and its arguments read as before. Conditions: none. -/
import Derived.Test.YtmkbinbggiocaaaRead2
import Derived.Test.YtmkbinbggiocaaaBack45
set_option linter.unusedVariables false
set_option linter.unusedSimpArgs false
namespace Go.Proofs.Ytmkbinbggiocaaa
open Go.ChangeShapes Go.WideShapes Go.ChangeAt Go.RowKit Go.Deep
open Go.ChangeMaps (open_string shut_string)
section
variable {H : Type} {enc : TypeId × Value → H} {w : World} {spare : Nat → Bool} {held : Bool}
theorem open_ask {v : Value} (hval : ∃ cs, v = .agg cs) {d : DataW H} {p : List MemPlace} (h : DataW.Trod enc Try.prog w 0 spare held 48 v d p) :
    ∃ (va : Value) (N : Int) (vb : Value) (la lb : List Int), v = .agg #[va, .int .i64 N, vb] ∧ Rd w 1 va la.length (la.map fun x => .int .i64 x) ∧ (∀ x ∈ la, (Lit.int .i64 x).wf = true) ∧ Rd w 1 vb lb.length (lb.map fun x => .int .i64 x) ∧ (∀ x ∈ lb, (Lit.int .i64 x).wf = true) ∧ (Lit.int .i64 N).wf = true := by
  obtain ⟨cs, rfl, fuel, hf⟩ := open_agg Try.underlying48 hval h
  obtain ⟨hl, hf⟩ := fields_of Try.underlying48 (by kernel_rfl) (by kernel_rfl) hf
  obtain ⟨v0, y0, m0, g0, f0⟩ := hf 0 _ rfl
  obtain ⟨v1, y1, m1, g1, f1⟩ := hf 1 _ rfl
  obtain ⟨v2, y2, m2, g2, f2⟩ := hf 2 _ rfl
  obtain ⟨la, ra, wa⟩ := open_nums Try.underlying46 Try.underlying2 (by kernel_rfl) f0
  obtain ⟨n, hn, _, wn⟩ := DataW.trod_int Try.underlying3 f1
  obtain ⟨lb, rb, wb⟩ := open_nums Try.underlying36 Try.underlying3 (by kernel_rfl) f2
  simp only [List.cons.injEq, and_true] at hn
  subst hn
  have e := list3 hl g0 g1 g2
  subst e
  exact ⟨v0, n, v2, la, lb, rfl, ra, wa, rb, wb, wn⟩
end
namespace CodeBack
set_option maxRecDepth 100000 in
theorem lifted (os : Os) (started : os.Started) (H : Type) (enc : TypeId × Value → H) :
    ReturnsInHanded {} Try.checked os 6 .any (Rows.codeBackSpec.pre6 enc Try.prog Try.f6 Rows.codeBackRow.domain false) (Rows.codeBackSpec.post enc Try.prog Try.f6 false true false false) := by
  refine returnsInHanded_of_change (C := Try.checked) own started (by kernel_rfl) Try.func6
    (ChangeSpec.witness6 (enc := enc) (C := Try.checked) false ⟨#[], #[.slice none 0 0, .agg #[.slice none 0 0, .int .i64 0, .slice none 0 0]], []⟩ 8 (by kernel_rfl) (by kernel_rfl) (by kernel_rfl) (by kernel_rfl)) ?_
  intro W base args ds gs before hval0 hW hcnd _
  have hval : ∀ (j : Nat) t v, Try.f6.params[j]? = some t → args[j]? = some v → Value.okWide Try.prog W .any base t v := hval0
  have hW' := hW
  obtain ⟨p, q, hA0, hV, rfl, hfz, hnd⟩ := hW
  have hA : DataW.TrodAll enc Try.prog W 0 (fun _ => true) true Try.f6.params.toList args.toList ds p := hA0
  rw [Try.params6] at hA hval
  obtain ⟨v0, vs0, d0, ds0, p0, q0, hargs, rfl, rfl, h0, r0⟩ := trodAll_cons hA
  obtain ⟨v1, vs1, d1, ds1, p1, q1, rfl, rfl, rfl, h1, r1⟩ := trodAll_cons r0
  obtain ⟨rfl, rfl, rfl⟩ := trodAll_nil r1
  obtain rfl : args = #[v0, v1] := by cases args; simp_all
  obtain ⟨rfl, rfl⟩ := trodVars_none hV
  have k0 := h0
  have lt0 : ∀ x ∈ p0, x.block < W.heap.size := by obtain ⟨m, hm⟩ := k0; exact DataW.trod_lt m _ _ _ hm
  have k1 := h1
  have lt1 : ∀ x ∈ p1, x.block < W.heap.size := by obtain ⟨m, hm⟩ := k1; exact DataW.trod_lt m _ _ _ hm
  obtain ⟨l0, hrd0, hw0⟩ : ∃ l : List Int, Rd W 1 v0 l.length (l.map fun x => .int .u8 x) ∧ ∀ x ∈ l, (Lit.int .u8 x).wf = true := by
    obtain ⟨a, len, cap, rfl⟩ := okWide_slice Try.underlying45 (hval 0 45 v0 rfl rfl)
    obtain ⟨fuel, hf⟩ := h0
    exact open_nums Try.underlying45 Try.underlying5 (by kernel_rfl) hf
  obtain ⟨va, N, vb, la, lb, rfl, ra, wa, rb, wb, wN⟩ := open_ask (by obtain ⟨cs, hcs, _⟩ := okWide_struct Try.underlying48 (hval 1 48 v1 rfl rfl); exact ⟨cs, hcs⟩) h1
  clear hA0 hval0
  refine (Code.back_all l0 la N lb hrd0 ra rb wa hw0).mono fun e W' ⟨he, hm⟩ => ?_
  have bel := hm.below
  subst he
  exact ⟨_, rfl, _, _, _, [], _, [], hW', trodAll_mk1 (shut_bool Try.underlying4 _), (trodAll_cons_mk (Below.trod laidOut (by kernel_rfl) (of_decide_eq_true (by kernel_rfl)) k0 bel lt0) (trodAll_cons_mk (Below.trod laidOut (by kernel_rfl) (of_decide_eq_true (by kernel_rfl)) k1 bel lt1) trodAll_mk0)), rfl, bel.frame _, fun h => by cases h⟩
theorem proved : Rows.CodeBackSaid :=
  OpenClaim.holds_of_wide 6 Try.f6 rfl rfl rfl rfl rfl rfl rfl ⟨rfl, rfl, rfl, rfl, rfl⟩ rfl rfl rfl rfl rfl (by kernel_rfl) Try.func6 (by kernel_rfl)
    (of_decide_eq_true (by kernel_rfl)) (by unfold Func.isWrapper; first | (rw [if_pos (by decide +kernel)]; kernel_rfl) | (rw [if_neg (by decide +kernel)]; exact ⟨rfl, rfl⟩))
    (fun os started H enc _ => lifted os started H enc)
end CodeBack
end Go.Proofs.Ytmkbinbggiocaaa
