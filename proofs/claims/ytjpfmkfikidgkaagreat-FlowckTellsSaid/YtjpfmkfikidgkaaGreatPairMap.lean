/- A map from pairs of whole numbers to whole numbers, of the call's own making. -/
import Derived.Test.YtjpfmkfikidgkaaGreatSep
import Derived.Maps.Own
import Derived.Maps.OwnOps
import Derived.Maps.Views
import Derived.DeepKeys4
import Derived.WideKeyPair
set_option linter.unusedVariables false
set_option linter.unusedSimpArgs false
namespace Go.Proofs.YtjpfmkfikidgkaaGreat
open Go.RowKit
namespace PairMap
open Go.Maps (Keyed IsMap)
theorem laid : laidOutB Tryz.prog = true := by kernel_rfl
theorem keyed : Keyed Tryz.prog 109 := Keyed.of_law (deep_law_laid laid (m := 2) (by omega) (of_decide_eq_true (by kernel_rfl)) (by kernel_rfl) (by kernel_rfl))
def pl (a b : Int) : Lit := .string (keyBytes [.int .i64 a, .int .i64 b])
def fits (k : Int × Int) : Prop := 0 ≤ k.1 ∧ k.1 < 4611686018427387904 ∧ 0 ≤ k.2 ∧ k.2 < 4611686018427387904
theorem wf_i64 {a : Int} (h : 0 ≤ a) (h2 : a < 9223372036854775808) : (Lit.int .i64 a).wf = true := by
  simp [Lit.wf, IntKind.min, IntKind.max, IntKind.bits, IntKind.signed]
  omega
theorem key_pl {a b : Int} (h : fits (a, b)) : keyOf Tryz.prog 109 (.agg #[.int .i64 a, .int .i64 b]) = some (pl a b) := by
  obtain ⟨h1, h2, h3, h4⟩ := h
  simp only at h1 h2 h3 h4
  exact WideMaps.keyOf_pair (e := 3) (q := .i64) ⟨by kernel_rfl, by kernel_rfl, by kernel_rfl, by kernel_rfl⟩ (by kernel_rfl) ⟨Tryz.prog.types.size - 1, of_decide_eq_true (by kernel_rfl)⟩ (wf_i64 h1 (by omega)) (wf_i64 h3 (by omega))
theorem pl_inj {k k' : Int × Int} (h : fits k) (h' : fits k') (e : pl k.1 k.2 = pl k'.1 k'.2) : k = k' := by
  have h1 := key_pl h
  have h2 := key_pl h'
  rw [e] at h1
  have := keyed.inj h1 h2
  simp only [Value.agg.injEq, Array.mk.injEq, List.cons.injEq, Value.int.injEq, true_and, and_true] at this
  exact Prod.ext this.1 this.2
/-- Block b is a map of at most n entries that answers f. -/
def Is (w : World) (b n : Nat) (f : Int × Int → Option Int) : Prop :=
  ∃ D : DataW Unit, w.ownsMap Tryz.prog 109 (plainElem Tryz.prog 3) b n D ∧ IsMap D ∧ ∀ k, fits k → (f k = none ∧ ∀ z, D.atKey (pl k.1 k.2) z = z) ∨ (∃ c, f k = some c ∧ ∀ z, D.atKey (pl k.1 k.2) z = .lit (.int .i64 c))
theorem Is.lt {w : World} {b n : Nat} {f : Int × Int → Option Int} (h : Is w b n f) : b < w.heap.size := by
  obtain ⟨D, h, _⟩ := h
  exact h.lt
theorem Is.keep {w w' : World} {F : List Nat} {b n : Nat} {f : Int × Int → Option Int} (h : Is w b n f) (m : Mod F w w') (hb : b ∉ F) : Is w' b n f := by
  have hlt := h.lt
  obtain ⟨D, ⟨es, clock, h1, h2⟩, h3⟩ := h
  exact ⟨D, ⟨es, clock, (m.block b hlt hb).trans h1, h2⟩, h3⟩
theorem Is.made (w : World) : Is (w.alloc (.map #[] 0)) w.heap.size 0 (fun _ => none) :=
  ⟨_, World.ownsMap_made w Tryz.prog _ _, Maps.isMap_empty, fun k _ => .inl ⟨rfl, fun z => rfl⟩⟩
theorem Is.look {w : World} {b n : Nat} {f : Int × Int → Option Int} (h : Is w b n f) {k : Int × Int} (hk : fits k) :
    (Instr.lookup 227 (.map (some b)) (.agg #[.int .i64 k.1, .int .i64 k.2]) true).run Tryz.prog w = .ok (.tuple #[.int .i64 ((f k).getD 0), .bool (f k).isSome]) w := by
  obtain ⟨D, ⟨es, clock, hb, F, _, rfl⟩, _, hf⟩ := h
  rcases Maps.fit_look true keyed (e := 3) (t := 227) (by kernel_rfl) (Tryz.zeroValue3 w) hb F (key_pl hk) with ⟨hrun, _, hat⟩ | ⟨e0, y, _, _, hrun, hRv, hat, _⟩
  · have e : f k = none := by
      rcases hf k hk with ⟨h1, _⟩ | ⟨c, _, h2⟩
      · exact h1
      · have := (hat .nil).symm.trans (h2 .nil)
        cases this
    rw [hrun, e]
    rfl
  · obtain ⟨c, hc, hy, _⟩ := plainElem_int_inv (q := .i64) (by kernel_rfl) hRv
    have e : f k = some c := by
      rcases hf k hk with ⟨_, h2⟩ | ⟨c', h1, h2⟩
      · have := (hat .nil).symm.trans (h2 .nil)
        rw [hy] at this
        cases this
      · have := (hat .nil).symm.trans (h2 .nil)
        rw [hy] at this
        simp only [DataW.lit.injEq, Lit.int.injEq, true_and] at this
        rw [h1, this]
    rw [hrun, e, hc]
    rfl
def upd (f : Int × Int → Option Int) (k : Int × Int) (v : Int) : Int × Int → Option Int := fun k' => if k' = k then some v else f k'
theorem Is.put {w : World} {b n : Nat} {f : Int × Int → Option Int} (h : Is w b n f) (hn : n ≤ 1000000000) {k : Int × Int} (hk : fits k) {v : Int} (hv0 : 0 ≤ v) (hv1 : v < 9223372036854775808) :
    ∃ w', (Instr.mapUpdate 227 (.map (some b)) (.agg #[.int .i64 k.1, .int .i64 k.2]) (.int .i64 v)).run Tryz.prog w = .ok () w' ∧ Is w' b (n + 1) (upd f k v) ∧ Mod [b] w w' := by
  obtain ⟨D, hown, hm, hf⟩ := h
  obtain ⟨w', hrun, h1, h2⟩ := hown.update keyed (e := 3) (t := 227) (by kernel_rfl) (by simp only [maxLen]; omega) (key_pl hk) (plainElem_int (q := .i64) (by kernel_rfl) (wf_i64 hv0 hv1))
  refine ⟨w', hrun, ⟨_, h1, hm.put _ _, fun k' hk' => ?_⟩, (Mod.refl [b] w).grown h2 (fun g hg _ => by simp only [Option.some.injEq] at hg; simp [hg])⟩
  unfold upd
  by_cases e : k' = k
  · subst e
    rw [if_pos rfl]
    exact .inr ⟨v, rfl, fun z => Maps.atKey_put_same hm (keyed.key (key_pl hk)) _ z⟩
  · rw [if_neg e]
    have hne : pl k'.1 k'.2 ≠ pl k.1 k.2 := fun hh => e (pl_inj hk' hk hh)
    rcases hf k' hk' with ⟨a1, a2⟩ | ⟨c, a1, a2⟩
    · exact .inl ⟨a1, fun z => by rw [Maps.atKey_put_other hne]; exact a2 z⟩
    · exact .inr ⟨c, a1, fun z => by rw [Maps.atKey_put_other hne]; exact a2 z⟩
/-- A map as an object. -/
def MapP (b n : Nat) (f : Int × Int → Option Int) : Part := fun w F => Is w b n f ∧ F = [b]
instance (b n : Nat) (f : Int × Int → Option Int) : Good (MapP b n f) where
  lt h b' hb := by obtain ⟨h, rfl⟩ := h; rw [List.mem_singleton.1 hb]; exact h.lt
  keep h m hd := ⟨h.1.keep m (hd _ (by rw [h.2]; simp)), h.2⟩
section
variable {ops : Array Oper} {rest : List Oper} {o : Oper} {a : Act} {Q : Exit → Act → World → Prop}
theorem wpList_put {w0 w : World} {L : List Part} (hg : o.guard = none) (m x v : Operand) (hop : o.op = Op.mapUpdate 227 m x v) (b n : Nat) (f : Int × Int → Option Int) (k : Int × Int) (V : Int) (hm : a.eval m = .map (some b)) (hx : a.eval x = .agg #[.int .i64 k.1, .int .i64 k.2]) (hv : a.eval v = .int .i64 V)
    (h : Sep w0 w (MapP b n f :: L)) (hn : n ≤ 1000000000) (hk : fits k) (hv0 : 0 ≤ V) (hv1 : V < 9223372036854775808)
    (hK : ∀ w', Sep w0 w' (MapP b (n + 1) (upd f k V) :: L) → wpList Tryz.prog ops Q rest (a.put o.dst undef) w') :
    wpList Tryz.prog ops Q (o :: rest) a w := by
  refine wpList_plain hg fun K' hK' => ?_
  obtain ⟨F, ⟨h1, rfl⟩, _, h3⟩ := h.first
  obtain ⟨w', hrun, r1, r2⟩ := h1.put hn hk hv0 hv1
  unfold Oper.wp
  simp [execOp, hop, hm, hx, hv, hrun, Result.andThen]
  exact hK' _ _ (hK w' (h3 _ w' [b] ⟨r1, rfl⟩ r2 (by simp)))
end
end PairMap
end Go.Proofs.YtjpfmkfikidgkaaGreat
