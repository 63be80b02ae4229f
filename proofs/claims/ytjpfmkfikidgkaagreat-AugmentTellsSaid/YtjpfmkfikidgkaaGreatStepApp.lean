/- append inside a region that draws its order; lists of whole numbers as values. -/
import Derived.Test.YtjpfmkfikidgkaaGreatSep
set_option linter.unusedVariables false
set_option linter.unusedSimpArgs false
namespace Go.Proofs.YtjpfmkfikidgkaaGreat
open Go.RowKit
theorem step_appS {P : Program} {ops : Array Oper} {o : Oper} {a : Act} {W : World} {K : Act → World → Prop} {Q : Exit → Act → World → Prop} {E : Prop} (hgd : o.guard = none) (s x : Operand) (t e : TypeId) (z : Value) (size bytes : Nat)
    (ho : o.op = .call { callee := .builtin .append, args := #[s, x], argTypes := #[t, t] })
    (ht : P.underlying t = some (.slice e)) (hinfo : (P.info? e).map (fun i => (i.zero, i.size, i.bytes)) = some (some z, size, bytes)) (hz : z.cells.size = size) (hsz : 0 < size) (hb0 : 0 < bytes)
    (v : Value) (n m : Nat) (xs news : List Value) (hs : a.eval s = v) {B : Nat} (hx : a.eval x = .slice (some ⟨B, 0, none⟩) m m) (hB : B = W.heap.size) (hl : news.length = m * size) (h1 : ∀ u ∈ news, u.oneCell' = true)
    (HO : W.ownsRow 0 e size v n xs) (hby : (n + m) * bytes ≤ 140737488355328)
    (h : ∀ a1 c1 w1, w1.ownsRow 0 e size (.slice a1 (n + m) c1) (n + m) (xs ++ news) → Mod v.ownBlock.toList W w1 → ((Value.slice a1 (n + m) c1).ownBlock = v.ownBlock ∨ ∃ b, (Value.slice a1 (n + m) c1).ownBlock = some b ∧ W.heap.size ≤ b) → K (a.put o.dst (.slice a1 (n + m) c1)) w1) :
    if Region.wanted o (yielded ops a.tmps) = true then Oper.wp P o a (W.alloc (.cells news.toArray e)) K Q else E := by
  have hw : Region.wanted o (yielded ops a.tmps) = true := by simp [Region.wanted, hgd]
  rw [if_pos hw]
  subst hB
  obtain ⟨i0, hi, hzz⟩ := Option.map_eq_some_iff.1 hinfo
  simp only [Prod.mk.injEq] at hzz
  obtain ⟨hz0, hz1, hz2⟩ := hzz
  have hlen : n + m ≤ 140737488355328 := Nat.le_trans (Nat.le_mul_of_pos_right _ hb0) hby
  obtain ⟨v1, w1, hr, hown, hg, _, hat⟩ := run_append_own_at (P := P) (W.alloc (.cells news.toArray e)) 0 t o.type e i0 z size bytes ht hi hz0 hz1 hz2 hz hsz v n xs (HO.alloc _) ⟨W.heap.size, 0, none⟩ m m news hl
    (World.news_of_block (cs := news.toArray) (t := e) (fr := (0, 0)) (heap_alloc_new W _)) h1 (by simp only [maxLen]; omega) hby (Nat.zero_le _)
  obtain ⟨a1, c1, rfl⟩ : ∃ a1 c1, v1 = .slice a1 (n + m) c1 := by
    rcases hown.2 with ⟨rfl, h0⟩ | ⟨g, cap, cur, rfl, _⟩
    · exact ⟨none, 0, by rw [h0]⟩
    · exact ⟨_, _, rfl⟩
  unfold Oper.wp execOp
  simp only [ho, resolve, invoke, builtin, Sem.run_bind, Sem.run_pure, Result.andThen_ok, List.map_toArray, List.map_cons, List.map_nil, hs, hx, hr]
  refine h a1 c1 w1 hown (((Mod.refl _ W).alloc _).grown hg fun b hb _ => by simp [hb]) ?_
  rcases hat with hat | hat
  · exact .inl hat
  · exact .inr ⟨_, hat, by simp⟩
def i64s (l : List Int) : List Value := l.map fun x => .int .i64 x
theorem i64s_len (l : List Int) : (i64s l).length = l.length := by simp [i64s]
theorem i64s_get {l : List Int} {k : Nat} (hk : k < l.length) : (i64s l)[k]? = some (.int .i64 l[k]) := by simp [i64s, hk]
theorem i64s_one (l : List Int) : ∀ u ∈ i64s l, u.oneCell' = true := by simp [i64s, Value.oneCell']
theorem i64s_set (l : List Int) (k : Nat) (x : Int) : (i64s l).set k (.int .i64 x) = i64s (l.set k x) := by simp [i64s, List.map_set]
theorem i64s_append (l m : List Int) : i64s (l ++ m) = i64s l ++ i64s m := by simp [i64s]
end Go.Proofs.YtjpfmkfikidgkaaGreat
