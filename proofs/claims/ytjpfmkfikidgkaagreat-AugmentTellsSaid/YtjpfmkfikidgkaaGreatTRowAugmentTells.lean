/- AugmentTells: for every number of vertices, list of edges and three numbers the law returns true, and its arguments read as before. Conditions: none. (Ahead of it: A drawn region's tail: some quiet operations, then on. A region that draws its order in the body of a loop over a function: quiet operations first, then one by one, or two that may come up in either order. A region that draws its order in a round, whose last operations store what its first ones have loaded: the loads may come first all the same. All steps of a flow: augment.Ways. The reference's flow: Push. To where something may go, once more and once more, as a plain thing. The reference's sets: New, List. The reference's flow: to where something may go. How far it is, round by round over all arcs: the reference's search, as plain things. The reference's From: how far it is from a vertex (straitref24). The reference's To: how far it is to a vertex (straitref24). The reference's Way: the shortest one (straitref24). The reference's Room: what may go along a way (straitref24). A region that draws its order, whose last operations store what its first ones have loaded. The reference's Ways: all steps (straitref25). The reference's Same; of a vertex that is none nothing is reached. The reference's Run (straitref25); the same flow; the same lists. The same lists of numbers (straitref10.Lists). The law's awake: levels of a small graph. The program finds flows at all (straitlaw25.awake). Where a graph cannot be, the error is none of none. The reference's Same over long lists. How much it is, up to a bound: augment.Up. AugmentTells: the flow between any two vertices of any graph, step by step, and up to any bound.) -/
import Derived.Test.YtjpfmkfikidgkaaGreatFork
import Derived.Test.YtjpfmkfikidgkaaGreatVRowAugmentTells
import Derived.Test.YtjpfmkfikidgkaaGreatKit
import Derived.Maps.AppendAt
import Derived.Deep.AppendLies
import Derived.TacticsIn
import Derived.Test.YtjpfmkfikidgkaaGreatSepAt
import Derived.Test.YtjpfmkfikidgkaaGreatReachLaw
import Derived.Test.YtjpfmkfikidgkaaGreatURowAugmentTells
import Derived.Test.YtjpfmkfikidgkaaGreatLevLaw
import Derived.Test.YtjpfmkfikidgkaaGreatSame45
import Derived.Test.YtjpfmkfikidgkaaGreatRead2
set_option linter.unusedVariables false
set_option linter.unusedSimpArgs false
namespace Go.Proofs.YtjpfmkfikidgkaaGreat
open Go.RowKit
section
variable {P : Program} {G : World → World → Prop} {Q : Exit → Act → World → Prop} {l : List Oper}
theorem tail_seg {W0 : World} {N : Nat} {listed : Array Bool} {a : Act} {w : World} (is : List Nat) (listed' : Array Bool) (n : Nat) (hs : Region.noSelect l.toArray = true) (hB : segB .any l.toArray is listed = some listed') (hc : N = n + is.length)
    (hG : ∀ w, G w w) (hT : ∀ w1 w2 w3, G w1 w2 → G w2 w3 → G w1 w3) (h0 : G W0 w)
    (h : wpQuiet P l.toArray (fun w' => ∃ m : Fut G w, w' = m.v) (fun a' => wpAnyH P .any l.toArray (NoPanic Q) (G w) n listed' a' w) (pickO l is) a) : wpAnyH P .any l.toArray (NoPanic Q) (G W0) N listed a w := by
  refine held_mono (fun w' hw' => hT _ _ _ h0 hw') _ _ _ _ ?_
  rw [pickO_eq] at h
  rw [hc]
  exact seg_take (P := P) (md := .any) (G := G) (Q := NoPanic Q) (w := w) hs (fun _ _ _ _ _ h => h) hG is listed listed' n a hB h (fun a' h => h)
end
end Go.Proofs.YtjpfmkfikidgkaaGreat

set_option linter.unusedVariables false
set_option linter.unusedSimpArgs false
namespace Go.Proofs.YtjpfmkfikidgkaaGreat
open Go.RowKit
section
variable {P : Program} {Q : Exit → Act → World → Prop} {md : Region.Mode} {S : World → Prop} {N r : Nat}
/-- What goes on in the plain walk goes on in a round. -/
theorem oper_round {o : Oper} {a : Act} {w : World} {K : Act → World → Prop} (hnd : ∀ c, o.op ≠ .defer c) (h : o.wp P a w K Q) : o.wpIn (Fence.wide.inRound r) N P a w K Q := by
  have h2 := (oper_wide (N := N) h).2
  refine ⟨fun f _ => trivial, ?_⟩
  show o.uponIn (Fence.wide.inRound r) N P a K Q ((o.semAt (some r) a.eval).run P w)
  rw [Oper.semAt_some _ _ _ hnd]
  have h3 : o.uponIn Fence.wide N P a K Q ((o.semAt none a.eval).run P w) := h2
  rw [Oper.semAt_none] at h3
  generalize (execOp a.eval o).run P w = x at h3 ⊢
  cases x with
  | ok y w' => cases y <;> exact h3
  | halt y w' => cases y <;> exact h3
theorem anyIn_held {l : List Oper} (hnd : (l.all fun o => match o.op with | .defer _ => false | _ => true) = true) (hlet : ¬ LetsOut Q) : ∀ (k : Nat) (listed : Array Bool) (a : Act) (w : World), wpAnyH P md l.toArray Q S k listed a w → wpAnyIn (Fence.wide.inRound r) N P md l.toArray Q k listed a w
  | 0, _, _, _, h => h
  | k + 1, listed, a, w, h => ⟨h.1, fun i hi => by
      have h2 := h.2 i hi
      unfold Go.wpOp at h2
      unfold wpOpIn
      cases ho : l.toArray[i]? with
      | none =>
        rw [ho] at h2
        exact anyIn_held hnd hlet k _ a w h2.2
      | some o =>
        rw [ho] at h2
        simp only at h2 ⊢
        by_cases hw : Region.wanted o (yielded l.toArray a.tmps) = true
        · rw [if_pos hw] at h2 ⊢
          rcases h2 with h2 | ⟨_, h2⟩
          · refine Oper.wpIn_mono (fun a' w' h' => anyIn_held hnd hlet k _ a' w' h'.2) (oper_round (fun c hc => ?_) h2)
            have h3 := List.all_eq_true.1 hnd o (List.mem_of_getElem? (by simpa using ho))
            rw [hc] at h3
            exact absurd h3 (by simp)
          · exact absurd h2 hlet
        · rw [if_neg hw] at h2 ⊢
          exact ⟨fun f _ => trivial, anyIn_held hnd hlet k _ _ w h2.2⟩⟩
theorem region_round {G : World → World → Prop} {l : List Oper} {id : Nat} {a : Act} {w : World} (is : List Nat) (listed' : Array Bool) (n : Nat) (hm : P.follows .mixedOrders = true) (hs : Region.noSelect l.toArray = true)
    (hnd : (l.all fun o => match o.op with | .defer _ => false | _ => true) = true) (hlet : ¬ LetsOut Q)
    (hB : segB .any l.toArray is (Array.replicate l.length false) = some listed') (hc : n + is.length = l.length)
    (hG : ∀ w, G w w) (h : wpQuiet P l.toArray (fun w' => ∃ m : Fut G w.drew, w' = m.v) (fun a' => wpAnyH P .any l.toArray (NoPanic Q) (G w.drew) n listed' a' w.drew) (pickO l is) a) : (Code.region id l.toArray true).wpIn (Fence.wide.inRound r) N P Q a w := by
  refine Code.wpIn_mono (Q := NoPanic Q) (fun e a w h => by cases e <;> first | exact h | exact h.elim) (wpIn_region_any hm ?_)
  refine anyIn_held (S := G w.drew) hnd (fun hl => hlet ?_) _ _ _ _ ?_
  · obtain ⟨a, w, h⟩ := hl
    exact ⟨a, w, h⟩
  · rw [pickO_eq] at h
    have := seg_take (P := P) (md := .any) (G := G) (Q := NoPanic Q) (w := w.drew) hs (fun _ _ _ _ _ h => h) hG is _ listed' n a hB h (fun a' h => h)
    rw [hc] at this
    simpa using this
theorem step_app_at {ops : Array Oper} {o : Oper} {a : Act} {W : World} {K : Act → World → Prop} {E : Prop} (hgd : o.guard = none) (s x : Operand) (t e : TypeId) (z : Value) (size bytes : Nat)
    (ho : o.op = .call { callee := .builtin .append, args := #[s, x], argTypes := #[t, t] })
    (ht : P.underlying t = some (.slice e)) (hinfo : (P.info? e).map (fun i => (i.zero, i.size, i.bytes)) = some (some z, size, bytes)) (hz : z.cells.size = size) (hsz : 0 < size) (hb0 : 0 < bytes)
    (v : Value) (n m : Nat) (xs news : List Value) (hs : a.eval s = v) {B : Nat} {te : TypeId} (hx : a.eval x = .slice (some ⟨B, 0, none⟩) m m) (hB : Has W B news te) (hl : news.length = m * size) (h1 : ∀ u ∈ news, u.oneCell' = true)
    (HO : W.ownsRow 0 e size v n xs) (hby : (n + m) * bytes ≤ 140737488355328)
    (h : ∀ a1 c1 w1, w1.ownsRow 0 e size (.slice a1 (n + m) c1) (n + m) (xs ++ news) → Mod v.ownBlock.toList W w1 → ((Value.slice a1 (n + m) c1).ownBlock = v.ownBlock ∨ ∃ b, (Value.slice a1 (n + m) c1).ownBlock = some b ∧ W.heap.size ≤ b) → K (a.put o.dst (.slice a1 (n + m) c1)) w1) :
    if Region.wanted o (yielded ops a.tmps) = true then Oper.wp P o a W K Q else E := by
  have hw : Region.wanted o (yielded ops a.tmps) = true := by simp [Region.wanted, hgd]
  rw [if_pos hw]
  obtain ⟨i0, hi, hzz⟩ := Option.map_eq_some_iff.1 hinfo
  simp only [Prod.mk.injEq] at hzz
  obtain ⟨hz0, hz1, hz2⟩ := hzz
  have hlen : n + m ≤ 140737488355328 := Nat.le_trans (Nat.le_mul_of_pos_right _ hb0) hby
  obtain ⟨v1, w1, hr, hown, hg, _, hat⟩ := run_append_own_at (P := P) W 0 t o.type e i0 z size bytes ht hi hz0 hz1 hz2 hz hsz v n xs HO ⟨B, 0, none⟩ m m news hl
    (fun j u hu => by rw [Addr.add_lit, Nat.zero_add]; exact hB.cell j hu) h1 (by simp only [maxLen]; omega) hby (Nat.zero_le _)
  obtain ⟨a1, c1, rfl⟩ : ∃ a1 c1, v1 = .slice a1 (n + m) c1 := by
    rcases hown.2 with ⟨rfl, h0⟩ | ⟨g, cap, cur, rfl, _⟩
    · exact ⟨none, 0, by rw [h0]⟩
    · exact ⟨_, _, rfl⟩
  unfold Oper.wp execOp
  simp only [ho, resolve, invoke, builtin, Sem.run_bind, Sem.run_pure, Result.andThen_ok, List.map_toArray, List.map_cons, List.map_nil, hs, hx, hr]
  refine h a1 c1 w1 hown ((Mod.refl _ W).grown hg fun b hb _ => by simp [hb]) ?_
  rcases hat with hat | hat
  · exact .inl hat
  · exact .inr ⟨_, hat, Nat.le_refl _⟩
end
end Go.Proofs.YtjpfmkfikidgkaaGreat

set_option linter.unusedVariables false
set_option linter.unusedSimpArgs false
namespace Go.Proofs.YtjpfmkfikidgkaaGreat
open Go.RowKit
section
variable {P : Program} {ops : Array Oper} {Q : Exit → Act → World → Prop} {md : Region.Mode} {T : World → Prop} {N r : Nat}
/-- T holds behind whatever is carried out, until one of bad is. -/
def anyB (N : Nat) (P : Program) (md : Region.Mode) (ops : Array Oper) (Q : Exit → Act → World → Prop) (T : World → Prop) (bad : List Nat) : Nat → Array Bool → Act → World → Prop
  | 0, listed, a, w => Region.ready md ops listed = [] ∧ Q .normal a w
  | k + 1, listed, a, w => (Region.ready md ops listed = [] → Q .normal a w) ∧ ∀ i ∈ Region.ready md ops listed, opY N P ops Q i (fun a' w' => ((∀ m ∈ bad, (listed.setIfInBounds i true).getD m true = false) → T w') ∧ anyB N P md ops Q T bad k (listed.setIfInBounds i true) a' w') a w
theorem anyB_in {bad : List Nat} : ∀ (k : Nat) (listed : Array Bool) (a : Act) (w : World), anyB N P md ops Q T bad k listed a w → wpAnyIn Fence.wide N P md ops Q k listed a w
  | 0, _, _, _, h => h
  | k + 1, _, _, _, h => ⟨h.1, fun i hi => opY_mono (fun a' w' h' => anyB_in k _ a' w' h'.2) (h.2 i hi)⟩
theorem anyB_first {bad D : List Nat} {i : Nat} {oi : Oper} {v : Value} (hi : ops[i]? = some oi) (hsel : ∀ (j : Nat) (o : Oper) cs b, ops[j]? = some o → o.op ≠ .select cs b) (hQ : ∀ c a w, Q (.panic c) (a.put oi.dst v) w → Q (.panic c) a w)
    (hsub : ∀ m ∈ bad, m ∈ D) (hib : i ∉ D) (hbad : ∀ m ∈ D, ∀ om, ops[m]? = some om → ∃ e ∈ om.after, Region.binds md e = true ∧ (e.on = i ∨ e.on ∈ D)) :
    ∀ (k : Nat) (listed : Array Bool) (a : Act) (w : World),
      (∀ j oj, ops[j]? = some oj → j ≠ i → listed.getD j true = false → (∀ e ∈ oj.after, Region.binds md e = true → e.on ≠ i) → oi.apart ops oj = true) →
      (∀ m ∈ D, listed.getD m true = false) →
      i ∈ Region.ready md ops listed → YieldsIf P ops T oi v a → T w → anyB N P md ops Q T bad k (listed.setIfInBounds i true) (a.put oi.dst v) w → anyB N P md ops Q T bad (k + 1) listed a w := by
  intro k
  induction k with
  | zero =>
    intro listed a w _ _ hr hy hS H
    refine ⟨fun h => absurd (h ▸ hr) (by simp), fun j hj => ?_⟩
    by_cases e : j = i
    · subst e; exact opY_yields hi hy hS ⟨fun _ => hS, H⟩
    · have := ready_mono hj e
      rw [H.1] at this
      exact absurd this (by simp)
  | succ k ih =>
    intro listed a w hfree hub hr hy hS H
    refine ⟨fun h => absurd (h ▸ hr) (by simp), fun j hj => ?_⟩
    by_cases e : j = i
    · subst e; exact opY_yields hi hy hS ⟨fun _ => hS, H⟩
    · obtain ⟨hun, oj, hoj, hall⟩ := mem_ready.1 hj
      have hno : ∀ q, listed.getD q true = false → ∀ x ∈ oj.after, Region.binds md x = true → x.on ≠ q := fun q p0 x hx hb he => by
        have p1 := hall x hx hb
        rw [he] at p1
        rcases Nat.lt_or_ge q listed.size with q1 | q1
        · simp [q1] at p0 p1; rw [p0] at p1; cases p1
        · simp [Array.getElem?_eq_none q1] at p1
      have hni := hno i (mem_ready.1 hr).1
      have hjb : ∀ m ∈ D, j ≠ m := fun m hm he => by
        subst he
        obtain ⟨x, hx, hb, hon | hon⟩ := hbad j hm oj hoj
        · exact hni x hx hb hon
        · exact hno x.on (hub _ hon) x hx hb rfl
      have hub2 : ∀ m ∈ D, (listed.setIfInBounds j true).getD m true = false := fun m hm => by rw [getD_set_ne true (hjb m hm)]; exact hub m hm
      have hub3 : ∀ m ∈ bad, ((listed.setIfInBounds i true).setIfInBounds j true).getD m true = false := fun m hm => by
        have hne : i ≠ m := fun he => hib (by rw [he]; exact hsub m hm)
        rw [getD_set_ne true (hjb m (hsub m hm)), getD_set_ne true hne]; exact hub m (hsub m hm)
      have h2 := opY_put hoj (hfree j oj hoj e hun hni) (fun cs b => hsel i oi cs b hi) (fun cs b => hsel j oj cs b hoj) hQ hy (H.2 j (ready_mono hj e))
      refine opY_mono (fun a' w' ⟨y1, s1, r1⟩ => ⟨fun _ => s1 hub3, ih (listed.setIfInBounds j true) a' w' (fun m om hm hmi hu hno => hfree m om hm hmi ?_ hno) hub2 (ready_mono hr (Ne.symm e)) y1 (s1 hub3) ?_⟩) h2
      · by_cases q : j = m
        · subst q; exact hun
        · rw [getD_set_ne true q] at hu; exact hu
      · rw [Array.setIfInBounds_comm _ _ e]; exact r1
/-- Each of D waits for i, or for another of D. -/
def waitB (md : Region.Mode) (ops : Array Oper) (bad : List Nat) (listed : Array Bool) (i : Nat) (D : List Nat) : Bool :=
  bad.all (fun m => D.contains m) && !(D.contains i) && D.all fun m => (listed.getD m true == false) && ((ops[m]?).map fun om => om.after.any fun e => Region.binds md e && (e.on == i || D.contains e.on)).getD true
def badB (md : Region.Mode) (ops : Array Oper) (bad : List Nat) : List Nat → List (List Nat) → Array Bool → Bool
  | [], _, _ => true
  | i :: is, D :: Ds, listed => waitB md ops bad listed i D && badB md ops bad is Ds (listed.setIfInBounds i true)
  | _ :: _, [], _ => false
theorem waitB_spec {bad : List Nat} {listed : Array Bool} {i : Nat} {D : List Nat} (h : waitB md ops bad listed i D = true) : (∀ m ∈ bad, m ∈ D) ∧ i ∉ D ∧ (∀ m ∈ D, ∀ om, ops[m]? = some om → ∃ e ∈ om.after, Region.binds md e = true ∧ (e.on = i ∨ e.on ∈ D)) ∧ ∀ m ∈ D, listed.getD m true = false := by
  unfold waitB at h
  simp only [Bool.and_eq_true, List.all_eq_true, Bool.not_eq_true', beq_iff_eq] at h
  obtain ⟨⟨h1, h2⟩, h3⟩ := h
  refine ⟨fun m hm => by simpa using h1 m hm, by simpa using h2, fun m hm om ho => ?_, fun m hm => (h3 m hm).1⟩
  have h4 := (h3 m hm).2
  rw [ho] at h4
  simp only [Option.map_some, Option.getD_some] at h4
  obtain ⟨e, he, h5⟩ := Array.any_eq_true'.1 h4
  simp only [Bool.and_eq_true, Bool.or_eq_true, beq_iff_eq] at h5
  exact ⟨e, he, h5.1, h5.2.imp id (fun h => by simpa using h)⟩
variable {G : World → World → Prop}
theorem seg_takeB (hs : Region.noSelect ops = true) (hQ : ∀ c a d v w, Q (.panic c) (Act.put a d v) w → Q (.panic c) a w) (hG : ∀ w, G w w) {Kq : Act → Prop} {w : World} {bad : List Nat} :
    ∀ (is : List Nat) (Ds : List (List Nat)) (listed listed' : Array Bool) (k : Nat) (a : Act), segB md ops is listed = some listed' → badB md ops bad is Ds listed = true →
      wpQuiet P ops (Cls G w) Kq (is.filterMap (ops[·]?)) a →
      (∀ a', Kq a' → anyB N P md ops Q (G w) bad k listed' a' w) → anyB N P md ops Q (G w) bad (k + is.length) listed a w
  | [], _, listed, listed', k, a, hB, _, h, hK => by
    simp only [segB, Option.some.injEq] at hB
    subst hB
    exact hK _ h
  | i :: is, [], listed, listed', k, a, hB, hbd, h, hK => by simp [badB] at hbd
  | i :: is, D :: Ds, listed, listed', k, a, hB, hbd, h, hK => by
    unfold badB at hbd
    rw [Bool.and_eq_true] at hbd
    obtain ⟨hw1, hw2, hw3, hub⟩ := waitB_spec hbd.1
    unfold segB at hB
    split at hB
    case isFalse => exact absurd hB (by simp)
    rename_i hc
    simp only [Bool.and_eq_true] at hc
    obtain ⟨⟨hr, hf⟩, hst⟩ := hc
    obtain ⟨o, ho⟩ : ∃ o, ops[i]? = some o := by
      cases hx : ops[i]? with
      | none => simp [hx] at hst
      | some o => exact ⟨o, rfl⟩
    simp only [ho, Option.map_some, Option.getD_some] at hst
    simp only [List.filterMap_cons, ho] at h
    unfold wpQuiet at h
    have ih : ∀ v, wpQuiet P ops (Cls G w) Kq (is.filterMap (ops[·]?)) (a.put o.dst v) → anyB N P md ops Q (G w) bad (k + is.length) (listed.setIfInBounds i true) (a.put o.dst v) w :=
      fun v hv => seg_takeB hs hQ hG is Ds _ listed' k _ hB hbd.2 hv hK
    rw [List.length_cons, ← Nat.add_assoc]
    have fst : ∀ v, YieldsIf P ops (G w) o v a → wpQuiet P ops (Cls G w) Kq (is.filterMap (ops[·]?)) (a.put o.dst v) → anyB N P md ops Q (G w) bad (k + is.length + 1) listed a w := fun v hy hv =>
      anyB_first ho (Region.noSelect_spec hs) (fun c a w => hQ c a _ _ w) hw1 hw2 hw3 _ listed a w (Region.free_spec ho hf) hub (by simpa using hr) hy (hG w) (ih v hv)
    by_cases hw : Region.wanted o (yielded ops a.tmps) = true
    · rw [if_pos hw] at h
      obtain ⟨v, h1, h2⟩ := h
      exact fst v (yields_of hst hw h1) h2
    · rw [if_neg hw] at h
      exact fst undef (.inr ⟨by simpa using hw, rfl⟩) h
theorem inRound_wide {l : List Oper} (hnd : (l.all fun o => match o.op with | .defer _ => false | _ => true) = true) : ∀ (k : Nat) (listed : Array Bool) (a : Act) (w : World), wpAnyIn Fence.wide N P md l.toArray Q k listed a w → wpAnyIn (Fence.wide.inRound r) N P md l.toArray Q k listed a w
  | 0, _, _, _, h => h
  | k + 1, listed, a, w, h => ⟨h.1, fun i hi => by
      have h2 := h.2 i hi
      unfold wpOpIn at h2 ⊢
      cases ho : l.toArray[i]? with
      | none =>
        rw [ho] at h2
        exact inRound_wide hnd k _ a w h2
      | some o =>
        rw [ho] at h2
        simp only at h2 ⊢
        by_cases hw : Region.wanted o (yielded l.toArray a.tmps) = true
        · rw [if_pos hw] at h2 ⊢
          refine Oper.wpIn_mono (fun a' w' h' => inRound_wide hnd k _ a' w' h') ?_
          have hnd2 : ∀ c, o.op ≠ .defer c := fun c hc => by
            have h3 := List.all_eq_true.1 hnd o (List.mem_of_getElem? (by simpa using ho))
            rw [hc] at h3
            exact absurd h3 (by simp)
          refine ⟨fun f _ => trivial, ?_⟩
          show o.uponIn (Fence.wide.inRound r) N P a _ Q ((o.semAt (some r) a.eval).run P w)
          rw [Oper.semAt_some _ _ _ hnd2]
          have h3 : o.uponIn Fence.wide N P a _ Q ((o.semAt none a.eval).run P w) := h2.2
          rw [Oper.semAt_none] at h3
          generalize (execOp a.eval o).run P w = x at h3 ⊢
          cases x with
          | ok y w' => cases y <;> exact h3
          | halt y w' => cases y <;> exact h3
        · rw [if_neg hw] at h2 ⊢
          exact ⟨fun f _ => trivial, inRound_wide hnd k _ _ w h2.2⟩⟩
theorem region_roundB {l : List Oper} {id : Nat} {a : Act} {w : World} (is : List Nat) (Ds : List (List Nat)) (bad : List Nat) (listed' : Array Bool) (n : Nat) (hm : P.follows .mixedOrders = true) (hs : Region.noSelect l.toArray = true)
    (hnd : (l.all fun o => match o.op with | .defer _ => false | _ => true) = true) (hbd : badB .any l.toArray bad is Ds (Array.replicate l.length false) = true)
    (hB : segB .any l.toArray is (Array.replicate l.length false) = some listed') (hc : n + is.length = l.length)
    (hG : ∀ w, G w w) (h : wpQuiet P l.toArray (fun w' => ∃ m : Fut G w.drew, w' = m.v) (fun a' => anyB N P .any l.toArray (NoPanic Q) (G w.drew) bad n listed' a' w.drew) (pickO l is) a) : (Code.region id l.toArray true).wpIn (Fence.wide.inRound r) N P Q a w := by
  refine Code.wpIn_mono (Q := NoPanic Q) (fun e a w h => by cases e <;> first | exact h | exact h.elim) (wpIn_region_any hm ?_)
  refine inRound_wide hnd _ _ _ _ (anyB_in (T := G w.drew) (bad := bad) _ _ _ _ ?_)
  rw [pickO_eq] at h
  have := seg_takeB (N := N) (P := P) (md := .any) (G := G) (Q := NoPanic Q) (w := w.drew) (bad := bad) hs (fun _ _ _ _ _ h => h) hG is Ds _ listed' n a hB hbd h (fun a' h => h)
  rw [hc] at this
  simpa using this
/-- One that comes up alone; one of two. -/
def stepB (N : Nat) (P : Program) (l : List Oper) (Q : Exit → Act → World → Prop) (T : World → Prop) (bad : List Nat) (n : Nat) (listed : Array Bool) (b : Nat) (o : Oper) (a : Act) (w : World) : Prop :=
  ∀ K : Act → World → Prop, Hid (∀ a'' w'', ((bad.all fun m => (listed.setIfInBounds b true).getD m true == false) = true → T w'') → anyB N P .any l.toArray Q T bad n (listed.setIfInBounds b true) a'' w'' → K a'' w'') → if Region.wanted o (yielded l.toArray a.tmps) = true then o.wp P a w K Q else K (a.put o.dst undef) w
theorem op_of_stepB {l : List Oper} {bad : List Nat} {n b : Nat} {listed : Array Bool} {a : Act} {w : World} {o : Oper} (ho : l[b]? = some o) (h : stepB N P l Q T bad n listed b o a w) :
    opY N P l.toArray Q b (fun a' w' => ((∀ m ∈ bad, (listed.setIfInBounds b true).getD m true = false) → T w') ∧ anyB N P .any l.toArray Q T bad n (listed.setIfInBounds b true) a' w') a w := by
  have h2 := h (fun a' w' => ((∀ m ∈ bad, (listed.setIfInBounds b true).getD m true = false) → T w') ∧ anyB N P .any l.toArray Q T bad n (listed.setIfInBounds b true) a' w') (show Hid _ from fun a'' w'' h1 h2 => ⟨fun h3 => h1 (List.all_eq_true.2 fun m hm => by simpa using h3 m hm), h2⟩)
  unfold opY wpOpIn
  simp only [List.getElem?_toArray, ho]
  by_cases hw : Region.wanted o (yielded l.toArray a.tmps) = true
  · rw [if_pos hw] at h2 ⊢
    exact oper_wide h2
  · rw [if_neg hw] at h2 ⊢
    exact ⟨fun f _ => trivial, h2⟩
theorem tailB_one {l : List Oper} {bad : List Nat} {n : Nat} {listed : Array Bool} {a : Act} {w : World} (b : Nat) {o : Oper} (hr : Region.ready .any l.toArray listed = [b]) (ho : l[b]? = some o) (h : stepB N P l Q T bad n listed b o a w) : anyB N P .any l.toArray Q T bad (n + 1) listed a w :=
  ⟨fun h0 => by rw [hr] at h0; exact absurd h0 (by simp), fun i hi => by
    rw [hr, List.mem_singleton] at hi
    subst hi
    exact op_of_stepB ho h⟩
theorem tailB_two {l : List Oper} {bad : List Nat} {n : Nat} {listed : Array Bool} {a : Act} {w : World} (b c : Nat) {o o' : Oper} (hr : Region.ready .any l.toArray listed = [b, c]) (ho : l[b]? = some o) (ho' : l[c]? = some o')
    (h1 : stepB N P l Q T bad n listed b o a w) (h2 : stepB N P l Q T bad n listed c o' a w) : anyB N P .any l.toArray Q T bad (n + 1) listed a w :=
  ⟨fun h0 => by rw [hr] at h0; exact absurd h0 (by simp), fun i hi => by
    rw [hr] at hi
    simp only [List.mem_cons, List.mem_nil_iff, or_false] at hi
    rcases hi with rfl | rfl
    · exact op_of_stepB ho h1
    · exact op_of_stepB ho' h2⟩
theorem tailB_done {l : List Oper} {bad : List Nat} {listed : Array Bool} {a : Act} {w : World} (hr : Region.ready .any l.toArray listed = []) (h : Q .normal a w) : anyB N P .any l.toArray (NoPanic Q) T bad 0 listed a w := ⟨hr, h⟩
end
end Go.Proofs.YtjpfmkfikidgkaaGreat

set_option linter.unusedVariables false
set_option linter.unusedSimpArgs false
namespace Go.Proofs.YtjpfmkfikidgkaaGreat
open Go.RowKit
namespace Edge
attribute [local go_sem] Oper.semAt_some
def stRow (p : Stp) : Part := Row 3 1 p.1.1.length (.slice p.2.1 p.1.1.length p.2.2) (i64s (ints p.1.1))
instance (p : Stp) : Good (stRow p) := inferInstanceAs (Good (Row _ _ _ _ _))
def wayV (p : Stp) : Value := .slice p.2.1 p.1.1.length p.2.2
def waysV (pre : List Stp) : List Value := pre.map wayV
def muchL (pre : List Stp) : List Int := pre.map fun p => p.1.2
abbrev U47L (Bw Bx : Nat) (pre : List Stp) (q : (Option Addr × Nat) × (Option Addr × Nat)) : List Part := [Blk Bw [.slice q.1.1 pre.length q.1.2] 80, Row 51 1 pre.length (.slice q.1.1 pre.length q.1.2) (waysV pre), Blk Bx [.slice q.2.1 pre.length q.2.2] 33, Row 2 1 pre.length (.slice q.2.1 pre.length q.2.2) (i64s (muchL pre)), AllP (pre.map stRow)]
def U47 (Bw Bx : Nat) (pre : List Stp) : Part := ExP (fun q => AllP (U47L Bw Bx pre q))
instance (Bw Bx : Nat) (pre : List Stp) : Good (U47 Bw Bx pre) := inferInstanceAs (Good (ExP _))
theorem fin47 {w W : World} {Bw Bx k : Nat} {pre : List Stp} {x : Stp} {aw ax : Option Addr} {cw cx : Nat} {P1 P2 : Part} {R : List Part} (hk : pre.length = k)
    (h : Sep w W (P1 :: P2 :: Blk Bw [.slice aw (k + 1) cw] 80 :: Row 51 1 (k + 1) (.slice aw (k + 1) cw) (waysV pre ++ [wayV x]) :: Blk Bx [.slice ax (k + 1) cx] 33 :: Row 2 1 (k + 1) (.slice ax (k + 1) cx) (i64s (muchL pre) ++ [.int .i64 x.1.2]) :: AllP (pre.map stRow) :: stRow x :: R)) : Sep w W (U47 Bw Bx (pre ++ [x]) :: R) := by
  have h1 : Sep w W (pre.map stRow ++ (stRow x :: Blk Bw [.slice aw (k + 1) cw] 80 :: Row 51 1 (k + 1) (.slice aw (k + 1) cw) (waysV pre ++ [wayV x]) :: Blk Bx [.slice ax (k + 1) cx] 33 :: Row 2 1 (k + 1) (.slice ax (k + 1) cx) (i64s (muchL pre) ++ [.int .i64 x.1.2]) :: P1 :: P2 :: R)) := Sep.unall (h.picks [6, 6, 2, 2, 2, 2, 0, 0])
  have h2 : Sep w W ((pre ++ [x]).map stRow ++ (Blk Bw [.slice aw (k + 1) cw] 80 :: Row 51 1 (k + 1) (.slice aw (k + 1) cw) (waysV pre ++ [wayV x]) :: Blk Bx [.slice ax (k + 1) cx] 33 :: Row 2 1 (k + 1) (.slice ax (k + 1) cx) (i64s (muchL pre) ++ [.int .i64 x.1.2]) :: P1 :: P2 :: R)) := by
    simpa [List.map_append] using h1
  have h3 := (Sep.all h2).picks [1, 1, 1, 1, 0]
  have el : (pre ++ [x]).length = k + 1 := by simp [hk]
  have ew : waysV (pre ++ [x]) = waysV pre ++ [wayV x] := by simp [waysV]
  have em : i64s (muchL (pre ++ [x])) = i64s (muchL pre) ++ [.int .i64 x.1.2] := by simp [muchL, i64s]
  have h4 : Sep w W (U47L Bw Bx (pre ++ [x]) ((aw, cw), (ax, cx)) ++ (P1 :: P2 :: R)) := by
    unfold U47L
    rw [el, ew, em]
    exact h3
  have h5 : Sep w W (U47 Bw Bx (pre ++ [x]) :: P1 :: P2 :: R) := Sep.toEx ((aw, cw), (ax, cx)) (Sep.all h4)
  exact h5.swap.tail.swap.tail
/-- What Ways answers. -/
def Ways47 (n : Nat) (L : List Ed) (s t : Int) (w : World) (e : Ending) (w' : World) : Prop :=
  (pairE n s t ≠ 0 ∧ e = .returned (.tuple #[.slice none 0 0, .slice none 0 0, .int .i64 (pairE n s t)]) ∧ Mod [] w w') ∨
  (pairE n s t = 0 ∧ ∃ (xs : List Stp) (aw ax : Option Addr) (cw cx : Nat), PreW n L s t (noF L) (onlyS xs) ∧ IsDone n L s t (flowW L (noF L) (onlyS xs)) ∧
    e = .returned (.tuple #[.slice aw xs.length cw, .slice ax xs.length cx, .int .i64 0]) ∧
    ∃ R, Sep w w' (Row 51 1 xs.length (.slice aw xs.length cw) (waysV xs) :: Row 2 1 xs.length (.slice ax xs.length cx) (i64s (muchL xs)) :: AllP (xs.map stRow) :: R))
set_option maxRecDepth 100000 in
set_option maxHeartbeats 16000000 in
theorem ways47_any {w0 w : World} {b n : Nat} {L : List Ed} {R : List Part} (hS : Sep w0 w (NetP b n L :: R)) (hG : GOk n L) (hM : total L ≤ 1000000000000) (s t : Int) :
    Calls Tryz.prog 47 #[.pointer (some ⟨b, 0, none⟩), .int .i64 s, .int .i64 t] w (Ways47 n L s t w) := by
  have cK := Lib.hid (fun W (m : Mod [] w W) => chk44_any (n_sep (hS.still m)) s t)
  have cN := Lib.hid (fun W (m : Mod [] w W) (R2 : List Part) (h2 : Sep w W R2) => rnew_res hG (csr_at hS hG m h2))
  have hG' := Lib.hid hG
  have hlen := hG.len
  have hn4 := hG.le
  clear hS hG
  refine callsIn_wide.1 (callsIn_of_wp_marks (n := 3) Tryz.func47 rfl trivial (wpIn_wide.2 ?_))
  simp only [Tryz.ntmps47, List.size_toArray, List.length_cons, List.length_nil, Nat.reduceAdd, Nat.reduceSub, Array.replicate_succ, Array.replicate_zero, List.push_toArray, List.append_toArray, List.nil_append, List.cons_append]
  go_wp2_with fail
  refine (cK.out _ (Mod.refl _ _)).mono ?_
  rintro e w2 ⟨rfl, hw2⟩
  subst w2
  try dsimp only
  by_cases hE : pairE n s t = 0
  · have hE' := Lib.hid hE
    have hin : 0 ≤ s ∧ s < n ∧ 0 ≤ t ∧ t < n ∧ s ≠ t := by
      rw [pairE_as] at hE
      by_cases h1 : 0 ≤ s ∧ s < n ∧ 0 ≤ t ∧ t < n
      · rw [if_neg (by simpa using h1)] at hE
        by_cases h2 : s = t
        · rw [if_pos h2] at hE; omega
        · exact ⟨h1.1, h1.2.1, h1.2.2.1, h1.2.2.2, h2⟩
      · rw [if_pos h1] at hE; omega
    obtain ⟨S, rfl⟩ := Int.eq_ofNat_of_zero_le hin.1
    obtain ⟨T, rfl⟩ := Int.eq_ofNat_of_zero_le hin.2.2.1
    have hSn : S < n := by omega
    have hTn : T < n := by omega
    rw [hE]
    have hkb := Lib.hid (fun (pre : List Stp) (h : PreW n L (S : Int) (T : Int) (noF L) (onlyS pre)) => show (pre.length : Int) ≤ 1000000000000 from by
      have h1 := (PreW.exc hG'.out (fb_new hG'.out) h)
      have h2 := (exc_in ((fb_new hG'.out).flowW (onlyS pre)) (fun e he => by have := hG'.out.ends e he; omega) (T : Int)).2
      have h3 := exc_noF (L := L) (T : Int)
      have h5 : (onlyS pre).length = pre.length := by simp [onlyS]
      unfold noF at h1 h2
      rw [h3, h5] at h1
      omega)
    clear hE hin cK hM
    have hst := Lib.hid (((Sep.empty w).box [.slice none 0 0] 80).box [.slice none 0 0] 33)
    rw [World.size_alloc] at hst
    go_upto_region 6 with fail
    generalize (w.alloc (.cells #[.slice none 0 0] 80)).alloc (.cells #[.slice none 0 0] 33) = w1 at *
    have hBwx : w.heap.size ≠ w.heap.size + 1 := by omega
    generalize w.heap.size + 1 = Bx at *
    generalize w.heap.size = Bw at *
    have cN2 := Lib.hid (cN.out _ hst.out.mod _ hst.out)
    have hBxw := hBwx.symm
    clear cN hst
    go_wp2_with fail
    refine cN2.out.mono ?_
    rintro e w4 ⟨r, ba, rfl, hS3⟩
    have hS4 := Lib.hid hS3
    clear hS3 cN2
    try dsimp only
    go_wp2_with (go_at_call 135; refine (steps_any r S T _).mono ?_; rintro e w2 ⟨rfl, rfl⟩)
    have hS5 := Lib.hid (((hS4.out.box [.pointer (some ⟨r, 0, none⟩)] 29).box [.int .i64 (S : Int)] 3).box [.int .i64 (T : Int)] 3)
    try simp only [World.size_alloc] at hS5
    try simp only [World.size_alloc]
    generalize ((w4.alloc (.cells #[.pointer (some ⟨r, 0, none⟩)] 29)).alloc (.cells #[.int .i64 (S : Int)] 3)).alloc (.cells #[.int .i64 (T : Int)] 3) = w5 at *
    generalize w4.heap.size + 1 + 1 = B3 at *
    generalize w4.heap.size + 1 = B2 at *
    generalize w4.heap.size = B1 at *
    have hS6 := Lib.hid (show Sep w w5 (U47 Bw Bx [] :: stR r ba n B1 B2 B3 L S T (noF L) [] []) from
      Sep.toEx ((none, 0), (none, 0)) (Sep.all (L := U47L Bw Bx [] ((none, 0), (none, 0))) ((Sep.all (L := []) (((hS5.out.picks [6, 5, 3, 3, 2, 1, 0]).nilRow 2 1).nilRow 51 1)).picks [3, 1, 2, 1, 0])))
    clear hS5 hS4
    generalize hA : Act.mk _ _ = A
    have hA' := Lib.hid hA
    refine range_sep (w0 := w) (steps_it (r := r) (ba := ba) (n := n) (B1 := B1) (B2 := B2) (B3 := B3) (f0 := noF L) (R0 := []) hG'.out (fb_new hG'.out) (S : Int) hTn) (by rw [← hA]; simp [go_sem]) (fun args w => by simp [go_sem]) (fun x => rfl)
      (fun p => U47 Bw Bx p) (fun _ _ => NoP)
      (fun p x a1 => IfP (a1 = { tmps := (((A.tmps.setIfInBounds 26 (.slice x.2.1 x.1.1.length x.2.2)).setIfInBounds 27 (.int .i64 x.1.2)).setIfInBounds 12 (.slice x.2.1 x.1.1.length x.2.2)).setIfInBounds 13 (.int .i64 x.1.2), defers := [] }) (AllP [stRow x, U47 Bw Bx p]))
      (fun _ => inferInstance) (fun _ _ => inferInstance) hS6.out ?_ ?_ ?_ ?_
    · intro l' pre x R' W hpre hS
      have hS' := Lib.hid (show Sep w W (U47 Bw Bx pre :: stRow x :: R') from hS)
      clear hS
      rw [encSt, zip_two]
      rw [← hA'.out]
      simp only [List.setIfInBounds_toArray, List.set_cons_succ, List.set_cons_zero]
      gi_wp2
      exact Sep.toIf (by first | rfl | trivial) (Sep.all (L := [_, _]) hS'.out.swap)
    · intro l' pre x R' a1 W hpre hS
      obtain ⟨rfl, hSi⟩ := hS.ifs
      have hSj : Sep w W (U47 Bw Bx pre :: stRow x :: R') := (Sep.unall (L := [_, _]) hSi).swap
      obtain ⟨⟨⟨aw, cw⟩, ⟨ax, cx⟩⟩, hSk⟩ := hSj.ex
      have hSl : Sep w W (U47L Bw Bx pre ((aw, cw), (ax, cx)) ++ (stRow x :: R')) := Sep.unall hSk
      have hkb1 := hkb.out _ hpre
      have hkl : ((pre ++ [x]).length : Int) = pre.length + 1 := by simp
      rw [hkl] at hkb1
      obtain ⟨k, hk⟩ : ∃ k, pre.length = k := ⟨_, rfl⟩
      have hk' := Lib.hid hk
      have hSm : Sep w W (Blk Bw [.slice aw k cw] 80 :: Row 51 1 k (.slice aw k cw) (waysV pre) :: Blk Bx [.slice ax k cx] 33 :: Row 2 1 k (.slice ax k cx) (i64s (muchL pre)) :: AllP (pre.map stRow) :: stRow x :: R') := by
        rw [← hk]
        exact hSl
      have hkb2 : k + 1 ≤ 1000000000000 := by omega
      have hS0 := Lib.hid (hSm.still (Mod.refl [] W).drew)
      obtain ⟨mx, hmx⟩ : ∃ m, x.1.1.length = m := ⟨_, rfl⟩
      obtain ⟨al, hal⟩ : ∃ m, x.2.1 = m := ⟨_, rfl⟩
      obtain ⟨cl, hcl⟩ : ∃ m, x.2.2 = m := ⟨_, rfl⟩
      have hxv := Lib.hid (show wayV x = .slice al mx cl by unfold wayV; rw [hmx, hal, hcl])
      clear hS hSi hSj hSk hSl hSm hpre hk hkb1 hkl
      rw [← hA'.out]
      simp only [List.setIfInBounds_toArray, List.set_cons_succ, List.set_cons_zero]
      rw [hmx, hal, hcl]
      clear hmx hal hcl
      obtain ⟨LL, hLL⟩ : ∃ LL : List (Addr × Value), LL = [(⟨Bw, 0, none⟩, .slice aw k cw), (⟨Bx, 0, none⟩, .slice ax k cx)] := ⟨_, rfl⟩
      have m0 : ((⟨Bw, 0, none⟩ : Addr), Value.slice aw k cw) ∈ LL := by rw [hLL]; simp
      have m1 : ((⟨Bx, 0, none⟩ : Addr), Value.slice ax k cx) ∈ LL := by rw [hLL]; simp
      have hkc := Lib.hid (fun W0 W' (h1 : W'.cell? ⟨Bw, 0, none⟩ = some (.slice aw k cw)) (h2 : W'.cell? ⟨Bx, 0, none⟩ = some (.slice ax k cx)) => show KC LL W0 W' from fun p hp _ => by
        rw [hLL] at hp
        simp only [List.mem_cons, List.mem_nil_iff, or_false] at hp
        rcases hp with rfl | rfl
        · exact h1
        · exact h2)
      clear hLL
      gi_wp2_with fail
      have k0 := KC.one (w := W.drew) ((hS0.out.blkAt 0 rfl).cell 0 rfl) m0
      have k1 := KC.one (w := W.drew) ((hS0.out.blkAt 2 rfl).cell 0 rfl) m1
      refine region_roundB (G := KC LL) [0,1,4,5] [[3,8,9],[2,3,8,9],[7,8,9],[6,7,8,9]] [8,9] #[true,true,false,false,true,true,false,false,false,false] 6 (by kernel_rfl) (by kernel_rfl) (by kernel_rfl) (by kernel_rfl) (by kernel_rfl) rfl (KC.refl _) ?_
      simp only [pickO, nthO, List.cons_append, List.nil_append]
      repeat (go_big_quiet_step (fail))
      refine wpQuiet_nil ?_
      clear k0 k1 m0 m1
      generalize hWd : W.drew = Wd at *
      clear hWd
      refine tailB_two 2 6 (by kernel_rfl) rfl rfl ?_ ?_
      · skip
        intro K hK
        rw [if_pos (by rfl)]
        go_simp
        have hS1 := Lib.hid (hS0.out.box [.slice al mx cl] 51)
        refine hK.out _ _ (fun _ => hkc.out _ _ ((hS1.out.blkAt 1 rfl).cell 0 rfl) ((hS1.out.blkAt 3 rfl).cell 0 rfl)) ?_
        clear hK K hS0
        generalize hW1 : World.alloc Wd (.cells #[.slice al mx cl] 51) = W1 at *
        generalize hB1 : (Wd).heap.size = C1 at *
        clear hW1 hB1
        refine tailB_two 3 6 (by kernel_rfl) rfl rfl ?_ ?_
        · skip
          intro K hK
          refine step_app_at rfl (.tmp 28) (.tmp 30) 80 51 (.slice none 0 0) 1 24 rfl Tryz.underlying80 infoRow rfl (by omega) (by omega) (.slice aw k cw) k 1 (waysV pre) [.slice al mx cl] rfl rfl (hS1.out.blkAt 0 rfl) rfl (by simp [Value.oneCell']) (hS1.out.rowAt 2 rfl) (by omega) ?_
          intro a2 c2 W2 ho hm hb
          have hS2 := Lib.hid (hS1.out.growAt 2 rfl ho hm hb)
          clear ho hm hb
          try dsimp only
          refine hK.out _ _ (fun _ => hkc.out _ _ ((hS2.out.blkAt 1 rfl).cell 0 rfl) ((hS2.out.blkAt 3 rfl).cell 0 rfl)) ?_
          clear hK K hS1
          refine tailB_one 6 (by kernel_rfl) rfl ?_
          intro K hK
          rw [if_pos (by rfl)]
          go_simp
          have hS3 := Lib.hid (hS2.out.box [.int .i64 x.1.2] 2)
          refine hK.out _ _ (fun _ => hkc.out _ _ ((hS3.out.blkAt 2 rfl).cell 0 rfl) ((hS3.out.blkAt 4 rfl).cell 0 rfl)) ?_
          clear hK K hS2
          generalize hW3 : World.alloc W2 (.cells #[.int .i64 x.1.2] 2) = W3 at *
          generalize hB3 : (W2).heap.size = C3 at *
          clear hW3 hB3
          refine tailB_one 7 (by kernel_rfl) rfl ?_
          intro K hK
          refine step_app_at rfl (.tmp 32) (.tmp 34) 33 2 (.int .i64 0) 1 8 rfl Tryz.underlying33 infoI64b rfl (by omega) (by omega) (.slice ax k cx) k 1 (i64s (muchL pre)) [.int .i64 x.1.2] rfl rfl (hS3.out.blkAt 0 rfl) rfl (by simp [Value.oneCell']) (hS3.out.rowAt 5 rfl) (by omega) ?_
          intro a4 c4 W4 ho hm hb
          have hS4 := Lib.hid (hS3.out.growAt 5 rfl ho hm hb)
          clear ho hm hb
          try dsimp only
          refine hK.out _ _ (fun _ => hkc.out _ _ ((hS4.out.blkAt 2 rfl).cell 0 rfl) ((hS4.out.blkAt 4 rfl).cell 0 rfl)) ?_
          clear hK K hS3
          refine tailB_one 8 (by kernel_rfl) rfl ?_
          have b0 := (hS4.out.blkAt 2 rfl).cell 0 rfl
          have bf := (hS4.out.blkAt 2 rfl).free 0
          have bl := (hS4.out.blkAt 2 rfl).lt
          intro K hK
          rw [if_pos (by rfl)]
          go_simp
          have hS5 := Lib.hid ((hS4.out.pick 2 (by simp)).set 0 (.slice a2 (k + 1) c2))
          refine hK.out _ _ (fun h => absurd h (by decide +kernel)) ?_
          clear hK K hS4 b0 bf bl
          generalize hW5 : World.setCell W4 ⟨Bw, 0, none⟩ (.slice a2 (k + 1) c2) = W5 at *
          clear hW5
          refine tailB_one 9 (by kernel_rfl) rfl ?_
          have b0 := (hS5.out.blkAt 4 rfl).cell 0 rfl
          have bf := (hS5.out.blkAt 4 rfl).free 0
          have bl := (hS5.out.blkAt 4 rfl).lt
          intro K hK
          rw [if_pos (by rfl)]
          go_simp
          have hS6 := Lib.hid ((hS5.out.pick 4 (by simp)).set 0 (.slice a4 (k + 1) c4))
          refine hK.out _ _ (fun h => absurd h (by decide +kernel)) ?_
          clear hK K hS5 b0 bf bl
          generalize hW6 : World.setCell W5 ⟨Bx, 0, none⟩ (.slice a4 (k + 1) c4) = W6 at *
          clear hW6
          refine tailB_done (by kernel_rfl) ?_
          have hF := Lib.hid (fin47 (x := x) hk'.out (by rw [hxv.out]; exact hS6.out.picks [2, 2, 1, 1, 0, 0, 0, 0]))
          clear hS6
          gi_wp2_with fail
          exact hF.out
        · skip
          intro K hK
          rw [if_pos (by rfl)]
          go_simp
          have hS7 := Lib.hid (hS1.out.box [.int .i64 x.1.2] 2)
          refine hK.out _ _ (fun _ => hkc.out _ _ ((hS7.out.blkAt 2 rfl).cell 0 rfl) ((hS7.out.blkAt 4 rfl).cell 0 rfl)) ?_
          clear hK K hS1
          generalize hW7 : World.alloc W1 (.cells #[.int .i64 x.1.2] 2) = W7 at *
          generalize hB7 : (W1).heap.size = C7 at *
          clear hW7 hB7
          refine tailB_one 3 (by kernel_rfl) rfl ?_
          intro K hK
          refine step_app_at rfl (.tmp 28) (.tmp 30) 80 51 (.slice none 0 0) 1 24 rfl Tryz.underlying80 infoRow rfl (by omega) (by omega) (.slice aw k cw) k 1 (waysV pre) [.slice al mx cl] rfl rfl (hS7.out.blkAt 1 rfl) rfl (by simp [Value.oneCell']) (hS7.out.rowAt 3 rfl) (by omega) ?_
          intro a8 c8 W8 ho hm hb
          have hS8 := Lib.hid (hS7.out.growAt 3 rfl ho hm hb)
          clear ho hm hb
          try dsimp only
          refine hK.out _ _ (fun _ => hkc.out _ _ ((hS8.out.blkAt 2 rfl).cell 0 rfl) ((hS8.out.blkAt 4 rfl).cell 0 rfl)) ?_
          clear hK K hS7
          refine tailB_one 7 (by kernel_rfl) rfl ?_
          intro K hK
          refine step_app_at rfl (.tmp 32) (.tmp 34) 33 2 (.int .i64 0) 1 8 rfl Tryz.underlying33 infoI64b rfl (by omega) (by omega) (.slice ax k cx) k 1 (i64s (muchL pre)) [.int .i64 x.1.2] rfl rfl (hS8.out.blkAt 0 rfl) rfl (by simp [Value.oneCell']) (hS8.out.rowAt 5 rfl) (by omega) ?_
          intro a9 c9 W9 ho hm hb
          have hS9 := Lib.hid (hS8.out.growAt 5 rfl ho hm hb)
          clear ho hm hb
          try dsimp only
          refine hK.out _ _ (fun _ => hkc.out _ _ ((hS9.out.blkAt 2 rfl).cell 0 rfl) ((hS9.out.blkAt 4 rfl).cell 0 rfl)) ?_
          clear hK K hS8
          refine tailB_one 8 (by kernel_rfl) rfl ?_
          have b0 := (hS9.out.blkAt 2 rfl).cell 0 rfl
          have bf := (hS9.out.blkAt 2 rfl).free 0
          have bl := (hS9.out.blkAt 2 rfl).lt
          intro K hK
          rw [if_pos (by rfl)]
          go_simp
          have hS10 := Lib.hid ((hS9.out.pick 2 (by simp)).set 0 (.slice a8 (k + 1) c8))
          refine hK.out _ _ (fun h => absurd h (by decide +kernel)) ?_
          clear hK K hS9 b0 bf bl
          generalize hW10 : World.setCell W9 ⟨Bw, 0, none⟩ (.slice a8 (k + 1) c8) = W10 at *
          clear hW10
          refine tailB_one 9 (by kernel_rfl) rfl ?_
          have b0 := (hS10.out.blkAt 4 rfl).cell 0 rfl
          have bf := (hS10.out.blkAt 4 rfl).free 0
          have bl := (hS10.out.blkAt 4 rfl).lt
          intro K hK
          rw [if_pos (by rfl)]
          go_simp
          have hS11 := Lib.hid ((hS10.out.pick 4 (by simp)).set 0 (.slice a9 (k + 1) c9))
          refine hK.out _ _ (fun h => absurd h (by decide +kernel)) ?_
          clear hK K hS10 b0 bf bl
          generalize hW11 : World.setCell W10 ⟨Bx, 0, none⟩ (.slice a9 (k + 1) c9) = W11 at *
          clear hW11
          refine tailB_done (by kernel_rfl) ?_
          have hF := Lib.hid (fin47 (x := x) hk'.out (by rw [hxv.out]; exact hS11.out.picks [2, 2, 1, 1, 0, 0, 0, 0]))
          clear hS11
          gi_wp2_with fail
          exact hF.out
      · skip
        intro K hK
        rw [if_pos (by rfl)]
        go_simp
        have hS12 := Lib.hid (hS0.out.box [.int .i64 x.1.2] 2)
        refine hK.out _ _ (fun _ => hkc.out _ _ ((hS12.out.blkAt 1 rfl).cell 0 rfl) ((hS12.out.blkAt 3 rfl).cell 0 rfl)) ?_
        clear hK K hS0
        generalize hW12 : World.alloc Wd (.cells #[.int .i64 x.1.2] 2) = W12 at *
        generalize hB12 : (Wd).heap.size = C12 at *
        clear hW12 hB12
        refine tailB_one 2 (by kernel_rfl) rfl ?_
        intro K hK
        rw [if_pos (by rfl)]
        go_simp
        have hS13 := Lib.hid (hS12.out.box [.slice al mx cl] 51)
        refine hK.out _ _ (fun _ => hkc.out _ _ ((hS13.out.blkAt 2 rfl).cell 0 rfl) ((hS13.out.blkAt 4 rfl).cell 0 rfl)) ?_
        clear hK K hS12
        generalize hW13 : World.alloc W12 (.cells #[.slice al mx cl] 51) = W13 at *
        generalize hB13 : (W12).heap.size = C13 at *
        clear hW13 hB13
        refine tailB_one 3 (by kernel_rfl) rfl ?_
        intro K hK
        refine step_app_at rfl (.tmp 28) (.tmp 30) 80 51 (.slice none 0 0) 1 24 rfl Tryz.underlying80 infoRow rfl (by omega) (by omega) (.slice aw k cw) k 1 (waysV pre) [.slice al mx cl] rfl rfl (hS13.out.blkAt 0 rfl) rfl (by simp [Value.oneCell']) (hS13.out.rowAt 3 rfl) (by omega) ?_
        intro a14 c14 W14 ho hm hb
        have hS14 := Lib.hid (hS13.out.growAt 3 rfl ho hm hb)
        clear ho hm hb
        try dsimp only
        refine hK.out _ _ (fun _ => hkc.out _ _ ((hS14.out.blkAt 2 rfl).cell 0 rfl) ((hS14.out.blkAt 4 rfl).cell 0 rfl)) ?_
        clear hK K hS13
        refine tailB_one 7 (by kernel_rfl) rfl ?_
        intro K hK
        refine step_app_at rfl (.tmp 32) (.tmp 34) 33 2 (.int .i64 0) 1 8 rfl Tryz.underlying33 infoI64b rfl (by omega) (by omega) (.slice ax k cx) k 1 (i64s (muchL pre)) [.int .i64 x.1.2] rfl rfl (hS14.out.blkAt 1 rfl) rfl (by simp [Value.oneCell']) (hS14.out.rowAt 5 rfl) (by omega) ?_
        intro a15 c15 W15 ho hm hb
        have hS15 := Lib.hid (hS14.out.growAt 5 rfl ho hm hb)
        clear ho hm hb
        try dsimp only
        refine hK.out _ _ (fun _ => hkc.out _ _ ((hS15.out.blkAt 2 rfl).cell 0 rfl) ((hS15.out.blkAt 4 rfl).cell 0 rfl)) ?_
        clear hK K hS14
        refine tailB_one 8 (by kernel_rfl) rfl ?_
        have b0 := (hS15.out.blkAt 2 rfl).cell 0 rfl
        have bf := (hS15.out.blkAt 2 rfl).free 0
        have bl := (hS15.out.blkAt 2 rfl).lt
        intro K hK
        rw [if_pos (by rfl)]
        go_simp
        have hS16 := Lib.hid ((hS15.out.pick 2 (by simp)).set 0 (.slice a14 (k + 1) c14))
        refine hK.out _ _ (fun h => absurd h (by decide +kernel)) ?_
        clear hK K hS15 b0 bf bl
        generalize hW16 : World.setCell W15 ⟨Bw, 0, none⟩ (.slice a14 (k + 1) c14) = W16 at *
        clear hW16
        refine tailB_one 9 (by kernel_rfl) rfl ?_
        have b0 := (hS16.out.blkAt 4 rfl).cell 0 rfl
        have bf := (hS16.out.blkAt 4 rfl).free 0
        have bl := (hS16.out.blkAt 4 rfl).lt
        intro K hK
        rw [if_pos (by rfl)]
        go_simp
        have hS17 := Lib.hid ((hS16.out.pick 4 (by simp)).set 0 (.slice a15 (k + 1) c15))
        refine hK.out _ _ (fun h => absurd h (by decide +kernel)) ?_
        clear hK K hS16 b0 bf bl
        generalize hW17 : World.setCell W16 ⟨Bx, 0, none⟩ (.slice a15 (k + 1) c15) = W17 at *
        clear hW17
        refine tailB_done (by kernel_rfl) ?_
        have hF := Lib.hid (fin47 (x := x) hk'.out (by rw [hxv.out]; exact hS17.out.picks [2, 2, 1, 1, 0, 0, 0, 0]))
        clear hS17
        gi_wp2_with fail
        exact hF.out
    · intro D xs W hxs hS
      rw [← hA]
      obtain ⟨hpre, hdn⟩ := hxs
      have hSj : Sep w W (U47 Bw Bx xs :: ObjP D (.deferred (some [])) :: stR r ba n B1 B2 B3 L S T (noF L) [] xs) := hS.swap
      obtain ⟨⟨⟨aw, cw⟩, ⟨ax, cx⟩⟩, hSk⟩ := hSj.ex
      have hSm := Lib.hid (show Sep w W (Blk Bw [.slice aw xs.length cw] 80 :: Row 51 1 xs.length (.slice aw xs.length cw) (waysV xs) :: Blk Bx [.slice ax xs.length cx] 33 :: Row 2 1 xs.length (.slice ax xs.length cx) (i64s (muchL xs)) :: AllP (xs.map stRow) :: ObjP D (.deferred (some [])) :: stR r ba n B1 B2 B3 L S T (noF L) [] xs) from Sep.unall (L := U47L Bw Bx xs ((aw, cw), (ax, cx))) hSk)
      have hpd := Lib.hid (show PreW n L (S : Int) (T : Int) (noF L) (onlyS xs) ∧ IsDone n L (S : Int) (T : Int) (flowW L (noF L) (onlyS xs)) from ⟨hpre, hdn⟩)
      have hSd := Lib.hid (fun q => hSm.out.still ((Mod.refl [] W).drewN q))
      have c0 := (hSm.out.blkAt 0 rfl).cell 0 rfl
      have l0 := (hSm.out.blkAt 0 rfl).lt
      have c1 := (hSm.out.blkAt 2 rfl).cell 0 rfl
      have l1 := (hSm.out.blkAt 2 rfl).lt
      clear hS hSj hSk hpre hdn hA hA' hS6 hSm
      try dsimp only
      go_upto_region 10 with fail
      go_quiet (fail)
      have hS9 := Lib.hid (hSd.out nq)
      generalize W.drewN nq = W9 at *
      have hD := Lib.hid ((hS9.out.picks [5]).obj)
      have hS10 := Lib.hid ((hS9.out.picks [5]).putObj (.deferred none))
      clear hSd hS9 c0 l0 c1 l1
      go_wp2_with fail
      refine bodyPostM_retAt (v := .tuple #[.slice aw xs.length cw, .slice ax xs.length cx, .int .i64 0]) rfl hD.out ?_ ?_
      · simp [results, Tryz.results47, go_sem]
      · exact .inr ⟨hE'.out, xs, aw, ax, cw, cx, hpd.out.1, hpd.out.2, rfl, _, hS10.out.picks [2, 3, 3]⟩
    · intro D c pre W _ hS
      exact hS.swap.no.elim
  · have hE' := Lib.hid hE
    have t0 : (pairE n s t != 0) = true := by simpa using hE
    clear hE cN cK
    obtain ⟨E, hEE⟩ : ∃ E, pairE n s t = E := ⟨_, rfl⟩
    rw [hEE] at t0 ⊢
    have hE2 := Lib.hid hEE
    clear hEE
    go_wp2_with fail
    refine bodyPostM_ret0At (v := .tuple #[.slice none 0 0, .slice none 0 0, .int .i64 E]) rfl ?_ ?_
    · simp [results, Tryz.results47, go_sem]
    · exact .inl ⟨hE'.out, by rw [hE2.out], Mod.refl _ _⟩
end Edge
end Go.Proofs.YtjpfmkfikidgkaaGreat

set_option linter.unusedVariables false
set_option linter.unusedSimpArgs false
namespace Go.Proofs.YtjpfmkfikidgkaaGreat
open Go.RowKit
namespace Edge
theorem infoI64c : (Tryz.prog.info? 2).map (fun i => (i.zero, i.size, i.bytes)) = some (some (.int .i64 0), 1, 8) := by kernel_rfl
theorem tail_neg {L : List Ed} {i : Int} (h : ¬ (0 ≤ i ∧ i < 2 * L.length)) : tailI L i = -1 := by
  unfold tailI
  by_cases h0 : i < 0
  · rw [if_pos h0]
  · rw [if_neg h0, tailE_out (by omega)]
set_option maxRecDepth 100000 in
set_option maxHeartbeats 4000000 in
theorem xpush23 {n : Nat} {L : List Ed} {f : List Int} {a : Option Addr} {c : Nat} {fa : Option Addr} {fc : Nat} {w : World} (h : RX w L f a c fa fc) (hG : GOk n L) (hF : FB L f) (i : Int) (hi : i ≤ 9223372036854775807) (x : Int) (hx : -9223372036854775808 ≤ x ∧ x ≤ 9223372036854775807) :
    Calls Tryz.prog 21 #[restV n a L.length c fa fc, .int .i64 i, .int .i64 x] w fun e w' =>
      (mayP L f i x = false ∧ e = .returned (.tuple #[restV n a L.length c fa fc, .bool false]) ∧ Mod [] w w') ∨
      (mayP L f i x = true ∧ ∃ fa' fc', e = .returned (.tuple #[restV n a L.length c fa' fc', .bool true]) ∧ Made w w' 2 1 fa' L.length fc' (i64s (pushI L f i x))) := by
  obtain ⟨m, hm⟩ : ∃ m, L.length = m := ⟨_, rfl⟩
  have hlb : m ≤ 1048576 := by have := hG.len; omega
  have hS0 : Hid (Sep w ((w.alloc (.cells #[.int .i64 n, .slice a m c, .slice fa m fc] 35)).alloc (.cells #[.int .i64 0, .slice none 0 0, .slice none 0 0] 35)) [Blk (w.heap.size + 1) [.int .i64 0, .slice none 0 0, .slice none 0 0] 35, Blk w.heap.size [.int .i64 n, .slice a m c, .slice fa m fc] 35]) := Lib.hid (by
    have h5 := ((Sep.empty w).box [.int .i64 n, .slice a m c, .slice fa m fc] 35).box [.int .i64 0, .slice none 0 0, .slice none 0 0] 35
    simp only [World.size_alloc] at h5
    exact h5)
  have htl := Lib.hid (fun W (hM : Mod [] w W) => rtail_any n (h.l.still hM) hG.len i hi)
  have hlf := Lib.hid (fun W (hM : Mod [] w W) => xleft23 (h.still hM) hG hF i hi)
  unfold netV at htl
  unfold restV at hlf ⊢
  rw [hm] at htl hlf ⊢
  have hm' := Lib.hid hm
  have h' := Lib.hid h
  have hG' := Lib.hid hG
  have hF' := Lib.hid hF
  have c0 := (hS0.out.blkAt 1 rfl).cell 0 rfl
  have c1 := (hS0.out.blkAt 1 rfl).cell 1 rfl
  have cl := (hS0.out.blkAt 1 rfl).lt
  have hmay : mayP L f i x = decide ((0 ≤ i ∧ i < 2 * (m : Int)) ∧ 0 ≤ x ∧ x ≤ leftE L f i.toNat) := by unfold mayP; rw [hm]
  clear h hG hF hi
  by_cases hin : 0 ≤ i ∧ i < 2 * (m : Int)
  · obtain ⟨k, rfl⟩ := Int.eq_ofNat_of_zero_le hin.1
    have hk : k < 2 * L.length := by rw [hm]; omega
    have ht2 := (tail_in hG'.out hk).1
    have etl : tailI L (k : Int) = tailE L k := by unfold tailI; rw [if_neg (by omega), Int.toNat_natCast]
    have elf : leftI L f (k : Int) = leftE L f k := by unfold leftI; rw [if_pos (by omega), Int.toNat_natCast]
    rw [etl] at htl
    rw [elf] at hlf
    rw [Int.toNat_natCast] at hmay
    have hlin := leftE_in hG'.out hF'.out hk
    generalize tailE L k = t at *
    clear etl elf
    by_cases hx0 : x < 0
    · have hno := Lib.hid (show mayP L f (k : Int) x = false by rw [hmay]; simp; omega)
      clear hmay hm hlf hlin
      go_enter Tryz.func21, Tryz.ntmps21
      go_wp2_with fail
      refine (htl.out _ hS0.out.mod).mono ?_
      rintro e w1 ⟨rfl, hm1⟩
      have hS1 := Lib.hid (hS0.out.still hm1)
      clear hS0 c0 c1 cl hm1 htl
      generalize w.heap.size + 1 = C at *
      generalize w.heap.size = B at *

      have b0 := (hS1.out.blkAt 1 rfl).cell 0 rfl
      have b1 := (hS1.out.blkAt 1 rfl).cell 1 rfl
      have b2 := (hS1.out.blkAt 1 rfl).cell 2 rfl
      have bl := (hS1.out.blkAt 1 rfl).lt
      have bf := (hS1.out.blkAt 1 rfl).free
      have k0 := (hS1.out.blkAt 0 rfl).cell 0 rfl
      have k1 := (hS1.out.blkAt 0 rfl).cell 1 rfl
      have k2 := (hS1.out.blkAt 0 rfl).cell 2 rfl
      have kl := (hS1.out.blkAt 0 rfl).lt
      have kf := (hS1.out.blkAt 0 rfl).free
      have hS9 := ((hS1.out.setAt 0 rfl 0 (.int .i64 n)).setAt 0 rfl 1 (.slice a m c)).setAt 0 rfl 2 (.slice fa m fc)
      have s0 := (hS9.blkAt 0 rfl).cell 0 rfl
      have s1 := (hS9.blkAt 0 rfl).cell 1 rfl
      have s2 := (hS9.blkAt 0 rfl).cell 2 rfl
      have hfin := Lib.hid hS9.mod
      clear hS9
      try dsimp only
      go_wp2_with fail
      generalize ((w1.setCell ⟨C, 0, none⟩ (.int .i64 n)).setCell ⟨C, 1, none⟩ (.slice a m c)).setCell ⟨C, 2, none⟩ (.slice fa m fc) = wf at *
      refine bodyPost_ret (v := .tuple #[.agg #[.int .i64 n, .slice a m c, .slice fa m fc], .bool false]) ?_ rfl (.inl ⟨hno.out, rfl, hfin.out⟩)
      simp [results, Tryz.results21, go_sem, s0, s1, s2]
    · by_cases hxl : x ≤ leftE L f k
      · have hyes := Lib.hid (show mayP L f (k : Int) x = true by rw [hmay]; simp; omega)
        have epu : pushI L f (k : Int) x = pushF f k x := by unfold pushI; rw [if_pos hyes.out, Int.toNat_natCast]
        rw [epu]
        clear hmay hm epu
        have hkm : k / 2 < m := by omega
        have hkm1 : (k : Int) / 2 < m := by omega
        have hfb := hF'.out.get (k / 2) (by omega)
        have hcap := capE_le hG'.out k
        rw [capE_get hk] at hcap
        have hfl := h'.out.len
        have hgd : f[k / 2]? = some (f.getD (k / 2) 0) := by rw [List.getD_eq_getElem?_getD, List.getElem?_eq_getElem (by omega)]; rfl
        have hgd' := Lib.hid hgd
        have hpu : pushF f k x = f.set (k / 2) (if k % 2 = 0 then f.getD (k / 2) 0 + x else f.getD (k / 2) 0 - x) := rfl
        rw [hpu]
        have hyb : -2251799813685248 ≤ f.getD (k / 2) 0 ∧ f.getD (k / 2) 0 ≤ 2251799813685248 := by omega
        have hxb : 0 ≤ x ∧ x ≤ 4503599627370496 := by omega
        generalize f.getD (k / 2) 0 = y at *
        generalize leftE L f k = lz at *
        clear hfb hcap hfl hgd hpu hk
        by_cases h2 : k % 2 = 0
        · have t1 : ((k : Int) % 2 == 0) = true := by simp; omega
          rw [if_pos h2]
          clear h2
          go_enter Tryz.func21, Tryz.ntmps21
          go_wp2_with fail
          refine (htl.out _ hS0.out.mod).mono ?_
          rintro e w1 ⟨rfl, hm1⟩
          have hS1 := Lib.hid (hS0.out.still hm1)
          clear hS0 c0 c1 cl hm1 htl
          generalize w.heap.size + 1 = C at *
          generalize w.heap.size = B at *
          have b0 := (hS1.out.blkAt 1 rfl).cell 0 rfl
          have b1 := (hS1.out.blkAt 1 rfl).cell 1 rfl
          have b2 := (hS1.out.blkAt 1 rfl).cell 2 rfl
          have bl := (hS1.out.blkAt 1 rfl).lt
          have bf := (hS1.out.blkAt 1 rfl).free
          try dsimp only
          go_wp2_with fail
          refine (hlf.out _ hS1.out.mod).mono ?_
          rintro e w2 ⟨rfl, hm2⟩
          have hS2 := Lib.hid (hS1.out.still hm2)
          clear b0 b1 b2 bl bf hm2 hlf hS1

          have b0 := (hS2.out.blkAt 1 rfl).cell 0 rfl
          have b1 := (hS2.out.blkAt 1 rfl).cell 1 rfl
          have b2 := (hS2.out.blkAt 1 rfl).cell 2 rfl
          have bl := (hS2.out.blkAt 1 rfl).lt
          have bf := (hS2.out.blkAt 1 rfl).free
          have hRd := Lib.hid (h'.out.f.still hS2.out.mod)
          rw [hm'.out] at hRd
          try dsimp only
          go_upto_region 4 with (at_builtin; refine app_rd rfl (.tmp 26) (.tmp 28) 33 2 _ 1 8 rfl Tryz.underlying33 infoI64c rfl (by omega) (by omega) (.slice (some ⟨w2.heap.size, 0, none⟩) 0 0) (.slice fa m fc) 0 m [] (i64s f) rfl rfl (i64s_one f) (World.ownsRow_made w2 #[] 0 (Nat.zero_le _) (Nat.zero_le _) rfl) (hRd.out.still ((Mod.refl _ _).alloc _)) (by omega) ?_; intro a1 c1 w3 hi mi ni)
          rw [Nat.zero_add] at hi ni
          have hmi : Made w2 w3 2 1 a1 m c1 (i64s f) := ⟨by simpa using hi, ((Mod.refl [] w2).alloc _).ge mi (by simp [Value.ownBlock]), ge_of_old _ (by simp [Value.ownBlock]) ni (by simp)⟩
          have hS3 := Lib.hid (hS2.out.made hmi)
          clear hi mi ni hmi hS2 b0 b1 b2 bl bf hRd
          obtain ⟨g1, rfl, hg1, hfz, hcell⟩ := row_form (hS3.out.rowAt 0 rfl) (by omega)
          have r5 := hcell (k / 2) (.int .i64 y) (i64s_got hgd'.out)
          have rz := hfz (k / 2)
          have hS4 := Lib.hid (hS3.out.rowsetAt 0 rfl (k / 2) (.int .i64 (y + x)))
          rw [i64s_set] at hS4
          clear hS3 hcell hfz
          go_upto_region 7 with fail
          clear r5 rz
          have s4 : Hid (Sep w (w3.setCell ⟨g1, k / 2, none⟩ (.int .i64 (y + x))) _) := hS4
          clear hS4
          generalize w3.setCell ⟨g1, k / 2, none⟩ (.int .i64 (y + x)) = w4 at *
          have b0 := (s4.out.blkAt 2 rfl).cell 0 rfl
          have b1 := (s4.out.blkAt 2 rfl).cell 1 rfl
          have b2 := (s4.out.blkAt 2 rfl).cell 2 rfl
          have bl := (s4.out.blkAt 2 rfl).lt
          have bf := (s4.out.blkAt 2 rfl).free
          have k0 := (s4.out.blkAt 1 rfl).cell 0 rfl
          have k1 := (s4.out.blkAt 1 rfl).cell 1 rfl
          have k2 := (s4.out.blkAt 1 rfl).cell 2 rfl
          have kl := (s4.out.blkAt 1 rfl).lt
          have kf := (s4.out.blkAt 1 rfl).free
          have hS9 := ((s4.out.setAt 1 rfl 0 (.int .i64 n)).setAt 1 rfl 1 (.slice a m c)).setAt 1 rfl 2 (.slice (some ⟨g1, 0, none⟩) m c1)
          have s0 := (hS9.blkAt 1 rfl).cell 0 rfl
          have s1 := (hS9.blkAt 1 rfl).cell 1 rfl
          have s2 := (hS9.blkAt 1 rfl).cell 2 rfl
          have hfin := Lib.hid hS9.toMade
          clear hS9 s4
          try dsimp only
          go_wp2_with fail
          generalize ((w4.setCell ⟨C, 0, none⟩ (.int .i64 n)).setCell ⟨C, 1, none⟩ (.slice a m c)).setCell ⟨C, 2, none⟩ (.slice (some ⟨g1, 0, none⟩) m c1) = wf at *
          refine bodyPost_ret (v := .tuple #[.agg #[.int .i64 n, .slice a m c, .slice (some ⟨g1, 0, none⟩) m c1], .bool true]) ?_ rfl (.inr ⟨hyes.out, _, _, rfl, hfin.out⟩)
          simp [results, Tryz.results21, go_sem, s0, s1, s2]
        · have t1 : ((k : Int) % 2 == 0) = false := by simp; omega
          rw [if_neg h2]
          clear h2
          go_enter Tryz.func21, Tryz.ntmps21
          go_wp2_with fail
          refine (htl.out _ hS0.out.mod).mono ?_
          rintro e w1 ⟨rfl, hm1⟩
          have hS1 := Lib.hid (hS0.out.still hm1)
          clear hS0 c0 c1 cl hm1 htl
          generalize w.heap.size + 1 = C at *
          generalize w.heap.size = B at *
          have b0 := (hS1.out.blkAt 1 rfl).cell 0 rfl
          have b1 := (hS1.out.blkAt 1 rfl).cell 1 rfl
          have b2 := (hS1.out.blkAt 1 rfl).cell 2 rfl
          have bl := (hS1.out.blkAt 1 rfl).lt
          have bf := (hS1.out.blkAt 1 rfl).free
          try dsimp only
          go_wp2_with fail
          refine (hlf.out _ hS1.out.mod).mono ?_
          rintro e w2 ⟨rfl, hm2⟩
          have hS2 := Lib.hid (hS1.out.still hm2)
          clear b0 b1 b2 bl bf hm2 hlf hS1

          have b0 := (hS2.out.blkAt 1 rfl).cell 0 rfl
          have b1 := (hS2.out.blkAt 1 rfl).cell 1 rfl
          have b2 := (hS2.out.blkAt 1 rfl).cell 2 rfl
          have bl := (hS2.out.blkAt 1 rfl).lt
          have bf := (hS2.out.blkAt 1 rfl).free
          have hRd := Lib.hid (h'.out.f.still hS2.out.mod)
          rw [hm'.out] at hRd
          try dsimp only
          go_upto_region 4 with (at_builtin; refine app_rd rfl (.tmp 26) (.tmp 28) 33 2 _ 1 8 rfl Tryz.underlying33 infoI64c rfl (by omega) (by omega) (.slice (some ⟨w2.heap.size, 0, none⟩) 0 0) (.slice fa m fc) 0 m [] (i64s f) rfl rfl (i64s_one f) (World.ownsRow_made w2 #[] 0 (Nat.zero_le _) (Nat.zero_le _) rfl) (hRd.out.still ((Mod.refl _ _).alloc _)) (by omega) ?_; intro a1 c1 w3 hi mi ni)
          rw [Nat.zero_add] at hi ni
          have hmi : Made w2 w3 2 1 a1 m c1 (i64s f) := ⟨by simpa using hi, ((Mod.refl [] w2).alloc _).ge mi (by simp [Value.ownBlock]), ge_of_old _ (by simp [Value.ownBlock]) ni (by simp)⟩
          have hS3 := Lib.hid (hS2.out.made hmi)
          clear hi mi ni hmi hS2 b0 b1 b2 bl bf hRd
          obtain ⟨g1, rfl, hg1, hfz, hcell⟩ := row_form (hS3.out.rowAt 0 rfl) (by omega)
          have r5 := hcell (k / 2) (.int .i64 y) (i64s_got hgd'.out)
          have rz := hfz (k / 2)
          have hS4 := Lib.hid (hS3.out.rowsetAt 0 rfl (k / 2) (.int .i64 (y - x)))
          rw [i64s_set] at hS4
          clear hS3 hcell hfz
          go_upto_region 7 with fail
          clear r5 rz
          have s4 : Hid (Sep w (w3.setCell ⟨g1, k / 2, none⟩ (.int .i64 (y - x))) _) := hS4
          clear hS4
          generalize w3.setCell ⟨g1, k / 2, none⟩ (.int .i64 (y - x)) = w4 at *
          have b0 := (s4.out.blkAt 2 rfl).cell 0 rfl
          have b1 := (s4.out.blkAt 2 rfl).cell 1 rfl
          have b2 := (s4.out.blkAt 2 rfl).cell 2 rfl
          have bl := (s4.out.blkAt 2 rfl).lt
          have bf := (s4.out.blkAt 2 rfl).free
          have k0 := (s4.out.blkAt 1 rfl).cell 0 rfl
          have k1 := (s4.out.blkAt 1 rfl).cell 1 rfl
          have k2 := (s4.out.blkAt 1 rfl).cell 2 rfl
          have kl := (s4.out.blkAt 1 rfl).lt
          have kf := (s4.out.blkAt 1 rfl).free
          have hS9 := ((s4.out.setAt 1 rfl 0 (.int .i64 n)).setAt 1 rfl 1 (.slice a m c)).setAt 1 rfl 2 (.slice (some ⟨g1, 0, none⟩) m c1)
          have s0 := (hS9.blkAt 1 rfl).cell 0 rfl
          have s1 := (hS9.blkAt 1 rfl).cell 1 rfl
          have s2 := (hS9.blkAt 1 rfl).cell 2 rfl
          have hfin := Lib.hid hS9.toMade
          clear hS9 s4
          try dsimp only
          go_wp2_with fail
          generalize ((w4.setCell ⟨C, 0, none⟩ (.int .i64 n)).setCell ⟨C, 1, none⟩ (.slice a m c)).setCell ⟨C, 2, none⟩ (.slice (some ⟨g1, 0, none⟩) m c1) = wf at *
          refine bodyPost_ret (v := .tuple #[.agg #[.int .i64 n, .slice a m c, .slice (some ⟨g1, 0, none⟩) m c1], .bool true]) ?_ rfl (.inr ⟨hyes.out, _, _, rfl, hfin.out⟩)
          simp [results, Tryz.results21, go_sem, s0, s1, s2]
      · have hno := Lib.hid (show mayP L f (k : Int) x = false by rw [hmay]; simp; omega)
        generalize leftE L f k = y at *
        clear hmay hm
        go_enter Tryz.func21, Tryz.ntmps21
        go_wp2_with fail
        refine (htl.out _ hS0.out.mod).mono ?_
        rintro e w1 ⟨rfl, hm1⟩
        have hS1 := Lib.hid (hS0.out.still hm1)
        clear hS0 c0 c1 cl hm1 htl
        generalize w.heap.size + 1 = C at *
        generalize w.heap.size = B at *
        have b0 := (hS1.out.blkAt 1 rfl).cell 0 rfl
        have b1 := (hS1.out.blkAt 1 rfl).cell 1 rfl
        have b2 := (hS1.out.blkAt 1 rfl).cell 2 rfl
        have bl := (hS1.out.blkAt 1 rfl).lt
        have bf := (hS1.out.blkAt 1 rfl).free
        try dsimp only
        go_wp2_with fail
        refine (hlf.out _ hS1.out.mod).mono ?_
        rintro e w2 ⟨rfl, hm2⟩
        have hS2 := Lib.hid (hS1.out.still hm2)
        clear b0 b1 b2 bl bf hm2 hlf hS1

        have b0 := (hS2.out.blkAt 1 rfl).cell 0 rfl
        have b1 := (hS2.out.blkAt 1 rfl).cell 1 rfl
        have b2 := (hS2.out.blkAt 1 rfl).cell 2 rfl
        have bl := (hS2.out.blkAt 1 rfl).lt
        have bf := (hS2.out.blkAt 1 rfl).free
        have k0 := (hS2.out.blkAt 0 rfl).cell 0 rfl
        have k1 := (hS2.out.blkAt 0 rfl).cell 1 rfl
        have k2 := (hS2.out.blkAt 0 rfl).cell 2 rfl
        have kl := (hS2.out.blkAt 0 rfl).lt
        have kf := (hS2.out.blkAt 0 rfl).free
        have hS9 := ((hS2.out.setAt 0 rfl 0 (.int .i64 n)).setAt 0 rfl 1 (.slice a m c)).setAt 0 rfl 2 (.slice fa m fc)
        have s0 := (hS9.blkAt 0 rfl).cell 0 rfl
        have s1 := (hS9.blkAt 0 rfl).cell 1 rfl
        have s2 := (hS9.blkAt 0 rfl).cell 2 rfl
        have hfin := Lib.hid hS9.mod
        clear hS9
        try dsimp only
        go_wp2_with fail
        generalize ((w2.setCell ⟨C, 0, none⟩ (.int .i64 n)).setCell ⟨C, 1, none⟩ (.slice a m c)).setCell ⟨C, 2, none⟩ (.slice fa m fc) = wf at *
        refine bodyPost_ret (v := .tuple #[.agg #[.int .i64 n, .slice a m c, .slice fa m fc], .bool false]) ?_ rfl (.inl ⟨hno.out, rfl, hfin.out⟩)
        simp [results, Tryz.results21, go_sem, s0, s1, s2]
  · have hno := Lib.hid (show mayP L f i x = false by rw [hmay]; simp only [decide_eq_false_iff_not]; exact fun hh => hin hh.1)
    rw [tail_neg (by rw [hm]; exact hin)] at htl
    clear hmay hin hm hlf
    go_enter Tryz.func21, Tryz.ntmps21
    go_wp2_with fail
    refine (htl.out _ hS0.out.mod).mono ?_
    rintro e w1 ⟨rfl, hm1⟩
    have hS1 := Lib.hid (hS0.out.still hm1)
    clear hS0 c0 c1 cl hm1 htl
    generalize w.heap.size + 1 = C at *
    generalize w.heap.size = B at *

    have b0 := (hS1.out.blkAt 1 rfl).cell 0 rfl
    have b1 := (hS1.out.blkAt 1 rfl).cell 1 rfl
    have b2 := (hS1.out.blkAt 1 rfl).cell 2 rfl
    have bl := (hS1.out.blkAt 1 rfl).lt
    have bf := (hS1.out.blkAt 1 rfl).free
    have k0 := (hS1.out.blkAt 0 rfl).cell 0 rfl
    have k1 := (hS1.out.blkAt 0 rfl).cell 1 rfl
    have k2 := (hS1.out.blkAt 0 rfl).cell 2 rfl
    have kl := (hS1.out.blkAt 0 rfl).lt
    have kf := (hS1.out.blkAt 0 rfl).free
    have hS9 := ((hS1.out.setAt 0 rfl 0 (.int .i64 n)).setAt 0 rfl 1 (.slice a m c)).setAt 0 rfl 2 (.slice fa m fc)
    have s0 := (hS9.blkAt 0 rfl).cell 0 rfl
    have s1 := (hS9.blkAt 0 rfl).cell 1 rfl
    have s2 := (hS9.blkAt 0 rfl).cell 2 rfl
    have hfin := Lib.hid hS9.mod
    clear hS9
    try dsimp only
    go_wp2_with fail
    generalize ((w1.setCell ⟨C, 0, none⟩ (.int .i64 n)).setCell ⟨C, 1, none⟩ (.slice a m c)).setCell ⟨C, 2, none⟩ (.slice fa m fc) = wf at *
    refine bodyPost_ret (v := .tuple #[.agg #[.int .i64 n, .slice a m c, .slice fa m fc], .bool false]) ?_ rfl (.inl ⟨hno.out, rfl, hfin.out⟩)
    simp [results, Tryz.results21, go_sem, s0, s1, s2]
end Edge
end Go.Proofs.YtjpfmkfikidgkaaGreat

set_option linter.unusedVariables false
set_option linter.unusedSimpArgs false
namespace Go.Proofs.YtjpfmkfikidgkaaGreat
namespace Edge
def hasB (B : List Bool) (x : Nat) : Bool := B.getD x false
def cntB (B : List Bool) : Nat := B.countP id
def stepA (L : List Ed) (f : List Int) (B : List Bool) (i : Nat) : List Bool := if hasB B (tailE L i).toNat = true ∧ 0 < leftE L f i then B.set (headE L i).toNat true else B
def roundA (L : List Ed) (f : List Int) (B : List Bool) : Nat → List Bool
  | 0 => B
  | k + 1 => stepA L f (roundA L f B k) k
def roundsA (L : List Ed) (f : List Int) (B : List Bool) : Nat → List Bool
  | 0 => B
  | j + 1 => roundA L f (roundsA L f B j) (2 * L.length)
theorem hasB_set {B : List Bool} {h : Nat} (hh : h < B.length) (x : Nat) : hasB (B.set h true) x = (decide (h = x) || hasB B x) := by
  unfold hasB
  rw [List.getD_eq_getElem?_getD, List.getD_eq_getElem?_getD, List.getElem?_set]
  by_cases c : h = x
  · subst c; simp [hh]
  · simp [c]
theorem set_grow : ∀ {B : List Bool} {h : Nat}, h < B.length → hasB B h = false → cntB (B.set h true) = cntB B + 1
  | b :: B, 0, _, h2 => by
    have h3 : b = false := by simpa [hasB] using h2
    subst h3
    simp [cntB]
  | b :: B, h + 1, h1, h2 => by
    have := set_grow (B := B) (h := h) (by simpa using h1) (by simpa [hasB] using h2)
    simp only [cntB, List.set_cons_succ, List.countP_cons] at this ⊢
    omega
theorem set_same : ∀ {B : List Bool} {h : Nat}, hasB B h = true → B.set h true = B
  | [], h, h2 => by simp
  | b :: B, 0, h2 => by
    have h3 : b = true := by simpa [hasB] using h2
    subst h3
    simp
  | b :: B, h + 1, h2 => by
    have := set_same (B := B) (h := h) (by simpa [hasB] using h2)
    simp [this]
theorem cnt_le (B : List Bool) : cntB B ≤ B.length := List.countP_le_length
section
variable {n : Nat} {L : List Ed} {f : List Int}
theorem stepA_len (B : List Bool) (i : Nat) : (stepA L f B i).length = B.length := by unfold stepA; split <;> simp
theorem roundA_len (B : List Bool) : ∀ k, (roundA L f B k).length = B.length
  | 0 => rfl
  | k + 1 => by rw [roundA, stepA_len, roundA_len B k]
theorem roundsA_len (B : List Bool) : ∀ j, (roundsA L f B j).length = B.length
  | 0 => rfl
  | j + 1 => by rw [roundsA, roundA_len, roundsA_len B j]
def closedA (L : List Ed) (f : List Int) (B : List Bool) (k : Nat) : Prop := ∀ i, i < k → hasB B (tailE L i).toNat = true → 0 < leftE L f i → hasB B (headE L i).toNat = true
theorem step_or (hG : GOk n L) {B : List Bool} (hB : B.length = n) {i : Nat} (hi : i < 2 * L.length) :
    (stepA L f B i = B ∧ (hasB B (tailE L i).toNat = true → 0 < leftE L f i → hasB B (headE L i).toNat = true)) ∨ cntB (stepA L f B i) = cntB B + 1 := by
  unfold stepA
  by_cases c : hasB B (tailE L i).toNat = true ∧ 0 < leftE L f i
  · rw [if_pos c]
    cases ch : hasB B (headE L i).toNat with
    | true => exact .inl ⟨set_same ch, fun _ _ => rfl⟩
    | false =>
      have := head_in hG hi
      exact .inr (set_grow (by omega) ch)
  · rw [if_neg c]
    exact .inl ⟨rfl, fun h1 h2 => absurd ⟨h1, h2⟩ c⟩
theorem round_or (hG : GOk n L) {B : List Bool} (hB : B.length = n) : ∀ k, k ≤ 2 * L.length → (roundA L f B k = B ∧ closedA L f B k) ∨ cntB B + 1 ≤ cntB (roundA L f B k)
  | 0, _ => .inl ⟨rfl, fun i hi => by omega⟩
  | k + 1, hk => by
    have hs := step_or (f := f) hG (B := roundA L f B k) (by rw [roundA_len, hB]) (i := k) (by omega)
    rcases round_or hG hB k (by omega) with ⟨h1, h2⟩ | h1
    · rw [roundA]
      rw [h1] at hs ⊢
      rcases hs with ⟨h3, h4⟩ | h3
      · refine .inl ⟨h3, fun i hi => ?_⟩
        by_cases c : i = k
        · subst c; exact h4
        · exact h2 i (by omega)
      · exact .inr (by omega)
    · rw [roundA]
      rcases hs with ⟨h3, _⟩ | h3
      · rw [h3]; exact .inr h1
      · exact .inr (by omega)
theorem closed_same {B : List Bool} (hc : closedA L f B (2 * L.length)) : ∀ k, k ≤ 2 * L.length → roundA L f B k = B
  | 0, _ => rfl
  | k + 1, hk => by
    rw [roundA, closed_same hc k (by omega)]
    unfold stepA
    by_cases c : hasB B (tailE L k).toNat = true ∧ 0 < leftE L f k
    · rw [if_pos c]; exact set_same (hc k (by omega) c.1 c.2)
    · rw [if_neg c]
theorem rounds_or (hG : GOk n L) {B : List Bool} (hB : B.length = n) : ∀ j, closedA L f (roundsA L f B j) (2 * L.length) ∨ cntB B + j ≤ cntB (roundsA L f B j)
  | 0 => .inr (Nat.le_refl _)
  | j + 1 => by
    rcases rounds_or hG hB j with h | h
    · rw [roundsA, closed_same h _ (Nat.le_refl _)]; exact .inl h
    · rcases round_or (f := f) hG (B := roundsA L f B j) (by rw [roundsA_len, hB]) (2 * L.length) (Nat.le_refl _) with ⟨h1, h2⟩ | h1
      · rw [roundsA, h1]; exact .inl h2
      · rw [roundsA]; exact .inr (by omega)
theorem hasB_lt {B : List Bool} {x : Nat} (h : hasB B x = true) : x < B.length := by
  unfold hasB at h
  rw [List.getD_eq_getElem?_getD] at h
  cases c : B[x]? with
  | none => rw [c] at h; simp at h
  | some _ => exact (List.getElem?_eq_some_iff.1 c).1
def goodA (L : List Ed) (f : List Int) (v : Nat) (B : List Bool) : Prop := hasB B v = true ∧ ∀ x, hasB B x = true → Rch L f v x
theorem goodA.step (hG : GOk n L) {v : Nat} {B : List Bool} (hB : B.length = n) (h : goodA L f v B) {i : Nat} (hi : i < 2 * L.length) : goodA L f v (stepA L f B i) := by
  unfold stepA
  by_cases c : hasB B (tailE L i).toNat = true ∧ 0 < leftE L f i
  · rw [if_pos c]
    have hh := head_in hG hi
    have ht := tail_in hG hi
    have hl : (headE L i).toNat < B.length := by omega
    refine ⟨by rw [hasB_set hl, h.1]; simp, fun x hx => ?_⟩
    rw [hasB_set hl] at hx
    simp only [Bool.or_eq_true, decide_eq_true_eq] at hx
    rcases hx with rfl | hx
    · exact .step (h.2 _ c.1) hi (by omega) c.2 (by omega)
    · exact h.2 x hx
  · rw [if_neg c]; exact h
theorem goodA.round (hG : GOk n L) {v : Nat} {B : List Bool} (hB : B.length = n) (h : goodA L f v B) : ∀ k, k ≤ 2 * L.length → goodA L f v (roundA L f B k)
  | 0, _ => h
  | k + 1, hk => (goodA.round hG hB h k (by omega)).step hG (by rw [roundA_len, hB]) (by omega)
theorem goodA.rounds (hG : GOk n L) {v : Nat} {B : List Bool} (hB : B.length = n) (h : goodA L f v B) : ∀ j, goodA L f v (roundsA L f B j)
  | 0 => h
  | j + 1 => (goodA.rounds hG hB h j).round hG (by rw [roundsA_len, hB]) _ (Nat.le_refl _)
/-- At first v alone. -/
def oneB (n v : Nat) : List Bool := (List.replicate n false).set v true
theorem oneB_len (n v : Nat) : (oneB n v).length = n := by simp [oneB]
theorem hasB_none (n x : Nat) : hasB (List.replicate n false) x = false := by
  unfold hasB
  rw [List.getD_eq_getElem?_getD, List.getElem?_replicate]
  split <;> rfl
theorem oneB_has {v : Nat} (hv : v < n) (x : Nat) : hasB (oneB n v) x = decide (v = x) := by
  unfold oneB
  rw [hasB_set (by simpa using hv), hasB_none]; simp
theorem oneB_cnt {v : Nat} (hv : v < n) : cntB (oneB n v) = 1 := by
  unfold oneB
  rw [set_grow (by simpa using hv) (hasB_none n v)]
  simp [cntB, List.countP_replicate]
/-- Who is in it. -/
def listB (n : Nat) (B : List Bool) : List Nat := (List.range n).filter fun x => hasB B x
theorem rounds_all (hG : GOk n L) {v : Nat} (hv : v < n) : IsReach L f v (listB n (roundsA L f (oneB n v) n)) := by
  have hl := oneB_len n v
  have hg : goodA L f v (roundsA L f (oneB n v) n) := goodA.rounds hG hl ⟨by rw [oneB_has hv]; simp, fun x hx => by
    rw [oneB_has hv] at hx
    have : v = x := by simpa using hx
    subst this
    exact .base⟩ n
  have hc : closedA L f (roundsA L f (oneB n v) n) (2 * L.length) := by
    rcases rounds_or (f := f) hG hl n with h | h
    · exact h
    · rw [oneB_cnt hv] at h
      have := cnt_le (roundsA L f (oneB n v) n)
      rw [roundsA_len, hl] at this
      omega
  refine ⟨?_, fun x => ?_⟩
  · exact (List.pairwise_lt_range (n := n)).filter _
  · unfold listB
    rw [List.mem_filter, List.mem_range]
    refine ⟨fun h => hg.2 x h.2, fun h => ⟨rch_lt hG hv h, ?_⟩⟩
    induction h with
    | base => exact hg.1
    | step h1 h2 h3 h4 h5 ih =>
      have := hc _ h2
      rw [h3, h5, Int.toNat_natCast, Int.toNat_natCast] at this
      exact this ih h4
end
end Edge
end Go.Proofs.YtjpfmkfikidgkaaGreat

set_option linter.unusedVariables false
set_option linter.unusedSimpArgs false
namespace Go.Proofs.YtjpfmkfikidgkaaGreat
open Go.RowKit
namespace Edge
theorem xroom09 {n : Nat} (hn : n ≤ 4096) (w : World) : Calls Tryz.prog 236 #[.int .i64 n] w fun e w' => e = .returned (.int .i64 n) ∧ w' = w := by
  have e : max (0 : Int) (min (n : Int) 4096) = n := by omega
  go_enter Tryz.func236, Tryz.ntmps236
  go_wp2_with fail
  go_ret
  refine ⟨?_, rfl⟩
  congr 2
set_option maxRecDepth 100000 in
set_option maxHeartbeats 2000000 in
theorem xset09 {n : Nat} (hn : n ≤ 4096) (w : World) : Calls Tryz.prog 181 #[.int .i64 n] w fun e w' => ∃ g, e = .returned (.agg #[.int .i64 n, .slice (some ⟨g, 0, none⟩) n n]) ∧ Made w w' 4 1 (some ⟨g, 0, none⟩) n n (boolV (List.replicate n false)) := by
  have hr := Lib.hid (fun W => xroom09 hn W)
  have hmk := make_run (P := Tryz.prog) 211 4 (.bool false) 1 Tryz.underlying211 infoB5 rfl (by omega) n (by omega)
  have hS : Hid (Sep w ((w.alloc (.cells #[.int .i64 n, .slice (some ⟨w.heap.size + 1, 0, none⟩) n n] 253)).alloc (.cells (madeCells #[.bool false] n) 4)) [Row 4 1 n (.slice (some ⟨w.heap.size + 1, 0, none⟩) n n) (boolV (List.replicate n false)), Blk w.heap.size [.int .i64 n, .slice (some ⟨w.heap.size + 1, 0, none⟩) n n] 253]) := Lib.hid (by
    have h5 := ((Sep.empty w).box [.int .i64 n, .slice (some ⟨w.heap.size + 1, 0, none⟩) n n] 253).made (made_made _ 4 (.bool false) n (by omega))
    simp only [World.size_alloc] at h5
    rw [boolV_none]
    exact h5)
  have hfin := Lib.hid hS.out.toMade
  have s0' := Lib.hid ((hS.out.blkAt 1 rfl).cell 0 rfl)
  have s1' := Lib.hid ((hS.out.blkAt 1 rfl).cell 1 rfl)
  clear hS
  go_enter Tryz.func181, Tryz.ntmps181
  go_wp2_with (go_at_call 236; refine (hr.out _).mono ?_; rintro e w1 ⟨rfl, hw1⟩; subst w1)
  have s0 := s0'.out
  have s1 := s1'.out
  clear s0' s1'
  generalize (w.alloc (.cells #[.int .i64 n, .slice (some ⟨w.heap.size + 1, 0, none⟩) n n] 253)).alloc (.cells (madeCells #[.bool false] n) 4) = wf at *
  refine bodyPost_ret (v := .agg #[.int .i64 n, .slice (some ⟨w.heap.size + 1, 0, none⟩) n n]) ?_ rfl ⟨_, rfl, hfin.out⟩
  simp [results, Tryz.results181, go_sem, s0, s1]
/-- Who is in it, among the first k. -/
def listK (B : List Bool) (k : Nat) : List Nat := (List.range k).filter fun x => hasB B x
theorem listK_succ (B : List Bool) (k : Nat) : listK B (k + 1) = listK B k ++ if hasB B k = true then [k] else [] := by
  unfold listK
  rw [List.range_succ, List.filter_append]
  by_cases h : hasB B k = true
  · simp [h]
  · simp [h]
theorem listK_len (B : List Bool) (k : Nat) : (listK B k).length ≤ k := by
  unfold listK
  refine Nat.le_trans (List.length_filter_le _ _) ?_
  simp
theorem boolB_cell {B : List Bool} {k : Nat} (hk : k < B.length) : (boolV B)[k]? = some (.bool (hasB B k)) := by
  refine boolV_got ?_
  unfold hasB
  rw [List.getD_eq_getElem?_getD, List.getElem?_eq_getElem hk]; rfl
set_option maxRecDepth 100000 in
set_option maxHeartbeats 2000000 in
theorem xlist09 {n : Nat} (hn : n ≤ 4096) {B : List Bool} (hB : B.length = n) {a : Option Addr} {c : Nat} {w : World} (h : Rd w 1 (.slice a n c) n (boolV B)) :
    Calls Tryz.prog 183 #[.agg #[.int .i64 n, .slice a n c]] w fun e w' => ∃ ao co, e = .returned (.slice ao (listB n B).length co) ∧ Made w w' 3 1 ao (listB n B).length co (i64s (ints (listB n B))) := by
  have h' := Lib.hid h
  have hbx := Has.new w [.int .i64 n, .slice a n c] 253
  have b0 := hbx.cell 0 rfl
  have b1 := hbx.cell 1 rfl
  have bl := hbx.lt
  have hS0 : Hid (Sep w (w.alloc (.cells #[.int .i64 n, .slice a n c] 253)) [Row 3 1 0 (.slice none 0 0) (i64s (ints (listK B 0))), Blk w.heap.size [.int .i64 n, .slice a n c] 253]) := Lib.hid (by
    have h5 := (Sep.empty w).box [.int .i64 n, .slice a n c] 253
    exact h5.made ⟨World.ownsRow_nil _ _ _ _, Mod.refl _ _, by simp [Value.ownBlock]⟩)
  have hB' := Lib.hid hB
  clear h hbx
  go_enter Tryz.func183, Tryz.ntmps183
  go_wp2_with fail
  generalize w.alloc (.cells #[.int .i64 n, .slice a n c] 253) = w1 at *
  generalize w.heap.size = bx at *
  clear b0 b1 bl
  go_loopw [3, 4] (fun s3 i wr => ∃ (k m : Nat) (ao : Option Addr) (co : Nat), k ≤ n ∧ i = .int .i64 k ∧ s3 = .slice ao m co ∧ m ≤ k ∧ Hid (m = (listK B k).length) ∧ Hid (Sep w wr [Row 3 1 m (.slice ao m co) (i64s (ints (listK B k))), Blk bx [.int .i64 n, .slice a n c] 253])) (fun _ i _ => n - (intOf i).toNat)
  case atStart => exact ⟨0, 0, none, 0, Nat.zero_le _, rfl, rfl, Nat.le_refl _, Lib.hid rfl, hS0⟩
  case round =>
    clear hS0
    obtain ⟨k, m, ao, co, hk, rfl, rfl, hmk, hm, hS⟩ := hrel
    have b0 := (hS.out.blkAt 1 rfl).cell 0 rfl
    have b1 := (hS.out.blkAt 1 rfl).cell 1 rfl
    have bl := (hS.out.blkAt 1 rfl).lt
    by_cases hlt : k < n
    · have hlt1 : (k : Int) < n := by omega
      obtain ⟨g, o, rfl, hg, hcell⟩ := rd_cell h'.out hlt
      have q := hcell wr k _ hS.out.mod (boolB_cell (by rw [hB'.out]; exact hlt))
      have hgl : g < wr.heap.size := Nat.lt_of_lt_of_le hg hS.out.mod.size
      have hsc := listK_succ B k
      clear hcell hg
      cases hb : hasB B k with
      | false =>
        rw [hb] at q hsc
        rw [if_neg (by simp), List.append_nil] at hsc
        have hsc' := Lib.hid hsc
        clear hb hsc
        go_wp2_with fail
        go_roundw
        case rel => exact ⟨k + 1, m, ao, co, by omega, by go_num, rfl, by omega, Lib.hid (by rw [hsc'.out]; exact hm.out), by rw [hsc'.out]; exact hS⟩
        case measure => simp [intOf]; omega
      | true =>
        rw [hb] at q hsc
        rw [if_pos rfl] at hsc
        have hsc' := Lib.hid hsc
        clear hb hsc
        go_wp2_with (at_builtin; refine app_own rfl (.tmp 16) (.tmp 18) 51 3 _ 1 8 rfl Tryz.underlying51 infoI5 rfl (by omega) (by omega) (.slice ao m co) m 1 (i64s (ints (listK B k))) [.int .i64 (k : Int)] rfl rfl (by simp) rfl (by simp [Value.oneCell']) (hS.out.rowAt 0 rfl) (by omega) ?_; intro a1 c1 w6 ho6 hm6 hb6; rw [← ints_snoc] at ho6; have hS6 := Lib.hid (hS.out.growAt 0 rfl ho6 hm6 hb6); clear ho6 hm6 hb6)
        go_roundw
        case rel => exact ⟨k + 1, m + 1, a1, c1, by omega, by go_num, rfl, by omega, Lib.hid (by rw [hsc'.out, List.length_append, ← hm.out]; rfl), by rw [hsc'.out]; exact hS6⟩
        case measure => simp [intOf]; omega
    · have hkn : k = n := by omega
      have hfin : Hid (m = (listB n B).length ∧ Made w wr 3 1 ao (listB n B).length co (i64s (ints (listB n B)))) := Lib.hid (by
        have h5 := hm.out
        have h6 := hS.out.toMade
        rw [hkn] at h5 h6
        have e : listK B n = listB n B := rfl
        rw [e] at h5 h6
        rw [h5] at h6
        exact ⟨h5, h6⟩)
      clear hS hm hkn
      go_wp2_with fail
      go_ret
      exact ⟨ao, co, by rw [hfin.out.1]; rfl, hfin.out.2⟩
end Edge
end Go.Proofs.YtjpfmkfikidgkaaGreat

set_option linter.unusedVariables false
set_option linter.unusedSimpArgs false
namespace Go.Proofs.YtjpfmkfikidgkaaGreat
open Go.RowKit
namespace Edge
theorem stepA_yes {L : List Ed} {f : List Int} {B : List Bool} {i t h : Nat} (ht : tailE L i = (t : Int)) (hh : headE L i = (h : Int)) (h1 : hasB B t = true) (h2 : 0 < leftE L f i) : stepA L f B i = B.set h true := by
  unfold stepA
  rw [ht, hh, Int.toNat_natCast, Int.toNat_natCast, if_pos ⟨h1, h2⟩]
theorem stepA_no {L : List Ed} {f : List Int} {B : List Bool} {i t : Nat} (ht : tailE L i = (t : Int)) (h : ¬ (hasB B t = true ∧ 0 < leftE L f i)) : stepA L f B i = B := by
  unfold stepA
  rw [ht, Int.toNat_natCast, if_neg h]
theorem ite_no5 {c : Bool} {A B : Prop} (h : c = false) (hB : B) : if c = true then A else B := by rw [h]; exact hB
set_option maxRecDepth 100000 in
set_option maxHeartbeats 8000000 in
theorem xreach23 {n : Nat} {L : List Ed} {f : List Int} {a : Option Addr} {c : Nat} {fa : Option Addr} {fc : Nat} {w : World} (h : RX w L f a c fa fc) (hG : GOk n L) (hF : FB L f) {v : Nat} (hv : v < n) :
    Calls Tryz.prog 111 #[restV n a L.length c fa fc, .int .i64 (v : Int)] w fun e w' => ∃ l ao co, IsReach L f v l ∧ e = .returned (.slice ao l.length co) ∧ Made w w' 3 1 ao l.length co (i64s (ints l)) := by
  obtain ⟨m, hm⟩ : ∃ m, L.length = m := ⟨_, rfl⟩
  have hlb : m ≤ 1048576 := by have := hG.len; omega
  have hn4 := hG.le
  have hset := Lib.hid (fun W => xset09 hn4 W)
  have htl := Lib.hid (fun W (hM : Mod [] w W) (i : Nat) (hi : i < 2 * m) => show Calls Tryz.prog 112 #[.agg #[.int .i64 n, .slice a m c], .int .i64 (i : Int)] W fun e w' => e = .returned (.int .i64 (tailE L i)) ∧ Mod [] W w' by
    have h1 := rtail_any n (h.l.still hM) hG.len (i : Int) (by omega)
    unfold netV at h1
    rw [hm, show tailI L (i : Int) = tailE L i by unfold tailI; rw [if_neg (by omega), Int.toNat_natCast]] at h1
    exact h1)
  have hhd := Lib.hid (fun W (hM : Mod [] w W) (i : Nat) (hi : i < 2 * m) => show Calls Tryz.prog 182 #[.agg #[.int .i64 n, .slice a m c], .int .i64 (i : Int)] W fun e w' => e = .returned (.int .i64 (headE L i)) ∧ Mod [] W w' by
    have h1 := rhead_any n (h.l.still hM) hG.len (i : Int) (by omega)
    unfold netV at h1
    rw [hm, show headI L (i : Int) = headE L i by unfold headI; rw [if_neg (by omega), Int.toNat_natCast]] at h1
    exact h1)
  have hlf := Lib.hid (fun W (hM : Mod [] w W) (i : Nat) (hi : i < 2 * m) => show Calls Tryz.prog 109 #[.agg #[.int .i64 n, .slice a m c, .slice fa m fc], .int .i64 (i : Int)] W fun e w' => e = .returned (.int .i64 (leftE L f i)) ∧ Mod [] W w' by
    have h1 := xleft23 (h.still hM) hG hF (i : Int) (by omega)
    unfold restV at h1
    rw [hm, show leftI L f (i : Int) = leftE L f i by unfold leftI; rw [if_pos (by omega), Int.toNat_natCast]] at h1
    exact h1)
  unfold restV
  rw [hm]
  have hm' := Lib.hid hm
  have hG' := Lib.hid hG
  have hS0 := Lib.hid ((Sep.empty w).box [.int .i64 n, .slice a m c, .slice fa m fc] 35)
  have b0 := (hS0.out.blkAt 0 rfl).cell 0 rfl
  have bl := (hS0.out.blkAt 0 rfl).lt
  have hvn : (v : Int) < n := by omega
  have t1 : decide ((n : Int) ≤ (v : Int)) = false := by simp; omega
  have t2 : decide ((v : Int) < 0) = false := by simp
  have t3 : decide (n ≤ v) = false := by simp; omega
  clear h hG hF hm
  go_enter Tryz.func111, Tryz.ntmps111
  go_wp2_with fail
  refine (hset.out _).mono ?_
  rintro e w2 ⟨g, rfl, hmd⟩
  have hS1 := Lib.hid ((hS0.out.made hmd).box [.int .i64 n, .slice (some ⟨g, 0, none⟩) n n] 253)
  clear hmd hS0 b0 bl
  generalize w.heap.size = B at *
  try dsimp only
  go_upto_region 2 with fail
  generalize w2.alloc (.cells #[.int .i64 n, .slice (some ⟨g, 0, none⟩) n n] 253) = w3 at *
  generalize w2.heap.size = C at *
  have c1 := (hS1.out.blkAt 0 rfl).cell 1 rfl
  have cl := (hS1.out.blkAt 0 rfl).lt
  have b0 := (hS1.out.blkAt 2 rfl).cell 0 rfl
  have bl := (hS1.out.blkAt 2 rfl).lt
  have gz := (hS1.out.rowAt 1 rfl).frozenAt v
  have ggl : g < w3.heap.size := own_lt (hS1.out.rowAt 1 rfl) (g := g) rfl
  obtain ⟨u0, gc⟩ : ∃ u, w3.cell? ⟨g, v, none⟩ = some u := by
    have h1 := (hS1.out.rowAt 1 rfl).cellAt v (by omega)
    have h2 := (hS1.out.rowAt 1 rfl).1
    rw [List.getElem?_eq_getElem (by omega)] at h1
    exact ⟨_, h1⟩
  have hS2 : Hid (Sep w (w3.setCell ⟨g, v, none⟩ (.bool true)) [Blk C [.int .i64 n, .slice (some ⟨g, 0, none⟩) n n] 253, Row 4 1 n (.slice (some ⟨g, 0, none⟩) n n) (boolV (oneB n v)), Blk B [.int .i64 n, .slice a m c, .slice fa m fc] 35]) := Lib.hid (by
    have h5 := hS1.out.rowsetAt 1 rfl v (.bool true)
    rw [boolV_set] at h5
    exact h5)
  clear hS1
  go_upto_region 5 with fail
  clear c1 cl b0 bl gz ggl gc t1 t2 t3 hset
  generalize w3.setCell ⟨g, v, none⟩ (.bool true) = w4 at *
  go_wp2_with fail
  go_loopw [6] (fun s6 wr => ∃ j : Nat, j ≤ n ∧ s6 = .int .i64 j ∧ Hid (Sep w wr [Blk C [.int .i64 n, .slice (some ⟨g, 0, none⟩) n n] 253, Row 4 1 n (.slice (some ⟨g, 0, none⟩) n n) (boolV (roundsA L f (oneB n v) j)), Blk B [.int .i64 n, .slice a m c, .slice fa m fc] 35])) (fun s6 _ => n - (intOf s6).toNat)
  case atStart => exact ⟨0, Nat.zero_le _, rfl, hS2⟩
  case round =>
    clear hS2
    obtain ⟨j, hj, rfl, hS⟩ := hrel
    have b0 := (hS.out.blkAt 2 rfl).cell 0 rfl
    have bl := (hS.out.blkAt 2 rfl).lt
    by_cases hlt : j < n
    · have hlt1 : (j : Int) < n := by omega
      have hS3 : Hid (Sep w wr [Blk C [.int .i64 n, .slice (some ⟨g, 0, none⟩) n n] 253, Row 4 1 n (.slice (some ⟨g, 0, none⟩) n n) (boolV (roundA L f (roundsA L f (oneB n v) j) 0)), Blk B [.int .i64 n, .slice a m c, .slice fa m fc] 35]) := hS
      clear hS
      go_wp2_with fail
      clear b0 bl
      have hBl := Lib.hid (show (roundsA L f (oneB n v) j).length = n by rw [roundsA_len, oneB_len])
      have hrs : roundsA L f (oneB n v) (j + 1) = roundA L f (roundsA L f (oneB n v) j) (2 * L.length) := rfl
      have hrs' := Lib.hid hrs
      clear hrs
      generalize roundsA L f (oneB n v) j = BJ at *
      go_loopw [7] (fun s7 wq => ∃ i : Nat, i ≤ 2 * m ∧ s7 = .int .i64 i ∧ Hid (Sep w wq [Blk C [.int .i64 n, .slice (some ⟨g, 0, none⟩) n n] 253, Row 4 1 n (.slice (some ⟨g, 0, none⟩) n n) (boolV (roundA L f BJ i)), Blk B [.int .i64 n, .slice a m c, .slice fa m fc] 35])) (fun s7 _ => 2 * m - (intOf s7).toNat)
      case atStart => exact ⟨0, Nat.zero_le _, rfl, hS3⟩
      case round =>
        clear hS3
        obtain ⟨i, hi, rfl, hS⟩ := hrel
        have b2 := (hS.out.blkAt 2 rfl).cell 2 rfl
        have bl := (hS.out.blkAt 2 rfl).lt
        by_cases hli : i < 2 * m
        · have hli1 : (i : Int) < 2 * (m : Int) := by omega
          have hiL : i < 2 * L.length := by rw [hm'.out]; exact hli
          obtain ⟨t, ht⟩ := Int.eq_ofNat_of_zero_le (tail_in hG'.out hiL).1
          obtain ⟨hd, hh⟩ := Int.eq_ofNat_of_zero_le (head_in hG'.out hiL).1
          have htn : t < n := by have := (tail_in hG'.out hiL).2; omega
          have hhn : hd < n := by have := (head_in hG'.out hiL).2; omega
          have hsucc : roundA L f BJ (i + 1) = stepA L f (roundA L f BJ i) i := rfl
          have hlen : (roundA L f BJ i).length = n := by rw [roundA_len, hBl.out]
          have cT := Lib.hid (htl.out wr.drew hS.out.mod.drew i hli)
          rw [ht] at cT
          have cL := Lib.hid (fun W (hM : Mod [] wr.drew W) => hlf.out W (hS.out.mod.trans ((Mod.refl [] _).drew.trans hM (by simp)) (by simp)) i hli)
          have hyes := fun h1 h2 => stepA_yes (f := f) (B := roundA L f BJ i) ht hh h1 h2
          have hnot := fun h1 => stepA_no (f := f) (B := roundA L f BJ i) ht h1
          rw [← hsucc] at hyes hnot
          have hyes' := Lib.hid hyes
          have hnot' := Lib.hid hnot
          have hht := Lib.hid hh
          clear hyes hnot ht hh hsucc
          generalize roundA L f BJ i = BI at *
          have hSd := Lib.hid (hS.out.still (Mod.refl [] wr).drew)
          have f1 : ∀ m' : Fut (Mod []) wr.drew, m'.v.cell? ⟨C, 1, none⟩ = some (.slice (some ⟨g, 0, none⟩) n n) := fun m' => ((hSd.out.still m'.of).blkAt 0 rfl).cell 1 rfl
          have f2 : ∀ m' : Fut (Mod []) wr.drew, m'.v.cell? ⟨B, 0, none⟩ = some (.int .i64 n) := fun m' => ((hSd.out.still m'.of).blkAt 2 rfl).cell 0 rfl
          have f3 : ∀ m' : Fut (Mod []) wr.drew, m'.v.cell? ⟨B, 1, none⟩ = some (.slice a m c) := fun m' => ((hSd.out.still m'.of).blkAt 2 rfl).cell 1 rfl
          have k1 := f1 ⟨_, Mod.refl _ _⟩
          have k2 := f2 ⟨_, Mod.refl _ _⟩
          have k3 := f3 ⟨_, Mod.refl _ _⟩
          go_upto_region 11 with fail
          refine region_sched (G := Mod []) [([0,1,2,3,4],5), ([6,7,8,9,10],11)] [12,13] (by kernel_rfl) (by kernel_rfl) (by kernel_rfl) rfl (Mod.refl []) (fun _ _ _ h1 h2 => h1.trans h2 (by simp)) ?_
          simp only [stages, pickO, nthO, headO, List.append_eq, List.cons_append, List.nil_append]
          refine sched_step ?_
          repeat (go_big_quiet_step (fail))
          refine wpQuiet_nil ?_
          intro K hK
          rw [if_pos (by rfl)]
          go_simp
          refine cT.out.mono ?_
          rintro e w5 ⟨rfl, hm5⟩
          try dsimp only
          refine hK.out _ _ hm5 ?_
          have hS5 := Lib.hid (hSd.out.still hm5)
          have cL5 := Lib.hid (fun W (hM : Mod [] w5 W) => cL.out W (hm5.trans hM (by simp)))
          clear hK K hSd f1 f2 f3 k1 k2 k3 cT cL hm5
          have q1 : ∀ m' : Fut (Mod []) w5, m'.v.cell? ⟨g, t, none⟩ = some (.bool (hasB BI t)) := fun m' => by
            have h1 := ((hS5.out.still m'.of).rowAt 1 rfl).cellAt t (by omega)
            rw [boolB_cell (by omega)] at h1
            exact h1
          have q2 : ∀ m' : Fut (Mod []) w5, m'.v.cell? ⟨B, 0, none⟩ = some (.int .i64 n) := fun m' => ((hS5.out.still m'.of).blkAt 2 rfl).cell 0 rfl
          have q3 : ∀ m' : Fut (Mod []) w5, m'.v.cell? ⟨B, 1, none⟩ = some (.slice a m c) := fun m' => ((hS5.out.still m'.of).blkAt 2 rfl).cell 1 rfl
          have q4 : ∀ m' : Fut (Mod []) w5, m'.v.cell? ⟨B, 2, none⟩ = some (.slice fa m fc) := fun m' => ((hS5.out.still m'.of).blkAt 2 rfl).cell 2 rfl
          have k1 := q1 ⟨_, Mod.refl _ _⟩
          have k2 := q2 ⟨_, Mod.refl _ _⟩
          have k3 := q3 ⟨_, Mod.refl _ _⟩
          have k4 := q4 ⟨_, Mod.refl _ _⟩
          have htn1 : (t : Int) < n := by omega
          cases hb : hasB BI t with
          | false =>
            have hno := Lib.hid (hnot'.out (fun h => by rw [hb] at h; exact absurd h.1 (by simp)))
            rw [hb] at q1 k1
            clear hb
            refine sched_step ?_
            repeat (go_big_quiet_step (fail))
            refine wpQuiet_nil ?_
            intro K hK
            refine ite_no5 (by rfl) ?_
            go_simp
            generalize hA : Act.mk _ _ = AA
            have hK2 := hK.out AA _ (Mod.refl [] _)
            clear hK
            apply hK2
            clear hK2 K
            subst hA
            refine sched_last ?_
            repeat (go_big_quiet_step (fail))
            refine wpQuiet_nil ?_
            clear q1 q2 q3 q4 k1 k2 k3 k4
            go_wp2_with fail
            have hSn : Hid (Sep w w5 [Blk C [.int .i64 n, .slice (some ⟨g, 0, none⟩) n n] 253, Row 4 1 n (.slice (some ⟨g, 0, none⟩) n n) (boolV (roundA L f BJ (i + 1))), Blk B [.int .i64 n, .slice a m c, .slice fa m fc] 35]) := Lib.hid (by rw [hno.out]; exact hS5.out)
            clear hS5 hno
            go_roundw
            case rel => exact ⟨i + 1, by omega, by go_num, hSn⟩
            case measure => simp [intOf]; omega
          | true =>
            rw [hb] at q1 k1
            refine sched_step ?_
            repeat (go_big_quiet_step (fail))
            refine wpQuiet_nil ?_
            intro K hK
            rw [if_pos (by rfl)]
            go_simp
            refine (cL5.out _ (Mod.refl _ _)).mono ?_
            rintro e w6 ⟨rfl, hm6⟩
            have hS6 := Lib.hid (hS5.out.still hm6)
            try dsimp only
            refine hK.out _ _ hm6 ?_
            clear hK K cL5 hS5 hm6 q1 q2 q3 q4 k1 k2 k3 k4
            by_cases hl : 0 < leftE L f i
            · have hye := Lib.hid (hyes'.out hb hl)
              generalize leftE L f i = z at *
              clear hb
              refine sched_last ?_
              repeat (go_big_quiet_step (fail))
              refine wpQuiet_nil ?_
              go_upto_region 12 with fail
              have hSd := Lib.hid (hS6.out.still (Mod.refl [] w6).drew)
              have cH := Lib.hid (hhd.out _ hSd.out.mod i hli)
              rw [hht.out] at cH
              have hhn1 : (hd : Int) < n := by omega
              have k1 := KC.one (w := w6.drew) (L := [(⟨C, 1, none⟩, .slice (some ⟨g, 0, none⟩) n n), (⟨B, 0, none⟩, .int .i64 n), (⟨B, 1, none⟩, .slice a m c)]) ((hSd.out.blkAt 0 rfl).cell 1 rfl) (by simp)
              have k2 := KC.one (w := w6.drew) (L := [(⟨C, 1, none⟩, .slice (some ⟨g, 0, none⟩) n n), (⟨B, 0, none⟩, .int .i64 n), (⟨B, 1, none⟩, .slice a m c)]) ((hSd.out.blkAt 2 rfl).cell 0 rfl) (by simp)
              have k3 := KC.one (w := w6.drew) (L := [(⟨C, 1, none⟩, .slice (some ⟨g, 0, none⟩) n n), (⟨B, 0, none⟩, .int .i64 n), (⟨B, 1, none⟩, .slice a m c)]) ((hSd.out.blkAt 2 rfl).cell 1 rfl) (by simp)
              have p1 := k1 ⟨_, KC.refl _ _⟩
              have p2 := k2 ⟨_, KC.refl _ _⟩
              have p3 := k3 ⟨_, KC.refl _ _⟩
              refine region_sched (G := KC [(⟨C, 1, none⟩, .slice (some ⟨g, 0, none⟩) n n), (⟨B, 0, none⟩, .int .i64 n), (⟨B, 1, none⟩, .slice a m c)]) [([0,1,2,3,4],5), ([6],7)] [] (by kernel_rfl) (by kernel_rfl) (by kernel_rfl) rfl (KC.refl _) (KC.trans _) ?_
              simp only [stages, pickO, nthO, headO, List.append_eq, List.cons_append, List.nil_append]
              refine sched_step ?_
              repeat (go_big_quiet_step (fail))
              refine wpQuiet_nil ?_
              intro K hK
              rw [if_pos (by rfl)]
              go_simp
              refine cH.out.mono ?_
              rintro e w7 ⟨rfl, hm7⟩
              have hS7 := Lib.hid (hSd.out.still hm7)
              try dsimp only
              refine hK.out _ _ (fun p hp _ => by
                simp only [List.mem_cons, List.mem_nil_iff, or_false] at hp
                rcases hp with rfl | rfl | rfl
                · exact (hS7.out.blkAt 0 rfl).cell 1 rfl
                · exact (hS7.out.blkAt 2 rfl).cell 0 rfl
                · exact (hS7.out.blkAt 2 rfl).cell 1 rfl) ?_
              clear hK K cH hm7 hSd hS6 k1 k2 k3 p1 p2 p3
              have gz := (hS7.out.rowAt 1 rfl).frozenAt hd
              have ggl : g < w7.heap.size := own_lt (hS7.out.rowAt 1 rfl) (g := g) rfl
              have gc : w7.cell? ⟨g, hd, none⟩ = some (.bool (hasB BI hd)) := by
                have h1 := (hS7.out.rowAt 1 rfl).cellAt hd (by omega)
                rw [boolB_cell (by omega)] at h1
                exact h1
              have hS8 : Hid (Sep w (w7.setCell ⟨g, hd, none⟩ (.bool true)) [Blk C [.int .i64 n, .slice (some ⟨g, 0, none⟩) n n] 253, Row 4 1 n (.slice (some ⟨g, 0, none⟩) n n) (boolV (BI.set hd true)), Blk B [.int .i64 n, .slice a m c, .slice fa m fc] 35]) := Lib.hid (by
                have h5 := hS7.out.rowsetAt 1 rfl hd (.bool true)
                rw [boolV_set] at h5
                exact h5)
              clear hS7
              refine sched_step ?_
              repeat (go_big_quiet_step (fail))
              refine wpQuiet_nil ?_
              intro K hK
              rw [if_pos (by rfl)]
              go_simp
              refine hK.out _ _ (fun p hp _ => by
                simp only [List.mem_cons, List.mem_nil_iff, or_false] at hp
                rcases hp with rfl | rfl | rfl
                · exact (hS8.out.blkAt 0 rfl).cell 1 rfl
                · exact (hS8.out.blkAt 2 rfl).cell 0 rfl
                · exact (hS8.out.blkAt 2 rfl).cell 1 rfl) ?_
              clear hK K gz ggl gc
              refine sched_last ?_
              refine wpQuiet_nil ?_
              go_wp2_with fail
              go_roundw
              case rel => exact ⟨i + 1, by omega, by go_num, by rw [hye.out]; exact hS8⟩
              case measure => simp [intOf]; omega
            · have hno := Lib.hid (hnot'.out (fun h => hl h.2))
              generalize leftE L f i = z at *
              clear hb
              refine sched_last ?_
              repeat (go_big_quiet_step (fail))
              refine wpQuiet_nil ?_
              go_wp2_with fail
              have hSn : Hid (Sep w w6 [Blk C [.int .i64 n, .slice (some ⟨g, 0, none⟩) n n] 253, Row 4 1 n (.slice (some ⟨g, 0, none⟩) n n) (boolV (roundA L f BJ (i + 1))), Blk B [.int .i64 n, .slice a m c, .slice fa m fc] 35]) := Lib.hid (by rw [hno.out]; exact hS6.out)
              clear hS6 hno
              go_roundw
              case rel => exact ⟨i + 1, by omega, by go_num, hSn⟩
              case measure => simp [intOf]; omega
        · have him : i = 2 * m := by omega
          have hS9 : Hid (Sep w wr [Blk C [.int .i64 n, .slice (some ⟨g, 0, none⟩) n n] 253, Row 4 1 n (.slice (some ⟨g, 0, none⟩) n n) (boolV (roundsA L f (oneB n v) (j + 1))), Blk B [.int .i64 n, .slice a m c, .slice fa m fc] 35]) := Lib.hid (by
            rw [hrs'.out, hm'.out, ← him]
            exact hS.out)
          clear hS him
          go_wp2_with fail
          go_roundw
          case rel => exact ⟨j + 1, by omega, by go_num, hS9⟩
          case measure => simp [intOf]; omega
    · have hjn : j = n := by omega
      have hR := Lib.hid (rounds_all (f := f) hG'.out hv)
      have hBl : (roundsA L f (oneB n v) n).length = n := by rw [roundsA_len, oneB_len]
      have c0 := (hS.out.blkAt 0 rfl).cell 0 rfl
      have c1 := (hS.out.blkAt 0 rfl).cell 1 rfl
      have cl := (hS.out.blkAt 0 rfl).lt
      have hls := Lib.hid (by
        have h5 := hS.out.rowAt 1 rfl
        rw [hjn] at h5
        exact xlist09 hn4 hBl (Rd.own h5))
      have hmod := Lib.hid hS.out.mod
      generalize listB n (roundsA L f (oneB n v) n) = l at *
      clear hS hBl hjn
      go_wp2_with fail
      refine hls.out.mono ?_
      rintro e w9 ⟨ao, co, rfl, hmd⟩
      have hmd' := Lib.hid (hmd.before hmod.out)
      clear hmd
      try dsimp only
      go_wp2_with fail
      go_ret
      exact ⟨l, ao, co, hR.out, rfl, hmd'.out⟩
end Edge
end Go.Proofs.YtjpfmkfikidgkaaGreat

set_option linter.unusedVariables false
set_option linter.unusedSimpArgs false
namespace Go.Proofs.YtjpfmkfikidgkaaGreat
open Go.RowKit
namespace Edge
section
variable {n : Nat} {A : Nat → Nat → Prop}
theorem Wlk.rev {u v k : Nat} (h : Wlk (fun a b => A b a) u v k) : Wlk A v u k := by
  induction h with
  | base u => exact .base u
  | step ha _ ih => exact ih.snoc ha
theorem IsD.rev {u v : Nat} {d : Int} (h : IsD (fun a b => A b a) u v d) : IsD A v u d := by
  rcases h with ⟨rfl, h⟩ | ⟨k, rfl, h1, h2⟩
  · exact .inl ⟨rfl, fun k hk => h k (Wlk.rev (A := fun a b => A b a) hk)⟩
  · exact .inr ⟨k, rfl, h1.rev, fun j hj hw => h2 j hj (Wlk.rev (A := fun a b => A b a) hw)⟩
theorem IsD.of {u v k : Nat} (h : Wlk A u v k) : ∃ j : Nat, j ≤ k ∧ IsD A u v (j : Int) := by
  induction k using Nat.strongRecOn with
  | ind k ih =>
    by_cases hm : ∃ j, j < k ∧ Wlk A u v j
    · obtain ⟨j, hj, hw⟩ := hm
      obtain ⟨i, hi, hd⟩ := ih j hj hw
      exact ⟨i, by omega, hd⟩
    · exact ⟨k, Nat.le_refl _, .inr ⟨k, rfl, h, fun j hj hw => hm ⟨j, hj, hw⟩⟩⟩
/-- The round d, i arcs done; T j u v: the arc j leads from u to v, and something is left of it. -/
structure FSt (n : Nat) (A : Nat → Nat → Prop) (T : Nat → Nat → Nat → Prop) (s : Nat) (O : List Int) (d i : Nat) : Prop where
  len : O.length = n
  val : ∀ u, u < n → O.getD u 0 = -1 ∨ (IsD A u s (O.getD u 0) ∧ 0 ≤ O.getD u 0 ∧ O.getD u 0 ≤ d + 1)
  all : ∀ u k, u < n → k ≤ d → Wlk A u s k → O.getD u 0 ≠ -1
  seen : ∀ j, j < i → ∀ u v, T j u v → O.getD u 0 = d → O.getD v 0 ≠ -1
variable {T : Nat → Nat → Nat → Prop} {s : Nat} {O : List Int} {d i : Nat}
theorem FSt.start (hs : s < n) : FSt n A T s ((List.replicate n (-1)).set s 0) 0 0 := by
  have hg : ∀ u, u < n → ((List.replicate n (-1 : Int)).set s 0).getD u 0 = if u = s then 0 else -1 := fun u hu => by
    rw [getD_set5 _ _ _ (by simpa using hs)]
    split
    · rfl
    · rw [List.getD_eq_getElem?_getD, List.getElem?_replicate, if_pos hu]; rfl
  refine ⟨by simp, fun u hu => ?_, fun u k hu hk hw => ?_, fun j hj => by omega⟩
  · rw [hg u hu]
    by_cases h : u = s
    · rw [if_pos h, h]; exact .inr ⟨IsD.self s, by omega, by omega⟩
    · rw [if_neg h]; exact .inl rfl
  · have : k = 0 := by omega
    subst this
    cases hw
    rw [hg _ hu, if_pos rfl]; decide
theorem FSt.skip (h : FSt n A T s O d i) (hn : ∀ u v, T i u v → O.getD u 0 = d → O.getD v 0 ≠ -1) : FSt n A T s O d (i + 1) :=
  ⟨h.len, h.val, h.all, fun j hj u v ht hu => by
    rcases Nat.lt_or_ge j i with h1 | h1
    · exact h.seen j h1 u v ht hu
    · obtain rfl : j = i := by omega
      exact hn u v ht hu⟩
theorem FSt.put (h : FSt n A T s O d i) {u v : Nat} (hT : ∀ a b, T i a b → a = u ∧ b = v) (ha : A v u) (hun : u < n) (hvn : v < n) (hu : O.getD u 0 = d) (hv : O.getD v 0 = -1) : FSt n A T s (O.set v (d + 1 : Nat)) d (i + 1) := by
  have hg := getD_set5 O v ((d + 1 : Nat) : Int) (by rw [h.len]; exact hvn)
  refine ⟨by rw [List.length_set, h.len], fun x hx => ?_, fun x k hx hk hw => ?_, fun j hj a b ht hd => ?_⟩
  · rw [hg]
    by_cases e : x = v
    · rw [if_pos e, e]
      refine .inr ⟨?_, by omega, by omega⟩
      rcases h.val u hun with h1 | ⟨h1, _, _⟩
      · omega
      · rw [hu] at h1
        rcases h1 with ⟨h1, _⟩ | ⟨k, hk, h1, h2⟩
        · omega
        · have : k = d := by omega
          subst this
          exact .inr ⟨k + 1, rfl, .step ha h1, fun j hj hw => h.all v j hvn (by omega) hw hv⟩
    · rw [if_neg e]; exact h.val x hx
  · rw [hg]
    split
    · omega
    · exact h.all x k hx hk hw
  · rw [hg] at hd ⊢
    split
    · omega
    · rename_i hb
      by_cases ea : a = v
      · rw [if_pos ea] at hd; omega
      · rw [if_neg ea] at hd
        rcases Nat.lt_or_ge j i with h1 | h1
        · exact h.seen j h1 a b ht hd
        · obtain rfl : j = i := by omega
          exact absurd (hT a b ht).2 hb
theorem FSt.turn {M : Nat} (h : FSt n A T s O d M) (hA : ∀ {u x}, A u x → u < n ∧ x < n) (hT : ∀ u x, A u x → ∃ j, j < M ∧ T j x u) : FSt n A T s O (d + 1) 0 := by
  refine ⟨h.len, fun u hu => ?_, fun u k hu hk hw => ?_, fun j hj => by omega⟩
  · rcases h.val u hu with h1 | ⟨h1, h2, h3⟩
    · exact .inl h1
    · exact .inr ⟨h1, h2, by omega⟩
  · rcases Nat.lt_or_ge d k with h1 | h1
    · obtain rfl : k = d + 1 := by omega
      cases hw with
      | @step _ x _ _ ha hw =>
        have hx := (hA ha).2
        rcases h.val x hx with h2 | ⟨h2, h3, h4⟩
        · exact absurd h2 (h.all x d hx (Nat.le_refl _) hw)
        · rcases h2 with ⟨h2, _⟩ | ⟨e, he, h5, h6⟩
          · omega
          · have hed : e ≤ d := by
              rcases Nat.lt_or_ge d e with h7 | h7
              · exact absurd hw (h6 d h7)
              · exact h7
            rcases Nat.lt_or_ge e d with h7 | h7
            · exact h.all u (e + 1) hu (by omega) (.step ha h5)
            · obtain ⟨j, hj, ht⟩ := hT u x ha
              exact h.seen j hj x u ht (by omega)
    · exact h.all u k hu h1 hw
theorem FSt.over (h : FSt n A T s O n 0) (hA : ∀ {u x}, A u x → u < n ∧ x < n) (hs : s < n) : LevTo n A s O := by
  refine ⟨h.len, fun u hu => ?_⟩
  rcases h.val u hu with h1 | ⟨h1, _, _⟩
  · refine .inl ⟨h1, fun k hw => ?_⟩
    obtain ⟨j, _, hd⟩ := IsD.of hw
    have hj := hd.lt hA hs
    rcases hd with ⟨h2, _⟩ | ⟨i, hi, h2, _⟩
    · omega
    · have : i = j := by omega
      subst this
      exact h.all u i hu (by omega) h2 h1
  · exact h1
end
end Edge
end Go.Proofs.YtjpfmkfikidgkaaGreat

set_option linter.unusedVariables false
set_option linter.unusedSimpArgs false
namespace Go.Proofs.YtjpfmkfikidgkaaGreat
open Go.RowKit
namespace Edge
/-- The arc i leads from u to v, and something is left of it. -/
def TArc (L : List Ed) (f : List Int) (i u v : Nat) : Prop := tailE L i = (u : Int) ∧ headE L i = (v : Int) ∧ 0 < leftE L f i
theorem arc_of {L : List Ed} {f : List Int} {u x : Nat} : Arc L f x u → ∃ j, j < 2 * L.length ∧ TArc L f j x u := fun ⟨i, hi, h1, h2, h3⟩ => ⟨i, hi, h1, h2, h3⟩
def From24 (n : Nat) (L : List Ed) (f : List Int) (s : Int) (w : World) (e : Ending) (w' : World) : Prop := ∃ g D, e = .returned (.slice (some ⟨g, 0, none⟩) n n) ∧ LevI n (fun u x => Arc L f x u) s D ∧ D.length = n ∧ Made w w' 3 1 (some ⟨g, 0, none⟩) n n (i64s D)
set_option maxRecDepth 100000 in
set_option maxHeartbeats 16000000 in
theorem xfrom24 {n : Nat} {L : List Ed} {f : List Int} {a : Option Addr} {c : Nat} {fa : Option Addr} {fc : Nat} {w : World} (h : RX w L f a c fa fc) (hG : GOk n L) (hF : FB L f) (s : Int) :
    Calls Tryz.prog 238 #[restV n a L.length c fa fc, .int .i64 s] w (From24 n L f s w) := by
  obtain ⟨m, hm⟩ : ∃ m, L.length = m := ⟨_, rfl⟩
  have hlb : m ≤ 1048576 := by have := hG.len; omega
  have hn4 := hG.le
  have hmk := make_run (P := Tryz.prog) 51 3 (.int .i64 0) 8 Tryz.underlying51 infoI5 rfl (by omega) n (by omega)
  have htl := Lib.hid (fun W (hM : Mod [] w W) (i : Nat) (hi : i < 2 * m) => show Calls Tryz.prog 112 #[.agg #[.int .i64 n, .slice a m c], .int .i64 (i : Int)] W fun e w' => e = .returned (.int .i64 (tailE L i)) ∧ Mod [] W w' by
    have h1 := rtail_any n (h.l.still hM) hG.len (i : Int) (by omega)
    unfold netV at h1
    rw [hm, show tailI L (i : Int) = tailE L i by unfold tailI; rw [if_neg (by omega), Int.toNat_natCast]] at h1
    exact h1)
  have hhd := Lib.hid (fun W (hM : Mod [] w W) (i : Nat) (hi : i < 2 * m) => show Calls Tryz.prog 182 #[.agg #[.int .i64 n, .slice a m c], .int .i64 (i : Int)] W fun e w' => e = .returned (.int .i64 (headE L i)) ∧ Mod [] W w' by
    have h1 := rhead_any n (h.l.still hM) hG.len (i : Int) (by omega)
    unfold netV at h1
    rw [hm, show headI L (i : Int) = headE L i by unfold headI; rw [if_neg (by omega), Int.toNat_natCast]] at h1
    exact h1)
  have hlf := Lib.hid (fun W (hM : Mod [] w W) (i : Nat) (hi : i < 2 * m) => show Calls Tryz.prog 109 #[.agg #[.int .i64 n, .slice a m c, .slice fa m fc], .int .i64 (i : Int)] W fun e w' => e = .returned (.int .i64 (leftE L f i)) ∧ Mod [] W w' by
    have h1 := xleft23 (h.still hM) hG hF (i : Int) (by omega)
    unfold restV at h1
    rw [hm, show leftI L f (i : Int) = leftE L f i by unfold leftI; rw [if_pos (by omega), Int.toNat_natCast]] at h1
    exact h1)
  unfold restV
  rw [hm]
  have hm' := Lib.hid hm
  have hG' := Lib.hid hG
  have hS0 := Lib.hid ((Sep.empty w).box [.int .i64 n, .slice a m c, .slice fa m fc] 35)
  have b0 := (hS0.out.blkAt 0 rfl).cell 0 rfl
  have bl := (hS0.out.blkAt 0 rfl).lt
  have hS1 := Lib.hid (hS0.out.made (made_made (w.alloc (.cells #[.int .i64 n, .slice a m c, .slice fa m fc] 35)) 3 (.int .i64 0) n (by omega)))
  rw [World.size_alloc, ← negK_zero] at hS1
  clear h hG hF hm hS0
  go_enter Tryz.func238, Tryz.ntmps238
  go_upto_region 2 with fail
  clear hmk b0 bl
  generalize (w.alloc (.cells #[.int .i64 n, .slice a m c, .slice fa m fc] 35)).alloc (.cells (madeCells #[.int .i64 0] n) 3) = w1 at *
  generalize w.heap.size + 1 = g at *
  generalize w.heap.size = B at *
  go_wp2_with fail
  go_loopw [6] (fun s6 wr => ∃ k : Nat, k ≤ n ∧ s6 = .int .i64 k ∧ Hid (Sep w wr [Row 3 1 n (.slice (some ⟨g, 0, none⟩) n n) (i64s (negK n k)), Blk B [.int .i64 n, .slice a m c, .slice fa m fc] 35])) (fun s6 _ => n - (intOf s6).toNat)
  case atStart => exact ⟨0, Nat.zero_le _, rfl, hS1⟩
  case round =>
    clear hS1
    obtain ⟨k, hk, rfl, hS⟩ := hrel
    have b0 := (hS.out.blkAt 1 rfl).cell 0 rfl
    have bl := (hS.out.blkAt 1 rfl).lt
    by_cases hlt : k < n
    · have hlt1 : (k : Int) < n := by omega
      have cg := (hS.out.rowAt 0 rfl).cellAt k (by omega)
      rw [i64s_getD (by rw [negK_len hk]; exact hlt)] at cg
      have fg := (hS.out.rowAt 0 rfl).frozenAt k
      have lg : g < wr.heap.size := own_lt (hS.out.rowAt 0 rfl) (g := g) rfl
      have hS2 := Lib.hid (by
        have h5 := hS.out.rowsetAt 0 rfl k (.int .i64 (-1))
        rw [i64s_set, negK_step hlt] at h5
        exact h5)
      clear hS
      generalize (negK n k).getD k 0 = z at *
      go_wp2_with fail
      go_roundw
      case rel => exact ⟨k + 1, by omega, by go_num, hS2⟩
      case measure => simp [intOf]; omega
    · have hkn : k = n := by omega
      rw [hkn, negK_all] at hS
      have hlt1 : ¬ (k : Int) < n := by omega
      clear hkn hk
      by_cases hs : 0 ≤ s ∧ s < n
      · obtain ⟨s, rfl⟩ := Int.eq_ofNat_of_zero_le hs.1
        have hsn : s < n := by omega
        have t1 : decide ((n : Int) ≤ (s : Int)) = false := by simp; omega
        have t1' : decide (n ≤ s) = false := by simp; omega
        have t2 : decide ((s : Int) < 0) = false := by simp
        have hsl : (s : Int) < n := hs.2
        have cg := (hS.out.rowAt 0 rfl).cellAt s (by omega)
        rw [i64s_getD (by simp; omega)] at cg
        have fg := (hS.out.rowAt 0 rfl).frozenAt s
        have lg : g < wr.heap.size := own_lt (hS.out.rowAt 0 rfl) (g := g) rfl
        have hS2 := Lib.hid (by
          have h5 := hS.out.rowsetAt 0 rfl s (.int .i64 0)
          rw [i64s_set] at h5
          exact h5)
        have hL0 := Lib.hid (FSt.start (n := n) (A := fun u x => Arc L f x u) (T := TArc L f) hsn)
        clear hS
        generalize (List.replicate n (-1)).getD s 0 = z at *
        go_upto_region 9 with fail
        generalize wr.setCell ⟨g, s, none⟩ (.int .i64 0) = w2 at *
        clear b0 bl cg fg lg t1 t1' t2 hlt hlt1
        generalize (List.replicate n (-1)).set s 0 = D0 at *
        go_wp2_with fail
        go_loopw [7] (fun s7 wd => ∃ (d : Nat) (D : List Int), d ≤ n ∧ s7 = .int .i64 d ∧ Hid (FSt n (fun u x => Arc L f x u) (TArc L f) s D d 0) ∧ Hid (Sep w wd [Row 3 1 n (.slice (some ⟨g, 0, none⟩) n n) (i64s D), Blk B [.int .i64 n, .slice a m c, .slice fa m fc] 35])) (fun s7 _ => n - (intOf s7).toNat)
        case atStart => exact ⟨0, D0, Nat.zero_le _, rfl, hL0, hS2⟩
        case round =>
          clear hS2 hL0
          obtain ⟨d, D, hd, rfl, hL, hS⟩ := hrel
          have b0 := (hS.out.blkAt 1 rfl).cell 0 rfl
          have bl := (hS.out.blkAt 1 rfl).lt
          by_cases hdn : d < n
          · have hdn1 : (d : Int) < n := by omega
            go_wp2_with fail
            clear b0 bl
            go_loopw [8] (fun s8 wq => ∃ (i : Nat) (D : List Int), i ≤ 2 * m ∧ s8 = .int .i64 i ∧ Hid (FSt n (fun u x => Arc L f x u) (TArc L f) s D d i) ∧ Hid (Sep w wq [Row 3 1 n (.slice (some ⟨g, 0, none⟩) n n) (i64s D), Blk B [.int .i64 n, .slice a m c, .slice fa m fc] 35])) (fun s8 _ => 2 * m - (intOf s8).toNat)
            case atStart => exact ⟨0, D, Nat.zero_le _, rfl, hL, hS⟩
            case round =>
              clear hL hS
              obtain ⟨i, D, hi, rfl, hL, hS⟩ := hrel
              have b2 := (hS.out.blkAt 1 rfl).cell 2 rfl
              have bl := (hS.out.blkAt 1 rfl).lt
              by_cases hli : i < 2 * m
              · have hli1 : (i : Int) < 2 * (m : Int) := by omega
                have hiL : i < 2 * L.length := by rw [hm'.out]; exact hli
                obtain ⟨t, ht⟩ := Int.eq_ofNat_of_zero_le (tail_in hG'.out hiL).1
                obtain ⟨hh, hhe⟩ := Int.eq_ofNat_of_zero_le (head_in hG'.out hiL).1
                have htn : t < n := by have := (tail_in hG'.out hiL).2; omega
                have hhn : hh < n := by have := (head_in hG'.out hiL).2; omega
                have cT := Lib.hid (htl.out wr.drew hS.out.mod.drew i hli)
                rw [ht] at cT
                have cH := Lib.hid (fun W (hM : Mod [] wr.drew W) => hhd.out W (hS.out.mod.trans ((Mod.refl [] _).drew.trans hM (by simp)) (by simp)) i hli)
                rw [hhe] at cH
                have cL := Lib.hid (fun W (hM : Mod [] wr.drew W) => hlf.out W (hS.out.mod.trans ((Mod.refl [] _).drew.trans hM (by simp)) (by simp)) i hli)
                have hT := Lib.hid (fun x y (h : TArc L f i x y) => show x = t ∧ y = hh from ⟨by have := h.1; omega, by have := h.2.1; omega⟩)
                have hArc := Lib.hid (fun (h : 0 < leftE L f i) => show Arc L f t hh from ⟨i, hiL, ht, hhe, h⟩)
                have hlz := Lib.hid (fun x y (h : TArc L f i x y) => h.2.2)
                have hDl := Lib.hid hL.out.len
                clear hiL ht hhe
                obtain ⟨z, hz⟩ : ∃ z, leftE L f i = z := ⟨_, rfl⟩
                rw [hz] at cL hArc hlz
                clear hz
                have hSd := Lib.hid (hS.out.still (Mod.refl [] wr).drew)
                have k2 := KC.one (w := wr.drew) (L := [(⟨B, 0, none⟩, .int .i64 n), (⟨B, 1, none⟩, .slice a m c)]) ((hSd.out.blkAt 1 rfl).cell 0 rfl) (by simp)
                have k3 := KC.one (w := wr.drew) (L := [(⟨B, 0, none⟩, .int .i64 n), (⟨B, 1, none⟩, .slice a m c)]) ((hSd.out.blkAt 1 rfl).cell 1 rfl) (by simp)
                have hkc := Lib.hid (fun W0 W (hM : Mod [] wr.drew W) => show KC [(⟨B, 0, none⟩, .int .i64 n), (⟨B, 1, none⟩, .slice a m c)] W0 W from fun p hp _ => by
                  simp only [List.mem_cons, List.mem_nil_iff, or_false] at hp
                  rcases hp with rfl | rfl
                  · exact ((hSd.out.still hM).blkAt 1 rfl).cell 0 rfl
                  · exact ((hSd.out.still hM).blkAt 1 rfl).cell 1 rfl)
                go_upto_region 15 with fail
                refine region_sched (G := KC [(⟨B, 0, none⟩, .int .i64 n), (⟨B, 1, none⟩, .slice a m c)]) [([0,1,2,4,5,6],3), ([],7)] [8,9] (by kernel_rfl) (by kernel_rfl) (by kernel_rfl) rfl (KC.refl _) (KC.trans _) ?_
                simp only [stages, pickO, nthO, headO, List.append_eq, List.cons_append, List.nil_append]
                refine sched_step ?_
                repeat (go_big_quiet_step (fail))
                refine wpQuiet_nil ?_
                intro K hK
                rw [if_pos (by rfl)]
                go_simp
                refine cT.out.mono ?_
                rintro e w5 ⟨rfl, hm5⟩
                have hm5' := Lib.hid hm5
                try dsimp only
                refine hK.out _ _ (hkc.out _ _ hm5) ?_
                clear hK K cT k2 k3 hm5
                refine sched_step ?_
                refine wpQuiet_nil ?_
                intro K hK
                rw [if_pos (by rfl)]
                go_simp
                refine (cH.out _ hm5'.out).mono ?_
                rintro e w6 ⟨rfl, hm6⟩
                have hm6' := Lib.hid (hm5'.out.trans hm6 (by simp))
                try dsimp only
                refine hK.out _ _ (hkc.out _ _ hm6'.out) ?_
                clear hK K cH hm6 hm5'
                refine sched_last ?_
                repeat (go_big_quiet_step (fail))
                refine wpQuiet_nil ?_
                have hS6 := Lib.hid (hSd.out.still hm6'.out)
                have cL6 := Lib.hid (cL.out _ hm6'.out)
                have e0 := (hS6.out.blkAt 1 rfl).cell 0 rfl
                have e1 := (hS6.out.blkAt 1 rfl).cell 1 rfl
                have e2 := (hS6.out.blkAt 1 rfl).cell 2 rfl
                have el := (hS6.out.blkAt 1 rfl).lt
                clear hkc hm6' hSd cL hS b2 bl
                go_wp2_with fail
                refine cL6.out.mono ?_
                rintro e w7 ⟨rfl, hm7⟩
                have hS7 := Lib.hid (hS6.out.still hm7)
                clear hm7 hS6 cL6 e0 e1 e2 el
                try dsimp only
                have htl1 : (t : Int) < n := by omega
                have hhl1 : (hh : Int) < n := by omega
                have ct := (hS7.out.rowAt 0 rfl).cellAt t (by omega)
                rw [i64s_getD (by rw [hDl.out]; exact htn)] at ct
                have ch := (hS7.out.rowAt 0 rfl).cellAt hh (by omega)
                rw [i64s_getD (by rw [hDl.out]; exact hhn)] at ch
                have fh := (hS7.out.rowAt 0 rfl).frozenAt hh
                have lg : g < w7.heap.size := own_lt (hS7.out.rowAt 0 rfl) (g := g) rfl
                by_cases c1 : 0 < z
                · have t1 : decide (0 < z) = true := by simpa using c1
                  by_cases c2 : D.getD t 0 = d
                  · have t2 : (D.getD t 0 == (d : Int)) = true := by simpa using c2
                    by_cases c3 : D.getD hh 0 < 0
                    · have t3 : decide (D.getD hh 0 < 0) = true := by simpa using c3
                      have hne : D.getD hh 0 = -1 := by
                        rcases hL.out.val hh hhn with h | ⟨_, h, _⟩
                        · exact h
                        · omega
                      have hL2 := Lib.hid (hL.out.put hT.out (hArc.out c1) htn hhn c2 hne)
                      have hS8 := Lib.hid (by
                        have h5 := hS7.out.rowsetAt 0 rfl hh (.int .i64 ((d + 1 : Nat) : Int))
                        rw [i64s_set] at h5
                        exact h5)
                      clear hL hS7 c1 c2 c3 hne hArc hlz hT
                      generalize D.getD t 0 = x at *
                      generalize D.getD hh 0 = y at *
                      have ed : ((d + 1 : Nat) : Int) = (d : Int) + 1 := by omega
                      rw [ed] at hS8
                      go_wp2_with fail
                      go_roundw
                      case rel =>
                        refine ⟨i + 1, _, by omega, by go_num, hL2, ?_⟩
                        rw [ed]
                        exact hS8
                      case measure => simp [intOf]; omega
                    · have t3 : decide (D.getD hh 0 < 0) = false := by simpa using c3
                      have hL2 := Lib.hid (hL.out.skip (fun u v ht hu => by
                        obtain ⟨rfl, rfl⟩ := hT.out u v ht
                        omega))
                      clear hL c1 c2 c3 hArc hlz hT
                      generalize D.getD t 0 = x at *
                      generalize D.getD hh 0 = y at *
                      go_wp2_with fail
                      go_roundw
                      case rel => exact ⟨i + 1, D, by omega, by go_num, hL2, hS7⟩
                      case measure => simp [intOf]; omega
                  · have t2 : (D.getD t 0 == (d : Int)) = false := by simpa using c2
                    have hL2 := Lib.hid (hL.out.skip (fun u v ht hu => by
                      obtain ⟨rfl, rfl⟩ := hT.out u v ht
                      exact absurd hu c2))
                    clear hL c1 c2 hArc hlz hT
                    generalize D.getD t 0 = x at *
                    generalize D.getD hh 0 = y at *
                    go_wp2_with fail
                    go_roundw
                    case rel => exact ⟨i + 1, D, by omega, by go_num, hL2, hS7⟩
                    case measure => simp [intOf]; omega
                · have t1 : decide (0 < z) = false := by simpa using c1
                  have hL2 := Lib.hid (hL.out.skip (fun u v ht hu => absurd (hlz.out u v ht) c1))
                  clear hL c1 hArc hlz hT
                  generalize D.getD t 0 = x at *
                  generalize D.getD hh 0 = y at *
                  go_wp2_with fail
                  go_roundw
                  case rel => exact ⟨i + 1, D, by omega, by go_num, hL2, hS7⟩
                  case measure => simp [intOf]; omega
              · have him : i = 2 * m := by omega
                have hL2 := Lib.hid (by
                  have h5 := hL.out
                  rw [him] at h5
                  exact h5.turn (fun h => (arc_lt hG'.out h).symm) (fun u x ha => by
                    obtain ⟨j, hj, ht⟩ := arc_of ha
                    exact ⟨j, by rw [← hm'.out]; exact hj, ht⟩))
                clear him hL
                go_wp2_with fail
                go_roundw
                case rel => exact ⟨d + 1, D, by omega, by go_num, hL2, hS⟩
                case measure => simp [intOf]; omega
          · have hdn1 : d = n := by omega
            have hfin := Lib.hid (by
              have h5 := hL.out
              rw [hdn1] at h5
              exact h5.over (fun h => (arc_lt hG'.out h).symm) hsn)
            have hmd := Lib.hid hS.out.toMade
            have hdn2 : ¬ (d : Int) < n := by omega
            clear hL hS hdn1
            go_wp2_with fail
            go_ret
            exact ⟨g, D, rfl, by unfold LevI; rw [if_pos ⟨by omega, by omega⟩, Int.toNat_natCast]; exact hfin.out, hfin.out.1, hmd.out⟩
      · have hmd := Lib.hid hS.out.toMade
        have hfin := Lib.hid (show LevI n (fun u x => Arc L f x u) s (List.replicate n (-1)) by unfold LevI; rw [if_neg hs])
        clear hS
        by_cases h0 : s < 0
        · have t2 : decide (s < 0) = true := by simpa using h0
          go_wp2_with fail
          go_ret
          exact ⟨g, _, rfl, hfin.out, by simp, hmd.out⟩
        · have t2 : decide (s < 0) = false := by simpa using h0
          have t1 : decide ((n : Int) ≤ s) = true := by simp; omega
          go_wp2_with fail
          go_ret
          exact ⟨g, _, rfl, hfin.out, by simp, hmd.out⟩
end Edge
end Go.Proofs.YtjpfmkfikidgkaaGreat

set_option linter.unusedVariables false
set_option linter.unusedSimpArgs false
namespace Go.Proofs.YtjpfmkfikidgkaaGreat
open Go.RowKit
namespace Edge
def ToSt (n : Nat) (A : Nat → Nat → Prop) (t : Int) (D : List Int) (k : Nat) : Prop := D.length = n ∧ ∀ v, v < k → if 0 ≤ t ∧ t < n then IsD A v t.toNat (D.getD v 0) else D.getD v 0 = -1
theorem ToSt.put {n : Nat} {A : Nat → Nat → Prop} {t : Int} {D : List Int} {k : Nat} {x : Int} (h : ToSt n A t D k) (hk : k < n) (hx : if 0 ≤ t ∧ t < n then IsD A k t.toNat x else x = -1) : ToSt n A t (D.set k x) (k + 1) := by
  refine ⟨by rw [List.length_set, h.1], fun v hv => ?_⟩
  rw [getD_set5 D k x (by rw [h.1]; exact hk)]
  by_cases e : v = k
  · rw [if_pos e, e]; exact hx
  · rw [if_neg e]; exact h.2 v (by omega)
theorem ToSt.over {n : Nat} {A : Nat → Nat → Prop} {t : Int} {D : List Int} (h : ToSt n A t D n) : LevI n A t D := by
  unfold LevI
  by_cases c : 0 ≤ t ∧ t < n
  · rw [if_pos c]
    refine ⟨h.1, fun u hu => ?_⟩
    have := h.2 u hu
    rwa [if_pos c] at this
  · rw [if_neg c]
    refine List.ext_getElem (by rw [h.1, List.length_replicate]) (fun i h1 h2 => ?_)
    have := h.2 i (by rw [← h.1]; exact h1)
    rw [if_neg c, List.getD_eq_getElem?_getD, List.getElem?_eq_getElem h1] at this
    rw [List.getElem_replicate]
    exact this
def To24 (n : Nat) (L : List Ed) (f : List Int) (t : Int) (w : World) (e : Ending) (w' : World) : Prop := ∃ g D, e = .returned (.slice (some ⟨g, 0, none⟩) n n) ∧ LevI n (Arc L f) t D ∧ D.length = n ∧ Made w w' 3 1 (some ⟨g, 0, none⟩) n n (i64s D)
set_option maxRecDepth 100000 in
set_option maxHeartbeats 16000000 in
theorem xto24 {n : Nat} {L : List Ed} {f : List Int} {a : Option Addr} {c : Nat} {fa : Option Addr} {fc : Nat} {w : World} (h : RX w L f a c fa fc) (hG : GOk n L) (hF : FB L f) (t : Int) :
    Calls Tryz.prog 190 #[restV n a L.length c fa fc, .int .i64 t] w (To24 n L f t w) := by
  obtain ⟨m, hm⟩ : ∃ m, L.length = m := ⟨_, rfl⟩
  have hlb : m ≤ 1048576 := by have := hG.len; omega
  have hn4 := hG.le
  have hmk := make_run (P := Tryz.prog) 51 3 (.int .i64 0) 8 Tryz.underlying51 infoI5 rfl (by omega) n (by omega)
  have hfr := Lib.hid (fun W (hM : Mod [] w W) (v : Nat) => by
    have h1 := xfrom24 (h.still hM) hG hF (v : Int)
    unfold restV at h1
    rw [hm] at h1
    exact h1)
  unfold restV
  rw [hm]
  have hm' := Lib.hid hm
  have hG' := Lib.hid hG
  have hS0 := Lib.hid ((Sep.empty w).box [.int .i64 n, .slice a m c, .slice fa m fc] 35)
  have b0 := (hS0.out.blkAt 0 rfl).cell 0 rfl
  have bl := (hS0.out.blkAt 0 rfl).lt
  have hS1 := Lib.hid (hS0.out.made (made_made (w.alloc (.cells #[.int .i64 n, .slice a m c, .slice fa m fc] 35)) 3 (.int .i64 0) n (by omega)))
  rw [World.size_alloc, ← negK_zero] at hS1
  clear h hG hF hm hS0
  go_enter Tryz.func190, Tryz.ntmps190
  go_upto_region 2 with fail
  clear hmk b0 bl
  generalize (w.alloc (.cells #[.int .i64 n, .slice a m c, .slice fa m fc] 35)).alloc (.cells (madeCells #[.int .i64 0] n) 3) = w1 at *
  generalize w.heap.size + 1 = g at *
  generalize w.heap.size = B at *
  have hT0 := Lib.hid (show ToSt n (Arc L f) t (negK n 0) 0 from ⟨negK_len (Nat.zero_le _), fun v hv => absurd hv (Nat.not_lt_zero _)⟩)
  generalize negK n 0 = D0 at *
  go_wp2_with fail
  go_loopw [6] (fun s6 wr => ∃ (k : Nat) (D : List Int) (R : List Part), k ≤ n ∧ s6 = .int .i64 k ∧ Hid (ToSt n (Arc L f) t D k) ∧ Hid (Sep w wr (Row 3 1 n (.slice (some ⟨g, 0, none⟩) n n) (i64s D) :: Blk B [.int .i64 n, .slice a m c, .slice fa m fc] 35 :: R))) (fun s6 _ => n - (intOf s6).toNat)
  case atStart => exact ⟨0, D0, [], Nat.zero_le _, rfl, hT0, hS1⟩
  case round =>
    clear hS1 hT0
    obtain ⟨k, D, R, hk, rfl, hT, hS⟩ := hrel
    have b0 := (hS.out.blkAt 1 rfl).cell 0 rfl
    have bl := (hS.out.blkAt 1 rfl).lt
    by_cases hlt : k < n
    · have hlt1 : (k : Int) < n := by omega
      have cg := (hS.out.rowAt 0 rfl).cellAt k (by omega)
      rw [i64s_getD (by rw [hT.out.1]; exact hlt)] at cg
      have fg := (hS.out.rowAt 0 rfl).frozenAt k
      have lg : g < wr.heap.size := own_lt (hS.out.rowAt 0 rfl) (g := g) rfl
      have hS2 := Lib.hid (by
        have h5 := hS.out.rowsetAt 0 rfl k (.int .i64 (-1))
        rw [i64s_set] at h5
        exact h5)
      have hT1 := Lib.hid (fun x => hT.out.put (x := x) hlt)
      have hDl := Lib.hid hT.out.1
      clear hS hT
      generalize D.getD k 0 = z at *
      by_cases ht : 0 ≤ t ∧ t < n
      · obtain ⟨t, rfl⟩ := Int.eq_ofNat_of_zero_le ht.1
        have htn : t < n := by omega
        have htl : (t : Int) < n := ht.2
        have t1 : decide ((t : Int) < n) = true := by simpa using htl
        have t1' : decide (t < n) = true := by simpa using htn
        have t2 : decide (0 ≤ (t : Int)) = true := by simp
        go_upto_region 6 with fail
        generalize wr.setCell ⟨g, k, none⟩ (.int .i64 (-1)) = w2 at *
        clear b0 bl cg fg lg
        have b0 := (hS2.out.blkAt 1 rfl).cell 0 rfl
        have b1 := (hS2.out.blkAt 1 rfl).cell 1 rfl
        have b2 := (hS2.out.blkAt 1 rfl).cell 2 rfl
        have bl := (hS2.out.blkAt 1 rfl).lt
        have cf := Lib.hid (hfr.out _ hS2.out.mod k)
        go_wp2_with fail
        refine cf.out.mono ?_
        rintro e w3 ⟨g2, D2, rfl, hL2, hD2, hmd⟩
        have hS3 := Lib.hid (hS2.out.made hmd)
        have hx := Lib.hid (show IsD (Arc L f) k t (D2.getD t 0) by
          unfold LevI at hL2
          rw [if_pos ⟨by omega, by omega⟩, Int.toNat_natCast] at hL2
          exact (hL2.2 t htn).rev)
        have c2 := (hS3.out.rowAt 0 rfl).cellAt t (by omega)
        rw [i64s_getD (by rw [hD2]; exact htn)] at c2
        have l2 : g2 < w3.heap.size := own_lt (hS3.out.rowAt 0 rfl) (g := g2) rfl
        have cg := (hS3.out.rowAt 1 rfl).cellAt k (by omega)
        rw [i64s_getD (by rw [List.length_set, hDl.out]; exact hlt)] at cg
        have fg := (hS3.out.rowAt 1 rfl).frozenAt k
        have lg : g < w3.heap.size := own_lt (hS3.out.rowAt 1 rfl) (g := g) rfl
        clear hmd hL2 hD2 hS2 cf b0 b1 b2 bl
        generalize D2.getD t 0 = x at *
        generalize (D.set k (-1)).getD k 0 = z2 at *
        have hT2 := Lib.hid (hT1.out x (by rw [if_pos ht, Int.toNat_natCast]; exact hx.out))
        have hS4 := Lib.hid (by
          have h5 := hS3.out.rowsetAt 1 rfl k (.int .i64 x)
          rw [i64s_set, List.set_set] at h5
          exact Sep.back2 h5)
        clear hS3 hT1 hx
        try dsimp only
        go_wp2_with fail
        go_roundw
        case rel => exact ⟨k + 1, _, _, by omega, by go_num, hT2, hS4⟩
        case measure => simp [intOf]; omega
      · have hT2 := Lib.hid (hT1.out (-1) (by rw [if_neg ht]))
        by_cases h0 : 0 ≤ t
        · have t2 : decide (0 ≤ t) = true := by simpa using h0
          have t1 : decide (t < (n : Int)) = false := by simp; omega
          go_upto_region 6 with fail
          generalize wr.setCell ⟨g, k, none⟩ (.int .i64 (-1)) = w2 at *
          clear b0 bl cg fg lg
          have b0 := (hS2.out.blkAt 1 rfl).cell 0 rfl
          have bl := (hS2.out.blkAt 1 rfl).lt
          go_wp2_with fail
          go_roundw
          case rel => exact ⟨k + 1, _, _, by omega, by go_num, hT2, hS2⟩
          case measure => simp [intOf]; omega
        · have t2 : decide (0 ≤ t) = false := by simpa using h0
          go_wp2_with fail
          go_roundw
          case rel => exact ⟨k + 1, _, _, by omega, by go_num, hT2, hS2⟩
          case measure => simp [intOf]; omega
    · have hkn : k = n := by omega
      have hlt1 : ¬ (k : Int) < n := by omega
      have hfin := Lib.hid (by
        have h5 := hT.out
        rw [hkn] at h5
        exact h5)
      have hmd := Lib.hid hS.out.toMade
      clear hS hT hkn
      go_wp2_with fail
      go_ret
      exact ⟨g, D, rfl, hfin.out.over, hfin.out.1, hmd.out⟩
end Edge
end Go.Proofs.YtjpfmkfikidgkaaGreat

set_option linter.unusedVariables false
set_option linter.unusedSimpArgs false
namespace Go.Proofs.YtjpfmkfikidgkaaGreat
open Go.RowKit
namespace Edge
def XWay (n : Nat) (L : List Ed) (f : List Int) (s t : Int) (w : World) (e : Ending) (w' : World) : Prop :=
  ∃ D l a c, LevI n (Arc L f) t D ∧ D.length = n ∧ WayP n L f D s l ∧ e = .returned (.slice a l.length c) ∧ Made w w' 3 1 a l.length c (i64s (ints l))
set_option maxRecDepth 100000 in
set_option maxHeartbeats 16000000 in
theorem xway24 {n : Nat} {L : List Ed} {f : List Int} {a : Option Addr} {c : Nat} {fa : Option Addr} {fc : Nat} {w : World} (h : RX w L f a c fa fc) (hG : GOk n L) (hF : FB L f) (s t : Int) :
    Calls Tryz.prog 133 #[restV n a L.length c fa fc, .int .i64 s, .int .i64 t] w (XWay n L f s t w) := by
  obtain ⟨mm, hm⟩ : ∃ m, L.length = m := ⟨_, rfl⟩
  have hlb : mm ≤ 1048576 := by have := hG.len; omega
  have hn4 := hG.le
  have htl := Lib.hid (fun W (hM : Mod [] w W) (i : Nat) (hi : i < 2 * mm) => show Calls Tryz.prog 112 #[.agg #[.int .i64 n, .slice a mm c], .int .i64 (i : Int)] W fun e w' => e = .returned (.int .i64 (tailE L i)) ∧ Mod [] W w' by
    have h1 := rtail_any n (h.l.still hM) hG.len (i : Int) (by omega)
    unfold netV at h1
    rw [hm, show tailI L (i : Int) = tailE L i by unfold tailI; rw [if_neg (by omega), Int.toNat_natCast]] at h1
    exact h1)
  have hhd := Lib.hid (fun W (hM : Mod [] w W) (i : Nat) (hi : i < 2 * mm) => show Calls Tryz.prog 182 #[.agg #[.int .i64 n, .slice a mm c], .int .i64 (i : Int)] W fun e w' => e = .returned (.int .i64 (headE L i)) ∧ Mod [] W w' by
    have h1 := rhead_any n (h.l.still hM) hG.len (i : Int) (by omega)
    unfold netV at h1
    rw [hm, show headI L (i : Int) = headE L i by unfold headI; rw [if_neg (by omega), Int.toNat_natCast]] at h1
    exact h1)
  have hlf := Lib.hid (fun W (hM : Mod [] w W) (i : Nat) (hi : i < 2 * mm) => show Calls Tryz.prog 109 #[.agg #[.int .i64 n, .slice a mm c, .slice fa mm fc], .int .i64 (i : Int)] W fun e w' => e = .returned (.int .i64 (leftE L f i)) ∧ Mod [] W w' by
    have h1 := xleft23 (h.still hM) hG hF (i : Int) (by omega)
    unfold restV at h1
    rw [hm, show leftI L f (i : Int) = leftE L f i by unfold leftI; rw [if_pos (by omega), Int.toNat_natCast]] at h1
    exact h1)
  have hto := Lib.hid (fun W (hM : Mod [] w W) => by
    have h1 := xto24 (h.still hM) hG hF t
    unfold restV at h1
    rw [hm] at h1
    exact h1)
  unfold restV
  rw [hm]
  have hm' := Lib.hid hm
  have hG' := Lib.hid hG
  have hS0 := Lib.hid ((Sep.empty w).box [.int .i64 n, .slice a mm c, .slice fa mm fc] 35)
  clear h hG hF hm
  go_enter Tryz.func133, Tryz.ntmps133
  go_upto_region 1 with fail
  generalize w.alloc (.cells #[.int .i64 n, .slice a mm c, .slice fa mm fc] 35) = w1 at *
  generalize w.heap.size = B at *
  have b0 := (hS0.out.blkAt 0 rfl).cell 0 rfl
  have b1 := (hS0.out.blkAt 0 rfl).cell 1 rfl
  have b2 := (hS0.out.blkAt 0 rfl).cell 2 rfl
  have bl := (hS0.out.blkAt 0 rfl).lt
  have cT := Lib.hid (hto.out _ hS0.out.mod)
  clear hto
  go_wp2_with fail
  refine cT.out.mono ?_
  rintro e w2 ⟨g, D, rfl, hD, hDl, hmd⟩
  have hD' := Lib.hid hD
  have hDl' := Lib.hid hDl
  have hS1 := Lib.hid (hS0.out.made hmd)
  clear hD cT hDl hmd hS0 b0 b1 b2 bl
  try dsimp only
  have b0 := (hS1.out.blkAt 1 rfl).cell 0 rfl
  have bl := (hS1.out.blkAt 1 rfl).lt
  by_cases h0 : s < 0
  · have t0 : decide (s < 0) = true := by simpa using h0
    have hw := Lib.hid (show WayP n L f D s [] by unfold WayP; rw [if_neg (by omega)])
    have hmd := Lib.hid (nilInts hS1.out).toMade
    go_wp2_with fail
    go_ret
    exact ⟨D, [], none, 0, hD'.out, hDl'.out, hw.out, rfl, hmd.out⟩
  by_cases h1 : (n : Int) ≤ s
  · have t0 : decide (s < 0) = false := by simpa using h0
    have t1 : decide ((n : Int) ≤ s) = true := by simpa using h1
    have hw := Lib.hid (show WayP n L f D s [] by unfold WayP; rw [if_neg (by omega)])
    have hmd := Lib.hid (nilInts hS1.out).toMade
    go_wp2_with fail
    go_ret
    exact ⟨D, [], none, 0, hD'.out, hDl'.out, hw.out, rfl, hmd.out⟩
  obtain ⟨s, rfl⟩ := Int.eq_ofNat_of_zero_le (show 0 ≤ s by omega)
  have hsn : s < n := by omega
  have hsl : (s : Int) < n := by omega
  have t0 : decide ((s : Int) < 0) = false := by simp
  have t1 : decide ((n : Int) ≤ (s : Int)) = false := by simp; omega
  have cs := (hS1.out.rowAt 0 rfl).cellAt s (by omega)
  rw [i64s_getD (by rw [hDl'.out]; exact hsn)] at cs
  have lg : g < w2.heap.size := own_lt (hS1.out.rowAt 0 rfl) (g := g) rfl
  by_cases h2 : D.getD s 0 < 0
  · have t2 : decide (D.getD s 0 < 0) = true := by simpa using h2
    have hw := Lib.hid (show WayP n L f D s [] by unfold WayP; rw [Int.toNat_natCast, if_neg (by omega)])
    have hmd := Lib.hid (nilInts hS1.out).toMade
    clear h2
    generalize D.getD s 0 = z at *
    go_wp2_with fail
    go_ret
    exact ⟨D, [], none, 0, hD'.out, hDl'.out, hw.out, rfl, hmd.out⟩
  have t2 : decide (D.getD s 0 < 0) = false := by simpa using h2
  have ht : 0 ≤ t ∧ t < n := by
    refine Classical.byContradiction fun hc => h2 ?_
    have h5 := hD'.out
    unfold LevI at h5
    rw [if_neg hc] at h5
    rw [h5, List.getD_eq_getElem?_getD, List.getElem?_replicate, if_pos hsn]
    decide
  obtain ⟨t, rfl⟩ := Int.eq_ofNat_of_zero_le ht.1
  have htn : t < n := by omega
  have hL := Lib.hid (show LevTo n (Arc L f) t D by
    have h5 := hD'.out
    unfold LevI at h5
    rw [if_pos ht, Int.toNat_natCast] at h5
    exact h5)
  obtain ⟨K, hK⟩ : ∃ K : Nat, D.getD s 0 = K := ⟨(D.getD s 0).toNat, by omega⟩
  have hKn : K ≤ n := by
    have := (hL.out.2 s hsn).lt (arc_lt hG'.out) htn
    omega
  have hK' := Lib.hid hK
  have hwy := Lib.hid (show ∀ l, IsWay L f D K s l → WayP n L f D s l from fun l hl => by
    unfold WayP
    by_cases hK1 : 1 ≤ K
    · rw [if_pos ⟨by omega, by omega, by rw [Int.toNat_natCast]; omega⟩, Int.toNat_natCast, hK, Int.toNat_natCast]
      exact hl
    · rw [if_neg (by rw [Int.toNat_natCast]; omega)]
      obtain rfl : K = 0 := by omega
      cases hl
      rfl)
  rw [hK] at cs t2
  clear h2 hK
  go_upto_region 5 with fail
  clear cs lg b0 bl t0 t1 t2
  have hS2 := Lib.hid (hS1.out.nilRow 3 1)
  clear hS1
  go_wp2_with fail
  go_loopw [8, 9] (fun s8 s9 wr => ∃ (P : List Nat) (m : Nat) (a8 : Option Addr) (c8 v k : Nat), Hid (P.length = m) ∧ s8 = .slice a8 m c8 ∧ s9 = .int .i64 v ∧ v < n ∧ Hid (D.getD v 0 = k) ∧ m + k = K ∧ Hid (∀ l, IsWay L f D k v l → IsWay L f D K s (P ++ l)) ∧
    Hid (Sep w wr [Row 3 1 m (.slice a8 m c8) (i64s (ints P)), Row 3 1 n (.slice (some ⟨g, 0, none⟩) n n) (i64s D), Blk B [.int .i64 n, .slice a mm c, .slice fa mm fc] 35])) (fun s8 _ _ => K - lenOf s8)
  case atStart => exact ⟨[], 0, none, 0, s, K, Lib.hid rfl, rfl, rfl, hsn, hK', by omega, Lib.hid (fun l hl => hl), hS2⟩
  case round =>
    clear hS2
    obtain ⟨P, m, a8, c8, v, k, hP, rfl, rfl, hvn, hk, hmk, hW, hS⟩ := hrel
    have hvl : (v : Int) < n := by omega
    have cv := (hS.out.rowAt 1 rfl).cellAt v (by omega)
    rw [i64s_getD (by rw [hDl'.out]; exact hvn), hk.out] at cv
    have lg : g < wr.heap.size := own_lt (hS.out.rowAt 1 rfl) (g := g) rfl
    by_cases hk0 : 0 < k
    · have hk1 : (0 : Int) < k := by omega
      have hS3 := hS
      clear hS
      go_wp2_with fail
      clear cv lg
      have hex := Lib.hid (show ∃ i, i < 2 * mm ∧ goodW L f D v i by
        obtain ⟨y, ⟨i, hi, hti, hhi, hli⟩, hy⟩ := (hL.out.2 v hvn).next (by rw [hk.out]; omega)
        have hyn := (arc_lt hG'.out (show Arc L f v y from ⟨i, hi, hti, hhi, hli⟩)).2
        exact ⟨i, by rw [← hm'.out]; exact hi, ⟨hi, hti⟩, hli, by rw [hhi, Int.toNat_natCast]; exact (hL.out.2 y hyn).one hy⟩)
      go_loopw [8, 9, 10] (fun s8 s9 s10 wq => ∃ i : Nat, i ≤ 2 * mm ∧ s8 = .slice a8 m c8 ∧ s9 = .int .i64 v ∧ s10 = .int .i64 i ∧ Hid (∀ j, j < i → ¬ goodW L f D v j) ∧ Hid (Sep w wq [Row 3 1 m (.slice a8 m c8) (i64s (ints P)), Row 3 1 n (.slice (some ⟨g, 0, none⟩) n n) (i64s D), Blk B [.int .i64 n, .slice a mm c, .slice fa mm fc] 35])) (fun _ _ s10 _ => 2 * mm - (intOf s10).toNat)
      case atStart => exact ⟨0, Nat.zero_le _, rfl, rfl, rfl, Lib.hid (fun j hj => absurd hj (Nat.not_lt_zero _)), hS3⟩
      case round =>
        clear hS3
        obtain ⟨i, hi, rfl, rfl, rfl, hno, hS⟩ := hrel
        have b2 := (hS.out.blkAt 2 rfl).cell 2 rfl
        have bl := (hS.out.blkAt 2 rfl).lt
        by_cases hli : i < 2 * mm
        · have hli1 : (i : Int) < 2 * (mm : Int) := by omega
          have hiL : i < 2 * L.length := by rw [hm'.out]; exact hli
          obtain ⟨tl, hte⟩ := Int.eq_ofNat_of_zero_le (tail_in hG'.out hiL).1
          obtain ⟨hh, hhe⟩ := Int.eq_ofNat_of_zero_le (head_in hG'.out hiL).1
          have hhn : hh < n := by have := (head_in hG'.out hiL).2; omega
          have hhl1 : (hh : Int) < n := by omega
          have hgd := Lib.hid (show goodW L f D v i ↔ tl = v ∧ 0 < leftE L f i ∧ D.getD hh 0 = (k : Int) - 1 by
            unfold goodW gdW
            rw [hte, hhe, Int.toNat_natCast, hk.out]
            constructor
            · rintro ⟨⟨_, h1⟩, h2, h3⟩; exact ⟨by omega, h2, h3⟩
            · rintro ⟨h1, h2, h3⟩; exact ⟨⟨hiL, by omega⟩, h2, h3⟩)
          have hnx := Lib.hid (fun (hg : ¬ goodW L f D v i) => show ∀ j, j < i + 1 → ¬ goodW L f D v j from fun j hj => by
            rcases Nat.lt_or_ge j i with h | h
            · exact hno.out j h
            · obtain rfl : j = i := by omega
              exact hg)
          have hbs := Lib.hid (fun (hg : goodW L f D v i) => show IsBest L f D v i from ⟨hg, fun x hx => by
            rcases Nat.lt_or_ge x i with h | h
            · exact absurd hx (hno.out x h)
            · exact h⟩)
          have hhe' := Lib.hid hhe
          have hSd := Lib.hid (hS.out.still (Mod.refl [] wr).drew)
          have cT := Lib.hid (htl.out _ hSd.out.mod i hli)
          rw [hte] at cT
          have cL := Lib.hid (fun W (hM : Mod [] w W) => hlf.out W hM i hli)
          have cH := Lib.hid (fun W (hM : Mod [] w W) => hhd.out W hM i hli)
          rw [hhe] at cH
          have hfu := Lib.hid (fun W (hM : Mod [] w W) (hq : Sep w W [Row 3 1 m (.slice a8 m c8) (i64s (ints P)), Row 3 1 n (.slice (some ⟨g, 0, none⟩) n n) (i64s D), Blk B [.int .i64 n, .slice a mm c, .slice fa mm fc] 35]) => show (W.cell? ⟨g, v, none⟩ = some (.int .i64 (k : Int)) ∧ W.cell? ⟨g, hh, none⟩ = some (.int .i64 (D.getD hh 0))) from by
            have h1 := (hq.rowAt 1 rfl).cellAt v (by omega)
            rw [i64s_getD (by rw [hDl'.out]; exact hvn), hk.out] at h1
            have h2 := (hq.rowAt 1 rfl).cellAt hh (by omega)
            rw [i64s_getD (by rw [hDl'.out]; exact hhn)] at h2
            exact ⟨h1, h2⟩)
          clear hiL hte hhe hno
          generalize leftE L f i = z at *
          obtain ⟨y, hyD⟩ : ∃ y, D.getD hh 0 = y := ⟨_, rfl⟩
          rw [hyD] at hgd hfu
          have hyD := Lib.hid hyD
          have q0 : ∀ m' : Fut (Mod []) wr.drew, m'.v.cell? ⟨B, 0, none⟩ = some (.int .i64 n) := fun m' => ((hSd.out.still m'.of).blkAt 2 rfl).cell 0 rfl
          have q1 : ∀ m' : Fut (Mod []) wr.drew, m'.v.cell? ⟨B, 1, none⟩ = some (.slice a mm c) := fun m' => ((hSd.out.still m'.of).blkAt 2 rfl).cell 1 rfl
          go_upto_region 10 with fail
          refine region_sched (G := Mod []) [([0,1,2,4],3), ([5,6,7,8],9), ([10,11,12,13,14,15,16,20,21,22,23,24],17)] [18,19,25,26] (by kernel_rfl) (by kernel_rfl) (by kernel_rfl) rfl (Mod.refl []) (fun _ _ _ h1 h2 => h1.trans h2 (by simp)) ?_
          simp only [stages, pickO, nthO, headO, List.append_eq, List.cons_append, List.nil_append]
          refine sched_step ?_
          repeat (go_big_quiet_step (fail))
          refine wpQuiet_nil ?_
          intro K2 hK2
          rw [if_pos (by rfl)]
          go_simp
          refine cT.out.mono ?_
          rintro e w5 ⟨rfl, hm5⟩
          dsimp only
          refine hK2.out _ _ hm5 ?_
          have hS5 := Lib.hid (hSd.out.still hm5)
          clear hK2 K2 hSd q0 q1 cT hm5 hS b2 bl
          by_cases c1 : tl = v
          · have t1 : ((tl : Int) == (v : Int)) = true := by simp; omega
            have t1' : (tl == v) = true := by simp; omega
            have q0 : ∀ m' : Fut (Mod []) w5, m'.v.cell? ⟨B, 0, none⟩ = some (.int .i64 n) := fun m' => ((hS5.out.still m'.of).blkAt 2 rfl).cell 0 rfl
            have q1 : ∀ m' : Fut (Mod []) w5, m'.v.cell? ⟨B, 1, none⟩ = some (.slice a mm c) := fun m' => ((hS5.out.still m'.of).blkAt 2 rfl).cell 1 rfl
            have q2 : ∀ m' : Fut (Mod []) w5, m'.v.cell? ⟨B, 2, none⟩ = some (.slice fa mm fc) := fun m' => ((hS5.out.still m'.of).blkAt 2 rfl).cell 2 rfl
            have cL5 := Lib.hid (cL.out _ hS5.out.mod)
            refine sched_step ?_
            repeat (go_big_quiet_step (fail))
            refine wpQuiet_nil ?_
            intro K2 hK2
            rw [if_pos (by rfl)]
            go_simp
            refine cL5.out.mono ?_
            rintro e w6 ⟨rfl, hm6⟩
            dsimp only
            refine hK2.out _ _ hm6 ?_
            have hS6 := Lib.hid (hS5.out.still hm6)
            clear hK2 K2 hm6 q0 q1 q2 cL5 cL hS5
            by_cases c2 : 0 < z
            · have t2 : decide (0 < z) = true := by simpa using c2
              have q0 : ∀ m' : Fut (Mod []) w6, m'.v.cell? ⟨B, 0, none⟩ = some (.int .i64 n) := fun m' => ((hS6.out.still m'.of).blkAt 2 rfl).cell 0 rfl
              have q1 : ∀ m' : Fut (Mod []) w6, m'.v.cell? ⟨B, 1, none⟩ = some (.slice a mm c) := fun m' => ((hS6.out.still m'.of).blkAt 2 rfl).cell 1 rfl
              have qv : ∀ m' : Fut (Mod []) w6, m'.v.cell? ⟨g, v, none⟩ = some (.int .i64 (k : Int)) := fun m' => (hfu.out _ (hS6.out.mod.trans m'.of (by simp)) (hS6.out.still m'.of)).1
              have qh : ∀ m' : Fut (Mod []) w6, m'.v.cell? ⟨g, hh, none⟩ = some (.int .i64 y) := fun m' => (hfu.out _ (hS6.out.mod.trans m'.of (by simp)) (hS6.out.still m'.of)).2
              have cH6 := Lib.hid (cH.out _ hS6.out.mod)
              refine sched_step ?_
              repeat (go_big_quiet_step (fail))
              refine wpQuiet_nil ?_
              intro K2 hK2
              rw [if_pos (by rfl)]
              go_simp
              refine cH6.out.mono ?_
              rintro e w7 ⟨rfl, hm7⟩
              dsimp only
              refine hK2.out _ _ hm7 ?_
              have hS7 := Lib.hid (hS6.out.still hm7)
              clear hK2 K2 hm7 q0 q1 qv qh cH6 hS6
              have qh : ∀ m' : Fut (Mod []) w7, m'.v.cell? ⟨g, hh, none⟩ = some (.int .i64 y) := fun m' => (hfu.out _ (hS7.out.mod.trans m'.of (by simp)) (hS7.out.still m'.of)).2
              by_cases c3 : y = (k : Int) - 1
              · have t3 : (y == (k : Int) - 1) = true := by simpa using c3
                have hbest := Lib.hid (hbs.out (hgd.out.2 ⟨c1, c2, c3⟩))
                obtain ⟨k', hkk⟩ : ∃ k', k = k' + 1 := ⟨k - 1, by omega⟩
                have hW1 := Lib.hid (show ∀ l, IsWay L f D k' hh l → IsWay L f D K s ((P ++ [i]) ++ l) from fun l hl => by
                  rw [List.append_assoc]
                  exact hW.out _ (by rw [hkk]; exact .cons hbest.out hhe'.out hl))
                have hD1 := Lib.hid (show D.getD hh 0 = (k' : Int) by rw [hyD.out, c3]; omega)
                have hP1 := Lib.hid (show (P ++ [i]).length = m + 1 by rw [List.length_append, hP.out]; rfl)
                have hgr := Lib.hid (show ∀ (a1 : Option Addr) (c1 : Nat) (w6 : World), w6.ownsRow 0 3 1 (.slice a1 (m + 1) c1) (m + 1) (i64s (ints P) ++ [.int .i64 (i : Int)]) → Mod (Value.slice a8 m c8).ownBlock.toList w7 w6 → ((Value.slice a1 (m + 1) c1).ownBlock = (Value.slice a8 m c8).ownBlock ∨ ∃ b, (Value.slice a1 (m + 1) c1).ownBlock = some b ∧ w7.heap.size ≤ b) →
                  Sep w w6 [Row 3 1 (m + 1) (.slice a1 (m + 1) c1) (i64s (ints (P ++ [i]))), Row 3 1 n (.slice (some ⟨g, 0, none⟩) n n) (i64s D), Blk B [.int .i64 n, .slice a mm c, .slice fa mm fc] 35] by
                  intro a1 c1 w6 h1 h2 h3
                  rw [← ints_snoc] at h1
                  exact hS7.out.growAt 0 rfl h1 h2 h3)
                have cH7 := Lib.hid (fun W (hM : Mod [] w W) => cH.out W hM)
                clear hbest hbs hgd hnx hfu c3 c1 c2 hW hP hhe' hyD
                refine sched_last ?_
                repeat (go_big_quiet_step (fail))
                refine wpQuiet_nil ?_
                clear qh
                go_wp2_with (at_builtin; refine app_own rfl (.tmp 72) (.tmp 74) 51 3 _ 1 8 rfl Tryz.underlying51 infoI5 rfl (by omega) (by omega) (.slice a8 m c8) m 1 (i64s (ints P)) [.int .i64 (i : Int)] rfl rfl (by simp) rfl (by simp [Value.oneCell']) (hS7.out.rowAt 0 rfl) (by omega) ?_; intro a1 c1 w8 ho6 hm6 hb6; have hS8 := Lib.hid (hgr.out a1 c1 w8 ho6 hm6 hb6); have b0 := (hS8.out.blkAt 2 rfl).cell 0 rfl; have b1 := (hS8.out.blkAt 2 rfl).cell 1 rfl; have bl := (hS8.out.blkAt 2 rfl).lt; clear ho6 hm6 hb6)
                refine (cH7.out _ hS8.out.mod).mono ?_
                rintro e w9 ⟨rfl, hm9⟩
                have hS9 := Lib.hid (hS8.out.still hm9)
                clear hm9 hS8 cH7 hgr hS7 b0 b1 bl
                try dsimp only
                go_wp2_with fail
                go_roundw
                case rel => exact ⟨P ++ [i], m + 1, a1, c1, hh, k', hP1, rfl, rfl, hhn, hD1, by omega, hW1, hS9⟩
                case measure => simp [lenOf]; omega
              · have t3 : (y == (k : Int) - 1) = false := by simpa using c3
                have hn1 := Lib.hid (hnx.out (fun h => c3 (hgd.out.1 h).2.2))
                clear hnx hgd hbs hhe' hfu cH hyD c3
                refine sched_last ?_
                repeat (go_big_quiet_step (fail))
                refine wpQuiet_nil ?_
                clear qh
                go_wp2_with fail
                go_roundw
                case rel => exact ⟨i + 1, by omega, rfl, rfl, by go_num, hn1, hS7⟩
                case measure => simp [intOf]; omega
            · have t2 : decide (0 < z) = false := by simpa using c2
              have hn1 := Lib.hid (hnx.out (fun h => c2 (hgd.out.1 h).2.1))
              clear hnx hgd hbs hhe' hfu cH hyD c2
              refine sched_step ?_
              repeat (go_big_quiet_step (fail))
              refine wpQuiet_nil ?_
              intro K2 hK2
              rw [if_neg (by exact Bool.false_ne_true)]
              go_simp
              refine hK2.out _ _ (Mod.refl [] _) ?_
              clear hK2 K2
              refine sched_last ?_
              repeat (go_big_quiet_step (fail))
              refine wpQuiet_nil ?_
              go_wp2_with fail
              go_roundw
              case rel => exact ⟨i + 1, by omega, rfl, rfl, by go_num, hn1, hS6⟩
              case measure => simp [intOf]; omega
          · have t1 : ((tl : Int) == (v : Int)) = false := by simp; omega
            have t1' : (tl == v) = false := by simp; omega
            have hn1 := Lib.hid (hnx.out (fun h => c1 (hgd.out.1 h).1))
            clear hnx hgd hbs hhe' hfu cH cL hyD
            refine sched_step ?_
            repeat (go_big_quiet_step (fail))
            refine wpQuiet_nil ?_
            intro K2 hK2
            rw [if_neg (by exact Bool.false_ne_true)]
            go_simp
            refine hK2.out _ _ (Mod.refl [] _) ?_
            clear hK2 K2
            refine sched_step ?_
            repeat (go_big_quiet_step (fail))
            refine wpQuiet_nil ?_
            intro K2 hK2
            rw [if_neg (by exact Bool.false_ne_true)]
            go_simp
            refine hK2.out _ _ (Mod.refl [] _) ?_
            clear hK2 K2
            refine sched_last ?_
            repeat (go_big_quiet_step (fail))
            refine wpQuiet_nil ?_
            go_wp2_with fail
            go_roundw
            case rel => exact ⟨i + 1, by omega, rfl, rfl, by go_num, hn1, hS5⟩
            case measure => simp [intOf]; omega
        · have him : i = 2 * mm := by omega
          obtain ⟨j, hj, hg⟩ := hex.out
          exact absurd hg (hno.out j (by omega))
    · have hk00 : k = 0 := by omega
      subst hk00
      have hend := Lib.hid (hwy.out _ (hW.out [] (.nil v)))
      rw [List.append_nil] at hend
      have hmd := Lib.hid hS.out.toMade
      clear hS hW
      go_wp2_with fail
      go_ret
      have hpm := hP.out
      subst hpm
      exact ⟨D, P, a8, c8, hD'.out, hDl'.out, hend.out, rfl, hmd.out⟩
end Edge
end Go.Proofs.YtjpfmkfikidgkaaGreat

set_option linter.unusedVariables false
set_option linter.unusedSimpArgs false
namespace Go.Proofs.YtjpfmkfikidgkaaGreat
open Go.RowKit
namespace Edge
theorem ints_getD {P : List Nat} {k : Nat} (hk : k < P.length) : (ints P).getD k 0 = ((P.getD k 0 : Nat) : Int) := by
  unfold ints
  rw [List.getD_eq_getElem?_getD, List.getElem?_map, List.getD_eq_getElem?_getD, List.getElem?_eq_getElem hk]
  rfl
set_option maxRecDepth 100000 in
set_option maxHeartbeats 16000000 in
theorem xroom24 {n : Nat} {L : List Ed} {f : List Int} {a : Option Addr} {c : Nat} {fa : Option Addr} {fc : Nat} {w : World} (h : RX w L f a c fa fc) (hG : GOk n L) (hF : FB L f) {P : List Nat} {v : Value} (hl : Rd w 1 v P.length (i64s (ints P))) (hP : ∀ i ∈ P, i < 2 * L.length) :
    Calls Tryz.prog 134 #[restV n a L.length c fa fc, v] w fun e w' => e = .returned (.int .i64 (roomL L f (ints P))) ∧ Mod [] w w' := by
  obtain ⟨al, cl, rfl⟩ := hl.val
  have hle := hl.le
  obtain ⟨m, hm⟩ : ∃ m, L.length = m := ⟨_, rfl⟩
  have hlb : m ≤ 1048576 := by have := hG.len; omega
  have htl := Lib.hid (fun W (hM : Mod [] w W) (i : Nat) (hi : i < 2 * m) => show Calls Tryz.prog 112 #[.agg #[.int .i64 n, .slice a m c], .int .i64 (i : Int)] W fun e w' => e = .returned (.int .i64 (tailE L i)) ∧ Mod [] W w' by
    have h1 := rtail_any n (h.l.still hM) hG.len (i : Int) (by omega)
    unfold netV at h1
    rw [hm, show tailI L (i : Int) = tailE L i by unfold tailI; rw [if_neg (by omega), Int.toNat_natCast]] at h1
    exact h1)
  have hlf := Lib.hid (fun W (hM : Mod [] w W) (i : Nat) (hi : i < 2 * m) => show Calls Tryz.prog 109 #[.agg #[.int .i64 n, .slice a m c, .slice fa m fc], .int .i64 (i : Int)] W fun e w' => e = .returned (.int .i64 (leftE L f i)) ∧ Mod [] W w' by
    have h1 := xleft23 (h.still hM) hG hF (i : Int) (by omega)
    unfold restV at h1
    rw [hm, show leftI L f (i : Int) = leftE L f i by unfold leftI; rw [if_pos (by omega), Int.toNat_natCast]] at h1
    exact h1)
  have hP2 := Lib.hid (fun k (hk : k < P.length) => show P.getD k 0 < 2 * m by
    rw [List.getD_eq_getElem?_getD, List.getElem?_eq_getElem hk, ← hm]
    exact hP _ (List.getElem_mem hk))
  have hyes := Lib.hid (show roomL L f (ints P) = roomK L f (ints P) P.length by
    have h1 := roomL_yes (L := L) (f := f) (l := ints P) (fun k hk => by
      rw [ints_len] at hk
      rw [ints_getD hk]
      have := hP2.out k hk
      omega)
    rw [ints_len] at h1
    exact h1)
  have htp := Lib.hid (fun i (hi : i < 2 * m) => (tail_in hG (L := L) (i := i) (by rw [hm]; exact hi)).1)
  have hst := Lib.hid (fun k (hk : k < P.length) => show roomK L f (ints P) (k + 1) = if k = 0 ∨ leftE L f (P.getD k 0) < roomK L f (ints P) k then leftE L f (P.getD k 0) else roomK L f (ints P) k by
    have e : leftI L f ((ints P).getD k 0) = leftE L f (P.getD k 0) := by
      rw [ints_getD hk]
      have := hP2.out k hk
      unfold leftI
      rw [if_pos (by omega), Int.toNat_natCast]
    rw [← e]
    rfl)
  unfold restV
  rw [hm]
  have hl' := Lib.hid hl
  have hS0 := Lib.hid ((Sep.empty w).box [.int .i64 n, .slice a m c, .slice fa m fc] 35)
  clear h hG hF hm hl hP
  go_enter Tryz.func134, Tryz.ntmps134
  go_upto_region 2 with fail
  generalize w.alloc (.cells #[.int .i64 n, .slice a m c, .slice fa m fc] 35) = w1 at *
  generalize w.heap.size = B at *
  go_wp2_with fail
  go_loopw [5, 6] (fun s5 s6 wr => ∃ k : Nat, k ≤ P.length ∧ s5 = .int .i64 (roomK L f (ints P) k) ∧ s6 = .int .i64 k ∧ Hid (Sep w wr [Blk B [.int .i64 n, .slice a m c, .slice fa m fc] 35])) (fun _ s6 _ => P.length - (intOf s6).toNat)
  case atStart => exact ⟨0, Nat.zero_le _, rfl, rfl, hS0⟩
  case round =>
    clear hS0
    obtain ⟨k, hk, rfl, rfl, hS⟩ := hrel
    by_cases hlt : k < P.length
    · have hlt1 : (k : Int) < P.length := by omega
      obtain ⟨g, o, rfl, hg, hcell⟩ := rd_cell hl'.out (show k < P.length from hlt)
      have hx : (i64s (ints P))[k]? = some (.int .i64 ((P.getD k 0 : Nat) : Int)) := by
        rw [i64s_getD (by rw [ints_len]; exact hlt), ints_getD hlt]
      have hcl := Lib.hid (fun W (hM : Mod [] w W) => hcell W k _ hM hx)
      have hx2 := hP2.out k hlt
      have hst2 := Lib.hid (hst.out k hlt)
      have htp2 := htp.out _ hx2
      have cT := Lib.hid (fun W (hM : Mod [] w W) => htl.out W hM _ hx2)
      have cL := Lib.hid (fun W (hM : Mod [] w W) => hlf.out W hM _ hx2)
      obtain ⟨x, hxe⟩ : ∃ x, P.getD k 0 = x := ⟨_, rfl⟩
      rw [hxe] at hcl hx2 hst2 htp2 cT cL
      clear hcell hx hxe
      have t1 : decide (tailE L x < 0) = false := by simp; omega
      clear htp2
      generalize tailE L x = tl at *
      generalize leftE L f x = z at *
      have hSd := Lib.hid (hS.out.still (Mod.refl [] wr).drew)
      have lgw : g < wr.heap.size := Nat.lt_of_lt_of_le hg hS.out.mod.size
      have q0 : ∀ m' : Fut (Mod []) wr.drew, m'.v.cell? ⟨B, 0, none⟩ = some (.int .i64 n) := fun m' => ((hSd.out.still m'.of).blkAt 0 rfl).cell 0 rfl
      have q1 : ∀ m' : Fut (Mod []) wr.drew, m'.v.cell? ⟨B, 1, none⟩ = some (.slice a m c) := fun m' => ((hSd.out.still m'.of).blkAt 0 rfl).cell 1 rfl
      have q2 : ∀ m' : Fut (Mod []) wr.drew, m'.v.cell? ⟨g, o + k, none⟩ = some (.int .i64 (x : Int)) := fun m' => hcl.out _ (hSd.out.mod.trans m'.of (by simp))
      have cT0 := Lib.hid (cT.out _ hSd.out.mod)
      clear cT
      go_upto_region 5 with fail
      refine region_sched (G := Mod []) [([0,1,2,3,4,5],6)] [7] (by kernel_rfl) (by kernel_rfl) (by kernel_rfl) rfl (Mod.refl []) (fun _ _ _ h1 h2 => h1.trans h2 (by simp)) ?_
      simp only [stages, pickO, nthO, headO, List.append_eq, List.cons_append, List.nil_append]
      refine sched_step ?_
      repeat (go_big_quiet_step (fail))
      refine wpQuiet_nil ?_
      intro K hK
      rw [if_pos (by rfl)]
      go_simp
      refine cT0.out.mono ?_
      rintro e w5 ⟨rfl, hm5⟩
      dsimp only
      refine hK.out _ _ hm5 ?_
      have hS5 := Lib.hid (hSd.out.still hm5)
      clear hK K hSd q0 q1 q2 cT0 hm5 hS
      refine sched_last ?_
      repeat (go_big_quiet_step (fail))
      refine wpQuiet_nil ?_
      have hSe := Lib.hid (hS5.out.still (Mod.refl [] w5).drew)
      by_cases hk0 : k = 0
      · have t2 : ((k : Int) == 0) = true := by simp; omega
        have hst3 := Lib.hid (show roomK L f (ints P) (k + 1) = z by rw [hst2.out, if_pos (.inl hk0)])
        clear hk0 hst2 hS5
        go_upto_region 7 with fail
        refine region_sched (G := Mod []) [([0,1,2,3,4,5,6,7,9],8)] [10,11] (by kernel_rfl) (by kernel_rfl) (by kernel_rfl) rfl (Mod.refl []) (fun _ _ _ h1 h2 => h1.trans h2 (by simp)) ?_
        simp only [stages, pickO, nthO, headO, List.append_eq, List.cons_append, List.nil_append]
        refine sched_step ?_
        repeat (go_big_quiet_step (fail))
        refine wpQuiet_nil ?_
        intro K hK
        rw [if_neg (by exact Bool.false_ne_true)]
        go_simp
        refine hK.out _ _ (Mod.refl [] _) ?_
        clear hK K
        refine sched_last ?_
        repeat (go_big_quiet_step (fail))
        refine wpQuiet_nil ?_
        have hSg := Lib.hid (hSe.out.still (Mod.refl [] w5.drew).drew)
        have q0 : ∀ m' : Fut (Mod []) w5.drew.drew, m'.v.cell? ⟨B, 0, none⟩ = some (.int .i64 n) := fun m' => ((hSg.out.still m'.of).blkAt 0 rfl).cell 0 rfl
        have q1 : ∀ m' : Fut (Mod []) w5.drew.drew, m'.v.cell? ⟨B, 1, none⟩ = some (.slice a m c) := fun m' => ((hSg.out.still m'.of).blkAt 0 rfl).cell 1 rfl
        have q3 : ∀ m' : Fut (Mod []) w5.drew.drew, m'.v.cell? ⟨B, 2, none⟩ = some (.slice fa m fc) := fun m' => ((hSg.out.still m'.of).blkAt 0 rfl).cell 2 rfl
        have q2 : ∀ m' : Fut (Mod []) w5.drew.drew, m'.v.cell? ⟨g, o + k, none⟩ = some (.int .i64 (x : Int)) := fun m' => hcl.out _ (hSg.out.mod.trans m'.of (by simp))
        have cL8 := Lib.hid (cL.out _ hSg.out.mod)
        go_upto_region 8 with fail
        refine region_sched (G := Mod []) [([0,1,2,3,4],5)] [6] (by kernel_rfl) (by kernel_rfl) (by kernel_rfl) rfl (Mod.refl []) (fun _ _ _ h1 h2 => h1.trans h2 (by simp)) ?_
        simp only [stages, pickO, nthO, headO, List.append_eq, List.cons_append, List.nil_append]
        refine sched_step ?_
        repeat (go_big_quiet_step (fail))
        refine wpQuiet_nil ?_
        intro K hK
        rw [if_pos (by rfl)]
        go_simp
        refine cL8.out.mono ?_
        rintro e w8 ⟨rfl, hm8⟩
        dsimp only
        refine hK.out _ _ hm8 ?_
        have hS8 := Lib.hid (hSg.out.still hm8)
        clear hK K hm8 q0 q1 q2 q3 hSg
        refine sched_last ?_
        repeat (go_big_quiet_step (fail))
        refine wpQuiet_nil ?_
        go_wp2_with fail
        go_roundw
        case rel => exact ⟨k + 1, by omega, by rw [hst3.out], by go_num, hS8⟩
        case measure => simp [intOf]; omega
      · have t2 : ((k : Int) == 0) = false := by simp; omega
        have q0 : ∀ m' : Fut (Mod []) w5.drew, m'.v.cell? ⟨B, 0, none⟩ = some (.int .i64 n) := fun m' => ((hSe.out.still m'.of).blkAt 0 rfl).cell 0 rfl
        have q1 : ∀ m' : Fut (Mod []) w5.drew, m'.v.cell? ⟨B, 1, none⟩ = some (.slice a m c) := fun m' => ((hSe.out.still m'.of).blkAt 0 rfl).cell 1 rfl
        have q3 : ∀ m' : Fut (Mod []) w5.drew, m'.v.cell? ⟨B, 2, none⟩ = some (.slice fa m fc) := fun m' => ((hSe.out.still m'.of).blkAt 0 rfl).cell 2 rfl
        have q2 : ∀ m' : Fut (Mod []) w5.drew, m'.v.cell? ⟨g, o + k, none⟩ = some (.int .i64 (x : Int)) := fun m' => hcl.out _ (hSe.out.mod.trans m'.of (by simp))
        have cL7 := Lib.hid (cL.out _ hSe.out.mod)
        obtain ⟨y, hy⟩ : ∃ y, roomK L f (ints P) k = y := ⟨_, rfl⟩
        rw [hy] at hst2 ⊢
        clear hy hS5
        go_upto_region 7 with fail
        refine region_sched (G := Mod []) [([0,1,2,3,4,5,6,7,9],8)] [10,11] (by kernel_rfl) (by kernel_rfl) (by kernel_rfl) rfl (Mod.refl []) (fun _ _ _ h1 h2 => h1.trans h2 (by simp)) ?_
        simp only [stages, pickO, nthO, headO, List.append_eq, List.cons_append, List.nil_append]
        refine sched_step ?_
        repeat (go_big_quiet_step (fail))
        refine wpQuiet_nil ?_
        intro K hK
        rw [if_pos (by rfl)]
        go_simp
        refine cL7.out.mono ?_
        rintro e w7 ⟨rfl, hm7⟩
        dsimp only
        refine hK.out _ _ hm7 ?_
        have hS7 := Lib.hid (hSe.out.still hm7)
        clear hK K hm7 q0 q1 q2 q3 hSe
        by_cases hzy : z < y
        · have t3 : decide (z < y) = true := by simpa using hzy
          have hst3 := Lib.hid (show roomK L f (ints P) (k + 1) = z by rw [hst2.out, if_pos (.inr hzy)])
          clear hst2 hzy hk0
          refine sched_last ?_
          repeat (go_big_quiet_step (fail))
          refine wpQuiet_nil ?_
          have hSg := Lib.hid (hS7.out.still (Mod.refl [] w7).drew)
          have q0 : ∀ m' : Fut (Mod []) w7.drew, m'.v.cell? ⟨B, 0, none⟩ = some (.int .i64 n) := fun m' => ((hSg.out.still m'.of).blkAt 0 rfl).cell 0 rfl
          have q1 : ∀ m' : Fut (Mod []) w7.drew, m'.v.cell? ⟨B, 1, none⟩ = some (.slice a m c) := fun m' => ((hSg.out.still m'.of).blkAt 0 rfl).cell 1 rfl
          have q3 : ∀ m' : Fut (Mod []) w7.drew, m'.v.cell? ⟨B, 2, none⟩ = some (.slice fa m fc) := fun m' => ((hSg.out.still m'.of).blkAt 0 rfl).cell 2 rfl
          have q2 : ∀ m' : Fut (Mod []) w7.drew, m'.v.cell? ⟨g, o + k, none⟩ = some (.int .i64 (x : Int)) := fun m' => hcl.out _ (hSg.out.mod.trans m'.of (by simp))
          have cL8 := Lib.hid (cL.out _ hSg.out.mod)
          go_upto_region 8 with fail
          refine region_sched (G := Mod []) [([0,1,2,3,4],5)] [6] (by kernel_rfl) (by kernel_rfl) (by kernel_rfl) rfl (Mod.refl []) (fun _ _ _ h1 h2 => h1.trans h2 (by simp)) ?_
          simp only [stages, pickO, nthO, headO, List.append_eq, List.cons_append, List.nil_append]
          refine sched_step ?_
          repeat (go_big_quiet_step (fail))
          refine wpQuiet_nil ?_
          intro K hK
          rw [if_pos (by rfl)]
          go_simp
          refine cL8.out.mono ?_
          rintro e w8 ⟨rfl, hm8⟩
          dsimp only
          refine hK.out _ _ hm8 ?_
          have hS8 := Lib.hid (hSg.out.still hm8)
          clear hK K hm8 q0 q1 q2 q3 hSg
          refine sched_last ?_
          repeat (go_big_quiet_step (fail))
          refine wpQuiet_nil ?_
          go_wp2_with fail
          go_roundw
          case rel => exact ⟨k + 1, by omega, by rw [hst3.out], by go_num, hS8⟩
          case measure => simp [intOf]; omega
        · have t3 : decide (z < y) = false := by simpa using hzy
          have hst3 := Lib.hid (show roomK L f (ints P) (k + 1) = y by rw [hst2.out, if_neg (fun h => h.elim hk0 hzy)])
          clear hst2 hzy hk0
          refine sched_last ?_
          repeat (go_big_quiet_step (fail))
          refine wpQuiet_nil ?_
          go_wp2_with fail
          go_roundw
          case rel => exact ⟨k + 1, by omega, by rw [hst3.out], by go_num, hS7⟩
          case measure => simp [intOf]; omega
    · have hkl : k = P.length := by omega
      have hmod := Lib.hid hS.out.mod
      have hlt1 : ¬ (k : Int) < P.length := by omega
      rw [← hkl] at hyes
      generalize roomK L f (ints P) k = y at *
      clear hkl hk hlt hS
      go_wp2_with fail
      go_ret
      exact ⟨by rw [hyes.out]; rfl, hmod.out⟩
end Edge
end Go.Proofs.YtjpfmkfikidgkaaGreat

set_option linter.unusedVariables false
set_option linter.unusedSimpArgs false
namespace Go.Proofs.YtjpfmkfikidgkaaGreat
open Go.RowKit
section
variable {P : Program} {Q : Exit → Act → World → Prop} {N r : Nat} {G : World → World → Prop}
theorem anyB_mono {ops : Array Oper} {md : Region.Mode} {T T' : World → Prop} {bad : List Nat} (hT : ∀ w, T' w → T w) : ∀ (k : Nat) (listed : Array Bool) (a : Act) (w : World), anyB N P md ops Q T' bad k listed a w → anyB N P md ops Q T bad k listed a w
  | 0, _, _, _, h => h
  | k + 1, _, _, _, h => ⟨h.1, fun i hi => opY_mono (fun a' w' h' => ⟨fun hb => hT _ (h'.1 hb), anyB_mono hT k _ a' w' h'.2⟩) (h.2 i hi)⟩
theorem tailB_seg {l : List Oper} {W0 : World} {M : Nat} {listed : Array Bool} {a : Act} {w : World} {bad : List Nat} (is : List Nat) (Ds : List (List Nat)) (listed' : Array Bool) (n : Nat) (hs : Region.noSelect l.toArray = true) (hB : segB .any l.toArray is listed = some listed') (hbd : badB .any l.toArray bad is Ds listed = true) (hc : M = n + is.length)
    (hG : ∀ w, G w w) (hT : ∀ w1 w2 w3, G w1 w2 → G w2 w3 → G w1 w3) (h0 : G W0 w)
    (h : wpQuiet P l.toArray (fun w' => ∃ m : Fut G w, w' = m.v) (fun a' => anyB N P .any l.toArray (NoPanic Q) (G w) bad n listed' a' w) (pickO l is) a) : anyB N P .any l.toArray (NoPanic Q) (G W0) bad M listed a w := by
  refine anyB_mono (fun w' hw' => hT _ _ _ h0 hw') _ _ _ _ ?_
  rw [pickO_eq] at h
  rw [hc]
  exact seg_takeB (N := N) (P := P) (md := .any) (G := G) (Q := NoPanic Q) (w := w) (bad := bad) hs (fun _ _ _ _ _ h => h) hG is Ds listed listed' n a hB hbd h (fun a' h => h)
theorem region_wideB {l : List Oper} {id : Nat} {a : Act} {w : World} (is : List Nat) (Ds : List (List Nat)) (bad : List Nat) (listed' : Array Bool) (n : Nat) (hm : P.follows .mixedOrders = true) (hs : Region.noSelect l.toArray = true)
    (hbd : badB .any l.toArray bad is Ds (Array.replicate l.length false) = true)
    (hB : segB .any l.toArray is (Array.replicate l.length false) = some listed') (hc : n + is.length = l.length)
    (hG : ∀ w, G w w) (h : wpQuiet P l.toArray (fun w' => ∃ m : Fut G w.drew, w' = m.v) (fun a' => anyB 3 P .any l.toArray (NoPanic Q) (G w.drew) bad n listed' a' w.drew) (pickO l is) a) : (Code.region id l.toArray true).wp P Q a w := by
  refine wp_region_noPanic ((wpIn_wide (n := 3)).1 (wpIn_region_any hm ?_))
  refine anyB_in (T := G w.drew) (bad := bad) _ _ _ _ ?_
  rw [pickO_eq] at h
  have := seg_takeB (N := 3) (P := P) (md := .any) (G := G) (Q := NoPanic Q) (w := w.drew) (bad := bad) hs (fun _ _ _ _ _ h => h) hG is Ds _ listed' n a hB hbd h (fun a' h => h)
  rw [hc] at this
  simpa using this
end
end Go.Proofs.YtjpfmkfikidgkaaGreat

set_option linter.unusedVariables false
set_option linter.unusedSimpArgs false
namespace Go.Proofs.YtjpfmkfikidgkaaGreat
open Go.RowKit
namespace Edge
def wayCount (w : World) (B : Nat) : Nat := match w.cell? ⟨B, 0, none⟩ with
  | some v => lenOf v
  | none => 0
theorem wayCount_eq {w : World} {B k c : Nat} {a : Option Addr} (h : w.cell? ⟨B, 0, none⟩ = some (.slice a k c)) : wayCount w B = k := by
  unfold wayCount
  rw [h]
  rfl
theorem finR {w W : World} {xs : List Stp} {p : Stp} {X1 F1 P1 W1 M1 Z1 : Part} {R : List Part} (hp : P1 = stRow p) (h : Sep w W (X1 :: F1 :: P1 :: W1 :: M1 :: AllP (xs.map stRow) :: Z1 :: R)) : Sep w W (X1 :: W1 :: M1 :: F1 :: AllP ((xs ++ [p]).map stRow) :: Z1 :: R) := by
  subst hp
  have h1 : Sep w W (xs.map stRow ++ (stRow p :: X1 :: W1 :: M1 :: F1 :: Z1 :: R)) := Sep.unall (h.picks [5, 2, 0, 1, 1, 0])
  have h2 : Sep w W ((xs ++ [p]).map stRow ++ (X1 :: W1 :: M1 :: F1 :: Z1 :: R)) := by simpa [List.map_append] using h1
  exact (Sep.all h2).picks [1, 1, 1, 1, 0]
/-- What the reference's Ways answers. -/
def RWays (n : Nat) (L : List Ed) (a : Option Addr) (c : Nat) (s t : Int) (w : World) (e : Ending) (w' : World) : Prop :=
  (pairE n s t ≠ 0 ∧ e = .returned (.agg #[.slice none 0 0, .slice none 0 0, .int .i64 0, .slice none 0 0, .slice none 0 0, .int .i64 (pairE n s t)]) ∧ Mod [] w w') ∨
  (pairE n s t = 0 ∧ ∃ (xs : List Stp) (aw ax fa : Option Addr) (cw cx fc : Nat), PreW n L s t (noF L) (onlyS xs) ∧ IsDone n L s t (flowW L (noF L) (onlyS xs)) ∧
    e = .returned (.agg #[.slice aw xs.length cw, .slice ax xs.length cx, .int .i64 n, .slice a L.length c, .slice fa L.length fc, .int .i64 0]) ∧
    ∃ R, Sep w w' (Row 51 1 xs.length (.slice aw xs.length cw) (waysV xs) :: Row 2 1 xs.length (.slice ax xs.length cx) (i64s (muchL xs)) :: Row 2 1 L.length (.slice fa L.length fc) (i64s (flowW L (noF L) (onlyS xs))) :: AllP (xs.map stRow) :: R))
theorem xpush_row {w0 w : World} {n c fc : Nat} {L : List Ed} {f : List Int} {a fa : Option Addr} {R : List Part} (hS : Sep w0 w (Row 2 1 L.length (.slice fa L.length fc) (i64s f) :: R)) (h : Rd w 3 (.slice a L.length c) L.length (flat encEd L)) (hG : GOk n L) (hF : FB L f) (i : Int) (hi : i ≤ 9223372036854775807) (x : Int) (hx : -9223372036854775808 ≤ x ∧ x ≤ 9223372036854775807) :
    Calls Tryz.prog 21 #[restV n a L.length c fa fc, .int .i64 i, .int .i64 x] w fun e w' => ∃ fa2 fc2 b, e = .returned (.tuple #[restV n a L.length c fa2 fc2, .bool b]) ∧ Sep w0 w' (Row 2 1 L.length (.slice fa2 L.length fc2) (i64s (pushI L f i x)) :: R) := by
  refine (xpush23 ⟨h, Rd.own (hS.rowAt 0 rfl)⟩ hG hF i hi x hx).mono ?_
  rintro e w' (⟨h1, rfl, hm⟩ | ⟨h1, fa2, fc2, rfl, hm⟩)
  · have e2 : pushI L f i x = f := by unfold pushI; rw [h1]; rfl
    rw [e2]
    exact ⟨fa, fc, false, rfl, hS.still hm⟩
  · exact ⟨fa2, fc2, true, rfl, (hS.made hm).swap.tail⟩
set_option maxRecDepth 100000 in
set_option maxHeartbeats 16000000 in
theorem rways25_any {n : Nat} {L : List Ed} {a : Option Addr} {c : Nat} {w : World} (h : Rd w 3 (.slice a L.length c) L.length (flat encEd L)) (hG : GOk n L) (hM : total L ≤ 1000000000000) (s t : Int) :
    Calls Tryz.prog 45 #[netV n a L.length c, .int .i64 s, .int .i64 t] w (RWays n L a c s t w) := by
  have hlen := hG.len
  have hn4 := hG.le
  have hst := Lib.hid (((Sep.empty w).box [.int .i64 n, .slice a L.length c] 32).box [.slice none 0 0, .slice none 0 0, .int .i64 0, .slice none 0 0, .slice none 0 0, .int .i64 0] 82)
  rw [World.size_alloc] at hst
  have cK := Lib.hid (fun W => rcheck25_any n s t W)
  have cNw := Lib.hid (fun W => xnew23 n (L := L) (a := a) (c := c) W hlen)
  have h' := Lib.hid h
  have hG' := Lib.hid hG
  clear h hG
  unfold netV at cNw ⊢
  go_enter Tryz.func45, Tryz.ntmps45
  go_upto_region 1 with fail
  generalize (w.alloc (.cells #[.int .i64 n, .slice a L.length c] 32)).alloc (.cells #[.slice none 0 0, .slice none 0 0, .int .i64 0, .slice none 0 0, .slice none 0 0, .int .i64 0] 82) = w1 at *
  generalize w.heap.size + 1 = B6 at *
  generalize w.heap.size = B3 at *
  have n0 := (hst.out.blkAt 1 rfl).cell 0 rfl
  have n1 := (hst.out.blkAt 1 rfl).cell 1 rfl
  have nl := (hst.out.blkAt 1 rfl).lt
  go_wp2_with fail
  refine (cK.out _).mono ?_
  rintro e w2 ⟨rfl, rfl⟩
  try dsimp only
  by_cases hE : pairE n s t = 0
  · have hE' := Lib.hid hE
    have hin : 0 ≤ s ∧ s < n ∧ 0 ≤ t ∧ t < n ∧ s ≠ t := by
      rw [pairE_as] at hE
      by_cases h1 : 0 ≤ s ∧ s < n ∧ 0 ≤ t ∧ t < n
      · rw [if_neg (by simpa using h1)] at hE
        by_cases h2 : s = t
        · rw [if_pos h2] at hE; omega
        · exact ⟨h1.1, h1.2.1, h1.2.2.1, h1.2.2.2, h2⟩
      · rw [if_pos h1] at hE; omega
    obtain ⟨S, rfl⟩ := Int.eq_ofNat_of_zero_le hin.1
    obtain ⟨T, rfl⟩ := Int.eq_ofNat_of_zero_le hin.2.2.1
    have hSn : S < n := by omega
    have hTn : T < n := by omega
    rw [hE]
    have hkb := Lib.hid (fun (pre : List Stp) (h : PreW n L (S : Int) (T : Int) (noF L) (onlyS pre)) => show (pre.length : Int) ≤ total L from by
      have h1 := (PreW.exc hG'.out (fb_new hG'.out) h)
      have h2 := (exc_in ((fb_new hG'.out).flowW (onlyS pre)) (fun e he => by have := hG'.out.ends e he; omega) (T : Int)).2
      have h3 := exc_noF (L := L) (T : Int)
      have h5 : (onlyS pre).length = pre.length := by simp [onlyS]
      unfold noF at h1 h2
      rw [h3, h5] at h1
      omega)
    clear hE hin cK
    go_wp2_with fail
    refine (cNw.out _).mono ?_
    rintro e w3 ⟨fa, fc, rfl, hmd⟩
    have hS3 := Lib.hid ((hst.out.made hmd).box [.slice none 0 0, .slice none 0 0, .int .i64 n, .slice a L.length c, .slice fa L.length fc, .int .i64 0] 82)
    clear hmd cNw hst n0 n1 nl
    unfold restV
    try dsimp only
    go_wp2_with fail
    generalize w3.heap.size = B8 at *
    have hS4 := Lib.hid (show Sep w _ (Blk B8 [.slice none ([] : List Stp).length 0, .slice none ([] : List Stp).length 0, .int .i64 n, .slice a L.length c, .slice fa L.length fc, .int .i64 0] 82 :: Row 51 1 ([] : List Stp).length (.slice none ([] : List Stp).length 0) (waysV []) :: Row 2 1 ([] : List Stp).length (.slice none ([] : List Stp).length 0) (i64s (muchL [])) :: Row 2 1 L.length (.slice fa L.length fc) (i64s (flowW L (noF L) (onlyS []))) :: AllP (([] : List Stp).map stRow) :: Blk B6 [.slice none 0 0, .slice none 0 0, .int .i64 0, .slice none 0 0, .slice none 0 0, .int .i64 0] 82 :: _) from
      (Sep.all (L := []) ((hS3.out.nilRow 2 1).nilRow 51 1)).picks [3, 1, 1, 1, 0, 0])
    clear hS3
    generalize w3.alloc _ = w4 at *
    go_loopw [9, 10, 11] (fun _ _ _ wr => ∃ (xs : List Stp) (aw ax fa : Option Addr) (cw cx fc : Nat) (R : List Part), Hid (PreW n L (S : Int) (T : Int) (noF L) (onlyS xs)) ∧ Hid (Sep w wr (Blk B8 [.slice aw xs.length cw, .slice ax xs.length cx, .int .i64 n, .slice a L.length c, .slice fa L.length fc, .int .i64 0] 82 :: Row 51 1 xs.length (.slice aw xs.length cw) (waysV xs) :: Row 2 1 xs.length (.slice ax xs.length cx) (i64s (muchL xs)) :: Row 2 1 L.length (.slice fa L.length fc) (i64s (flowW L (noF L) (onlyS xs))) :: AllP (xs.map stRow) :: Blk B6 [.slice none 0 0, .slice none 0 0, .int .i64 0, .slice none 0 0, .slice none 0 0, .int .i64 0] 82 :: R))) (fun _ _ _ wr => (total L).toNat + 1 - wayCount wr B8)
    case atStart => exact ⟨[], none, none, fa, 0, 0, fc, _, Lib.hid trivial, hS4⟩
    case round =>
      clear hS4
      obtain ⟨xs, aw, ax, fa, cw, cx, fc, R, hP, hS⟩ := hrel
      have hkx := hkb.out xs hP.out
      have hFB := Lib.hid ((fb_new hG'.out).flowW (onlyS xs))
      have hcnt := Lib.hid (wayCount_eq ((hS.out.blkAt 0 rfl).cell 0 rfl))
      obtain ⟨k, hk⟩ : ∃ k, xs.length = k := ⟨_, rfl⟩
      have hk' := Lib.hid hk
      rw [hk] at hS hkx hcnt
      clear hk
      obtain ⟨f, hf⟩ : ∃ f, flowW L (noF L) (onlyS xs) = f := ⟨_, rfl⟩
      have hf' := Lib.hid hf
      rw [hf] at hS hFB
      clear hf
      have c2 := (hS.out.blkAt 0 rfl).cell 2 rfl
      have c3 := (hS.out.blkAt 0 rfl).cell 3 rfl
      have c4 := (hS.out.blkAt 0 rfl).cell 4 rfl
      have bl := (hS.out.blkAt 0 rfl).lt
      have cW := Lib.hid (xway24 ⟨h'.out.still hS.out.mod, Rd.own (hS.out.rowAt 3 rfl)⟩ hG'.out hFB.out (S : Int) (T : Int))
      unfold restV at cW
      go_wp2_with fail
      refine cW.out.mono ?_
      rintro e w5 ⟨D, P, ap, cp, hD, hDl, hW, rfl, hmd⟩
      have hm4 := wayP_len hG'.out hD hW
      have hS5 := Lib.hid (hS.out.made hmd)
      have hDW := Lib.hid (show ∃ D, LevI n (Arc L f) (T : Int) D ∧ D.length = n ∧ WayP n L f D (S : Int) P from ⟨D, hD, hDl, hW⟩)
      have harcs := Lib.hid hW.arcs
      clear hmd cW hS c2 c3 c4 bl hD hDl hW
      try dsimp only
      by_cases hP0 : P = []
      · subst hP0
        have hdn := Lib.hid (show IsDone n L (S : Int) (T : Int) f from hDW.out)
        have c0 := (hS5.out.blkAt 1 rfl).cell 0 rfl
        have c1 := (hS5.out.blkAt 1 rfl).cell 1 rfl
        have c2 := (hS5.out.blkAt 1 rfl).cell 2 rfl
        have c3 := (hS5.out.blkAt 1 rfl).cell 3 rfl
        have c4 := (hS5.out.blkAt 1 rfl).cell 4 rfl
        have c5 := (hS5.out.blkAt 1 rfl).cell 5 rfl
        have cl := (hS5.out.blkAt 1 rfl).lt
        have b0 := (hS5.out.blkAt 6 rfl).cell 0 rfl
        have b1 := (hS5.out.blkAt 6 rfl).cell 1 rfl
        have b2 := (hS5.out.blkAt 6 rfl).cell 2 rfl
        have b3 := (hS5.out.blkAt 6 rfl).cell 3 rfl
        have b4 := (hS5.out.blkAt 6 rfl).cell 4 rfl
        have b5 := (hS5.out.blkAt 6 rfl).cell 5 rfl
        have bf := (hS5.out.blkAt 6 rfl).free
        have bl := (hS5.out.blkAt 6 rfl).lt
        have hS9 := Lib.hid (((((((hS5.out.pick 6 (by simp)).set 0 (.slice aw k cw)).set 1 (.slice ax k cx)).set 2 (.int .i64 n)).set 3 (.slice a L.length c)).set 4 (.slice fa L.length fc)).set 5 (.int .i64 0))
        clear hS5 hDW harcs
        go_wp2_with fail
        generalize World.setCell _ ⟨B6, 5, none⟩ (.int .i64 0) = w9 at *
        have z0 := (hS9.out.blkAt 0 rfl).cell 0 rfl
        have z1 := (hS9.out.blkAt 0 rfl).cell 1 rfl
        have z2 := (hS9.out.blkAt 0 rfl).cell 2 rfl
        have z3 := (hS9.out.blkAt 0 rfl).cell 3 rfl
        have z4 := (hS9.out.blkAt 0 rfl).cell 4 rfl
        have z5 := (hS9.out.blkAt 0 rfl).cell 5 rfl
        refine bodyPost_ret (v := .agg #[.slice aw k cw, .slice ax k cx, .int .i64 n, .slice a L.length c, .slice fa L.length fc, .int .i64 0]) ?_ rfl ?_
        · simp [results, Tryz.results45, go_sem, z0, z1, z2, z3, z4, z5]
        · have hkk := hk'.out
          subst hkk
          have hff := hf'.out
          subst hff
          exact .inr ⟨hE'.out, xs, aw, ax, fa, cw, cx, fc, hP.out, hdn.out, rfl, _, hS9.out.picks [3, 3, 3, 3]⟩
      · obtain ⟨m, hm⟩ : ∃ m, P.length = m := ⟨_, rfl⟩
        have hm' := Lib.hid hm
        have hm0 : 0 < m := by
          rw [← hm]
          cases P with
          | nil => exact absurd rfl hP0
          | cons _ _ => simp
        rw [hm] at hS5 hm4 ⊢
        have t6 : ((m : Int) == 0) = false := by simp; omega
        have c2 := (hS5.out.blkAt 1 rfl).cell 2 rfl
        have c3 := (hS5.out.blkAt 1 rfl).cell 3 rfl
        have c4 := (hS5.out.blkAt 1 rfl).cell 4 rfl
        have bl := (hS5.out.blkAt 1 rfl).lt
        obtain ⟨x, hx⟩ : ∃ x, roomL L f (ints P) = x := ⟨_, rfl⟩
        have hstep := Lib.hid (show IsStep n L (S : Int) (T : Int) f P x from ⟨hDW.out, hP0, hx.symm⟩)
        have cR := Lib.hid (xroom24 ⟨h'.out.still hS5.out.mod, Rd.own (hS5.out.rowAt 4 rfl)⟩ hG'.out hFB.out (P := P) (v := .slice ap m cp) (by rw [hm]; exact Rd.own (hS5.out.rowAt 0 rfl)) (fun i hi => (harcs.out i hi).1))
        rw [hx] at cR
        unfold restV at cR
        have hxp := hstep.out.pos
        have hxb : x ≤ 4503599627370496 := by
          have h1 := roomL_le (L := L) (f := f) (l := P) (fun i hi => (harcs.out i hi).1) (P[0]'(by omega)) (List.getElem_mem _)
          have h2 := (leftE_in hG'.out hFB.out (harcs.out (P[0]'(by omega)) (List.getElem_mem _)).1).2
          rw [hx] at h1
          omega
        have hPi := Lib.hid (fun j (hj : j < m) => show P.getD j 0 < 2 * L.length by
          rw [List.getD_eq_getElem?_getD, List.getElem?_eq_getElem (by omega)]
          exact (harcs.out _ (List.getElem_mem _)).1)
        clear hm hx hDW hP0 harcs
        go_wp2_with fail
        refine cR.out.mono ?_
        rintro e w6 ⟨rfl, hm6⟩
        have hS6 := Lib.hid (show Sep w w6 (Row 2 1 L.length (.slice fa L.length fc) (i64s (pushW L f (P.take 0) x)) :: Row 3 1 m (.slice ap m cp) (i64s (ints P)) :: Blk B8 [.slice aw k cw, .slice ax k cx, .int .i64 n, .slice a L.length c, .slice fa L.length fc, .int .i64 0] 82 :: Row 51 1 k (.slice aw k cw) (waysV xs) :: Row 2 1 k (.slice ax k cx) (i64s (muchL xs)) :: AllP (xs.map stRow) :: Blk B6 [.slice none 0 0, .slice none 0 0, .int .i64 0, .slice none 0 0, .slice none 0 0, .int .i64 0] 82 :: R) from (hS5.out.still hm6).picks [4])
        clear hm6 cR hS5 c2 c3 c4 bl
        try dsimp only
        go_wp2_with fail
        go_loopw [11] (fun s11 wq => ∃ (j : Nat) (fa2 : Option Addr) (fc2 : Nat), j ≤ m ∧ s11 = .int .i64 j ∧ Hid (Sep w wq (Row 2 1 L.length (.slice fa2 L.length fc2) (i64s (pushW L f (P.take j) x)) :: Row 3 1 m (.slice ap m cp) (i64s (ints P)) :: Blk B8 [.slice aw k cw, .slice ax k cx, .int .i64 n, .slice a L.length c, .slice fa2 L.length fc2, .int .i64 0] 82 :: Row 51 1 k (.slice aw k cw) (waysV xs) :: Row 2 1 k (.slice ax k cx) (i64s (muchL xs)) :: AllP (xs.map stRow) :: Blk B6 [.slice none 0 0, .slice none 0 0, .int .i64 0, .slice none 0 0, .slice none 0 0, .int .i64 0] 82 :: R))) (fun s11 _ => m - (intOf s11).toNat)
        case atStart => exact ⟨0, fa, fc, Nat.zero_le _, rfl, hS6⟩
        case round =>
          clear hS6
          obtain ⟨j, fa2, fc2, hj, rfl, hS⟩ := hrel
          by_cases hlt : j < m
          · have hlt1 : (j : Int) < m := by omega
            obtain ⟨gp, rfl, hgl, _, hcell⟩ := row_form (hS.out.rowAt 1 rfl) (by omega)
            have hjP : j < P.length := by rw [hm'.out]; exact hlt
            have cX := hcell j (.int .i64 ((P.getD j 0 : Nat) : Int)) (by
              have : (ints P)[j]? = some ((P.getD j 0 : Nat) : Int) := by
                unfold ints
                rw [List.getElem?_map, List.getElem?_eq_getElem hjP, List.getD_eq_getElem?_getD, List.getElem?_eq_getElem hjP]; rfl
              exact i64s_got this)
            have hst2 := Lib.hid (pushW_take (L := L) (f := f) (x := x) hjP)
            have hyb := hPi.out j hlt
            have hSd := Lib.hid (hS.out.still (Mod.refl [] wr).drew)
            have hxr : -9223372036854775808 ≤ x ∧ x ≤ 9223372036854775807 := by omega
            have cP := Lib.hid (xpush_row hSd.out (h'.out.still hSd.out.mod) hG'.out (hFB.out.pushW (P.take j) x) ((P.getD j 0 : Nat) : Int) (by omega) x hxr)
            unfold restV at cP
            obtain ⟨y, hy⟩ : ∃ y, P.getD j 0 = y := ⟨_, rfl⟩
            rw [hy] at cX hst2 hyb cP
            rw [← hst2.out] at cP
            have cX2 := Lib.hid (fun W (m : Mod [] wr W) => show W.cell? ⟨gp, j, none⟩ = some (.int .i64 (y : Int)) from (World.cell?_of_block (m.block _ hgl (by simp))).trans cX)
            have hrc := Lib.hid (fun (W : World) (r : W.ownsRow 0 3 1 (.slice (some ⟨gp, 0, none⟩) m cp) m (i64s (ints P))) => show W.cell? ⟨gp, j, none⟩ = some (.int .i64 (y : Int)) from by
              have h1 := r.cellAt j (by omega)
              rw [i64s_getD (by rw [ints_len]; exact hjP), ints_getD hjP, hy] at h1
              exact h1)
            clear hcell hjP hy hxr
            obtain ⟨LL, hLL⟩ : ∃ LL : List (Addr × Value), LL = [(⟨B8, 2, none⟩, .int .i64 n), (⟨B8, 3, none⟩, .slice a L.length c), (⟨B8, 4, none⟩, .slice fa2 L.length fc2), (⟨gp, j, none⟩, .int .i64 (y : Int))] := ⟨_, rfl⟩
            have m0 : ((⟨B8, 2, none⟩ : Addr), Value.int .i64 n) ∈ LL := by rw [hLL]; simp
            have m1 : ((⟨B8, 3, none⟩ : Addr), Value.slice a L.length c) ∈ LL := by rw [hLL]; simp
            have m2 : ((⟨B8, 4, none⟩ : Addr), Value.slice fa2 L.length fc2) ∈ LL := by rw [hLL]; simp
            have m3 : ((⟨gp, j, none⟩ : Addr), Value.int .i64 (y : Int)) ∈ LL := by rw [hLL]; simp
            have hkc := Lib.hid (fun W0 W' (h1 : Has W' B8 [.slice aw k cw, .slice ax k cx, .int .i64 n, .slice a L.length c, .slice fa2 L.length fc2, .int .i64 0] 82) (h2 : W'.cell? ⟨gp, j, none⟩ = some (.int .i64 (y : Int))) => show KC LL W0 W' from fun p hp _ => by
              rw [hLL] at hp
              simp only [List.mem_cons, List.mem_nil_iff, or_false] at hp
              rcases hp with rfl | rfl | rfl | rfl
              · exact h1.cell 2 rfl
              · exact h1.cell 3 rfl
              · exact h1.cell 4 rfl
              · exact h2)
            clear hLL
            have k0 := KC.one (w := wr.drew) ((hSd.out.blkAt 2 rfl).cell 2 rfl) m0
            have k1 := KC.one (w := wr.drew) ((hSd.out.blkAt 2 rfl).cell 3 rfl) m1
            have k2 := KC.one (w := wr.drew) ((hSd.out.blkAt 2 rfl).cell 4 rfl) m2
            have k3 := KC.one (w := wr.drew) (cX2.out _ (Mod.refl [] wr).drew) m3
            go_upto_region 12 with fail
            refine region_wideB (G := KC LL) [0,1,2,3,4,5,6] [[12],[12],[12],[12],[12],[12],[12]] [12] #[true,true,true,true,true,true,true,false,false,false,false,false,false] 6 (by kernel_rfl) (by kernel_rfl) (by kernel_rfl) (by kernel_rfl) rfl (KC.refl _) ?_
            simp only [pickO, nthO, List.cons_append, List.nil_append]
            repeat (go_big_quiet_step (fail))
            refine wpQuiet_nil ?_
            clear k0 k1 k2 k3 m0 m1 m2 m3
            refine tailB_one 7 (by kernel_rfl) rfl ?_
            intro K hK
            rw [if_pos (by rfl)]
            go_simp
            refine cP.out.mono ?_
            rintro e w7 ⟨fa3, fc3, bb, rfl, hS7⟩
            have hS7' := Lib.hid hS7
            dsimp only
            refine hK.out _ _ (fun _ => hkc.out _ _ (hS7.blkAt 2 rfl) (hrc.out _ (hS7.rowAt 1 rfl))) ?_
            clear hK K cP hSd hS hS7 cX2
            refine tailB_seg (G := KC LL) [8,9,11] [[12],[12],[12]] #[true,true,true,true,true,true,true,true,true,true,false,true,false] 2 (by kernel_rfl) (by kernel_rfl) (by kernel_rfl) rfl (KC.refl _) (KC.trans _) (hkc.out _ _ (hS7'.out.blkAt 2 rfl) (hrc.out _ (hS7'.out.rowAt 1 rfl))) ?_
            simp only [pickO, nthO, List.cons_append, List.nil_append]
            repeat (go_big_quiet_step (fail))
            refine wpQuiet_nil ?_
            refine tailB_two 10 12 (by kernel_rfl) rfl rfl ?_ ?_
            · skip
              intro K hK
              rw [if_pos (by rfl)]
              go_simp
              refine hK.out _ _ (fun _ => hkc.out _ _ (hS7'.out.blkAt 2 rfl) (hrc.out _ (hS7'.out.rowAt 1 rfl))) ?_
              clear hK K
              refine tailB_one 12 (by kernel_rfl) rfl ?_
              have b2 := (hS7'.out.blkAt 2 rfl).cell 2 rfl
              have b3 := (hS7'.out.blkAt 2 rfl).cell 3 rfl
              have b4 := (hS7'.out.blkAt 2 rfl).cell 4 rfl
              have bf := (hS7'.out.blkAt 2 rfl).free
              have bl := (hS7'.out.blkAt 2 rfl).lt
              intro K hK
              rw [if_pos (by rfl)]
              go_simp
              have hS9 := Lib.hid (((((hS7'.out.pick 2 (by simp)).set 2 (.int .i64 n)).set 3 (.slice a L.length c)).set 4 (.slice fa3 L.length fc3)).picks [1, 1])
              refine hK.out _ _ (fun h => absurd h (by decide +kernel)) ?_
              clear hK K b2 b3 b4 bf bl
              generalize World.setCell _ ⟨B8, 4, none⟩ (.slice fa3 L.length fc3) = w9 at *
              refine tailB_done (by kernel_rfl) ?_
              go_wp2_with fail
              go_roundw
              case rel => exact ⟨j + 1, fa3, fc3, by omega, by go_num, hS9⟩
              case measure => simp [intOf]; omega
            · skip
              have b2 := (hS7'.out.blkAt 2 rfl).cell 2 rfl
              have b3 := (hS7'.out.blkAt 2 rfl).cell 3 rfl
              have b4 := (hS7'.out.blkAt 2 rfl).cell 4 rfl
              have bf := (hS7'.out.blkAt 2 rfl).free
              have bl := (hS7'.out.blkAt 2 rfl).lt
              intro K hK
              rw [if_pos (by rfl)]
              go_simp
              have hS9 := Lib.hid (((((hS7'.out.pick 2 (by simp)).set 2 (.int .i64 n)).set 3 (.slice a L.length c)).set 4 (.slice fa3 L.length fc3)).picks [1, 1])
              refine hK.out _ _ (fun h => absurd h (by decide +kernel)) ?_
              clear hK K b2 b3 b4 bf bl
              generalize World.setCell _ ⟨B8, 4, none⟩ (.slice fa3 L.length fc3) = w9 at *
              refine tailB_one 10 (by kernel_rfl) rfl ?_
              intro K hK
              rw [if_pos (by rfl)]
              go_simp
              refine hK.out _ _ (fun h => absurd h (by decide +kernel)) ?_
              clear hK K
              refine tailB_done (by kernel_rfl) ?_
              go_wp2_with fail
              go_roundw
              case rel => exact ⟨j + 1, fa3, fc3, by omega, by go_num, hS9⟩
              case measure => simp [intOf]; omega
          · have hjm : j = m := by omega
            have hPt : P.take j = P := by rw [hjm, ← hm'.out, List.take_length]
            rw [hPt] at hS
            have hnx := Lib.hid (show PreW n L (S : Int) (T : Int) (noF L) (onlyS (xs ++ [((P, x), (ap, cp))])) by
              rw [onlyS_snoc]
              refine PreW.snoc hP.out ?_
              rw [hf'.out]
              exact hstep.out)
            have hfn := Lib.hid (show flowW L (noF L) (onlyS (xs ++ [((P, x), (ap, cp))])) = pushW L f P x by rw [onlyS_snoc, flowW_snoc, hf'.out])
            have hkn := hkb.out _ hnx.out
            have hkl : (xs ++ [((P, x), (ap, cp))]).length = k + 1 := by rw [List.length_append, hk'.out]; rfl
            rw [hkl] at hkn
            have hkl' := Lib.hid hkl
            have hlt1 : ¬ (j : Int) < m := by omega
            have hkb3 : k + 1 ≤ 1000000000000 := by omega
            have c0 := (hS.out.blkAt 2 rfl).cell 0 rfl
            have cl := (hS.out.blkAt 2 rfl).lt
            have hSs := Lib.hid hS.out
            clear hS hPt hjm hkl
            go_upto_region 14 with (at_builtin; refine app_own rfl (.tmp 56) (.tmp 58) 80 51 _ 1 24 rfl Tryz.underlying80 infoRow rfl (by omega) (by omega) (.slice aw k cw) k 1 (waysV xs) [.slice ap m cp] rfl rfl (by simp) rfl (by simp [Value.oneCell']) (hSs.out.rowAt 3 rfl) (by omega) ?_; intro a1 ca w6 ho6 hm6 hb6; have hS7 := Lib.hid (hSs.out.growAt 3 rfl ho6 hm6 hb6); have b0 := (hS7.out.blkAt 2 rfl).cell 0 rfl; have bf := (hS7.out.blkAt 2 rfl).free 0; have bl := (hS7.out.blkAt 2 rfl).lt; clear ho6 hm6 hb6)
            have hS8 := Lib.hid ((hS7.out.pick 2 (by simp)).set 0 (.slice a1 (k + 1) ca))
            generalize World.setCell w6 ⟨B8, 0, none⟩ (.slice a1 (k + 1) ca) = w8 at *
            clear hS7 b0 bf bl hSs c0 cl
            have d1 := (hS8.out.blkAt 0 rfl).cell 1 rfl
            have cl := (hS8.out.blkAt 0 rfl).lt
            go_wp2_with (at_builtin; refine app_own rfl (.tmp 62) (.tmp 64) 33 2 _ 1 8 rfl Tryz.underlying33 infoI64b rfl (by omega) (by omega) (.slice ax k cx) k 1 (i64s (muchL xs)) [.int .i64 x] rfl rfl (by simp) rfl (by simp [Value.oneCell']) (hS8.out.rowAt 4 rfl) (by omega) ?_; intro a2 cb w9 ho6 hm6 hb6; have hS9 := Lib.hid (hS8.out.growAt 4 rfl ho6 hm6 hb6); have b1 := (hS9.out.blkAt 0 rfl).cell 1 rfl; have bf := (hS9.out.blkAt 0 rfl).free 1; have bl := (hS9.out.blkAt 0 rfl).lt; clear ho6 hm6 hb6)
            have hS10 := Lib.hid (hS9.out.set 1 (.slice a2 (k + 1) cb))
            clear hS8 hS9 b1 bf bl d1 cl
            generalize World.setCell w9 ⟨B8, 1, none⟩ (.slice a2 (k + 1) cb) = w10 at *
            have hct := Lib.hid (wayCount_eq ((hS10.out.blkAt 0 rfl).cell 0 rfl))
            go_roundw
            case rel =>
              refine ⟨xs ++ [((P, x), (ap, cp))], a1, a2, fa2, ca, cb, fc2, R, hnx, Lib.hid ?_⟩
              rw [hkl'.out, hfn.out]
              have e1 : waysV (xs ++ [((P, x), (ap, cp))]) = waysV xs ++ [.slice ap m cp] := by rw [← hm'.out]; simp [waysV, wayV]
              have e2 : i64s (muchL (xs ++ [((P, x), (ap, cp))])) = i64s (muchL xs) ++ [.int .i64 x] := by simp [muchL, i64s]
              rw [e1, e2]
              exact finR (p := ((P, x), (ap, cp))) (by unfold stRow; rw [hm'.out]) hS10.out
            case measure =>
              have h1 := hct.out
              have h2 := hcnt.out
              rw [h1, h2]
              omega
  · have hE' := Lib.hid hE
    have t0 : (pairE n s t != 0) = true := by simpa using hE
    clear hE cNw
    obtain ⟨E, hEE⟩ : ∃ E, pairE n s t = E := ⟨_, rfl⟩
    rw [hEE] at t0 ⊢
    have hE2 := Lib.hid hEE
    clear hEE
    have b0 := (hst.out.blkAt 0 rfl).cell 0 rfl
    have b1 := (hst.out.blkAt 0 rfl).cell 1 rfl
    have b2 := (hst.out.blkAt 0 rfl).cell 2 rfl
    have b3 := (hst.out.blkAt 0 rfl).cell 3 rfl
    have b4 := (hst.out.blkAt 0 rfl).cell 4 rfl
    have b5 := (hst.out.blkAt 0 rfl).cell 5 rfl
    have bf := (hst.out.blkAt 0 rfl).free
    have bl := (hst.out.blkAt 0 rfl).lt
    have hS3 := Lib.hid ((((((hst.out.set 0 (.slice none 0 0)).set 1 (.slice none 0 0)).set 2 (.int .i64 0)).set 3 (.slice none 0 0)).set 4 (.slice none 0 0)).set 5 (.int .i64 E))
    clear hst
    go_wp2_with fail
    generalize World.setCell _ ⟨B6, 5, none⟩ (.int .i64 E) = w9 at *
    have z0 := (hS3.out.blkAt 0 rfl).cell 0 rfl
    have z1 := (hS3.out.blkAt 0 rfl).cell 1 rfl
    have z2 := (hS3.out.blkAt 0 rfl).cell 2 rfl
    have z3 := (hS3.out.blkAt 0 rfl).cell 3 rfl
    have z4 := (hS3.out.blkAt 0 rfl).cell 4 rfl
    have z5 := (hS3.out.blkAt 0 rfl).cell 5 rfl
    refine bodyPost_ret (v := .agg #[.slice none 0 0, .slice none 0 0, .int .i64 0, .slice none 0 0, .slice none 0 0, .int .i64 E]) ?_ rfl (.inl ⟨hE'.out, by rw [hE2.out], hS3.out.mod⟩)
    simp [results, Tryz.results45, go_sem, z0, z1, z2, z3, z4, z5]
end Edge
end Go.Proofs.YtjpfmkfikidgkaaGreat

set_option linter.unusedVariables false
set_option linter.unusedSimpArgs false
namespace Go.Proofs.YtjpfmkfikidgkaaGreat
open Go.RowKit
namespace Edge
set_option maxRecDepth 100000 in
set_option maxHeartbeats 2000000 in
theorem xsame04 {f : List Int} {m : Nat} {a b : Option Addr} {ca cb : Nat} {w : World} (ha : Rd w 1 (.slice a m ca) m (i64s f)) (hb : Rd w 1 (.slice b m cb) m (i64s f)) (hm : m ≤ 1048576) :
    Calls Tryz.prog 31 #[.slice a m ca, .slice b m cb] w fun e w' => e = .returned (.bool true) ∧ Mod [] w w' := by
  have ha' := Lib.hid ha
  have hb' := Lib.hid hb
  have hlen : f.length = m := by have := ha.1; rw [i64s_len] at this; omega
  have hlen' := Lib.hid hlen
  clear ha hb hlen
  go_enter Tryz.func31, Tryz.ntmps31
  go_wp2_with fail
  go_loopw [5] (fun i wr => ∃ k : Nat, k ≤ m ∧ i = .int .i64 k ∧ Hid (Mod [] w wr)) (fun i _ => m - (intOf i).toNat)
  case atStart => exact ⟨0, Nat.zero_le _, rfl, Lib.hid (Mod.refl _ _)⟩
  case round =>
    obtain ⟨k, hk, rfl, hM⟩ := hrel
    by_cases hlt : k < m
    · have hlt1 : (k : Int) < m := by omega
      obtain ⟨g1, o1, rfl, hg1, hc1⟩ := rd_cell ha'.out hlt
      obtain ⟨g2, o2, rfl, hg2, hc2⟩ := rd_cell hb'.out hlt
      obtain ⟨y, hy⟩ : ∃ y, f[k]? = some y := ⟨_, List.getElem?_eq_getElem (by rw [hlen'.out]; exact hlt)⟩
      have q1 := hc1 wr k _ hM.out (i64s_got hy)
      have q2 := hc2 wr k _ hM.out (i64s_got hy)
      have l1 : g1 < wr.heap.size := Nat.lt_of_lt_of_le hg1 hM.out.size
      have l2 : g2 < wr.heap.size := Nat.lt_of_lt_of_le hg2 hM.out.size
      clear hc1 hc2 hy
      go_upto_region 6 with fail
      go_quiet (fail)
      have hM2 := Lib.hid (hM.out.trans ((Mod.refl [] wr).drewN nq) (by simp))
      go_wp2_with fail
      go_roundw
      case rel => exact ⟨k + 1, by omega, by go_num, hM2⟩
      case measure => simp [intOf]; omega
    · have hkm : k = m := by omega
      clear hkm
      go_wp2_with fail
      go_ret
      exact ⟨rfl, hM.out⟩
theorem rreach_out {w : World} {r ba n : Nat} {L : List Ed} {f : List Int} {F F2 : List Nat} (h : RestP r ba n L f w F) (hA : ArcP ba n L w F2) (hG : GOk n L) {v : Nat} (hv : n ≤ v) :
    Calls Tryz.prog 110 #[.pointer (some ⟨r, 0, none⟩), .int .i64 (v : Int)] w fun e w' => e = .returned (.slice none 0 0) ∧ w' = w := by
  have ca := Lib.hid (rarcs_p h)
  have cn := Lib.hid (an_p hA hG)
  have hn4 : n ≤ 4096 := hG.le
  have t1 : decide ((n : Int) ≤ (v : Int)) = true := by simp; omega
  have t2 : decide ((v : Int) < 0) = false := by simp
  have t3 : decide (n ≤ v) = true := by simp; omega
  clear h hA hG
  go_enter Tryz.func110, Tryz.ntmps110
  go_wp2_with (first
    | (go_at_call 23; refine ca.out.mono ?_; rintro e w1 ⟨rfl, hw1⟩; subst w1)
    | (go_at_call 105; refine cn.out.mono ?_; rintro e w1 ⟨rfl, hw1⟩; subst w1))
  go_ret
  exact ⟨rfl, rfl⟩
set_option maxRecDepth 100000 in
set_option maxHeartbeats 2000000 in
theorem xreach_out {n m c fc : Nat} {a fa : Option Addr} (w : World) (hn4 : n ≤ 4096) {v : Nat} (hv : n ≤ v) :
    Calls Tryz.prog 111 #[.agg #[.int .i64 n, .slice a m c, .slice fa m fc], .int .i64 (v : Int)] w fun e w' => e = .returned (.slice none 0 0) ∧ Mod [] w w' := by
  have hset := Lib.hid (fun W => xset09 hn4 W)
  have hS0 := Lib.hid ((Sep.empty w).box [.int .i64 n, .slice a m c, .slice fa m fc] 35)
  have b0 := (hS0.out.blkAt 0 rfl).cell 0 rfl
  have bl := (hS0.out.blkAt 0 rfl).lt
  have t1 : decide ((n : Int) ≤ (v : Int)) = true := by simp; omega
  have t2 : decide ((v : Int) < 0) = false := by simp
  have t3 : decide (n ≤ v) = true := by simp; omega
  go_enter Tryz.func111, Tryz.ntmps111
  go_wp2_with fail
  refine (hset.out _).mono ?_
  rintro e w2 ⟨g, rfl, hmd⟩
  have hS1 := Lib.hid ((hS0.out.made hmd).box [.int .i64 n, .slice (some ⟨g, 0, none⟩) n n] 253)
  clear hmd hS0 b0 bl
  generalize w.heap.size = B at *
  try dsimp only
  go_upto_region 2 with fail
  generalize w2.alloc (.cells #[.int .i64 n, .slice (some ⟨g, 0, none⟩) n n] 253) = w3 at *
  have b0 := (hS1.out.blkAt 2 rfl).cell 0 rfl
  have bl := (hS1.out.blkAt 2 rfl).lt
  have hmod := Lib.hid hS1.out.mod
  clear hS1
  go_wp2_with fail
  go_ret
  exact ⟨rfl, hmod.out⟩
end Edge
end Go.Proofs.YtjpfmkfikidgkaaGreat

set_option linter.unusedVariables false
set_option linter.unusedSimpArgs false
namespace Go.Proofs.YtjpfmkfikidgkaaGreat
open Go.RowKit
namespace Edge
/-- What the reference's Run answers. -/
def RRun (n : Nat) (L : List Ed) (S T : Nat) (w : World) (e : Ending) (w' : World) : Prop :=
  ∃ (ws : List (List Nat × Int)) (l : List Nat) (fa az : Option Addr) (fc cz : Nat), PreW n L (S : Int) (T : Int) (noF L) ws ∧ IsDone n L (S : Int) (T : Int) (flowW L (noF L) ws) ∧ IsReach L (flowW L (noF L) ws) S l ∧
    e = .returned (.agg #[.int .i64 (S : Int), .int .i64 (T : Int), .int .i64 (exc L (flowW L (noF L) ws) (T : Int)), .slice fa L.length fc, .slice az l.length cz]) ∧
    ∃ R, Sep w w' (Row 2 1 L.length (.slice fa L.length fc) (i64s (flowW L (noF L) ws)) :: Row 3 1 l.length (.slice az l.length cz) (i64s (ints l)) :: R)
set_option maxRecDepth 100000 in
set_option maxHeartbeats 16000000 in
theorem rrun25_any {n : Nat} {L : List Ed} {a : Option Addr} {c : Nat} {w : World} (h : Rd w 3 (.slice a L.length c) L.length (flat encEd L)) (hG : GOk n L) (hM : total L ≤ 1000000000000) {S T : Nat} (hSn : S < n) (hTn : T < n) (hE : pairE n (S : Int) (T : Int) = 0) :
    Calls Tryz.prog 50 #[netV n a L.length c, .int .i64 (S : Int), .int .i64 (T : Int)] w (RRun n L S T w) := by
  have hlen := hG.len
  have hn4 := hG.le
  have hst := Lib.hid (((Sep.empty w).box [.int .i64 n, .slice a L.length c] 32).box [.int .i64 0, .int .i64 0, .int .i64 0, .slice none 0 0, .slice none 0 0] 53)
  rw [World.size_alloc] at hst
  have cW := Lib.hid (fun W (m : Mod [] w W) => rways25_any (h.still m) hG hM (S : Int) (T : Int))
  have h' := Lib.hid h
  have hG' := Lib.hid hG
  have hE' := Lib.hid hE
  clear h hG hE hM
  unfold netV at cW ⊢
  go_enter Tryz.func50, Tryz.ntmps50
  go_upto_region 1 with fail
  generalize (w.alloc (.cells #[.int .i64 n, .slice a L.length c] 32)).alloc (.cells #[.int .i64 0, .int .i64 0, .int .i64 0, .slice none 0 0, .slice none 0 0] 53) = w1 at *
  generalize w.heap.size + 1 = B6 at *
  generalize w.heap.size = B3 at *
  have n0 := (hst.out.blkAt 1 rfl).cell 0 rfl
  have n1 := (hst.out.blkAt 1 rfl).cell 1 rfl
  have nl := (hst.out.blkAt 1 rfl).lt
  have cW0 := Lib.hid (cW.out _ hst.out.mod)
  clear cW
  go_wp2_with fail
  refine cW0.out.mono ?_
  rintro e w2 hR
  rcases hR with ⟨hne, _⟩ | ⟨_, xs, aw, ax, fa, cw, cx, fc, hP, hD, rfl, R, hS⟩
  · exact absurd hE'.out hne
  have hFB := Lib.hid ((fb_new hG'.out).flowW (onlyS xs))
  have hPD := Lib.hid (show PreW n L (S : Int) (T : Int) (noF L) (onlyS xs) ∧ IsDone n L (S : Int) (T : Int) (flowW L (noF L) (onlyS xs)) from ⟨hP, hD⟩)
  obtain ⟨k, hk⟩ : ∃ k, xs.length = k := ⟨_, rfl⟩
  rw [hk] at hS
  rw [hk]
  obtain ⟨f, hf⟩ : ∃ f, flowW L (noF L) (onlyS xs) = f := ⟨_, rfl⟩
  have hf' := Lib.hid hf
  rw [hf] at hS hFB hPD
  have hS5 := Lib.hid ((hst.out.made ((hS.picks [2]).toMade)).box [.slice aw k cw, .slice ax k cx, .int .i64 n, .slice a L.length c, .slice fa L.length fc, .int .i64 0] 82)
  clear hk hf hP hD hS cW0 hst n0 n1 nl
  try dsimp only
  go_upto_region 2 with fail
  generalize w2.alloc _ = w3 at *
  generalize w2.heap.size = B7 at *
  obtain ⟨LL, hLL⟩ : ∃ LL : List (Addr × Value), LL = [(⟨B7, 2, none⟩, .int .i64 n), (⟨B7, 3, none⟩, .slice a L.length c), (⟨B7, 4, none⟩, .slice fa L.length fc)] := ⟨_, rfl⟩
  have m0 : ((⟨B7, 2, none⟩ : Addr), Value.int .i64 n) ∈ LL := by rw [hLL]; simp
  have m1 : ((⟨B7, 3, none⟩ : Addr), Value.slice a L.length c) ∈ LL := by rw [hLL]; simp
  have m2 : ((⟨B7, 4, none⟩ : Addr), Value.slice fa L.length fc) ∈ LL := by rw [hLL]; simp
  have hkc := Lib.hid (fun W0 W' (h1 : Has W' B7 [.slice aw k cw, .slice ax k cx, .int .i64 n, .slice a L.length c, .slice fa L.length fc, .int .i64 0] 82) => show KC LL W0 W' from fun p hp _ => by
    rw [hLL] at hp
    simp only [List.mem_cons, List.mem_nil_iff, or_false] at hp
    rcases hp with rfl | rfl | rfl
    · exact h1.cell 2 rfl
    · exact h1.cell 3 rfl
    · exact h1.cell 4 rfl)
  clear hLL
  have hS0 := Lib.hid (hS5.out.still (Mod.refl [] w3).drew)
  have k0 := KC.one (w := w3.drew) ((hS0.out.blkAt 0 rfl).cell 2 rfl) m0
  have k1 := KC.one (w := w3.drew) ((hS0.out.blkAt 0 rfl).cell 3 rfl) m1
  have k2 := KC.one (w := w3.drew) ((hS0.out.blkAt 0 rfl).cell 4 rfl) m2
  have cE := Lib.hid (xexc23 ⟨h'.out.still hS0.out.mod, Rd.own (hS0.out.rowAt 1 rfl)⟩ hG'.out hFB.out (T : Int))
  have cR := Lib.hid (fun W (m : Mod [] w3.drew W) => xreach23 ⟨h'.out.still (hS0.out.still m).mod, Rd.own ((hS0.out.still m).rowAt 1 rfl)⟩ hG'.out hFB.out hSn)
  unfold restV at cE cR
  clear hS5
  obtain ⟨x, hx⟩ : ∃ x, exc L f (T : Int) = x := ⟨_, rfl⟩
  rw [hx] at cE
  have hx' := Lib.hid hx
  clear hx
  refine region_sched (G := KC LL) [([0,1,2,3,4,6,7,8,9,10,11],5), ([],12), ([13],14)] [] (by kernel_rfl) (by kernel_rfl) (by kernel_rfl) rfl (KC.refl _) (KC.trans _) ?_
  simp only [stages, pickO, nthO, headO, List.append_eq, List.cons_append, List.nil_append]
  refine sched_step ?_
  repeat (go_big_quiet_step (fail))
  refine wpQuiet_nil ?_
  intro K hK
  rw [if_pos (by rfl)]
  go_simp
  refine cE.out.mono ?_
  rintro e w5 ⟨rfl, hm5⟩
  dsimp only
  have hm5' := Lib.hid hm5
  refine hK.out _ _ (hkc.out _ _ ((hS0.out.still hm5).blkAt 0 rfl)) ?_
  clear hK K k0 k1 k2 m0 m1 m2 cE hm5
  have cR0 := Lib.hid (cR.out _ hm5'.out)
  clear cR
  refine sched_step ?_
  refine wpQuiet_nil ?_
  intro K hK
  rw [if_pos (by rfl)]
  go_simp
  refine cR0.out.mono ?_
  rintro e w6 ⟨l, az, cz, hl, rfl, hmd⟩
  dsimp only
  have hS6 := Lib.hid ((hS0.out.still hm5'.out).made hmd)
  have hl' := Lib.hid hl
  refine hK.out _ _ (hkc.out _ _ ((hS6.out.blkAt 1 rfl))) ?_
  clear hK K cR0 hmd hl hm5' hS0
  obtain ⟨ln, hln⟩ : ∃ ln, l.length = ln := ⟨_, rfl⟩
  have hln' := Lib.hid hln
  rw [hln] at hS6
  rw [hln]
  clear hln
  have b0 := (hS6.out.blkAt 3 rfl).cell 0 rfl
  have b1 := (hS6.out.blkAt 3 rfl).cell 1 rfl
  have b2 := (hS6.out.blkAt 3 rfl).cell 2 rfl
  have b3 := (hS6.out.blkAt 3 rfl).cell 3 rfl
  have b4 := (hS6.out.blkAt 3 rfl).cell 4 rfl
  have bf := (hS6.out.blkAt 3 rfl).free
  have bl := (hS6.out.blkAt 3 rfl).lt
  have hS9 := Lib.hid ((((((hS6.out.pick 3 (by simp)).set 0 (.int .i64 (S : Int))).set 1 (.int .i64 (T : Int))).set 2 (.int .i64 x)).set 3 (.slice fa L.length fc)).set 4 (.slice az ln cz))
  clear hS6
  refine sched_step ?_
  repeat (go_big_quiet_step (fail))
  refine wpQuiet_nil ?_
  intro K hK
  rw [if_pos (by rfl)]
  go_simp
  refine hK.out _ _ (hkc.out _ _ ((hS9.out.blkAt 2 rfl))) ?_
  clear hK K b0 b1 b2 b3 b4 bf bl hkc
  refine sched_last ?_
  refine wpQuiet_nil ?_
  generalize World.setCell _ ⟨B6, 4, none⟩ (.slice az ln cz) = w9 at *
  go_wp2_with fail
  have z0 := (hS9.out.blkAt 0 rfl).cell 0 rfl
  have z1 := (hS9.out.blkAt 0 rfl).cell 1 rfl
  have z2 := (hS9.out.blkAt 0 rfl).cell 2 rfl
  have z3 := (hS9.out.blkAt 0 rfl).cell 3 rfl
  have z4 := (hS9.out.blkAt 0 rfl).cell 4 rfl
  refine bodyPost_ret (v := .agg #[.int .i64 (S : Int), .int .i64 (T : Int), .int .i64 x, .slice fa L.length fc, .slice az ln cz]) ?_ rfl ?_
  · simp [results, Tryz.results50, go_sem, z0, z1, z2, z3, z4]
  · have hln2 := hln'.out
    subst hln2
    have hff := hf'.out
    subst hff
    exact ⟨onlyS xs, l, fa, az, fc, cz, hPD.out.1, hPD.out.2, hl'.out, by rw [hx'.out], _, hS9.out.picks [3, 1]⟩
set_option maxRecDepth 100000 in
set_option maxHeartbeats 16000000 in
theorem same25_any {w : World} (S T W : Int) {f l : List Int} {m k : Nat} {af bf az bz : Option Addr} {cf df cz dz : Nat} (ha : Rd w 1 (.slice af m cf) m (i64s f)) (hb : Rd w 1 (.slice bf m df) m (i64s f)) (hm : m ≤ 1048576) (hk : l.length = k) (hc : Rd w 1 (.slice az k cz) k (i64s l)) (hd : Rd w 1 (.slice bz k dz) k (i64s l)) :
    Calls Tryz.prog 49 #[.agg #[.int .i64 S, .int .i64 T, .int .i64 W, .slice af m cf, .slice az k cz], .agg #[.int .i64 S, .int .i64 T, .int .i64 W, .slice bf m df, .slice bz k dz]] w fun e w' => e = .returned (.bool true) ∧ Mod [] w w' := by
  have hst := Lib.hid (((Sep.empty w).box [.int .i64 S, .int .i64 T, .int .i64 W, .slice af m cf, .slice az k cz] 53).box [.int .i64 S, .int .i64 T, .int .i64 W, .slice bf m df, .slice bz k dz] 53)
  rw [World.size_alloc] at hst
  have c1 := Lib.hid (fun W2 (q : Mod [] w W2) => xsame04 (ha.still q) (hb.still q) hm)
  have c2 := Lib.hid (fun W2 (q : Mod [] w W2) => show Calls Tryz.prog 57 #[.slice az k cz, .slice bz k dz] W2 fun e w' => e = .returned (.bool true) ∧ Mod [] W2 w' by
    subst hk
    have h1 := Code.ints_rd (w := W2) (xs := l) (ys := l) (hc.still q) (hd.still q)
    refine h1.mono ?_
    rintro e w' ⟨rfl, hdr⟩
    refine ⟨by rw [show Go.Proofs.YtjpfmkfikidgkaaGreat.eqI l l = true by unfold Go.Proofs.YtjpfmkfikidgkaaGreat.eqI; simp], ?_⟩
    obtain ⟨n, rfl⟩ := hdr
    exact (Mod.refl _ _).drewN n)
  have e1 : (S == S) = true := by simp
  have e2 : (T == T) = true := by simp
  have e3 : (W == W) = true := by simp
  clear ha hb hc hd hm hk
  go_enter Tryz.func49, Tryz.ntmps49
  go_upto_region 1 with fail
  generalize (w.alloc (.cells #[.int .i64 S, .int .i64 T, .int .i64 W, .slice af m cf, .slice az k cz] 53)).alloc (.cells #[.int .i64 S, .int .i64 T, .int .i64 W, .slice bf m df, .slice bz k dz] 53) = w1 at *
  generalize w.heap.size + 1 = B2 at *
  generalize w.heap.size = B1 at *
  have a0 := (hst.out.blkAt 1 rfl).cell 0 rfl
  have a1 := (hst.out.blkAt 1 rfl).cell 1 rfl
  have a2 := (hst.out.blkAt 1 rfl).cell 2 rfl
  have a3 := (hst.out.blkAt 1 rfl).cell 3 rfl
  have al := (hst.out.blkAt 1 rfl).lt
  have b0 := (hst.out.blkAt 0 rfl).cell 0 rfl
  have b1 := (hst.out.blkAt 0 rfl).cell 1 rfl
  have b2 := (hst.out.blkAt 0 rfl).cell 2 rfl
  have b3 := (hst.out.blkAt 0 rfl).cell 3 rfl
  have bl := (hst.out.blkAt 0 rfl).lt
  have c1' := Lib.hid (c1.out _ hst.out.mod)
  clear c1
  go_wp2_with fail
  refine c1'.out.mono ?_
  rintro e w2 ⟨rfl, hm2⟩
  have hS2 := Lib.hid (hst.out.still hm2)
  have c2' := Lib.hid (c2.out _ hS2.out.mod)
  clear c2 hm2 c1' hst a0 a1 a2 a3 al b0 b1 b2 b3 bl
  have a4 := (hS2.out.blkAt 1 rfl).cell 4 rfl
  have al := (hS2.out.blkAt 1 rfl).lt
  have b4 := (hS2.out.blkAt 0 rfl).cell 4 rfl
  have bl := (hS2.out.blkAt 0 rfl).lt
  try dsimp only
  go_wp2_with fail
  refine c2'.out.mono ?_
  rintro e w3 ⟨rfl, hm3⟩
  have hend := Lib.hid (hS2.out.mod.trans hm3 (by simp))
  clear hm3 hS2
  try dsimp only
  go_wp2_with fail
  go_ret
  exact ⟨rfl, hend.out⟩
end Edge
end Go.Proofs.YtjpfmkfikidgkaaGreat

set_option linter.unusedVariables false
set_option linter.unusedSimpArgs false
namespace Go.Proofs.YtjpfmkfikidgkaaGreat
open Go.RowKit
namespace Edge
/-- The j-th of both is a slice of the same numbers. -/
def BothL (w : World) (vs us : List Value) (j : Nat) : Prop := ∃ (a1 a2 : Option Addr) (c1 c2 m : Nat) (l : List Int), vs[j]? = some (.slice a1 m c1) ∧ us[j]? = some (.slice a2 m c2) ∧ l.length = m ∧ Rd w 1 (.slice a1 m c1) m (i64s l) ∧ Rd w 1 (.slice a2 m c2) m (i64s l)
theorem ints_true {w : World} {l : List Int} {m : Nat} {a b : Option Addr} {ca cb : Nat} (hm : l.length = m) (ha : Rd w 1 (.slice a m ca) m (i64s l)) (hb : Rd w 1 (.slice b m cb) m (i64s l)) : Calls Tryz.prog 57 #[.slice a m ca, .slice b m cb] w fun e w' => e = .returned (.bool true) ∧ Mod [] w w' := by
  subst hm
  have h1 := Code.ints_rd (w := w) (xs := l) (ys := l) ha hb
  refine h1.mono ?_
  rintro e w' ⟨rfl, hdr⟩
  refine ⟨by rw [show Go.Proofs.YtjpfmkfikidgkaaGreat.eqI l l = true by unfold Go.Proofs.YtjpfmkfikidgkaaGreat.eqI; simp], ?_⟩
  obtain ⟨n, rfl⟩ := hdr
  exact (Mod.refl _ _).drewN n
set_option maxRecDepth 100000 in
set_option maxHeartbeats 4000000 in
theorem lists_any {w : World} {k : Nat} {vs us : List Value} {a b : Option Addr} {ca cb : Nat} (hk : k ≤ 1000000000000) (ha : Rd w 1 (.slice a k ca) k vs) (hb : Rd w 1 (.slice b k cb) k us) (hel : ∀ j, j < k → BothL w vs us j) :
    Calls Tryz.prog 51 #[.slice a k ca, .slice b k cb] w fun e w' => e = .returned (.bool true) ∧ Mod [] w w' := by
  have ha' := Lib.hid ha
  have hb' := Lib.hid hb
  have hel' := Lib.hid hel
  clear ha hb hel
  go_enter Tryz.func51, Tryz.ntmps51
  go_wp2_with fail
  go_loopw [5] (fun i wr => ∃ j : Nat, j ≤ k ∧ i = .int .i64 j ∧ Hid (Mod [] w wr)) (fun i _ => k - (intOf i).toNat)
  case atStart => exact ⟨0, Nat.zero_le _, rfl, Lib.hid (Mod.refl _ _)⟩
  case round =>
    obtain ⟨j, hj, rfl, hM⟩ := hrel
    by_cases hlt : j < k
    · have hlt1 : (j : Int) < k := by omega
      obtain ⟨g1, o1, rfl, hg1, hc1⟩ := rd_cell ha'.out hlt
      obtain ⟨g2, o2, rfl, hg2, hc2⟩ := rd_cell hb'.out hlt
      obtain ⟨a1, a2, c1, c2, m, l, h1, h2, hm, h3, h4⟩ := hel'.out j hlt
      have q1 : ∀ m' : Fut (Mod []) wr.drew, m'.v.cell? ⟨g1, o1 + j, none⟩ = some (.slice a1 m c1) := fun m' => hc1 _ j _ (hM.out.trans ((Mod.refl [] _).drew.trans m'.of (by simp)) (by simp)) h1
      have q2 : ∀ m' : Fut (Mod []) wr.drew, m'.v.cell? ⟨g2, o2 + j, none⟩ = some (.slice a2 m c2) := fun m' => hc2 _ j _ (hM.out.trans ((Mod.refl [] _).drew.trans m'.of (by simp)) (by simp)) h2
      have l1 : g1 < wr.heap.size := Nat.lt_of_lt_of_le hg1 hM.out.size
      have l2 : g2 < wr.heap.size := Nat.lt_of_lt_of_le hg2 hM.out.size
      have hMd := Lib.hid (hM.out.trans (Mod.refl [] wr).drew (by simp))
      have cI := Lib.hid (ints_true hm (h3.still hMd.out) (h4.still hMd.out))
      clear hc1 hc2 h1 h2 h3 h4 hm
      go_upto_region 6 with fail
      refine region_sched (G := Mod []) [([0,1,2,3,4,5,6,7],8)] [9] (by kernel_rfl) (by kernel_rfl) (by kernel_rfl) rfl (Mod.refl []) (fun _ _ _ h1 h2 => h1.trans h2 (by simp)) ?_
      simp only [stages, pickO, nthO, headO, List.append_eq, List.cons_append, List.nil_append]
      refine sched_step ?_
      repeat (go_big_quiet_step (fail))
      refine wpQuiet_nil ?_
      intro K hK
      rw [if_pos (by rfl)]
      go_simp
      refine cI.out.mono ?_
      rintro e w5 ⟨rfl, hm5⟩
      dsimp only
      refine hK.out _ _ hm5 ?_
      have hM5 := Lib.hid (hMd.out.trans hm5 (by simp))
      clear hK K q1 q2 cI hm5 hM hMd
      refine sched_last ?_
      repeat (go_big_quiet_step (fail))
      refine wpQuiet_nil ?_
      go_wp2_with fail
      go_roundw
      case rel => exact ⟨j + 1, by omega, by go_num, hM5⟩
      case measure => simp [intOf]; omega
    · have hjk : j = k := by omega
      have hlt1 : ¬ (j : Int) < k := by omega
      clear hjk
      go_wp2_with fail
      go_ret
      exact ⟨rfl, hM.out⟩
theorem all_rd {w0 w : World} {R : List Part} : ∀ {xs : List Stp}, Sep w0 w (xs.map stRow ++ R) → ∀ (j : Nat) (p : Stp), xs[j]? = some p → Rd w 1 (.slice p.2.1 p.1.1.length p.2.2) p.1.1.length (i64s (ints p.1.1))
  | [], _, j, p, hp => by simp at hp
  | x :: xs, h, 0, p, hp => by
    simp only [List.getElem?_cons_zero, Option.some.injEq] at hp
    subst hp
    have h1 : Sep w0 w (Row 3 1 x.1.1.length (.slice x.2.1 x.1.1.length x.2.2) (i64s (ints x.1.1)) :: (xs.map stRow ++ R)) := h
    exact Rd.own (h1.rowAt 0 rfl)
  | x :: xs, h, j + 1, p, hp => by
    have h1 : Sep w0 w (stRow x :: (xs.map stRow ++ R)) := h
    exact all_rd h1.tail j p (by simpa using hp)
theorem both_of {w0 w1 w : World} {R R2 : List Part} {xs ys : List Stp} (h1 : Sep w0 w (AllP (xs.map stRow) :: R)) (h2 : Sep w1 w (AllP (ys.map stRow) :: R2)) (he : onlyS xs = onlyS ys) {j : Nat} (hj : j < xs.length) : BothL w (waysV xs) (waysV ys) j := by
  have hl : xs.length = ys.length := by
    have := congrArg List.length he
    simpa [onlyS] using this
  obtain ⟨p, hp⟩ : ∃ p, xs[j]? = some p := ⟨_, List.getElem?_eq_getElem hj⟩
  obtain ⟨q, hq⟩ : ∃ q, ys[j]? = some q := ⟨_, List.getElem?_eq_getElem (by omega)⟩
  have hpq : p.1 = q.1 := by
    have e1 : (onlyS xs)[j]? = some p.1 := by simp [onlyS, hp]
    have e2 : (onlyS ys)[j]? = some q.1 := by simp [onlyS, hq]
    rw [he, e2] at e1
    exact (Option.some.inj e1).symm
  have r1 := all_rd h1.unall j p hp
  have r2 := all_rd h2.unall j q hq
  rw [← hpq] at r2
  refine ⟨p.2.1, q.2.1, p.2.2, q.2.2, p.1.1.length, ints p.1.1, by simp [waysV, hp, wayV], by simp [waysV, hq, wayV, ← hpq], by rw [ints_len], r1, r2⟩
theorem much_of {xs : List Stp} : muchL xs = (onlyS xs).map fun p => p.2 := by simp [muchL, onlyS]
end Edge
end Go.Proofs.YtjpfmkfikidgkaaGreat

set_option linter.unusedVariables false
set_option linter.unusedSimpArgs false
namespace Go.Proofs.YtjpfmkfikidgkaaGreat
open Go.RowKit
namespace Edge
def arcB (L : List Ed) (f : List Int) (u x : Nat) : Bool := (List.range (2 * L.length)).any fun i => (tailE L i == (u : Int)) && (headE L i == (x : Int)) && decide (0 < leftE L f i)
theorem arc_iff {L : List Ed} {f : List Int} {u x : Nat} : Arc L f u x ↔ arcB L f u x = true := by
  unfold Arc arcB
  simp only [List.any_eq_true, List.mem_range, Bool.and_eq_true, beq_iff_eq, decide_eq_true_eq]
  constructor
  · rintro ⟨i, h1, h2, h3, h4⟩; exact ⟨i, h1, ⟨h2, h3⟩, h4⟩
  · rintro ⟨i, h1, ⟨h2, h3⟩, h4⟩; exact ⟨i, h1, h2, h3, h4⟩
/-- Levels of a small graph, by trying all. -/
def levB (n t : Nat) (A : Nat → Nat → Bool) (D : List Int) : Bool :=
  (List.range n).all fun u => decide (-1 ≤ D.getD u 0) && (decide (D.getD u 0 = 0) == decide (u = t)) && (decide (D.getD u 0 ≤ 0) || (List.range n).any fun x => A u x && decide (D.getD x 0 = D.getD u 0 - 1)) &&
    (List.range n).all fun x => !A u x || decide (D.getD x 0 < 0) || (decide (0 ≤ D.getD u 0) && decide (D.getD u 0 ≤ D.getD x 0 + 1))
theorem lev_try {n t : Nat} {A : Nat → Nat → Prop} {B : Nat → Nat → Bool} {D : List Int} (hA : ∀ {u x}, A u x → u < n ∧ x < n) (hB : ∀ u x, A u x ↔ B u x = true) (ht : t < n) (hl : D.length = n) (h : levB n t B D = true) : LevTo n A t D := by
  unfold levB at h
  simp only [List.all_eq_true, List.any_eq_true, List.mem_range, Bool.and_eq_true, Bool.or_eq_true, decide_eq_true_eq, beq_iff_eq, Bool.not_eq_true', decide_eq_decide] at h
  refine lev_of hl (fun u hu => (h u hu).1.1.1) ht (fun u hu => (h u hu).1.1.2) hA (fun u x ha h0 => ?_) (fun u hu hp => ?_)
  · obtain ⟨hu, hx⟩ := hA ha
    rcases (h u hu).2 x hx with (h1 | h1) | h1
    · rw [(hB u x).1 ha] at h1; cases h1
    · omega
    · exact h1
  · rcases (h u hu).1.2 with h1 | ⟨x, hx, ha, hd⟩
    · omega
    · exact ⟨x, (hB u x).2 ha, hd⟩
theorem LevI.to {n : Nat} {A : Nat → Nat → Prop} {t : Nat} {D : List Int} (h : LevI n A (t : Int) D) (ht : t < n) : LevTo n A t D := by
  unfold LevI at h
  rw [if_pos ⟨by omega, by omega⟩, Int.toNat_natCast] at h
  exact h
abbrev L24 : List Ed := [(0, 1, 7), (1, 2, 3)]
theorem merged24 : merged L24 = L24 := by decide +kernel
theorem from24 (hG : GOk 4 L24) {D : List Int} (h : LevI 4 (fun u x => Arc L24 (noF L24) x u) 0 D) : D = [0, 1, 2, -1] :=
  (LevI.to (t := 0) h (by omega)).one (lev_try (B := fun u x => arcB L24 (noF L24) x u) (fun h => (arc_lt hG h).symm) (fun u x => arc_iff) (by omega) rfl (by decide +kernel))
theorem to24 (hG : GOk 4 L24) {D : List Int} (h : LevI 4 (Arc L24 (noF L24)) 2 D) : D = [2, 1, 0, -1] :=
  (LevI.to (t := 2) h (by omega)).one (lev_try (B := arcB L24 (noF L24)) (fun h => arc_lt hG h) (fun u x => arc_iff) (by omega) rfl (by decide +kernel))
theorem way24 {l : List Nat} (h : WayP 4 L24 (noF L24) [2, 1, 0, -1] 0 l) : l = [0, 2] := by
  refine h.one ?_
  unfold WayP
  rw [if_pos (by decide)]
  have e1 : (([2, 1, 0, -1] : List Int).getD (0 : Int).toNat 0).toNat = 2 := by decide
  rw [e1]
  refine .cons (h := 1) ⟨⟨by decide +kernel, by unfold gdW; decide +kernel⟩, fun x _ => Nat.zero_le x⟩ (by decide +kernel) (.cons (h := 2) ⟨⟨by decide +kernel, by unfold gdW; decide +kernel⟩, fun x hx => ?_⟩ (by decide +kernel) (.nil 2))
  obtain ⟨⟨h1, h2⟩, h3, h4⟩ := hx
  have hx4 : x < 4 := h1
  have : ∀ x, x < 4 → tailE L24 x = ((1 : Nat) : Int) → 2 ≤ x ∨ [2, 1, 0, -1].getD (headE L24 x).toNat 0 ≠ ([2, 1, 0, -1] : List Int).getD 1 0 - 1 := by decide +kernel
  rcases this x hx4 h2 with h | h
  · exact h
  · exact absurd h4 h
theorem room24 : roomL L24 (noF L24) (ints [0, 2]) = 3 := by decide +kernel
end Edge
end Go.Proofs.YtjpfmkfikidgkaaGreat

set_option linter.unusedVariables false
set_option linter.unusedSimpArgs false
namespace Go.Proofs.YtjpfmkfikidgkaaGreat
open Go.RowKit
namespace Edge
abbrev I25 : List Ed := [(0, 1, 1), (1, 2, 1), (0, 2, 1)]
abbrev L25 : List Ed := [(0, 1, 1), (0, 2, 1), (1, 2, 1)]
theorem merged25 : merged I25 = L25 := by decide +kernel
theorem lev25 (hG : GOk 3 L25) {f D : List Int} (hl : D.length = 3) (h : levB 3 1 (arcB L25 f) D = true) : LevI 3 (Arc L25 f) 1 D := by
  unfold LevI
  rw [if_pos (by decide)]
  exact lev_try (B := arcB L25 f) (fun h => arc_lt hG h) (fun u x => arc_iff) (by decide) hl h
theorem best25 {f D : List Int} {v b : Nat} (h1 : b < 6 ∧ tailE L25 b = (v : Int)) (h2 : 0 < leftE L25 f b ∧ D.getD (headE L25 b).toNat 0 = D.getD v 0 - 1) (h3 : ∀ x, x < 6 → tailE L25 x = (v : Int) → b ≤ x ∨ leftE L25 f x ≤ 0 ∨ D.getD (headE L25 x).toNat 0 ≠ D.getD v 0 - 1) : IsBest L25 f D v b := by
  refine ⟨⟨h1, h2⟩, fun x hx => ?_⟩
  obtain ⟨⟨a1, a2⟩, a3, a4⟩ := hx
  rcases h3 x a1 a2 with h | h | h
  · exact h
  · omega
  · exact absurd a4 h
theorem step25a (hG : GOk 3 L25) : IsStep 3 L25 0 1 (noF L25) [0] 1 := by
  refine ⟨⟨[1, 0, 1], lev25 hG rfl (by decide +kernel), rfl, ?_⟩, by simp, by decide +kernel⟩
  unfold WayP
  rw [if_pos (by decide)]
  exact .cons (h := 1) (best25 (by decide +kernel) (by decide +kernel) (by decide +kernel)) (by decide +kernel) (.nil 1)
theorem step25b (hG : GOk 3 L25) : IsStep 3 L25 0 1 [1, 0, 0] [2, 5] 1 := by
  refine ⟨⟨[2, 0, 1], lev25 hG rfl (by decide +kernel), rfl, ?_⟩, by simp, by decide +kernel⟩
  unfold WayP
  rw [if_pos (by decide)]
  exact .cons (h := 2) (best25 (by decide +kernel) (by decide +kernel) (by decide +kernel)) (by decide +kernel) (.cons (h := 1) (best25 (by decide +kernel) (by decide +kernel) (by decide +kernel)) (by decide +kernel) (.nil 1))
theorem done25 (hG : GOk 3 L25) : IsDone 3 L25 0 1 [1, 1, -1] := by
  refine ⟨[-1, 0, -1], lev25 hG rfl (by decide +kernel), rfl, ?_⟩
  unfold WayP
  rw [if_neg (by decide)]
abbrev W25 : List (List Nat × Int) := [([0], 1), ([2, 5], 1)]
theorem pre25 (hG : GOk 3 L25) : PreW 3 L25 0 1 (noF L25) W25 := ⟨step25a hG, by
  rw [show pushW L25 (noF L25) [0] 1 = [1, 0, 0] by decide +kernel]
  exact ⟨step25b hG, trivial⟩⟩
theorem flow25 : flowW L25 (noF L25) W25 = [1, 1, -1] := by decide +kernel
theorem reach25 {l : List Nat} (h : IsReach L25 [1, 1, -1] 0 l) : l = [0] := by
  refine reach_one h ⟨by simp, fun x => ⟨fun hx => ?_, fun hx => ?_⟩⟩
  · rw [List.mem_singleton] at hx
    subst hx
    exact .base
  · rw [List.mem_singleton]
    induction hx with
    | base => rfl
    | @step u i h _ h2 h3 h4 _ ih =>
      subst ih
      have : ∀ i, i < 6 → tailE L25 i = ((0 : Nat) : Int) → ¬ 0 < leftE L25 [1, 1, -1] i := by decide +kernel
      exact absurd h4 (this i h2 h3)
set_option maxRecDepth 100000 in
set_option maxHeartbeats 4000000 in
theorem awake25 (w : World) : Calls Tryz.prog 43 #[] w fun e w' => e = .returned (.bool true) ∧ Mod [] w w' := by
  go_enter Tryz.func43, Tryz.ntmps43
  go_wp2_with fail
  refine (new_net 3 (l := I25) (rd_ed (l := I25) (Has.new w [.int .i64 0, .int .i64 1, .int .i64 1, .int .i64 1, .int .i64 2, .int .i64 1, .int .i64 0, .int .i64 2, .int .i64 1] 146) (by simp))).mono ?_
  rintro e w1 hN
  rcases hN.out with ⟨hne, _⟩ | ⟨he, b, rfl, hS⟩
  · exact absurd (by decide +kernel) hne
  have hG := new_ok he
  rw [merged25] at hS hG
  have e3 : ((3 : Int).toNat) = 3 := rfl
  rw [e3] at hS hG
  have hwm : Hid (Mod [] w (w.alloc (.cells #[.int .i64 0, .int .i64 1, .int .i64 1, .int .i64 1, .int .i64 2, .int .i64 1, .int .i64 0, .int .i64 2, .int .i64 1] 146))) := Lib.hid ((Mod.refl [] w).alloc _)
  have hG' := Lib.hid hG
  have hw1 := Lib.hid hS.mod
  have cR := Lib.hid (run46_any hS hG 0 1)
  clear hN he hS hG
  try dsimp only
  go_wp2_with fail
  refine cR.out.mono ?_
  rintro e w2 hR
  rcases hR with ⟨hne, _⟩ | ⟨_, ws, l, af, az, cf, cz, hP, hD, hl, rfl, R, hS⟩
  · exact absurd (by decide +kernel) hne
  have hws := PreW.one hP (pre25 hG'.out) hD (by rw [flow25]; exact done25 hG'.out)
  subst hws
  rw [flow25] at hl hS
  rw [flow25]
  have hl2 := reach25 hl
  subst hl2
  have hS2 := Lib.hid (hS.box [.int .i64 0, .int .i64 1, .int .i64 2, .slice af 3 cf, .slice az 1 cz] 53)
  rw [show exc L25 [1, 1, -1] 1 = 2 by decide +kernel]
  have hw2 := Lib.hid hS.mod
  clear hP hD hl hS cR
  try dsimp only
  simp only [List.length_cons, List.length_nil, Nat.zero_add, Nat.reduceAdd]
  go_upto_region 3 with fail
  generalize w2.alloc (.cells #[.int .i64 0, .int .i64 1, .int .i64 2, .slice af 3 cf, .slice az 1 cz] 53) = w3 at *
  generalize w2.heap.size = B4 at *
  have c2 := (hS2.out.blkAt 0 rfl).cell 2 rfl
  have c3 := (hS2.out.blkAt 0 rfl).cell 3 rfl
  have c4 := (hS2.out.blkAt 0 rfl).cell 4 rfl
  have cl := (hS2.out.blkAt 0 rfl).lt
  have cI := Lib.hid (ints_true (w := w3.alloc (.cells #[.int .i64 0] 3)) (l := ints [0]) (m := 1) (a := az) (ca := cz) (b := some ⟨w3.heap.size, 0, none⟩) (cb := 1) rfl (Rd.own ((hS2.out.still ((Mod.refl [] w3).alloc _)).rowAt 2 rfl)) (rd_has (Has.new w3 [.int .i64 0] 3) (by decide)))
  go_wp2_with fail
  refine cI.out.mono ?_
  rintro e w4 ⟨rfl, hm4⟩
  have hm4' := Lib.hid hm4
  have hS5 := Lib.hid (hS2.out.still (((Mod.refl [] w3).alloc _).trans hm4 (by simp)))
  have c3 := (hS5.out.blkAt 0 rfl).cell 3 rfl
  have cl := (hS5.out.blkAt 0 rfl).lt
  have hend := Lib.hid (hwm.out.trans (hw1.out.trans hS5.out.mod (by simp)) (by simp))
  clear hm4 hS2 c2 c4 cI
  try dsimp only
  go_wp2_with fail
  go_ret
  exact ⟨rfl, hend.out⟩
end Edge
end Go.Proofs.YtjpfmkfikidgkaaGreat

set_option linter.unusedVariables false
namespace Go.Proofs.YtjpfmkfikidgkaaGreat
namespace Edge
theorem newE_bad5 {n : Int} {l : List Ed} (h : newE n l ≠ (0, 0)) : (newE n l).1 ≠ 0 := fun hz => h (by
  unfold newE at hz ⊢
  split at hz
  · cases hz
  · split at hz
    · cases hz
    · rw [if_neg (by assumption), if_neg (by assumption)]; exact checksE_at hz)
end Edge
end Go.Proofs.YtjpfmkfikidgkaaGreat

set_option linter.unusedVariables false
set_option linter.unusedSimpArgs false
namespace Go.Proofs.YtjpfmkfikidgkaaGreat
open Go.RowKit
namespace Edge
set_option maxRecDepth 100000 in
set_option maxHeartbeats 2000000 in
theorem xsame04b {f : List Int} {m : Nat} {a b : Option Addr} {ca cb : Nat} {w : World} (ha : Rd w 1 (.slice a m ca) m (i64s f)) (hb : Rd w 1 (.slice b m cb) m (i64s f)) (hm : m ≤ 1000000000000) :
    Calls Tryz.prog 31 #[.slice a m ca, .slice b m cb] w fun e w' => e = .returned (.bool true) ∧ Mod [] w w' := by
  have ha' := Lib.hid ha
  have hb' := Lib.hid hb
  have hlen : f.length = m := by have := ha.1; rw [i64s_len] at this; omega
  have hlen' := Lib.hid hlen
  clear ha hb hlen
  go_enter Tryz.func31, Tryz.ntmps31
  go_wp2_with fail
  go_loopw [5] (fun i wr => ∃ k : Nat, k ≤ m ∧ i = .int .i64 k ∧ Hid (Mod [] w wr)) (fun i _ => m - (intOf i).toNat)
  case atStart => exact ⟨0, Nat.zero_le _, rfl, Lib.hid (Mod.refl _ _)⟩
  case round =>
    obtain ⟨k, hk, rfl, hM⟩ := hrel
    by_cases hlt : k < m
    · have hlt1 : (k : Int) < m := by omega
      obtain ⟨g1, o1, rfl, hg1, hc1⟩ := rd_cell ha'.out hlt
      obtain ⟨g2, o2, rfl, hg2, hc2⟩ := rd_cell hb'.out hlt
      obtain ⟨y, hy⟩ : ∃ y, f[k]? = some y := ⟨_, List.getElem?_eq_getElem (by rw [hlen'.out]; exact hlt)⟩
      have q1 := hc1 wr k _ hM.out (i64s_got hy)
      have q2 := hc2 wr k _ hM.out (i64s_got hy)
      have l1 : g1 < wr.heap.size := Nat.lt_of_lt_of_le hg1 hM.out.size
      have l2 : g2 < wr.heap.size := Nat.lt_of_lt_of_le hg2 hM.out.size
      clear hc1 hc2 hy
      go_upto_region 6 with fail
      go_quiet (fail)
      have hM2 := Lib.hid (hM.out.trans ((Mod.refl [] wr).drewN nq) (by simp))
      go_wp2_with fail
      go_roundw
      case rel => exact ⟨k + 1, by omega, by go_num, hM2⟩
      case measure => simp [intOf]; omega
    · have hkm : k = m := by omega
      clear hkm
      go_wp2_with fail
      go_ret
      exact ⟨rfl, hM.out⟩
end Edge
end Go.Proofs.YtjpfmkfikidgkaaGreat

set_option linter.unusedVariables false
set_option linter.unusedSimpArgs false
namespace Go.Proofs.YtjpfmkfikidgkaaGreat
open Go.RowKit
namespace Edge
attribute [local go_sem] Oper.semAt_some
/-- What Up answers. -/
def Up48 (n : Nat) (L : List Ed) (s t most : Int) (w : World) (e : Ending) (w' : World) : Prop :=
  (pairE n s t ≠ 0 ∧ e = .returned (.tuple #[.int .i64 0, .int .i64 (pairE n s t)]) ∧ Mod [] w w') ∨
  (pairE n s t = 0 ∧ ∃ v : Int, (∀ ws, PreW n L s t (noF L) ws → IsDone n L s t (flowW L (noF L) ws) → v = max 0 (min (sumW ws) most)) ∧ e = .returned (.tuple #[.int .i64 v, .int .i64 0]) ∧ Mod [] w w')
theorem sumW_append (ws vs : List (List Nat × Int)) : sumW (ws ++ vs) = sumW ws + sumW vs := by simp [sumW]
set_option maxRecDepth 100000 in
set_option maxHeartbeats 16000000 in
theorem up48_any {w0 w : World} {b n : Nat} {L : List Ed} {R : List Part} (hS : Sep w0 w (NetP b n L :: R)) (hG : GOk n L) (s t most : Int) (hmost : -9223372036854775808 ≤ most ∧ most ≤ 9223372036854775807) :
    Calls Tryz.prog 48 #[.pointer (some ⟨b, 0, none⟩), .int .i64 s, .int .i64 t, .int .i64 most] w (Up48 n L s t most w) := by
  have hst := Lib.hid ((((Sep.empty w).box [.int .i64 most] 2).box [.int .i64 0] 2).box [.int .i64 0] 26)
  simp only [World.size_alloc] at hst
  have cK := Lib.hid (fun W (m : Mod [] w W) => chk44_any (n_sep (hS.still m)) s t)
  have cN := Lib.hid (fun W (m : Mod [] w W) (R2 : List Part) (h2 : Sep w W R2) => rnew_res hG (csr_at hS hG m h2))
  have hG' := Lib.hid hG
  have hlen := hG.len
  have hn4 := hG.le
  clear hS hG
  refine callsIn_wide.1 (callsIn_of_wp_marks (n := 3) Tryz.func48 rfl trivial (wpIn_wide.2 ?_))
  simp only [Tryz.ntmps48, List.size_toArray, List.length_cons, List.length_nil, Nat.reduceAdd, Nat.reduceSub, Array.replicate_succ, Array.replicate_zero, List.push_toArray, List.append_toArray, List.nil_append, List.cons_append]
  go_upto_region 1 with fail
  generalize ((w.alloc (.cells #[.int .i64 most] 2)).alloc (.cells #[.int .i64 0] 2)).alloc (.cells #[.int .i64 0] 26) = w1 at *
  have n78 : w.heap.size ≠ w.heap.size + 1 := by omega
  have n79 : w.heap.size ≠ w.heap.size + 1 + 1 := by omega
  have n89 : w.heap.size + 1 ≠ w.heap.size + 1 + 1 := by omega
  generalize w.heap.size + 1 + 1 = B9 at *
  generalize w.heap.size + 1 = B8 at *
  generalize w.heap.size = B7 at *
  have n87 := n78.symm
  have n97 := n79.symm
  have n98 := n89.symm
  go_wp2_with fail
  refine (cK.out _ hst.out.mod).mono ?_
  rintro e w2 ⟨rfl, rfl⟩
  try dsimp only
  by_cases hE : pairE n s t = 0
  · have hE' := Lib.hid hE
    have hin : 0 ≤ s ∧ s < n ∧ 0 ≤ t ∧ t < n ∧ s ≠ t := by
      rw [pairE_as] at hE
      by_cases h1 : 0 ≤ s ∧ s < n ∧ 0 ≤ t ∧ t < n
      · rw [if_neg (by simpa using h1)] at hE
        by_cases h2 : s = t
        · rw [if_pos h2] at hE; omega
        · exact ⟨h1.1, h1.2.1, h1.2.2.1, h1.2.2.2, h2⟩
      · rw [if_pos h1] at hE; omega
    obtain ⟨S, rfl⟩ := Int.eq_ofNat_of_zero_le hin.1
    obtain ⟨T, rfl⟩ := Int.eq_ofNat_of_zero_le hin.2.2.1
    have hSn : S < n := by omega
    have hTn : T < n := by omega
    rw [hE]
    clear hE hin
    have hpos := Lib.hid (fun ws (h : PreW n L (S : Int) (T : Int) (noF L) ws) => show 0 ≤ sumW ws ∧ sumW ws ≤ 2251799813685248 from by
      have h1 := (PreW.exc hG'.out (fb_new hG'.out) h)
      have h2 := (exc_in ((fb_new hG'.out).flowW ws) (fun e he => by have := hG'.out.ends e he; omega) (T : Int)).2
      have h3 := exc_noF (L := L) (T : Int)
      have h4 := hG'.out.tot
      unfold noF at h1 h2
      rw [h3] at h1
      omega)
    by_cases hmp : 0 < most
    · have tm : decide (0 < most) = true := by simpa using hmp
      have nk7 : w2.heap.size ≠ B7 := by have := (hst.out.blkAt 2 rfl).lt; omega
      have nk8 : w2.heap.size ≠ B8 := by have := (hst.out.blkAt 1 rfl).lt; omega
      have nk9 : w2.heap.size ≠ B9 := by have := (hst.out.blkAt 0 rfl).lt; omega
      have n7k := nk7.symm
      have n8k := nk8.symm
      have n9k := nk9.symm
      have hS2 := Lib.hid (hst.out.box [.int .i64 0] 2)
      clear hst cK
      go_upto_region 5 with fail
      generalize w2.alloc (.cells #[.int .i64 0] 2) = w3 at *
      generalize w2.heap.size = Bk at *
      have m0 := (hS2.out.blkAt 3 rfl).cell 0 rfl
      have ml := (hS2.out.blkAt 3 rfl).lt
      have cN2 := Lib.hid (cN.out _ hS2.out.mod _ hS2.out)
      clear cN
      go_wp2_with fail
      refine cN2.out.mono ?_
      rintro e w4 ⟨r, ba, rfl, hS3⟩
      have hS4 := Lib.hid hS3
      clear hS3 cN2 hS2 m0 ml
      try dsimp only
      go_wp2_with (go_at_call 135; refine (steps_any r S T _).mono ?_; rintro e w2 ⟨rfl, rfl⟩)
      have hS5 := Lib.hid (((hS4.out.box [.pointer (some ⟨r, 0, none⟩)] 29).box [.int .i64 (S : Int)] 3).box [.int .i64 (T : Int)] 3)
      try simp only [World.size_alloc] at hS5
      try simp only [World.size_alloc]
      generalize ((w4.alloc (.cells #[.pointer (some ⟨r, 0, none⟩)] 29)).alloc (.cells #[.int .i64 (S : Int)] 3)).alloc (.cells #[.int .i64 (T : Int)] 3) = w5 at *
      generalize w4.heap.size + 1 + 1 = B3 at *
      generalize w4.heap.size + 1 = B2 at *
      generalize w4.heap.size = B1 at *
      have hS6 := Lib.hid (show Sep w w5 (IfP (sumW (onlyS []) < most) (AllP [Blk Bk [.int .i64 (sumW (onlyS []))] 2, Blk B7 [.int .i64 most] 2, Blk B8 [.int .i64 0] 2, Blk B9 [.int .i64 0] 26]) :: stR r ba n B1 B2 B3 L S T (noF L) [] []) from
        Sep.toIf hmp (Sep.all (L := [_, _, _, _]) (hS5.out.picks [5, 7, 6, 5, 3, 3, 2, 1, 0])))
      clear hS5 hS4
      generalize hA : Act.mk _ _ = A
      have hA' := Lib.hid hA
      refine range_sep (w0 := w) (steps_it (r := r) (ba := ba) (n := n) (B1 := B1) (B2 := B2) (B3 := B3) (f0 := noF L) (R0 := []) hG'.out (fb_new hG'.out) (S : Int) hTn) (by rw [← hA]; simp [go_sem]) (fun args w => by simp [go_sem]) (fun x => rfl)
        (fun p => IfP (sumW (onlyS p) < most) (AllP [Blk Bk [.int .i64 (sumW (onlyS p))] 2, Blk B7 [.int .i64 most] 2, Blk B8 [.int .i64 0] 2, Blk B9 [.int .i64 0] 26]))
        (fun c p => IfP (c = .ret ∧ most ≤ sumW (onlyS p)) (AllP [Blk B8 [.int .i64 most] 2, Blk B9 [.int .i64 0] 26]))
        (fun p x a1 => IfP (a1 = { tmps := ((A.tmps.setIfInBounds 28 (.slice x.2.1 x.1.1.length x.2.2)).setIfInBounds 29 (.int .i64 x.1.2)).setIfInBounds 13 (.int .i64 x.1.2), defers := [] }) (IfP (sumW (onlyS p) < most) (AllP [Blk Bk [.int .i64 (sumW (onlyS p))] 2, Blk B7 [.int .i64 most] 2, Blk B8 [.int .i64 0] 2, Blk B9 [.int .i64 0] 26])))
        (fun _ => inferInstance) (fun _ _ => inferInstance) hS6.out ?_ ?_ ?_ ?_
      · intro l' pre x R' W hpre hS
        have hS' := Lib.hid hS.swap.tail
        clear hS
        rw [encSt, zip_two]
        rw [← hA'.out]
        simp only [List.setIfInBounds_toArray, List.set_cons_succ, List.set_cons_zero]
        gi_wp2
        exact Sep.toIf (by first | rfl | trivial) hS'.out
      · intro l' pre x R' a1 W hpre hS
        obtain ⟨rfl, hSi⟩ := hS.ifs
        obtain ⟨hlt, hSj⟩ := hSi.ifs
        have hSk : Sep w W (Blk Bk [.int .i64 (sumW (onlyS pre))] 2 :: Blk B7 [.int .i64 most] 2 :: Blk B8 [.int .i64 0] 2 :: Blk B9 [.int .i64 0] 26 :: R') := Sep.unall (L := [_, _, _, _]) hSj
        have hp1 := hpos.out _ hpre
        have hsn : sumW (onlyS (pre ++ [x])) = sumW (onlyS pre) + x.1.2 := by rw [onlyS_snoc, sumW_snoc]
        rw [hsn] at hp1
        have hsn' := Lib.hid hsn
        have c0 := (hSk.blkAt 0 rfl).cell 0 rfl
        have f0 := (hSk.blkAt 0 rfl).free 0
        have l0 := (hSk.blkAt 0 rfl).lt
        have c7 := (hSk.blkAt 1 rfl).cell 0 rfl
        have l7 := (hSk.blkAt 1 rfl).lt
        have c8 := (hSk.blkAt 2 rfl).cell 0 rfl
        have f8 := (hSk.blkAt 2 rfl).free 0
        have l8 := (hSk.blkAt 2 rfl).lt
        have c9 := (hSk.blkAt 3 rfl).cell 0 rfl
        have f9 := (hSk.blkAt 3 rfl).free 0
        have l9 := (hSk.blkAt 3 rfl).lt
        have hS2 := Lib.hid (hSk.set 0 (.int .i64 (sumW (onlyS pre) + x.1.2)))
        have hS3 := Lib.hid (((hS2.out.pick 2 (by simp)).set 0 (.int .i64 most)).picks [3])
        have hS4 := Lib.hid (hS3.out.set 0 (.int .i64 0))
        clear hS hSi hSj hSk hpre hsn hS3
        rw [← hA'.out]
        simp only [List.setIfInBounds_toArray, List.set_cons_succ, List.set_cons_zero]
        obtain ⟨⟨l, y⟩, ⟨al, cl⟩⟩ := x
        simp only at *
        obtain ⟨z, hz⟩ : ∃ z, sumW (onlyS pre) = z := ⟨_, rfl⟩
        rw [hz] at c0 hlt hp1 hS2 hS4 hsn'
        clear hz
        by_cases hge : most ≤ z + y
        · have tg : decide (most ≤ z + y) = true := by simpa using hge
          gi_wp2
          show Sep w _ (IfP (Code.ret = Code.ret ∧ most ≤ sumW (onlyS (pre ++ [((l, y), (al, cl))]))) (AllP [Blk B8 [.int .i64 most] 2, Blk B9 [.int .i64 0] 26]) :: R')
          rw [hsn'.out]
          exact Sep.toIf ⟨rfl, hge⟩ (Sep.all (L := [_, _]) (hS4.out.picks [2, 2, 1, 0]).tail.tail)
        · have tg : decide (most ≤ z + y) = false := by simpa using hge
          gi_wp2
          show Sep w _ (IfP (sumW (onlyS (pre ++ [((l, y), (al, cl))])) < most) (AllP [Blk Bk [.int .i64 (sumW (onlyS (pre ++ [((l, y), (al, cl))])))] 2, Blk B7 [.int .i64 most] 2, Blk B8 [.int .i64 0] 2, Blk B9 [.int .i64 0] 26]) :: R')
          rw [hsn'.out]
          exact Sep.toIf (by omega) (Sep.all (L := [_, _, _, _]) hS2.out)
      · intro D xs W hxs hS
        rw [← hA]
        obtain ⟨hpre, hdn⟩ := hxs
        have hD := Lib.hid hS.obj
        obtain ⟨hlt, hSj⟩ := hS.swap.ifs
        have hSk : Sep w W (Blk Bk [.int .i64 (sumW (onlyS xs))] 2 :: Blk B7 [.int .i64 most] 2 :: Blk B8 [.int .i64 0] 2 :: Blk B9 [.int .i64 0] 26 :: ObjP D (.deferred (some [])) :: stR r ba n B1 B2 B3 L S T (noF L) [] xs) := Sep.unall (L := [_, _, _, _]) hSj
        have hv := Lib.hid (show ∀ ws, PreW n L (S : Int) (T : Int) (noF L) ws → IsDone n L (S : Int) (T : Int) (flowW L (noF L) ws) → sumW (onlyS xs) = max 0 (min (sumW ws) most) from fun ws h1 h2 => by
          have h3 := PreW.one hpre h1 hdn h2
          rw [← h3]
          have := (hpos.out _ hpre).1
          omega)
        have c0 := (hSk.blkAt 0 rfl).cell 0 rfl
        have l0 := (hSk.blkAt 0 rfl).lt
        have c8 := (hSk.blkAt 2 rfl).cell 0 rfl
        have f8 := (hSk.blkAt 2 rfl).free 0
        have l8 := (hSk.blkAt 2 rfl).lt
        have c9 := (hSk.blkAt 3 rfl).cell 0 rfl
        have f9 := (hSk.blkAt 3 rfl).free 0
        have l9 := (hSk.blkAt 3 rfl).lt
        have hS3 := Lib.hid (((hSk.pick 2 (by simp)).set 0 (.int .i64 (sumW (onlyS xs)))).picks [3])
        have hS4 := Lib.hid (hS3.out.set 0 (.int .i64 0))
        clear hS hSj hSk hpre hdn hlt hS3 hA hA' hS6
        obtain ⟨z, hz⟩ : ∃ z, sumW (onlyS xs) = z := ⟨_, rfl⟩
        rw [hz] at c0 hv hS4
        clear hz
        try dsimp only
        go_wp2_with fail
        generalize (World.setCell _ ⟨B8, 0, none⟩ (.int .i64 z)).setCell ⟨B9, 0, none⟩ (.int .i64 0) = w9 at *
        have hD2 := (hS4.out.picks [4]).obj
        have hS5 := Lib.hid ((hS4.out.picks [4]).putObj (.deferred none))
        have z8 := (hS5.out.blkAt 2 rfl).cell 0 rfl
        have z9 := (hS5.out.blkAt 1 rfl).cell 0 rfl
        refine bodyPostM_retAt (v := .tuple #[.int .i64 z, .int .i64 0]) rfl hD2 ?_ ?_
        · simp [results, Tryz.results48, go_sem, z8, z9]
        · exact .inr ⟨hE'.out, z, hv.out, rfl, hS5.out.mod⟩
      · intro D c pre W hpre hS
        rw [← hA]
        have hD := Lib.hid hS.obj
        obtain ⟨⟨rfl, hge⟩, hSj⟩ := hS.swap.ifs
        have hSk : Sep w W (Blk B8 [.int .i64 most] 2 :: Blk B9 [.int .i64 0] 26 :: ObjP D (.deferred (some [])) :: stR r ba n B1 B2 B3 L S T (noF L) [] pre) := Sep.unall (L := [_, _]) hSj
        have hv := Lib.hid (show ∀ ws, PreW n L (S : Int) (T : Int) (noF L) ws → IsDone n L (S : Int) (T : Int) (flowW L (noF L) ws) → most = max 0 (min (sumW ws) most) from fun ws h1 h2 => by
          obtain ⟨rest, h3, h4⟩ := PreW.pre hpre h1 h2
          have h5 := (PreW.exc hG'.out ((fb_new hG'.out).flowW (onlyS pre)) h4).2
          rw [h3, sumW_append]
          omega)
        have hS5 := Lib.hid ((hSk.picks [2]).putObj (.deferred none))
        have z8 := (hS5.out.blkAt 1 rfl).cell 0 rfl
        have z9 := (hS5.out.blkAt 2 rfl).cell 0 rfl
        clear hS hSj hSk hpre hge hA hA' hS6
        try dsimp only
        go_wp2_with fail
        refine bodyPostM_retAt (v := .tuple #[.int .i64 most, .int .i64 0]) rfl hD.out ?_ ?_
        · simp [results, Tryz.results48, go_sem, z8, z9]
        · exact .inr ⟨hE'.out, most, hv.out, rfl, hS5.out.mod⟩
    · have tm : decide (0 < most) = false := by simpa using hmp
      have hS2 := Lib.hid (hst.out.box [.int .i64 0] 2)
      have nk8 : w2.heap.size ≠ B8 := by have := (hst.out.blkAt 1 rfl).lt; omega
      have nk9 : w2.heap.size ≠ B9 := by have := (hst.out.blkAt 0 rfl).lt; omega
      have hv := Lib.hid (show ∀ ws, PreW n L (S : Int) (T : Int) (noF L) ws → IsDone n L (S : Int) (T : Int) (flowW L (noF L) ws) → (0 : Int) = max 0 (min (sumW ws) most) from fun ws h1 h2 => by omega)
      clear hst cK cN hmp
      go_upto_region 5 with fail
      generalize w2.alloc (.cells #[.int .i64 0] 2) = w3 at *
      generalize w2.heap.size = Bk at *
      have m0 := (hS2.out.blkAt 3 rfl).cell 0 rfl
      have ml := (hS2.out.blkAt 3 rfl).lt
      have c0 := (hS2.out.blkAt 0 rfl).cell 0 rfl
      have l0 := (hS2.out.blkAt 0 rfl).lt
      have c8 := (hS2.out.blkAt 2 rfl).cell 0 rfl
      have f8 := (hS2.out.blkAt 2 rfl).free 0
      have l8 := (hS2.out.blkAt 2 rfl).lt
      have c9 := (hS2.out.blkAt 1 rfl).cell 0 rfl
      have f9 := (hS2.out.blkAt 1 rfl).free 0
      have l9 := (hS2.out.blkAt 1 rfl).lt
      have hS3 := Lib.hid (((hS2.out.pick 2 (by simp)).set 0 (.int .i64 0)).picks [2])
      have hS4 := Lib.hid (hS3.out.set 0 (.int .i64 0))
      clear hS2 hS3
      go_wp2_with fail
      generalize (World.setCell _ ⟨B8, 0, none⟩ (.int .i64 0)).setCell ⟨B9, 0, none⟩ (.int .i64 0) = w9 at *
      have z8 := (hS4.out.blkAt 1 rfl).cell 0 rfl
      have z9 := (hS4.out.blkAt 0 rfl).cell 0 rfl
      refine bodyPostM_ret0At (v := .tuple #[.int .i64 0, .int .i64 0]) rfl ?_ ?_
      · simp [results, Tryz.results48, go_sem, z8, z9]
      · exact .inr ⟨hE'.out, 0, hv.out, rfl, hS4.out.mod⟩
  · have hE' := Lib.hid hE
    have t0 : (pairE n s t != 0) = true := by simpa using hE
    clear hE cN cK
    obtain ⟨E, hEE⟩ : ∃ E, pairE n s t = E := ⟨_, rfl⟩
    rw [hEE] at t0 ⊢
    have hE2 := Lib.hid hEE
    clear hEE
    have b8 := (hst.out.blkAt 1 rfl).cell 0 rfl
    have f8 := (hst.out.blkAt 1 rfl).free 0
    have l8 := (hst.out.blkAt 1 rfl).lt
    have b9 := (hst.out.blkAt 0 rfl).cell 0 rfl
    have f9 := (hst.out.blkAt 0 rfl).free 0
    have l9 := (hst.out.blkAt 0 rfl).lt
    have hS3 := Lib.hid (((hst.out.pick 1 (by simp)).set 0 (.int .i64 0)).swap.set 0 (.int .i64 E))
    clear hst
    go_wp2_with fail
    generalize (World.setCell _ ⟨B8, 0, none⟩ (.int .i64 0)).setCell ⟨B9, 0, none⟩ (.int .i64 E) = w9 at *
    have z0 := (hS3.out.blkAt 1 rfl).cell 0 rfl
    have z1 := (hS3.out.blkAt 0 rfl).cell 0 rfl
    refine bodyPostM_ret0At (v := .tuple #[.int .i64 0, .int .i64 E]) rfl ?_ ?_
    · simp [results, Tryz.results48, go_sem, z0, z1]
    · exact .inl ⟨hE'.out, by rw [hE2.out], hS3.out.mod⟩
end Edge
end Go.Proofs.YtjpfmkfikidgkaaGreat

set_option linter.unusedVariables false
set_option linter.unusedSimpArgs false
namespace Go.Proofs.YtjpfmkfikidgkaaGreat
open Go.RowKit
namespace Edge
theorem n_nil25 (w : World) : Calls Tryz.prog 72 #[.pointer none] w fun e w' => e = .returned (.int .i64 ((0 : Nat) : Int)) ∧ w' = w := by
  go_enter Tryz.func72, Tryz.ntmps72
  go_wp2
  go_ret
  exact ⟨rfl, rfl⟩
theorem total_le25 {l : List Ed} {B : Int} (h : ∀ e ∈ l, e.2.2 ≤ B) : total l ≤ l.length * B := by
  induction l with
  | nil => simp [total]
  | cons e l ih =>
    have h1 := h e (by simp)
    have h2 := ih (fun x hx => h x (by simp [hx]))
    simp only [total, List.length_cons]
    have : ((l.length + 1 : Nat) : Int) * B = l.length * B + B := by rw [Int.natCast_add, Int.add_mul]; simp
    omega
theorem few25 {n : Nat} {l : List Ed} (he : newE n l = (0, 0)) (hl : l.length ≤ 40) : total (merged l) ≤ 1000000000000 := by
  obtain ⟨_, _, _, h4⟩ := newE_ok he
  have h5 : ∀ e ∈ l, 0 ≤ e.1 ∧ e.1 < (n : Int) ∧ 0 ≤ e.2.1 ∧ e.2.1 < (n : Int) ∧ 0 ≤ e.2.2 := fun e h => by
    have := checkE_ok.1 (h4 e h)
    omega
  have h6 := (merged_gen h5).2.1
  have h7 := total_le25 (l := l) (B := 2147483648) (fun e h => by have := checkE_ok.1 (h4 e h); omega)
  have h8 : (l.length : Int) * 2147483648 ≤ 40 * 2147483648 := by omega
  omega
theorem pairE_nil : pairE 0 0 1 = 4 := by decide +kernel
set_option maxRecDepth 100000 in
set_option maxHeartbeats 32000000 in
theorem tells25_any (n : Nat) (hn : n ≤ 255) {l : List Ed} {vs : Value} {w : World} (h : Rd w 3 vs l.length (flat encEd l)) (s t most : Int) (hmost : -9223372036854775808 ≤ most ∧ most ≤ 9223372036854775807) :
    Calls Tryz.prog 6 #[.int .u8 n, vs, .agg #[.int .i64 s, .int .i64 t, .int .i64 most]] w fun e w' => e = .returned (.bool true) ∧ Mod [] w w' := by
  obtain ⟨a, c, rfl⟩ := h.val
  have hle := h.le
  have haw := Lib.hid (fun w => awake25 w)
  have hB := Has.new w [.int .i64 s, .int .i64 t, .int .i64 most] 78
  have hm0 : Mod [] w (w.alloc (.cells #[.int .i64 s, .int .i64 t, .int .i64 most] 78)) := (Mod.refl [] w).alloc _
  have h' := Lib.hid (h.still hm0)
  have hm0' := Lib.hid hm0
  have hB' := Lib.hid hB
  clear h hm0 hB
  go_enter Tryz.func6, Tryz.ntmps6
  go_upto_region 1 with fail
  have hB2 : Hid (Has (w.alloc (.cells #[.int .i64 s, .int .i64 t, .int .i64 most] 78)) w.heap.size [.int .i64 s, .int .i64 t, .int .i64 most] 78) := hB'
  clear hB'
  generalize w.alloc (.cells #[.int .i64 s, .int .i64 t, .int .i64 most] 78) = w1 at *
  generalize w.heap.size = By at *
  by_cases hbig : 40 < l.length
  · have hbig1 : (40 : Int) < l.length := by omega
    go_wp2_with fail
    refine (haw.out _).mono ?_
    rintro e w2 ⟨rfl, hm⟩
    try dsimp only
    go_wp2_with fail
    go_ret
    exact ⟨rfl, hm0'.out.trans hm (by simp)⟩
  have hbig1 : ¬ (40 : Int) < l.length := by omega
  by_cases hbig4 : 20 < n
  · have hbig5 : (20 : Int) < n := by omega
    go_wp2_with fail
    refine (haw.out _).mono ?_
    rintro e w2 ⟨rfl, hm⟩
    try dsimp only
    go_wp2_with fail
    go_ret
    exact ⟨rfl, hm0'.out.trans hm (by simp)⟩
  have hbig5 : ¬ (20 : Int) < n := by omega
  have hR := Lib.hid (fun W (m : Mod [] w1 W) => rnew_any (n : Int) (h'.out.still m))
  go_wp2_with fail
  refine (new_net (n : Int) h'.out).mono ?_
  rintro e w2 hN
  rcases hN.out with ⟨hne, rfl, hm⟩ | ⟨he, b, rfl, hS⟩
  · have hz := newE_bad5 hne
    generalize (newE n l).1 = q at *
    generalize (newE n l).2 = q2 at *
    have hm2 := Lib.hid (hm0'.out.trans hm (by simp))
    have cK := Lib.hid (chk44_any (p := none) (n_nil25 w2) 0 1)
    rw [pairE_nil] at cK
    have hz2 : (q != 0) = true := by simpa using hz
    try dsimp only
    clear hN hne hm hR hz
    go_wp2_with fail
    refine cK.out.mono ?_
    rintro e w3 ⟨rfl, hw3⟩
    subst w3
    try dsimp only
    go_wp2_with fail
    refine (haw.out _).mono ?_
    rintro e w6 ⟨rfl, hm7⟩
    try dsimp only
    go_wp2_with fail
    go_ret
    exact ⟨rfl, hm2.out.trans hm7 (by simp)⟩
  have hG := Lib.hid (new_ok he)
  have hM : total (merged l) ≤ 1000000000000 := by
    exact few25 he (by omega)
  rw [Int.toNat_natCast] at hG hS
  obtain ⟨L, hL⟩ : ∃ L, merged l = L := ⟨_, rfl⟩
  rw [hL] at hG hS hM
  have hS1 := Lib.hid hS
  have hL' := Lib.hid hL
  have he' := Lib.hid he
  clear hN he hS hL h'
  have hn4 := hG.out.le
  have hl := hG.out.len
  have hlt : L.length ≤ 1048576 := hl
  have y0 := (hB2.out.keep hS1.out.mod (by simp)).cell 0 rfl
  have y1 := (hB2.out.keep hS1.out.mod (by simp)).cell 1 rfl
  have y2 := (hB2.out.keep hS1.out.mod (by simp)).cell 2 rfl
  have yl := (hB2.out.keep hS1.out.mod (by simp)).lt
  clear hB2
  try dsimp only
  go_upto_region 6 with fail
  go_quiet (fail)
  have hS1d := Lib.hid (hS1.out.still ((Mod.refl [] w2).drewN nq))
  clear hS1 y0 y1 y2 yl
  generalize w2.drewN nq = w2d at *
  go_wp2_with fail
  refine (hR.out _ hS1d.out.mod).mono ?_
  rintro e w3 hN
  rcases hN.out with ⟨hne, _⟩ | ⟨_, a1, c1, rfl, hmd⟩
  · exact absurd he'.out hne
  rw [hL'.out] at hmd ⊢
  have hS2 := Lib.hid ((hS1d.out.made hmd).box [.int .i64 n, .slice a1 L.length c1] 32)
  clear hN hmd hS1d hR he' hL'
  try dsimp only
  go_upto_region 8 with fail
  generalize w3.alloc (.cells #[.int .i64 n, .slice a1 L.length c1] 32) = w4 at *
  generalize w3.heap.size = Bn at *
  have n0 := (hS2.out.blkAt 0 rfl).cell 0 rfl
  have n1 := (hS2.out.blkAt 0 rfl).cell 1 rfl
  have nl := (hS2.out.blkAt 0 rfl).lt
  have hNet := Lib.hid (fun W (m : Mod [] w4 W) => (hS2.out.still m).pick 2 (by simp))
  have hEd := Lib.hid (fun W (m : Mod [] w4 W) => Rd.own ((hS2.out.still m).rowAt 1 rfl))
  have cA := Lib.hid (rways25_any (hEd.out _ (Mod.refl _ _)) hG.out hM s t)
  unfold netV at cA
  by_cases hE : pairE n s t = 0
  · have hE' := Lib.hid hE
    have hin : 0 ≤ s ∧ s < n ∧ 0 ≤ t ∧ t < n ∧ s ≠ t := by
      rw [pairE_as] at hE
      by_cases h1 : 0 ≤ s ∧ s < n ∧ 0 ≤ t ∧ t < n
      · rw [if_neg (by simpa using h1)] at hE
        by_cases h2 : s = t
        · rw [if_pos h2] at hE; omega
        · exact ⟨h1.1, h1.2.1, h1.2.2.1, h1.2.2.2, h2⟩
      · rw [if_pos h1] at hE; omega
    obtain ⟨S, rfl⟩ := Int.eq_ofNat_of_zero_le hin.1
    obtain ⟨T, rfl⟩ := Int.eq_ofNat_of_zero_le hin.2.2.1
    have hSn : S < n := by omega
    have hTn : T < n := by omega
    have hE1 := Lib.hid hE
    clear hE hin
    go_wp2_with fail
    refine cA.out.mono ?_
    rintro e w5 hA
    rcases hA with ⟨hne, _⟩ | ⟨_, ys, aw, ax, fa, cw, cx, fc, hP, hD, rfl, RA, hSA⟩
    · exact absurd hE1.out hne
    obtain ⟨k, hk⟩ : ∃ k, ys.length = k := ⟨_, rfl⟩
    rw [hk] at hSA
    rw [hk]
    have hA2 := Lib.hid (hSA.box [.slice aw k cw, .slice ax k cx, .int .i64 n, .slice a1 L.length c1, .slice fa L.length fc, .int .i64 0] 82)
    have hPy := Lib.hid hP
    have hDy := Lib.hid hD
    have hky := Lib.hid hk
    clear hP hD hk hSA cA n0 n1 nl
    try dsimp only
    go_upto_region 9 with fail
    generalize w5.alloc _ = w6 at *
    generalize w5.heap.size = B14 at *
    have cB := Lib.hid (run46_any (hNet.out _ hA2.out.mod) hG.out (S : Int) (T : Int))
    go_wp2_with fail
    refine cB.out.mono ?_
    rintro e w7 hR
    rcases hR with ⟨hne, _⟩ | ⟨_, ws, sl, af, az, cf, cz, hP, hD, hl2, rfl, RB, hSB⟩
    · exact absurd hE1.out hne
    have hws := PreW.one hPy.out hP hDy.out hD
    have hkw : ws.length = k := by rw [← hws, ← hky.out]; simp [onlyS]
    obtain ⟨ln, hln⟩ : ∃ ln, sl.length = ln := ⟨_, rfl⟩
    rw [hln] at hSB
    rw [hln, hkw]
    have hexc : exc L (flowW L (noF L) ws) (T : Int) = sumW ws := by
      have h1 := (PreW.exc hG.out (fb_new hG.out) hP).1
      have h3 := exc_noF (L := L) (T : Int)
      unfold noF at h1 ⊢
      rw [h3] at h1
      omega
    rw [hexc]
    obtain ⟨z, hz⟩ : ∃ z, sumW ws = z := ⟨_, rfl⟩
    rw [hz]
    have hB2 := Lib.hid (hSB.box [.int .i64 (S : Int), .int .i64 (T : Int), .int .i64 z, .slice af L.length cf, .slice az ln cz] 53)
    have hPw := Lib.hid hP
    have hDw := Lib.hid hD
    have hlw := Lib.hid hl2
    have hws' := Lib.hid hws
    have hln' := Lib.hid hln
    have hz' := Lib.hid hz
    have hexc' := Lib.hid hexc
    clear hP hD hl2 hws hkw hln hz hexc hSB cB
    try dsimp only
    go_upto_region 10 with fail
    generalize w7.alloc _ = w8 at *
    generalize w7.heap.size = B15 at *
    have m8 := Lib.hid (hA2.out.mod.trans hB2.out.mod (by simp))
    have cC := Lib.hid (ways47_any (hNet.out _ m8.out) hG.out hM (S : Int) (T : Int))
    go_wp2_with fail
    refine cC.out.mono ?_
    rintro e w9 hR
    rcases hR with ⟨hne, _⟩ | ⟨_, xs, bw, bx, dw, dx, hP, hD, rfl, RC, hSC⟩
    · exact absurd hE1.out hne
    have hxw := PreW.one hP hPw.out hD hDw.out
    have hkx : xs.length = k := by
      rw [← hky.out]
      have := congrArg List.length (hxw.trans hws'.out.symm)
      simpa [onlyS] using this
    rw [hkx] at hSC
    rw [hkx]
    have hC2 := Lib.hid hSC
    have hxw' := Lib.hid hxw
    have hkx' := Lib.hid hkx
    have m9 := Lib.hid (m8.out.trans hSC.mod (by simp))
    clear hP hD hxw hkx hSC cC
    try dsimp only
    have cU := Lib.hid (up48_any (hNet.out _ m9.out) hG.out (S : Int) (T : Int) most hmost)
    go_wp2_with fail
    refine cU.out.mono ?_
    rintro e w10 hR
    rcases hR with ⟨hne, _⟩ | ⟨_, v, hv, rfl, hm10⟩
    · exact absurd hE1.out hne
    have hvz := hv ws hPw.out hDw.out
    rw [hz'.out] at hvz
    have hvz' := Lib.hid hvz
    have mC := Lib.hid hm10
    have m10 := Lib.hid (m9.out.trans hm10 (by simp))
    have mB := Lib.hid (hC2.out.mod.trans hm10 (by simp))
    have mA := Lib.hid (hB2.out.mod.trans mB.out (by simp))
    clear hv hvz hm10 cU
    try dsimp only
    go_upto_region 12 with fail
    have d0 := Lib.hid (show Mod [] w10 w10.drew from (Mod.refl [] w10).drew)
    have cK := Lib.hid (chk44_any (n_sep (hNet.out _ (m10.out.trans d0.out (by simp)))) (S : Int) (T : Int))
    rw [hE1.out] at cK
    have k0 := KC.one (w := w10.drew) (L := [(⟨B14, 5, none⟩, .int .i64 0)]) (((hA2.out.still (mA.out.trans d0.out (by simp))).blkAt 0 rfl).cell 5 rfl) (by simp)
    refine region_sched (G := KC [(⟨B14, 5, none⟩, .int .i64 0)]) [([0,1,2,4,5],3)] [6,7,8,9,10,11,12,13,14,15,16,17,18,19,20,21,22,23,24] (by kernel_rfl) (by kernel_rfl) (by kernel_rfl) rfl (KC.refl _) (KC.trans _) ?_
    simp only [stages, pickO, nthO, headO, List.append_eq, List.cons_append, List.nil_append]
    refine sched_step ?_
    repeat (go_big_quiet_step (fail))
    refine wpQuiet_nil ?_
    intro K hK
    rw [if_pos (by rfl)]
    go_simp
    refine cK.out.mono ?_
    rintro e w11 ⟨rfl, hw11⟩
    subst w11
    dsimp only
    refine hK.out _ _ (KC.refl _ _) ?_
    clear hK K cK
    refine sched_last ?_
    repeat (go_big_quiet_step (fail))
    refine wpQuiet_nil ?_
    clear k0
    have mD := Lib.hid (mA.out.trans d0.out (by simp))
    have mE := Lib.hid (mB.out.trans d0.out (by simp))
    have mF := Lib.hid (mC.out.trans d0.out (by simp))
    have mG := Lib.hid (m10.out.trans d0.out (by simp))
    clear mA mB mC m8 m9 m10 d0
    generalize w10.drew = w12 at *
    have e5 := ((hA2.out.still mD.out).blkAt 0 rfl).cell 5 rfl
    have el := ((hA2.out.still mD.out).blkAt 0 rfl).lt
    go_upto_region 16 with fail
    clear e5 el
    have hkb : k ≤ 1000000000000 := by
      have h1 := (PreW.exc hG.out (fb_new hG.out) hPy.out).2
      have h2 := (exc_in ((fb_new hG.out).flowW (onlyS ys)) (fun e he => by have := hG.out.ends e he; omega) (T : Int)).2
      have h3 := (PreW.exc hG.out (fb_new hG.out) hPy.out).1
      have h4 := exc_noF (L := L) (T : Int)
      have h5 : (onlyS ys).length = k := by rw [← hky.out]; simp [onlyS]
      unfold noF at h1 h2 h3
      rw [h4] at h3
      omega
    obtain ⟨LL, hLL⟩ : ∃ LL : List (Addr × Value), LL = [(⟨B15, 0, none⟩, .int .i64 (S : Int)), (⟨B15, 1, none⟩, .int .i64 (T : Int)), (⟨B15, 2, none⟩, .int .i64 z), (⟨B15, 3, none⟩, .slice af L.length cf), (⟨B15, 4, none⟩, .slice az ln cz), (⟨Bn, 0, none⟩, .int .i64 n), (⟨Bn, 1, none⟩, .slice a1 L.length c1), (⟨B14, 0, none⟩, .slice aw k cw), (⟨B14, 1, none⟩, .slice ax k cx)] := ⟨_, rfl⟩
    have q0 : ((⟨B15, 0, none⟩ : Addr), Value.int .i64 (S : Int)) ∈ LL := by rw [hLL]; simp
    have q1 : ((⟨B15, 1, none⟩ : Addr), Value.int .i64 (T : Int)) ∈ LL := by rw [hLL]; simp
    have q2 : ((⟨B15, 2, none⟩ : Addr), Value.int .i64 z) ∈ LL := by rw [hLL]; simp
    have q3 : ((⟨B15, 3, none⟩ : Addr), Value.slice af L.length cf) ∈ LL := by rw [hLL]; simp
    have q4 : ((⟨B15, 4, none⟩ : Addr), Value.slice az ln cz) ∈ LL := by rw [hLL]; simp
    have q5 : ((⟨Bn, 0, none⟩ : Addr), Value.int .i64 n) ∈ LL := by rw [hLL]; simp
    have q6 : ((⟨Bn, 1, none⟩ : Addr), Value.slice a1 L.length c1) ∈ LL := by rw [hLL]; simp
    have q7 : ((⟨B14, 0, none⟩ : Addr), Value.slice aw k cw) ∈ LL := by rw [hLL]; simp
    have q8 : ((⟨B14, 1, none⟩ : Addr), Value.slice ax k cx) ∈ LL := by rw [hLL]; simp
    have hkc := Lib.hid (fun W0 W' (M : Mod [] w12 W') => show KC LL W0 W' from fun p hp _ => by
      have h1 := ((hB2.out.still (mE.out.trans M (by simp))).blkAt 0 rfl)
      have h2 := ((hS2.out.still (mG.out.trans M (by simp))).blkAt 0 rfl)
      have h3 := ((hA2.out.still (mD.out.trans M (by simp))).blkAt 0 rfl)
      rw [hLL] at hp
      simp only [List.mem_cons, List.mem_nil_iff, or_false] at hp
      rcases hp with rfl | rfl | rfl | rfl | rfl | rfl | rfl | rfl | rfl
      · exact h1.cell 0 rfl
      · exact h1.cell 1 rfl
      · exact h1.cell 2 rfl
      · exact h1.cell 3 rfl
      · exact h1.cell 4 rfl
      · exact h2.cell 0 rfl
      · exact h2.cell 1 rfl
      · exact h3.cell 0 rfl
      · exact h3.cell 1 rfl)
    clear hLL
    have d0 := Lib.hid (show Mod [] w12 w12.drew from (Mod.refl [] w12).drew)
    have kf0 := KC.one (w := w12.drew) (((hB2.out.still (mE.out.trans d0.out (by simp))).blkAt 0 rfl).cell 0 rfl) q0
    have kf1 := KC.one (w := w12.drew) (((hB2.out.still (mE.out.trans d0.out (by simp))).blkAt 0 rfl).cell 1 rfl) q1
    have kf2 := KC.one (w := w12.drew) (((hB2.out.still (mE.out.trans d0.out (by simp))).blkAt 0 rfl).cell 2 rfl) q2
    have kf3 := KC.one (w := w12.drew) (((hB2.out.still (mE.out.trans d0.out (by simp))).blkAt 0 rfl).cell 3 rfl) q3
    have kf4 := KC.one (w := w12.drew) (((hB2.out.still (mE.out.trans d0.out (by simp))).blkAt 0 rfl).cell 4 rfl) q4
    have kn0 := KC.one (w := w12.drew) (((hS2.out.still (mG.out.trans d0.out (by simp))).blkAt 0 rfl).cell 0 rfl) q5
    have kn1 := KC.one (w := w12.drew) (((hS2.out.still (mG.out.trans d0.out (by simp))).blkAt 0 rfl).cell 1 rfl) q6
    have cD := Lib.hid (rrun25_any (hEd.out _ (mG.out.trans d0.out (by simp))) hG.out hM hSn hTn hE1.out)
    unfold netV at cD
    have e0 : ((k : Int) == (k : Int)) = true := by simp
    have e0' : (k == k) = true := by simp
    refine region_sched (G := KC LL) [([0,1,2,3],4), ([],5), ([6,7,8,9,10,11,12,13,14,15,16],17), ([18,19,20,21,22],23), ([24,25,26,27,28,29],30), ([],31), ([32,33,34],35)] [36,37] (by kernel_rfl) (by kernel_rfl) (by kernel_rfl) rfl (KC.refl _) (KC.trans _) ?_
    simp only [stages, pickO, nthO, headO, List.append_eq, List.cons_append, List.nil_append]
    refine sched_step ?_
    repeat (go_big_quiet_step (fail))
    refine wpQuiet_nil ?_
    intro K hK
    rw [if_pos (by rfl)]
    go_simp
    refine cD.out.mono ?_
    rintro e w13 ⟨ws2, l2, fa2, az2, fc2, cz2, hP2, hD2, hl2, rfl, RD, hSD⟩
    have hw2 := PreW.one hP2 hPw.out hD2 hDw.out
    subst hw2
    have hl3 := hlw.out
    rw [Int.toNat_natCast] at hl3
    have hl4 := reach_one hl2 hl3
    subst hl4
    rw [hexc'.out, hz'.out, hln'.out]
    rw [hln'.out] at hSD
    have d1 := Lib.hid (d0.out.trans hSD.mod (by simp))
    have hD3 := Lib.hid hSD
    dsimp only
    refine hK.out _ _ (hkc.out _ _ d1.out) ?_
    clear hK K cD hP2 hD2 hl2 hl3 hSD kf0 kf1 kf2 kf3 kf4 kn0 kn1
    have cS := Lib.hid (same25_any (S : Int) (T : Int) z (f := flowW L (noF L) ws2) (l := ints l2) (Rd.own ((hB2.out.still (mE.out.trans d1.out (by simp))).rowAt 1 rfl)) (Rd.own (hD3.out.rowAt 0 rfl)) hlt (by rw [ints_len]; exact hln'.out) (Rd.own ((hB2.out.still (mE.out.trans d1.out (by simp))).rowAt 2 rfl)) (Rd.own (hD3.out.rowAt 1 rfl)))
    refine sched_step ?_
    refine wpQuiet_nil ?_
    intro K hK
    rw [if_pos (by rfl)]
    go_simp
    refine cS.out.mono ?_
    rintro e w14 ⟨rfl, h14⟩
    dsimp only
    have d2 := Lib.hid (d1.out.trans h14 (by simp))
    refine hK.out _ _ (hkc.out _ _ d2.out) ?_
    clear hK K cS h14 hD3
    have cL := Lib.hid (lists_any (vs := waysV xs) (us := waysV ys) (k := k) hkb (Rd.own ((hC2.out.still (mF.out.trans d2.out (by simp))).rowAt 0 rfl)) (Rd.own ((hA2.out.still (mD.out.trans d2.out (by simp))).rowAt 1 rfl)) (fun j hj => both_of ((hC2.out.still (mF.out.trans d2.out (by simp))).picks [2]) ((hA2.out.still (mD.out.trans d2.out (by simp))).picks [4]) (hxw'.out.trans hws'.out.symm) (by rw [hkx'.out]; exact hj)))
    have ks0 := KC.one (w := w14) (((hA2.out.still (mD.out.trans d2.out (by simp))).blkAt 0 rfl).cell 0 rfl) q7
    refine sched_step ?_
    repeat (go_big_quiet_step (fail))
    refine wpQuiet_nil ?_
    intro K hK
    rw [if_pos (by rfl)]
    go_simp
    refine cL.out.mono ?_
    rintro e w15 ⟨rfl, h15⟩
    dsimp only
    have d3 := Lib.hid (d2.out.trans h15 (by simp))
    refine hK.out _ _ (hkc.out _ _ d3.out) ?_
    clear hK K cL h15 ks0
    have hmu : muchL ys = muchL xs := by rw [much_of, much_of, hws'.out, hxw'.out]
    have cX := Lib.hid (xsame04b (f := muchL xs) (m := k) (Rd.own ((hC2.out.still (mF.out.trans d3.out (by simp))).rowAt 1 rfl)) (hmu ▸ Rd.own ((hA2.out.still (mD.out.trans d3.out (by simp))).rowAt 2 rfl)) hkb)
    have ks1 := KC.one (w := w15) (((hA2.out.still (mD.out.trans d3.out (by simp))).blkAt 0 rfl).cell 1 rfl) q8
    refine sched_step ?_
    repeat (go_big_quiet_step (fail))
    refine wpQuiet_nil ?_
    intro K hK
    rw [if_pos (by rfl)]
    go_simp
    refine cX.out.mono ?_
    rintro e w16 ⟨rfl, h16⟩
    dsimp only
    have d4 := Lib.hid (d3.out.trans h16 (by simp))
    refine hK.out _ _ (hkc.out _ _ d4.out) ?_
    clear hK K cX h16 ks1 hmu
    have kf2 := KC.one (w := w16) (((hB2.out.still (mE.out.trans d4.out (by simp))).blkAt 0 rfl).cell 2 rfl) q2
    refine sched_step ?_
    repeat (go_big_quiet_step (fail))
    refine wpQuiet_nil ?_
    intro K hK
    rw [if_pos (by rfl)]
    go_simp
    refine hK.out _ _ (KC.refl _ _) ?_
    clear hK K kf2
    have hvv := hvz'.out
    have evv : (v == max 0 (min z most)) = true := by rw [hvv]; simp
    refine sched_step ?_
    refine wpQuiet_nil ?_
    intro K hK
    rw [if_pos (by rfl)]
    go_simp
    refine hK.out _ _ (KC.refl _ _) ?_
    clear hK K
    refine sched_step ?_
    repeat (go_big_quiet_step (fail))
    refine wpQuiet_nil ?_
    intro K hK
    rw [if_pos (by rfl)]
    go_simp
    refine (haw.out _).mono ?_
    rintro e w17 ⟨rfl, h17⟩
    dsimp only
    have d5 := Lib.hid (d4.out.trans h17 (by simp))
    refine hK.out _ _ (hkc.out _ _ d5.out) ?_
    clear hK K h17
    refine sched_last ?_
    repeat (go_big_quiet_step (fail))
    refine wpQuiet_nil ?_
    have hend := Lib.hid (hm0'.out.trans (hS2.out.mod.trans (mG.out.trans d5.out (by simp)) (by simp)) (by simp))
    clear hS2 hA2 hB2 hC2 hkc
    go_wp2_with fail
    go_ret
    exact ⟨rfl, hend.out⟩
  · have hE' := Lib.hid hE
    obtain ⟨E, hEE⟩ : ∃ E, pairE n s t = E := ⟨_, rfl⟩
    have t0 : (E != 0) = true := by rw [← hEE]; simpa using hE
    have hE2 := Lib.hid hEE
    clear hE hEE
    go_wp2_with fail
    refine cA.out.mono ?_
    rintro e w5 hA
    rcases hA with ⟨_, rfl, hmA⟩ | ⟨h0, _⟩
    case inr => exact absurd h0 hE'.out
    rw [hE2.out]
    have hA2 := Lib.hid (((Sep.empty w4).still hmA).box [.slice none 0 0, .slice none 0 0, .int .i64 0, .slice none 0 0, .slice none 0 0, .int .i64 E] 82)
    clear hmA cA n0 n1 nl
    try dsimp only
    go_upto_region 9 with fail
    generalize w5.alloc _ = w6 at *
    generalize w5.heap.size = B14 at *
    have cB := Lib.hid (run46_any (hNet.out _ hA2.out.mod) hG.out s t)
    go_wp2_with fail
    refine cB.out.mono ?_
    rintro e w7 hR
    rcases hR with ⟨_, rfl, hmB⟩ | ⟨h0, _⟩
    case inr => exact absurd h0 hE'.out
    rw [hE2.out]
    have hB2 := Lib.hid (((Sep.empty w6).still hmB).box [.int .i64 0, .int .i64 0, .int .i64 0, .slice none 0 0, .slice none 0 0] 53)
    clear hmB cB
    try dsimp only
    go_upto_region 10 with fail
    generalize w7.alloc _ = w8 at *
    generalize w7.heap.size = B15 at *
    have m8 := Lib.hid (hA2.out.mod.trans hB2.out.mod (by simp))
    have cC := Lib.hid (ways47_any (hNet.out _ m8.out) hG.out hM s t)
    go_wp2_with fail
    refine cC.out.mono ?_
    rintro e w9 hR
    rcases hR with ⟨_, rfl, hmC⟩ | ⟨h0, _⟩
    case inr => exact absurd h0 hE'.out
    rw [hE2.out]
    have mB := Lib.hid hmC
    have m9 := Lib.hid (m8.out.trans hmC (by simp))
    clear hmC cC
    try dsimp only
    have cU := Lib.hid (up48_any (hNet.out _ m9.out) hG.out s t most hmost)
    go_wp2_with fail
    refine cU.out.mono ?_
    rintro e w10 hR
    rcases hR with ⟨_, rfl, hm10⟩ | ⟨h0, _⟩
    case inr => exact absurd h0 hE'.out
    rw [hE2.out]
    have m10 := Lib.hid (m9.out.trans hm10 (by simp))
    have mC := Lib.hid (mB.out.trans hm10 (by simp))
    have mA := Lib.hid (hB2.out.mod.trans mC.out (by simp))
    clear hm10 cU m8 m9 mB
    try dsimp only
    go_upto_region 12 with fail
    have d0 := Lib.hid (show Mod [] w10 w10.drew from (Mod.refl [] w10).drew)
    have cK := Lib.hid (chk44_any (n_sep (hNet.out _ (m10.out.trans d0.out (by simp)))) s t)
    rw [hE2.out] at cK
    have e1 : (E != E) = false := by simp
    have k0 := KC.one (w := w10.drew) (L := [(⟨B14, 5, none⟩, .int .i64 E)]) (((hA2.out.still (mA.out.trans d0.out (by simp))).blkAt 0 rfl).cell 5 rfl) (by simp)
    refine region_sched (G := KC [(⟨B14, 5, none⟩, .int .i64 E)]) [([0,1,2,4,5],3)] [6,7,8,9,10,11,12,13,14,15,16,17,18,19,20,21,22,23,24] (by kernel_rfl) (by kernel_rfl) (by kernel_rfl) rfl (KC.refl _) (KC.trans _) ?_
    simp only [stages, pickO, nthO, headO, List.append_eq, List.cons_append, List.nil_append]
    refine sched_step ?_
    repeat (go_big_quiet_step (fail))
    refine wpQuiet_nil ?_
    intro K hK
    rw [if_pos (by rfl)]
    go_simp
    refine cK.out.mono ?_
    rintro e w11 ⟨rfl, hw11⟩
    subst w11
    dsimp only
    refine hK.out _ _ (KC.refl _ _) ?_
    clear hK K cK
    refine sched_last ?_
    repeat (go_big_quiet_step (fail))
    refine wpQuiet_nil ?_
    clear k0
    have mD := Lib.hid (mA.out.trans d0.out (by simp))
    have mE := Lib.hid (mC.out.trans d0.out (by simp))
    have mG := Lib.hid (m10.out.trans d0.out (by simp))
    clear mA mC m10 d0
    generalize w10.drew = w12 at *
    have e5 := ((hA2.out.still mD.out).blkAt 0 rfl).cell 5 rfl
    have el := ((hA2.out.still mD.out).blkAt 0 rfl).lt
    have f0 := ((hB2.out.still mE.out).blkAt 0 rfl).cell 0 rfl
    have f1 := ((hB2.out.still mE.out).blkAt 0 rfl).cell 1 rfl
    have f2 := ((hB2.out.still mE.out).blkAt 0 rfl).cell 2 rfl
    have f3 := ((hB2.out.still mE.out).blkAt 0 rfl).cell 3 rfl
    have f4 := ((hB2.out.still mE.out).blkAt 0 rfl).cell 4 rfl
    have fl := ((hB2.out.still mE.out).blkAt 0 rfl).lt
    have hnil : Rd w12 1 (.slice none 0 0) 0 (i64s []) := Rd.own (World.ownsRow_nil _ 0 3 1)
    have cS := Lib.hid (same25_any (w := w12) 0 0 0 (f := []) (l := []) (m := 0) (k := 0) hnil hnil (by omega) rfl hnil hnil)
    have hend := Lib.hid (hm0'.out.trans (hS2.out.mod.trans mG.out (by simp)) (by simp))
    clear hS2 hA2 hB2 mD mE mG hnil
    go_wp2_with fail
    refine cS.out.mono ?_
    rintro e w13 ⟨rfl, h13⟩
    have hend2 := Lib.hid (hend.out.trans h13 (by simp))
    clear h13 e5 el f0 f1 f2 f3 f4 fl cS
    try dsimp only
    go_wp2_with fail
    refine (haw.out _).mono ?_
    rintro e w14 ⟨rfl, h14⟩
    try dsimp only
    go_wp2_with fail
    go_ret
    exact ⟨rfl, hend2.out.trans h14 (by simp)⟩
end Edge
end Go.Proofs.YtjpfmkfikidgkaaGreat

set_option linter.unusedVariables false
set_option linter.unusedSimpArgs false
namespace Go.Proofs.YtjpfmkfikidgkaaGreat
open Go.ChangeShapes Go.WideShapes Go.ChangeAt Go.RowKit Go.Deep
open Go.ChangeMaps (open_string shut_string)
section
variable {H : Type} {enc : TypeId × Value → H} {w : World} {spare : Nat → Bool} {held : Bool}
theorem elem_ed25 : ∀ n cs (d : DataW H) p, DataW.trod enc Tryz.prog w 0 spare held n 146 cs = some (d, p) → ∃ x : Edge.Ed, cs = Edge.encEd x ∧ True := by
  intro n cs d p h
  obtain ⟨hl, hf⟩ := fields_of Tryz.underlying146 (by kernel_rfl) (by kernel_rfl) h
  obtain ⟨v0, y0, m0, g0, f0⟩ := hf 0 _ rfl
  obtain ⟨v1, y1, m1, g1, f1⟩ := hf 1 _ rfl
  obtain ⟨v2, y2, m2, g2, f2⟩ := hf 2 _ rfl
  obtain ⟨a, rfl⟩ := cell_int Tryz.underlying3 f0
  obtain ⟨b, rfl⟩ := cell_int Tryz.underlying3 f1
  obtain ⟨c, rfl⟩ := cell_int Tryz.underlying2 f2
  exact ⟨(a, b, c), list3 hl g0 g1 g2, trivial⟩
end
section
variable {H : Type} {enc : TypeId × Value → H} {w : World} {spare : Nat → Bool} {held : Bool}
theorem okWide_trio25 {P : Program} {w : World} {t n e : Nat} (ht : P.underlying t = some (.array n e)) {r : Reach} {base : Nat} {v : Value} (h : Value.okWide P w r base t v) : ∃ cs, v = .agg cs := by
  simp only [Value.okWide, ht] at h
  obtain ⟨cs, h1, _⟩ := h
  exact ⟨cs, h1⟩
theorem cell_intT25 {k : IntKind} {e : Nat} (ht : Tryz.prog.underlying e = some (.int k)) {n : Nat} {v : Value} {d : DataW H} {p : List MemPlace} (h : DataW.trod enc Tryz.prog w 0 spare held n e [v] = some (d, p)) : ∃ a : Int, v = .int k a ∧ (Lit.int k a).wf = true := by
  obtain ⟨a, ha, _, hw⟩ := DataW.trod_int ht h
  simp only [List.cons.injEq, and_true] at ha
  exact ⟨a, ha, hw⟩
theorem open_trio25 {v : Value} (hval : ∃ cs, v = .agg cs) {d : DataW H} {p : List MemPlace} (h : DataW.Trod enc Tryz.prog w 0 spare held 78 v d p) : ∃ a b c : Int, v = .agg #[.int .i64 a, .int .i64 b, .int .i64 c] ∧ (Lit.int .i64 a).wf = true ∧ (Lit.int .i64 b).wf = true ∧ (Lit.int .i64 c).wf = true := by
  obtain ⟨cs, rfl⟩ := hval
  obtain ⟨fuel, hf⟩ := h
  have hf' : DataW.trod enc Tryz.prog w 0 spare held fuel 78 cs.toList = some (d, p) := by simpa [Value.cells] using hf
  obtain ⟨xs, m, _, _, hl, hx, hi⟩ := DataW.trod_array Tryz.underlying78 hf'
  have hC : Tryz.prog.cellsOf 78 = 3 := by kernel_rfl
  have hE : Tryz.prog.cellsOf 3 = 1 := by kernel_rfl
  rw [hC] at hl
  rw [hE] at hi
  obtain ⟨c0, c1, c2, hcs⟩ : ∃ c0 c1 c2, cs.toList = [c0, c1, c2] := by
    match hh : cs.toList, hl with
    | [a, b, c], _ => exact ⟨a, b, c, rfl⟩
  rw [hcs] at hi
  have i0 := hi 0 (by omega)
  have i1 := hi 1 (by omega)
  have i2 := hi 2 (by omega)
  rw [List.getElem?_eq_getElem (by omega)] at i0 i1 i2
  obtain ⟨a, e0, wa⟩ := cell_intT25 Tryz.underlying3 (v := c0) i0
  obtain ⟨b, e1, wb⟩ := cell_intT25 Tryz.underlying3 (v := c1) i1
  obtain ⟨c, e2, wc⟩ := cell_intT25 Tryz.underlying3 (v := c2) i2
  subst e0
  subst e1
  subst e2
  refine ⟨a, b, c, ?_, wa, wb, wc⟩
  have e : cs = cs.toList.toArray := by simp
  rw [e, hcs]
end
namespace AugmentTells
set_option maxRecDepth 100000 in
theorem lifted (os : Os) (started : os.Started) (H : Type) (enc : TypeId × Value → H) :
    ReturnsInHanded {} Tryz.checked os 6 .any (Rows.augmentTellsSpec.pre6 enc Tryz.prog Tryz.f6 Rows.augmentTellsRow.domain false) (Rows.augmentTellsSpec.post enc Tryz.prog Tryz.f6 false true false false) := by
  refine returnsInHanded_of_change (C := Tryz.checked) own started (by kernel_rfl) Tryz.func6
    (ChangeSpec.witness6 (enc := enc) (C := Tryz.checked) false ⟨#[], #[.int .u8 0, .slice none 0 0, .agg #[.int .i64 0, .int .i64 0, .int .i64 0]], []⟩ 8 (by kernel_rfl) (by kernel_rfl) (by kernel_rfl) (by kernel_rfl)) ?_
  intro W base args ds gs before hval0 hW hcnd _
  have hval : ∀ (j : Nat) t v, Tryz.f6.params[j]? = some t → args[j]? = some v → Value.okWide Tryz.prog W .any base t v := hval0
  have hW' := hW
  obtain ⟨p, q, hA0, hV, rfl, hfz, hnd⟩ := hW
  have hA : DataW.TrodAll enc Tryz.prog W 0 (fun _ => true) true Tryz.f6.params.toList args.toList ds p := hA0
  rw [Tryz.params6] at hA hval
  obtain ⟨v0, vs0, d0, ds0, p0, q0, hargs, rfl, rfl, h0, r0⟩ := trodAll_cons hA
  obtain ⟨v1, vs1, d1, ds1, p1, q1, rfl, rfl, rfl, h1, r1⟩ := trodAll_cons r0
  obtain ⟨v2, vs2, d2, ds2, p2, q2, rfl, rfl, rfl, h2, r2⟩ := trodAll_cons r1
  obtain ⟨rfl, rfl, rfl⟩ := trodAll_nil r2
  obtain rfl : args = #[v0, v1, v2] := by cases args; simp_all
  obtain ⟨rfl, rfl⟩ := trodVars_none hV
  have k0 := h0
  have lt0 : ∀ x ∈ p0, x.block < W.heap.size := by obtain ⟨m, hm⟩ := k0; exact DataW.trod_lt m _ _ _ hm
  have k1 := h1
  have lt1 : ∀ x ∈ p1, x.block < W.heap.size := by obtain ⟨m, hm⟩ := k1; exact DataW.trod_lt m _ _ _ hm
  have k2 := h2
  have lt2 : ∀ x ∈ p2, x.block < W.heap.size := by obtain ⟨m, hm⟩ := k2; exact DataW.trod_lt m _ _ _ hm
  obtain ⟨x0, rfl, _, _, hw0⟩ := open_int Tryz.underlying5 (hval 0 5 v0 rfl rfl) h0
  obtain ⟨n0, hn0, rfl⟩ : ∃ n : Nat, n ≤ 255 ∧ x0 = (n : Int) := ⟨x0.toNat, by have := wf8 hw0; omega, by have := wf8 hw0; omega⟩
  obtain ⟨l1, hrd1⟩ : ∃ l : List Edge.Ed, Rd W 3 v1 l.length (flat Edge.encEd l) := by
    obtain ⟨a, len, cap, rfl⟩ := okWide_slice Tryz.underlying22 (hval 1 22 v1 rfl rfl)
    obtain ⟨fuel, hf⟩ := h1
    obtain ⟨l, hl, hr, _⟩ := open_rd Edge.encEd_len (by omega) Tryz.underlying22 (by kernel_rfl) elem_ed25 hf
    subst hl
    exact ⟨l, hr⟩
  obtain ⟨a2, b2, c2, rfl, wa2, wb2, wc2⟩ := open_trio25 (okWide_trio25 Tryz.underlying78 (hval 2 78 v2 rfl rfl)) h2
  clear hA0 hval0
  refine (Edge.tells25_any n0 hn0 hrd1 a2 b2 c2 (wf64 wc2)).mono fun e W' ⟨he, hm⟩ => ?_
  have bel := hm.below
  subst he
  exact ⟨_, rfl, _, _, _, [], _, [], hW', trodAll_mk1 (shut_bool Tryz.underlying4 _), (trodAll_cons_mk (Below.trod laidOut (by kernel_rfl) (of_decide_eq_true (by kernel_rfl)) k0 bel lt0) (trodAll_cons_mk (Below.trod laidOut (by kernel_rfl) (of_decide_eq_true (by kernel_rfl)) k1 bel lt1) (trodAll_cons_mk (Below.trod laidOut (by kernel_rfl) (of_decide_eq_true (by kernel_rfl)) k2 bel lt2) trodAll_mk0))), rfl, bel.frame _, fun h => by cases h⟩
theorem and2 {a b : Bool} (ha : a = true) (hb : b = true) : (a && b) = true := by rw [ha, hb]; rfl
set_option maxHeartbeats 8000000 in
theorem closed : joinedFacts Tryz.checked.prog 6 Tryz.f6 Rows.augmentTellsSpec Rows.augmentTellsRow = true := by
  unfold joinedFacts
  repeat' (with_reducible apply and2)
  all_goals as_aux_lemma => kernel_rfl
theorem inst : Tryz.f6.isInstance Tryz.checked.prog Rows.augmentTellsRow.origin Rows.augmentTellsRow.targs := of_decide_eq_true (by kernel_rfl)
theorem wrap : Tryz.f6.isWrapper Tryz.checked.prog Rows.augmentTellsRow.wrapper Rows.augmentTellsRow.mainSum := by unfold Func.isWrapper; first | (rw [if_pos (by decide +kernel)]; kernel_rfl) | (rw [if_neg (by decide +kernel)]; exact ⟨rfl, rfl⟩)
theorem proved : Rows.AugmentTellsSaid :=
  OpenClaim.holds_of_wide 6 Tryz.f6 rfl rfl rfl rfl rfl rfl rfl ⟨rfl, rfl, rfl, rfl, rfl⟩ rfl rfl rfl rfl rfl (by kernel_rfl) Tryz.func6 closed inst wrap
    (fun os started H enc _ => lifted os started H enc)
end AugmentTells
end Go.Proofs.YtjpfmkfikidgkaaGreat
