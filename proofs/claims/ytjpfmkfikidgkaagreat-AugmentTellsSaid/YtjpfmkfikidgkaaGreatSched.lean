/- Regions that draw their order and hold calls: operations that yield the same in every later world are taken first, stage by stage; a call comes up alone. -/
import Derived.OrdersHeld
import Derived.Deep.Quiet
import Derived.BigQuiet
import Derived.Deep.RegionHeld3
import Derived.Test.YtjpfmkfikidgkaaGreatKit
set_option linter.unusedVariables false
set_option linter.unusedSimpArgs false
namespace Go.Proofs.YtjpfmkfikidgkaaGreat
open Go.RowKit
/-- A world that may come behind w. -/
structure Fut (G : World → World → Prop) (w : World) where
  v : World
  of : G w v
instance (F : List Nat) (w : World) : Nonempty (Fut (Mod F) w) := ⟨⟨w, Mod.refl F w⟩⟩
def Cls (G : World → World → Prop) (w : World) : World → Prop := fun w' => ∃ m : Fut G w, w' = m.v
/-- Operations that yield a value and nothing else. -/
def stillOp (o : Oper) : Bool := match o.op with
  | .call ⟨.builtin .len, _, _⟩ => true
  | .nilCheck _ => true
  | .move _ | .assign _ | .pick .. | .load .. | .binOp .. | .unOp .. | .convert .. | .slice .. | .fieldAddr .. | .field .. | .indexAddr .. | .extract .. | .build .. | .makeInterface .. => true
  | _ => false
theorem andThen_ok {α β : Type} {r : Result α} {k : α → World → Result β} {n : β} {w' : World} (h : r.andThen k = .ok n w') : ∃ a w1, k a w1 = .ok n w' := by
  cases r with
  | ok a w1 => exact ⟨a, w1, h⟩
  | halt x w1 => exact absurd h (by simp [Result.andThen])
theorem value_one {r : Result Value} {n : Next} {w' : World} (h : (r.andThen fun a w' => Result.ok (Next.value a) w') = .ok n w') : ∃ u, n = .value u := by
  obtain ⟨a, w1, h⟩ := andThen_ok h
  simp only [Result.ok.injEq] at h
  exact ⟨_, h.1.symm⟩
section
variable {P : Program} {ops : Array Oper} {md : Region.Mode} {G : World → World → Prop} {Q : Exit → Act → World → Prop}
theorem held_mono {S S' : World → Prop} (h : ∀ w, S' w → S w) : ∀ (fuel : Nat) (listed : Array Bool) (a : Act) (w : World), wpAnyH P md ops Q S' fuel listed a w → wpAnyH P md ops Q S fuel listed a w
  | 0, _, _, _, k => k
  | fuel + 1, _, _, _, k => ⟨k.1, fun i hi => wpOp_mono (fun a' w' k' => ⟨h _ k'.1, held_mono h fuel _ a' w' k'.2⟩) (k.2 i hi)⟩
def wpSched (P : Program) (ops : Array Oper) (G : World → World → Prop) (Q : Exit → Act → World → Prop) : List (List Oper × Oper) → List Oper → Act → World → Prop
  | [], last, a, w => wpQuiet P ops (Cls G w) (fun a' => Q .normal a' w) last a
  | (seg, b) :: rest, last, a, w => wpQuiet P ops (Cls G w) (fun a' => ∀ K : Act → World → Prop, Hid (∀ a'' w'', G w w'' → wpSched P ops G Q rest last a'' w'' → K a'' w'') → if Region.wanted b (yielded ops a'.tmps) = true then b.wp P a' w K Q else K (a'.put b.dst undef) w) seg a
def segB (md : Region.Mode) (ops : Array Oper) : List Nat → Array Bool → Option (Array Bool)
  | [], listed => some listed
  | i :: is, listed => if (Region.ready md ops listed).contains i && Region.free md ops listed i && ((ops[i]?).map stillOp).getD false then segB md ops is (listed.setIfInBounds i true) else none
def schedB (md : Region.Mode) (ops : Array Oper) : List (List Nat × Nat) → List Nat → Array Bool → Bool
  | [], last, listed => match segB md ops last listed with
    | some l' => (Region.ready md ops l').isEmpty
    | none => false
  | (is, b) :: rest, last, listed => match segB md ops is listed with
    | some l' => (Region.ready md ops l' == [b]) && ((ops[b]?).isSome) && schedB md ops rest last (l'.setIfInBounds b true)
    | none => false
theorem len_value {P : Program} {o : Oper} {xs : Array Operand} {ts : Array TypeId} (ho : o.op = .call ⟨.builtin .len, xs, ts⟩) {ρ : Operand → Value} {w w' : World} {n : Next} (h : (execOp ρ o).run P w = .ok n w') : ∃ u, n = .value u := by
  have e : (execOp ρ o).run P w = ((Builtin.len_ ts o.type (xs.map ρ)).run P w).andThen fun a w' => .ok (.value a) w' := by
    have e1 : execOp ρ o = resolve ρ ⟨.builtin .len, xs, ts⟩ o.type >>= fun d => invoke d.target d.args := by
      unfold execOp
      rw [ho]
    rw [e1, Sem.run_bind]
    have e2 : (resolve ρ ⟨.builtin .len, xs, ts⟩ o.type).run P w = .ok { target := .builtin .len ts o.type (xs.map fun | .const _ => true | _ => false), args := xs.map ρ } w := rfl
    rw [e2]
    have e3 : ∀ cs, invoke (.builtin .len ts o.type cs) (xs.map ρ) = Builtin.len_ ts o.type (xs.map ρ) >>= fun v => pure (.value v) := fun cs => rfl
    simp only [Result.andThen, e3, Sem.run_bind]
    rfl
  rw [e] at h
  exact value_one h
theorem nil_value {P : Program} {o : Oper} {x : Operand} (ho : o.op = .nilCheck x) {ρ : Operand → Value} {w w' : World} {n : Next} (h : (execOp ρ o).run P w = .ok n w') : ∃ u, n = .value u := by
  unfold execOp at h
  rw [ho] at h
  simp only at h
  split at h
  · simp [go_sem] at h
  · simp [go_sem] at h
  · simp [go_sem] at h
  · split at h
    · simp [go_sem] at h
    · simp only [Sem.run_bind] at h
      obtain ⟨a, w1, h⟩ := andThen_ok h
      obtain ⟨b, w2, h⟩ := andThen_ok h
      split at h
      · simp only [Sem.run_bind] at h
        obtain ⟨c, w3, h⟩ := andThen_ok h
        simp only [Sem.run_pure, Result.ok.injEq] at h
        exact ⟨_, h.1.symm⟩
      · simp only [Sem.run_pure, Result.ok.injEq] at h
        exact ⟨_, h.1.symm⟩
    · simp only [Sem.run_pure, Result.ok.injEq] at h
      exact ⟨_, h.1.symm⟩
  · simp only [Sem.run_pure, Result.ok.injEq] at h
    exact ⟨_, h.1.symm⟩
theorem still_value {o : Oper} (hs : stillOp o = true) {ρ : Operand → Value} {w w' : World} {n : Next} (h : (execOp ρ o).run P w = .ok n w') : ∃ u, n = .value u := by
  by_cases hl : ∃ xs ts, o.op = .call ⟨.builtin .len, xs, ts⟩
  · obtain ⟨xs, ts, ho⟩ := hl
    exact len_value ho h
  by_cases hn : ∃ x, o.op = .nilCheck x
  · obtain ⟨x, ho⟩ := hn
    exact nil_value ho h
  unfold stillOp at hs
  unfold execOp at h
  split at h <;> simp_all <;> first
    | exact value_one h
    | exact ⟨_, h.1.symm⟩
    | (obtain ⟨a, w1, h⟩ := andThen_ok h; first | exact value_one h | (simp only [Result.ok.injEq] at h; exact ⟨_, h.1.symm⟩))
theorem yields_of {o : Oper} (hs : stillOp o = true) {v : Value} {a : Act} {w : World} (hw : Region.wanted o (yielded ops a.tmps) = true) (h : ∀ w', Cls G w w' → o.quietAt P a (Cls G w) w' v) : YieldsIf P ops (G w) o v a := by
  refine .inl ⟨hw, fun w' hw' => ?_⟩
  have h1 := h w' ⟨⟨w', hw'⟩, rfl⟩
  unfold Oper.quietAt at h1
  cases hr : (execOp a.eval o).run P w' with
  | ok n w'' =>
    rw [hr] at h1
    obtain ⟨u, rfl⟩ := still_value hs hr
    simp only [Oper.quietUpon] at h1
    obtain ⟨rfl, rfl⟩ := h1
    rfl
  | halt x w'' => rw [hr] at h1; simp [Oper.quietUpon] at h1
theorem seg_take (hs : Region.noSelect ops = true) (hQ : ∀ c a d v w, Q (.panic c) (Act.put a d v) w → Q (.panic c) a w) (hG : ∀ w, G w w) {Kq : Act → Prop} {w : World} :
    ∀ (is : List Nat) (listed listed' : Array Bool) (fuel : Nat) (a : Act), segB md ops is listed = some listed' → wpQuiet P ops (Cls G w) Kq (is.filterMap (ops[·]?)) a →
      (∀ a', Kq a' → wpAnyH P md ops Q (G w) fuel listed' a' w) → wpAnyH P md ops Q (G w) (fuel + is.length) listed a w
  | [], listed, listed', fuel, a, hB, h, hK => by
    simp only [segB, Option.some.injEq] at hB
    subst hB
    exact hK _ h
  | i :: is, listed, listed', fuel, a, hB, h, hK => by
    unfold segB at hB
    split at hB
    case isFalse => exact absurd hB (by simp)
    rename_i hc
    simp only [Bool.and_eq_true] at hc
    obtain ⟨⟨hr, hf⟩, hst⟩ := hc
    obtain ⟨o, ho⟩ : ∃ o, ops[i]? = some o := by
      cases hx : ops[i]? with
      | none => simp [hx] at hst
      | some o => exact ⟨o, rfl⟩
    simp only [ho, Option.map_some, Option.getD_some] at hst
    simp only [List.filterMap_cons, ho] at h
    unfold wpQuiet at h
    have ih : ∀ v, wpQuiet P ops (Cls G w) Kq (is.filterMap (ops[·]?)) (a.put o.dst v) → wpAnyH P md ops Q (G w) (fuel + is.length) (listed.setIfInBounds i true) (a.put o.dst v) w :=
      fun v hv => seg_take hs hQ hG is _ listed' fuel _ hB hv hK
    rw [List.length_cons, ← Nat.add_assoc]
    by_cases hw : Region.wanted o (yielded ops a.tmps) = true
    · rw [if_pos hw] at h
      obtain ⟨v, h1, h2⟩ := h
      exact wpAnyH_take ho hs hf hr (fun c a w => hQ c a _ _ w) (yields_of hst hw h1) (hG w) (ih v h2)
    · rw [if_neg hw] at h
      exact wpAnyH_take ho hs hf hr (fun c a w => hQ c a _ _ w) (.inr ⟨by simpa using hw, rfl⟩) (hG w) (ih undef h)
def countS : List (List Nat × Nat) → Nat
  | [] => 0
  | (is, _) :: rest => countS rest + 1 + is.length
theorem sched_held (hs : Region.noSelect ops = true) (hQ : ∀ c a d v w, Q (.panic c) (Act.put a d v) w → Q (.panic c) a w) (hG : ∀ w, G w w) (hT : ∀ w1 w2 w3, G w1 w2 → G w2 w3 → G w1 w3) (last : List Nat) :
    ∀ (ps : List (List Nat × Nat)) (listed : Array Bool) (a : Act) (w : World), schedB md ops ps last listed = true →
      wpSched P ops G Q (ps.map fun p => (p.1.filterMap (ops[·]?), (ops[p.2]?).getD default)) (last.filterMap (ops[·]?)) a w →
      wpAnyH P md ops Q (G w) (countS ps + last.length) listed a w
  | [], listed, a, w, hB, h => by
    unfold schedB at hB
    split at hB
    case h_2 => exact absurd hB (by simp)
    rename_i l' hl'
    simp only [countS]
    exact seg_take hs hQ hG last listed l' 0 a hl' h (fun a' hk => wpAnyH_done (by simpa using hB) hk _)
  | (is, b) :: rest, listed, a, w, hB, h => by
    unfold schedB at hB
    split at hB
    case h_2 => exact absurd hB (by simp)
    rename_i l' hl'
    simp only [Bool.and_eq_true, beq_iff_eq] at hB
    obtain ⟨⟨hr, hsm⟩, hB⟩ := hB
    obtain ⟨o, ho⟩ := Option.isSome_iff_exists.1 hsm
    simp only [List.map_cons, ho, Option.getD_some] at h
    unfold wpSched at h
    have e : countS ((is, b) :: rest) + last.length = (countS rest + last.length + 1) + is.length := by simp only [countS]; omega
    rw [e]
    refine seg_take hs hQ hG is listed l' _ a hl' h (fun a' hk => ?_)
    refine wpAnyH_all hr (by simp) fun i hi => ?_
    rw [List.mem_singleton] at hi
    subst hi
    have h2 := hk (fun a' w' => G w w' ∧ wpAnyH P md ops Q (G w) (countS rest + last.length) (l'.setIfInBounds i true) a' w')
      (show Hid _ from fun a'' w'' hg hw => ⟨hg, held_mono (fun w3 h3 => hT _ _ _ hg h3) _ _ _ _ (sched_held hs hQ hG hT last rest _ a'' w'' hB hw)⟩)
    unfold Go.wpOp
    simp only [ho]
    by_cases hw : Region.wanted o (yielded ops a'.tmps) = true
    · rw [if_pos hw] at h2 ⊢
      exact .inl h2
    · rw [if_neg hw] at h2 ⊢
      exact h2
/-- The operations of a stage. -/
def nthO : List Oper → Nat → List Oper
  | o :: _, 0 => [o]
  | _ :: l, n + 1 => nthO l n
  | [], _ => []
def pickO (l : List Oper) : List Nat → List Oper
  | [] => []
  | i :: is => nthO l i ++ pickO l is
def headO : List Oper → Oper
  | o :: _ => o
  | [] => default
def stages (l : List Oper) : List (List Nat × Nat) → List (List Oper × Oper)
  | [] => []
  | (is, b) :: rest => (pickO l is, headO (nthO l b)) :: stages l rest
theorem nthO_get : ∀ (l : List Oper) (i : Nat), nthO l i = (l[i]?).toList
  | [], _ => by simp [nthO]
  | o :: _, 0 => by simp [nthO]
  | _ :: l, n + 1 => by simp [nthO, nthO_get l n]
theorem pickO_eq (l : List Oper) : ∀ is : List Nat, pickO l is = is.filterMap (l.toArray[·]?)
  | [] => rfl
  | i :: is => by
    rw [pickO, nthO_get, pickO_eq l is, List.filterMap_cons]
    simp only [List.getElem?_toArray]
    cases l[i]? <;> rfl
theorem stages_eq (l : List Oper) : ∀ ps : List (List Nat × Nat), stages l ps = ps.map fun p => (p.1.filterMap (l.toArray[·]?), (l.toArray[p.2]?).getD default)
  | [] => rfl
  | (is, b) :: rest => by
    rw [stages, stages_eq l rest, pickO_eq, nthO_get]
    simp only [List.map_cons, List.getElem?_toArray]
    cases l[b]? <;> rfl
theorem region_sched {id : Nat} {a : Act} {w : World} {l : List Oper} (ps : List (List Nat × Nat)) (last : List Nat) (hm : P.follows .mixedOrders = true) (hs : Region.noSelect l.toArray = true) (hB : schedB .any l.toArray ps last (Array.replicate l.length false) = true) (hc : countS ps + last.length = l.length)
    (hG : ∀ w, G w w) (hT : ∀ w1 w2 w3, G w1 w2 → G w2 w3 → G w1 w3)
    (h : wpSched P l.toArray G (NoPanic Q) (stages l ps) (pickO l last) a w.drew) : (Code.region id l.toArray true).wp P Q a w := by
  refine wp_region_noPanic ?_
  refine wp_region_held (S := G w.drew) hm ?_
  rw [stages_eq, pickO_eq] at h
  have := sched_held hs (fun _ _ _ _ _ h => h) hG hT last ps _ a w.drew hB h
  rw [hc] at this
  simpa using this
theorem sched_step {seg : List Oper} {b : Oper} {rest : List (List Oper × Oper)} {last : List Oper} {a : Act} {w : World}
    (h : wpQuiet P ops (fun w' => ∃ m : Fut G w, w' = m.v) (fun a' => ∀ K : Act → World → Prop, Hid (∀ a'' w'', G w w'' → wpSched P ops G Q rest last a'' w'' → K a'' w'') → if Region.wanted b (yielded ops a'.tmps) = true then b.wp P a' w K Q else K (a'.put b.dst undef) w) seg a) :
    wpSched P ops G Q ((seg, b) :: rest) last a w := h
theorem sched_last {last : List Oper} {a : Act} {w : World}
    (h : wpQuiet P ops (fun w' => ∃ m : Fut G w, w' = m.v) (fun a' => Q .normal a' w) last a) : wpSched P ops G (NoPanic Q) [] last a w := h
end
end Go.Proofs.YtjpfmkfikidgkaaGreat
