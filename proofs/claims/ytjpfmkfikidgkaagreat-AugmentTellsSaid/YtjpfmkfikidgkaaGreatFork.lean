/- Regions that draw their order: what is quiet first; then one by one, or two that may come up in either order. -/
import Derived.Test.YtjpfmkfikidgkaaGreatSched
set_option linter.unusedVariables false
set_option linter.unusedSimpArgs false
namespace Go.Proofs.YtjpfmkfikidgkaaGreat
open Go.RowKit
section
variable {P : Program} {G : World → World → Prop} {Q : Exit → Act → World → Prop} {S : World → Prop} {l : List Oper}
def stepO (P : Program) (l : List Oper) (Q : Exit → Act → World → Prop) (S : World → Prop) (n : Nat) (listed : Array Bool) (b : Nat) (o : Oper) (a : Act) (w : World) : Prop :=
  ∀ K : Act → World → Prop, Hid (∀ a'' w'', S w'' → wpAnyH P .any l.toArray Q S n (listed.setIfInBounds b true) a'' w'' → K a'' w'') → if Region.wanted o (yielded l.toArray a.tmps) = true then o.wp P a w K Q else K (a.put o.dst undef) w
theorem op_of_step {n b : Nat} {listed : Array Bool} {a : Act} {w : World} {o : Oper} (ho : l[b]? = some o) (h : stepO P l Q S n listed b o a w) :
    wpOp P l.toArray Q b (fun a' w' => S w' ∧ wpAnyH P .any l.toArray Q S n (listed.setIfInBounds b true) a' w') a w := by
  have h2 := h (fun a' w' => S w' ∧ wpAnyH P .any l.toArray Q S n (listed.setIfInBounds b true) a' w') (show Hid _ from fun a'' w'' h1 h2 => ⟨h1, h2⟩)
  unfold Go.wpOp
  simp only [List.getElem?_toArray, ho]
  by_cases hw : Region.wanted o (yielded l.toArray a.tmps) = true
  · rw [if_pos hw] at h2 ⊢
    exact .inl h2
  · rw [if_neg hw] at h2 ⊢
    exact h2
theorem tail_one {n : Nat} {listed : Array Bool} {a : Act} {w : World} (b : Nat) {o : Oper} (hr : Region.ready .any l.toArray listed = [b]) (ho : l[b]? = some o) (h : stepO P l Q S n listed b o a w) :
    wpAnyH P .any l.toArray Q S (n + 1) listed a w :=
  wpAnyH_all hr (by simp) fun i hi => by
    rw [List.mem_singleton] at hi
    subst hi
    exact op_of_step ho h
theorem tail_two {n : Nat} {listed : Array Bool} {a : Act} {w : World} (b c : Nat) {o o' : Oper} (hr : Region.ready .any l.toArray listed = [b, c]) (ho : l[b]? = some o) (ho' : l[c]? = some o')
    (h1 : stepO P l Q S n listed b o a w) (h2 : stepO P l Q S n listed c o' a w) : wpAnyH P .any l.toArray Q S (n + 1) listed a w :=
  wpAnyH_all hr (by simp) fun i hi => by
    simp only [List.mem_cons, List.mem_nil_iff, or_false] at hi
    rcases hi with rfl | rfl
    · exact op_of_step ho h1
    · exact op_of_step ho' h2
theorem tail_done {n : Nat} {listed : Array Bool} {a : Act} {w : World} (hr : Region.ready .any l.toArray listed = []) (h : Q .normal a w) : wpAnyH P .any l.toArray (NoPanic Q) S n listed a w := wpAnyH_done hr (show NoPanic Q .normal a w from h) n
theorem region_head {id : Nat} {a : Act} {w : World} (is : List Nat) (listed' : Array Bool) (n : Nat) (hm : P.follows .mixedOrders = true) (hs : Region.noSelect l.toArray = true) (hB : segB .any l.toArray is (Array.replicate l.length false) = some listed') (hc : n + is.length = l.length)
    (hG : ∀ w, G w w) (h : wpQuiet P l.toArray (fun w' => ∃ m : Fut G w.drew, w' = m.v) (fun a' => wpAnyH P .any l.toArray (NoPanic Q) (G w.drew) n listed' a' w.drew) (pickO l is) a) : (Code.region id l.toArray true).wp P Q a w := by
  refine wp_region_noPanic ?_
  refine wp_region_held (S := G w.drew) hm ?_
  rw [pickO_eq] at h
  have := seg_take (P := P) (md := .any) (G := G) (Q := NoPanic Q) (w := w.drew) hs (fun _ _ _ _ _ h => h) hG is _ listed' n a hB h (fun a' h => h)
  rw [hc] at this
  simpa using this
end
end Go.Proofs.YtjpfmkfikidgkaaGreat
