/- Whether a flow may be, as plain things. -/
import Derived.Test.YtjpfmkfikidgkaaGreatResLaw
set_option linter.unusedVariables false
set_option linter.unusedSimpArgs false
namespace Go.Proofs.YtjpfmkfikidgkaaGreat
open Go.RowKit
namespace Edge
def fbB : List Ed → List Int → Bool
  | [], [] => true
  | e :: l, x :: f => decide (-e.2.2 ≤ x) && decide (x ≤ e.2.2) && fbB l f
  | _, _ => false
theorem fbB_iff : ∀ {L : List Ed} {f : List Int}, fbB L f = true ↔ FB L f
  | [], [] => by simp [fbB, FB]
  | [], _ :: _ => by simp [fbB, FB]
  | _ :: _, [] => by simp [fbB, FB]
  | e :: l, x :: f => by simp [fbB, FB, fbB_iff (L := l) (f := f)]
theorem fbB_len {L : List Ed} {f : List Int} (h : f.length ≠ L.length) : fbB L f = false := by
  cases hb : fbB L f with
  | false => rfl
  | true => exact absurd (fbB_iff.1 hb).len h
theorem fb_of : ∀ {L : List Ed} {f : List Int}, f.length = L.length → (∀ (k : Nat) (hk : k < L.length), -L[k].2.2 ≤ f.getD k 0 ∧ f.getD k 0 ≤ L[k].2.2) → FB L f
  | [], [], _, _ => trivial
  | [], x :: f, h, _ => by simp at h
  | e :: l, [], h, _ => by simp at h
  | e :: l, x :: f, h, hk => ⟨hk 0 (Nat.zero_lt_succ _), fb_of (by simpa using h) (fun k h1 => hk (k + 1) (Nat.succ_lt_succ h1))⟩
theorem fbB_no {L : List Ed} {f : List Int} {k : Nat} (hk : k < L.length) (h : ¬ (-L[k].2.2 ≤ f.getD k 0 ∧ f.getD k 0 ≤ L[k].2.2)) : fbB L f = false := by
  cases hb : fbB L f with
  | false => rfl
  | true => exact absurd ((fbB_iff.1 hb).get k hk) h
/-- What stays anywhere, of any flow; and whether it may be. -/
def excP (n : Nat) (L : List Ed) (f : List Int) : List Int := if fbB L f = true then overL n L f else []
/-- How much is carried, or why none. -/
def zeroB (n : Nat) (L : List Ed) (f : List Int) (s t : Int) : Bool := (List.range n).all fun (v : Nat) => decide ((v : Int) = s) || decide ((v : Int) = t) || decide (exc L f (v : Int) = 0)
def carE (n : Nat) (L : List Ed) (f : List Int) (s t : Int) : Int :=
  if ¬ (0 ≤ s ∧ s < n ∧ 0 ≤ t ∧ t < n) then 4 else if s = t then 6 else if fbB L f = true ∧ 0 ≤ exc L f t ∧ zeroB n L f s t = true then 0 else 14
def carW (n : Nat) (L : List Ed) (f : List Int) (s t : Int) : Int := if carE n L f s t = 0 then exc L f t else 0
def flowE (n : Nat) (L : List Ed) (f : List Int) (s t W : Int) : Int := if carE n L f s t = 0 then (if carW n L f s t = W then 0 else 14) else carE n L f s t
theorem total_tkF {L : List Ed} (h : ∀ e ∈ L, 0 ≤ e.2.2) : ∀ k, 0 ≤ total (L.take k) ∧ total (L.take k) ≤ total L := by
  induction L with
  | nil => simp [total]
  | cons e l ih =>
    intro k
    have h1 : 0 ≤ e.2.2 := h e (by simp)
    have h2 := ih (fun x hx => h x (by simp [hx]))
    cases k with
    | zero =>
      have := h2 l.length
      simp only [List.take_zero, total, List.take_length] at this ⊢
      omega
    | succ k =>
      have := h2 k
      simp only [List.take_succ_cons, total]
      omega
theorem overL_get0 {n : Nat} {L : List Ed} {f : List Int} {v : Nat} (h : v < n) : (overL n L f).getD v 0 = exc L f (v : Int) := by
  unfold overL
  rw [List.getD_eq_getElem?_getD, List.getElem?_map, List.getElem?_range h]; rfl
end Edge
end Go.Proofs.YtjpfmkfikidgkaaGreat
