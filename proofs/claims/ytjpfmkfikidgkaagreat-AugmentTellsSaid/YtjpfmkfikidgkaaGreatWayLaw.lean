/- The shortest way, and its room, as plain things. -/
import Derived.Test.YtjpfmkfikidgkaaGreatLevLaw
set_option linter.unusedVariables false
set_option linter.unusedSimpArgs false
namespace Go.Proofs.YtjpfmkfikidgkaaGreat
open Go.RowKit
namespace Edge
section
variable {n : Nat} {L : List Ed} {f D : List Int}
/-- An arc along which something may go, and that leads nearer. -/
def gdW (L : List Ed) (f D : List Int) (v x : Nat) : Prop := 0 < leftE L f x ∧ D.getD (headE L x).toNat 0 = D.getD v 0 - 1
def goodW (L : List Ed) (f D : List Int) (v i : Nat) : Prop := (i < 2 * L.length ∧ tailE L i = (v : Int)) ∧ gdW L f D v i
def IsBest (L : List Ed) (f D : List Int) (v b : Nat) : Prop := goodW L f D v b ∧ ∀ x, goodW L f D v x → b ≤ x
inductive IsWay (L : List Ed) (f D : List Int) : Nat → Nat → List Nat → Prop
  | nil (v : Nat) : IsWay L f D 0 v []
  | cons {k v b h : Nat} {l : List Nat} : IsBest L f D v b → headE L b = (h : Int) → IsWay L f D k h l → IsWay L f D (k + 1) v (b :: l)
theorem IsWay.one {k v : Nat} {l m : List Nat} (h1 : IsWay L f D k v l) (h2 : IsWay L f D k v m) : l = m := by
  induction h1 generalizing m with
  | nil v => cases h2; rfl
  | @cons k v b h l hb hh _ ih =>
    cases h2 with
    | @cons _ _ b' h' m' hb' hh' hw =>
      have : b = b' := by
        have h3 := hb.2 b' hb'.1
        have h4 := hb'.2 b hb.1
        omega
      subst this
      have : h = h' := by rw [hh] at hh'; omega
      subst this
      rw [ih hw]
theorem IsWay.len {k v : Nat} {l : List Nat} (h : IsWay L f D k v l) : l.length = k := by
  induction h with
  | nil => rfl
  | cons _ _ _ ih => simp [ih]
theorem IsWay.arcs {k v : Nat} {l : List Nat} (h : IsWay L f D k v l) : ∀ i ∈ l, i < 2 * L.length ∧ 0 < leftE L f i := by
  induction h with
  | nil => simp
  | @cons k v b h l hb _ _ ih =>
    intro i hi
    rcases List.mem_cons.1 hi with rfl | hi
    · exact ⟨hb.1.1.1, hb.1.2.1⟩
    · exact ih i hi
/-- The best of some arcs. -/
def BestIn (L : List Ed) (f D : List Int) (v : Nat) (S : List Nat) (best : Int) : Prop := (best = -1 ∧ ∀ x ∈ S, ¬ gdW L f D v x) ∨ ∃ b : Nat, best = b ∧ b ∈ S ∧ gdW L f D v b ∧ ∀ x ∈ S, gdW L f D v x → b ≤ x
theorem BestIn.nil (v : Nat) : BestIn L f D v [] (-1) := .inl ⟨rfl, by simp⟩
theorem BestIn.ge {v : Nat} {S : List Nat} {best : Int} (h : BestIn L f D v S best) : -1 ≤ best := by
  rcases h with ⟨rfl, _⟩ | ⟨b, rfl, _⟩ <;> omega
theorem BestIn.no {v x : Nat} {S : List Nat} {best : Int} (h : BestIn L f D v S best) (hx : ¬ gdW L f D v x) : BestIn L f D v (S ++ [x]) best := by
  rcases h with ⟨rfl, h⟩ | ⟨b, rfl, h1, h2, h3⟩
  · refine .inl ⟨rfl, fun y hy => ?_⟩
    rcases List.mem_append.1 hy with hy | hy
    · exact h y hy
    · rw [List.mem_singleton] at hy; subst hy; exact hx
  · refine .inr ⟨b, rfl, by simp [h1], h2, fun y hy hg => ?_⟩
    rcases List.mem_append.1 hy with hy | hy
    · exact h3 y hy hg
    · rw [List.mem_singleton] at hy; subst hy; exact absurd hg hx
theorem BestIn.new {v x : Nat} {S : List Nat} {best : Int} (h : BestIn L f D v S best) (hx : gdW L f D v x) (hl : best < 0 ∨ (x : Int) < best) : BestIn L f D v (S ++ [x]) x := by
  refine .inr ⟨x, rfl, by simp, hx, fun y hy hg => ?_⟩
  rcases List.mem_append.1 hy with hy | hy
  · rcases h with ⟨rfl, h⟩ | ⟨b, rfl, h1, h2, h3⟩
    · exact absurd hg (h y hy)
    · have := h3 y hy hg; omega
  · rw [List.mem_singleton] at hy; omega
theorem BestIn.old {v x : Nat} {S : List Nat} {best : Int} (h : BestIn L f D v S best) (hl : 0 ≤ best) (hx : best ≤ (x : Int)) : BestIn L f D v (S ++ [x]) best := by
  rcases h with ⟨rfl, h⟩ | ⟨b, rfl, h1, h2, h3⟩
  · omega
  · refine .inr ⟨b, rfl, by simp [h1], h2, fun y hy hg => ?_⟩
    rcases List.mem_append.1 hy with hy | hy
    · exact h3 y hy hg
    · rw [List.mem_singleton] at hy; omega
theorem BestIn.all {v t : Nat} (hG : GOk n L) (hD : LevTo n (Arc L f) t D) (hv : v < n) (hk : 0 < D.getD v 0) {best : Int} (h : BestIn L f D v (ofS n L v) best) : ∃ b : Nat, best = b ∧ IsBest L f D v b := by
  obtain ⟨y, ⟨i, hi, ht, hh, hl⟩, hy⟩ := (hD.2 v hv).next hk
  have hyn := (arc_lt hG (show Arc L f v y from ⟨i, hi, ht, hh, hl⟩)).2
  have hg : gdW L f D v i := ⟨hl, by rw [hh, Int.toNat_natCast]; exact (hD.2 y hyn).one hy⟩
  have him : i ∈ ofS n L v := (mem_ofS hG).2 ⟨hi, ht⟩
  rcases h with ⟨_, h⟩ | ⟨b, rfl, h1, h2, h3⟩
  · exact absurd hg (h i him)
  · exact ⟨b, rfl, ⟨(mem_ofS hG).1 h1, h2⟩, fun x hx => h3 x ((mem_ofS hG).2 hx.1) hx.2⟩
/-- The way from any number. -/
def WayP (n : Nat) (L : List Ed) (f D : List Int) (s : Int) (l : List Nat) : Prop := if 0 ≤ s ∧ s < n ∧ 1 ≤ D.getD s.toNat 0 then IsWay L f D (D.getD s.toNat 0).toNat s.toNat l else l = []
theorem WayP.one {s : Int} {l m : List Nat} (h1 : WayP n L f D s l) (h2 : WayP n L f D s m) : l = m := by
  unfold WayP at h1 h2
  split at h1
  · rw [if_pos (by assumption)] at h2; exact h1.one h2
  · rw [if_neg (by assumption)] at h2; rw [h1, h2]
theorem WayP.arcs {s : Int} {l : List Nat} (h : WayP n L f D s l) : ∀ i ∈ l, i < 2 * L.length ∧ 0 < leftE L f i := by
  unfold WayP at h
  split at h
  · exact h.arcs
  · subst h; simp
/-- What may go along arcs. -/
def roomK (L : List Ed) (f : List Int) (l : List Int) : Nat → Int
  | 0 => 0
  | k + 1 => if k = 0 ∨ leftI L f (l.getD k 0) < roomK L f l k then leftI L f (l.getD k 0) else roomK L f l k
def inA (L : List Ed) (i : Int) : Prop := 0 ≤ i ∧ i < 2 * L.length
def roomL (L : List Ed) (f : List Int) (l : List Int) : Int := if ∀ i ∈ l, 0 ≤ i ∧ i < 2 * (L.length : Int) then roomK L f l l.length else 0
theorem roomK_pos {l : List Int} (h : ∀ i ∈ l, 0 < leftI L f i) : ∀ k, k ≤ l.length → 0 < k → 0 < roomK L f l k
  | 0, _, h0 => by omega
  | k + 1, hk, _ => by
    have h1 : 0 < leftI L f (l.getD k 0) := by
      rw [List.getD_eq_getElem?_getD, List.getElem?_eq_getElem (by omega)]
      exact h _ (List.getElem_mem _)
    unfold roomK
    split
    · exact h1
    · rename_i hc
      exact roomK_pos h k (by omega) (by omega)
theorem roomL_pos {l : List Nat} (h : ∀ i ∈ l, i < 2 * L.length ∧ 0 < leftE L f i) (h0 : 0 < l.length) : 0 < roomL L f (ints l) := by
  unfold roomL
  have h1 : ∀ i ∈ ints l, (0 ≤ i ∧ i < 2 * (L.length : Int)) ∧ 0 < leftI L f i := by
    intro i hi
    unfold ints at hi
    obtain ⟨j, hj, rfl⟩ := List.mem_map.1 hi
    have := h j hj
    refine ⟨by omega, ?_⟩
    unfold leftI
    rw [if_pos (by omega), Int.toNat_natCast]
    exact this.2
  rw [if_pos (fun i hi => (h1 i hi).1)]
  exact roomK_pos (fun i hi => (h1 i hi).2) _ (Nat.le_refl _) (by rw [ints_len]; exact h0)
end
end Edge
end Go.Proofs.YtjpfmkfikidgkaaGreat
