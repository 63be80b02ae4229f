/- Several objects side by side, each in blocks of its own that were made since a world w0. -/
import Derived.Test.YtjpfmkfikidgkaaGreatRd
import Derived.Test.YtjpfmkfikidgkaaGreatSched
set_option linter.unusedVariables false
set_option linter.unusedSimpArgs false
namespace Go.Proofs.YtjpfmkfikidgkaaGreat
open Go.RowKit
/-- An object: what it says of a world, and the blocks that it lies in. -/
abbrev Part := World → List Nat → Prop
/-- An object lies in blocks that are there, and stays where these are not touched. -/
class Good (P : Part) : Prop where
  lt : ∀ {w F}, P w F → ∀ b ∈ F, b < w.heap.size
  keep : ∀ {w w' F G}, P w F → Mod G w w' → (∀ b ∈ F, b ∉ G) → P w' F
def Parts (w : World) : List Part → List Nat → Prop
  | [], F => F = []
  | P :: L, F => Good P ∧ ∃ F1 F2, F = F1 ++ F2 ∧ P w F1 ∧ Parts w L F2 ∧ ∀ b ∈ F1, b ∉ F2
theorem Parts.lt {w : World} : ∀ {L : List Part} {F : List Nat}, Parts w L F → ∀ b ∈ F, b < w.heap.size
  | [], F, h, b, hb => by unfold Parts at h; subst h; simp at hb
  | P :: L, F, h, b, hb => by
    obtain ⟨g, F1, F2, rfl, h1, h2, h3⟩ := h
    rcases List.mem_append.1 hb with hb | hb
    · exact g.lt h1 b hb
    · exact Parts.lt h2 b hb
theorem Parts.keep {w w' : World} {G : List Nat} (m : Mod G w w') : ∀ {L : List Part} {F : List Nat}, Parts w L F → (∀ b ∈ F, b ∉ G) → Parts w' L F
  | [], F, h, _ => h
  | P :: L, F, h, hd => by
    obtain ⟨g, F1, F2, rfl, h1, h2, h3⟩ := h
    exact ⟨g, F1, F2, rfl, g.keep h1 m (fun b hb => hd b (by simp [hb])), Parts.keep m h2 (fun b hb => hd b (by simp [hb])), h3⟩
theorem Parts.perm {w : World} {L L' : List Part} (p : L.Perm L') : ∀ {F : List Nat}, Parts w L F → ∃ F', Parts w L' F' ∧ ∀ b, b ∈ F' ↔ b ∈ F := by
  induction p with
  | nil => exact fun h => ⟨_, h, fun _ => Iff.rfl⟩
  | cons P _ ih =>
    intro F h
    obtain ⟨g, F1, F2, rfl, h1, h2, h3⟩ := h
    obtain ⟨F2', h4, h5⟩ := ih h2
    exact ⟨F1 ++ F2', ⟨g, F1, F2', rfl, h1, h4, fun b hb hb' => h3 b hb ((h5 b).1 hb')⟩, fun b => by simp [h5]⟩
  | swap P Q L =>
    intro F h
    obtain ⟨g, F1, F2, rfl, h1, ⟨g', F3, F4, rfl, h4, h5, h6⟩, h3⟩ := h
    refine ⟨F3 ++ (F1 ++ F4), ⟨g', F3, F1 ++ F4, rfl, h4, ⟨g, F1, F4, rfl, h1, h5, fun b hb hb' => h3 b hb (by simp [hb'])⟩, fun b hb hb' => ?_⟩, fun b => by simp only [List.mem_append]; exact or_left_comm⟩
    rcases List.mem_append.1 hb' with hb' | hb'
    · exact h3 b hb' (by simp [hb])
    · exact h6 b hb hb'
  | trans _ _ ih1 ih2 =>
    intro F h
    obtain ⟨F', h1, h2⟩ := ih1 h
    obtain ⟨F'', h3, h4⟩ := ih2 h1
    exact ⟨F'', h3, fun b => (h4 b).trans (h2 b)⟩
/-- The objects of L were made behind w0, and nothing that was there has changed. -/
structure Sep (w0 w : World) (L : List Part) : Prop where
  mk ::
  out : ∃ F, Parts w L F ∧ Mod [] w0 w ∧ ∀ b ∈ F, w0.heap.size ≤ b
theorem Sep.empty (w : World) : Sep w w [] := ⟨[], rfl, Mod.refl _ _, by simp⟩
theorem Sep.mod {w0 w : World} {L : List Part} (h : Sep w0 w L) : Mod [] w0 w := h.out.choose_spec.2.1
theorem Sep.still {w0 w w' : World} {L : List Part} (h : Sep w0 w L) (m : Mod [] w w') : Sep w0 w' L := by
  obtain ⟨F, h1, h2, h3⟩ := h.out
  exact ⟨F, h1.keep m (by simp), h2.trans m (by simp), h3⟩
theorem Sep.perm {w0 w : World} {L L' : List Part} (h : Sep w0 w L) (p : L.Perm L') : Sep w0 w L' := by
  obtain ⟨F, h1, h2, h3⟩ := h.out
  obtain ⟨F', h4, h5⟩ := h1.perm p
  exact ⟨F', h4, h2, fun b hb => h3 b ((h5 b).1 hb)⟩
theorem Sep.swap {w0 w : World} {P Q : Part} {L : List Part} (h : Sep w0 w (P :: Q :: L)) : Sep w0 w (Q :: P :: L) := h.perm (List.Perm.swap Q P L)
theorem Sep.back2 {w0 w : World} {P Q R : Part} {L : List Part} (h : Sep w0 w (P :: Q :: R :: L)) : Sep w0 w (Q :: R :: P :: L) := h.perm (List.perm_middle (l₁ := [Q, R]) (a := P) (l₂ := L)).symm
theorem Sep.front2 {w0 w : World} {P Q R : Part} {L : List Part} (h : Sep w0 w (Q :: R :: P :: L)) : Sep w0 w (P :: Q :: R :: L) := h.perm (List.perm_middle (l₁ := [Q, R]) (a := P) (l₂ := L))
/-- The second to the last, and back: the first goes behind the others. -/
theorem Sep.rot {w0 w : World} {P : Part} {L : List Part} (h : Sep w0 w (P :: L)) : Sep w0 w (L ++ [P]) := h.perm (List.perm_append_singleton P L).symm
theorem Sep.tail {w0 w : World} {P : Part} {L : List Part} (h : Sep w0 w (P :: L)) : Sep w0 w L := by
  obtain ⟨F, ⟨g, F1, F2, rfl, h1, h2, h3⟩, h4, h5⟩ := h.out
  exact ⟨F2, h2, h4, fun b hb => h5 b (by simp [hb])⟩
theorem Sep.second {w0 w : World} {P Q : Part} {L : List Part} (h : Sep w0 w (P :: Q :: L)) : Sep w0 w (P :: L) := h.swap.tail
/-- An object that is new. -/
theorem Sep.add {w0 w w' : World} {P : Part} [g : Good P] {L : List Part} {F : List Nat} (h : Sep w0 w L) (m : Mod [] w w') (hp : P w' F) (hn : ∀ b ∈ F, w.heap.size ≤ b) : Sep w0 w' (P :: L) := by
  obtain ⟨F2, h1, h2, h3⟩ := h.out
  refine ⟨F ++ F2, ⟨g, F, F2, rfl, hp, h1.keep m (by simp), fun b hb hb' => ?_⟩, h2.trans m (by simp), fun b hb => ?_⟩
  · have := h1.lt b hb'
    have := hn b hb
    omega
  · rcases List.mem_append.1 hb with hb | hb
    · exact Nat.le_trans h2.size (hn b hb)
    · exact h3 b hb
/-- What the first one is, and what it may become. -/
theorem Sep.first {w0 w : World} {P : Part} {L : List Part} (h : Sep w0 w (P :: L)) :
    ∃ F, P w F ∧ (∀ b ∈ F, b < w.heap.size ∧ w0.heap.size ≤ b) ∧ ∀ (P' : Part) [Good P'] (w' : World) (F' : List Nat), P' w' F' → Mod F w w' → (∀ b ∈ F', b ∈ F ∨ w.heap.size ≤ b) → Sep w0 w' (P' :: L) := by
  obtain ⟨F, ⟨g, F1, F2, rfl, h1, h2, h3⟩, h4, h5⟩ := h.out
  refine ⟨F1, h1, fun b hb => ⟨g.lt h1 b hb, h5 b (by simp [hb])⟩, fun P' g' w' F' hp m hF => ⟨F' ++ F2, ⟨g', F', F2, rfl, hp, h2.keep m (fun b hb hb' => h3 b hb' hb), fun b hb hb' => ?_⟩, h4.trans m (fun b hb hlt => by have := h5 b (by simp [hb]); omega), fun b hb => ?_⟩⟩
  · rcases hF b hb with h | h
    · exact h3 b h hb'
    · have := h2.lt b hb'
      omega
  · rcases List.mem_append.1 hb with hb | hb
    · rcases hF b hb with h | h
      · exact h5 b (by simp [h])
      · exact Nat.le_trans h4.size h
    · exact h5 b (by simp [hb])
/-- A block that holds the cells cs. -/
def Blk (b : Nat) (cs : List Value) (t : TypeId) : Part := fun w F => Has w b cs t ∧ F = [b]
instance (b : Nat) (cs : List Value) (t : TypeId) : Good (Blk b cs t) where
  lt h b' hb := by obtain ⟨h, rfl⟩ := h; rw [List.mem_singleton.1 hb]; exact h.lt
  keep h m hd := ⟨h.1.keep m (hd _ (by rw [h.2]; simp)), h.2⟩
theorem Sep.blk {w0 w : World} {b : Nat} {cs : List Value} {t : TypeId} {L : List Part} (h : Sep w0 w (Blk b cs t :: L)) : Has w b cs t := by
  obtain ⟨F, h1, _⟩ := h.first
  exact h1.1
theorem Sep.box {w0 w : World} {L : List Part} (h : Sep w0 w L) (cs : List Value) (t : TypeId) : Sep w0 (w.alloc (.cells cs.toArray t)) (Blk w.heap.size cs t :: L) :=
  h.add ((Mod.refl [] w).alloc _) (F := [w.heap.size]) ⟨Has.new w cs t, rfl⟩ (by simp)
theorem Sep.set {w0 w : World} {b : Nat} {cs : List Value} {t : TypeId} {L : List Part} (h : Sep w0 w (Blk b cs t :: L)) (i : Nat) (v : Value) : Sep w0 (w.setCell ⟨b, i, none⟩ v) (Blk b (cs.set i v) t :: L) := by
  obtain ⟨F, ⟨h1, rfl⟩, h2, h3⟩ := h.first
  exact h3 _ _ [b] ⟨h1.set i v, rfl⟩ ((Mod.refl _ _).setCell _ _ (by simp)) (by simp)
/-- A row of its own. -/
def Row (e size n : Nat) (v : Value) (xs : List Value) : Part := fun w F => w.ownsRow 0 e size v n xs ∧ F = v.ownBlock.toList
instance (e size n : Nat) (v : Value) (xs : List Value) : Good (Row e size n v xs) where
  lt h b hb := by obtain ⟨h, rfl⟩ := h; exact own_lt h (by simpa using hb)
  keep h m hd := ⟨own_keep h.1 m (fun g hg => hd g (by rw [h.2]; simp [hg])), h.2⟩
theorem Sep.row {w0 w : World} {e size n : Nat} {v : Value} {xs : List Value} {L : List Part} (h : Sep w0 w (Row e size n v xs :: L)) : w.ownsRow 0 e size v n xs := by
  obtain ⟨F, h1, _⟩ := h.first
  exact h1.1
theorem Sep.rowset {w0 w : World} {e size n g c : Nat} {xs : List Value} {L : List Part} (h : Sep w0 w (Row e size n (.slice (some ⟨g, 0, none⟩) n c) xs :: L)) (j : Nat) (u : Value) :
    Sep w0 (w.setCell ⟨g, j, none⟩ u) (Row e size n (.slice (some ⟨g, 0, none⟩) n c) (xs.set j u) :: L) := by
  obtain ⟨F, ⟨h1, rfl⟩, h2, h3⟩ := h.first
  exact h3 _ _ _ ⟨(h1.stored j u).1, rfl⟩ ((Mod.refl _ _).setCell _ _ (fun _ => by simp [Value.ownBlock])) (fun b hb => .inl hb)
theorem Sep.made {w0 w w' : World} {e size n c : Nat} {a : Option Addr} {xs : List Value} {L : List Part} (h : Sep w0 w L) (hm : Made w w' e size a n c xs) : Sep w0 w' (Row e size n (.slice a n c) xs :: L) :=
  h.add (P := Row e size n (.slice a n c) xs) hm.mod ⟨hm.own, rfl⟩ (fun b hb => hm.new b (by simpa using hb))
theorem perm_pick {α : Type} {C : Type _} : ∀ (l : List C) (i : Nat) (hi : i < l.length), (l[i] :: l.eraseIdx i).Perm l
  | [], i, hi => by simp at hi
  | x :: l, 0, hi => List.Perm.refl _
  | x :: l, i + 1, hi => by
    have := perm_pick (α := α) l i (by simpa using hi)
    exact (List.Perm.swap x _ _).trans (List.Perm.cons x this)
/-- One of them to the front. -/
theorem Sep.pick {w0 w : World} {L : List Part} (h : Sep w0 w L) (i : Nat) (hi : i < L.length) : Sep w0 w (L[i] :: L.eraseIdx i) := h.perm (perm_pick (α := Unit) L i hi).symm
theorem perm_put {C : Type _} (x : C) : ∀ (l : List C) (i : Nat), i < l.length → (x :: l.eraseIdx i).Perm (l.set i x)
  | [], i, hi => by simp at hi
  | y :: l, 0, hi => List.Perm.refl _
  | y :: l, i + 1, hi => (List.Perm.swap y x _).trans (List.Perm.cons y (perm_put x l i (by simpa using hi)))
/-- .. and back to its place. -/
theorem Sep.putBack {w0 w : World} {P : Part} {L : List Part} {i : Nat} (h : Sep w0 w (P :: L.eraseIdx i)) (hi : i < L.length) : Sep w0 w (L.set i P) := h.perm (perm_put P L i hi)
/-- The first one, a row, behind an append. -/
theorem Sep.grow {w0 w w' : World} {e size n n1 : Nat} {v v1 : Value} {xs xs1 : List Value} {L : List Part} (h : Sep w0 w (Row e size n v xs :: L)) (ho : w'.ownsRow 0 e size v1 n1 xs1) (m : Mod v.ownBlock.toList w w')
    (hb : v1.ownBlock = v.ownBlock ∨ ∃ b, v1.ownBlock = some b ∧ w.heap.size ≤ b) : Sep w0 w' (Row e size n1 v1 xs1 :: L) := by
  obtain ⟨F, ⟨h1, rfl⟩, h2, h3⟩ := h.first
  refine h3 _ w' v1.ownBlock.toList ⟨ho, rfl⟩ m (fun b hb' => ?_)
  rw [Option.mem_toList] at hb'
  rcases hb with hb | ⟨b', e1, e2⟩
  · left; rw [← hb]; simpa using hb'
  · right; rw [e1] at hb'; simp only [Option.mem_def, Option.some.injEq] at hb'; omega
/-- The cells of a list stay as they are. -/
def KC (L : List (Addr × Value)) (w w' : World) : Prop := ∀ p ∈ L, w.cell? p.1 = some p.2 → w'.cell? p.1 = some p.2
theorem KC.refl (L : List (Addr × Value)) (w : World) : KC L w w := fun _ _ h => h
theorem KC.trans (L : List (Addr × Value)) (w1 w2 w3 : World) (h1 : KC L w1 w2) (h2 : KC L w2 w3) : KC L w1 w3 := fun p hp h => h2 p hp (h1 p hp h)
instance (L : List (Addr × Value)) (w : World) : Nonempty (Fut (KC L) w) := ⟨⟨w, KC.refl L w⟩⟩
theorem KC.one {L : List (Addr × Value)} {w : World} {a : Addr} {u : Value} (h : w.cell? a = some u) (hp : (a, u) ∈ L) : ∀ m : Fut (KC L) w, m.v.cell? a = some u := fun m => m.of (a, u) hp h
theorem Sep.toMade {w w' : World} {e size n c : Nat} {a : Option Addr} {xs : List Value} {L : List Part} (h : Sep w w' (Row e size n (.slice a n c) xs :: L)) : Made w w' e size a n c xs := by
  obtain ⟨F, ⟨h1, rfl⟩, h2, h3⟩ := h.first
  exact ⟨h1, h.mod, fun b hb => (h2 b (by simp [hb])).2⟩
theorem row_form {w : World} {e n c : Nat} {a : Option Addr} {xs : List Value} (h : w.ownsRow 0 e 1 (.slice a n c) n xs) (hn : 0 < n) : ∃ g, a = some ⟨g, 0, none⟩ ∧ g < w.heap.size ∧ (∀ i, w.frozen? ⟨g, i, none⟩ = false) ∧ ∀ k u, xs[k]? = some u → w.cell? ⟨g, k, none⟩ = some u := by
  rcases h.2 with ⟨he, h0⟩ | ⟨g, cap, cur, he, _⟩
  · omega
  · injection he with he _ hc
    subst he
    refine ⟨g, rfl, own_lt h rfl, fun i => h.frozenAt i, fun k u hu => ?_⟩
    have hk := (List.getElem?_eq_some_iff.1 hu).1
    rw [h.cellAt k (by rw [← h.1]; exact hk), hu]
theorem rd_cell {w : World} {n c k : Nat} {a : Option Addr} {xs : List Value} (h : Rd w 1 (.slice a n c) n xs) (hk : k < n) : ∃ g o, a = some ⟨g, o, none⟩ ∧ g < w.heap.size ∧ ∀ w' j u, Mod [] w w' → xs[j]? = some u → w'.cell? ⟨g, o + j, none⟩ = some u := by
  have hx : xs.length = n := by have := h.1; omega
  obtain ⟨g, o, rfl, _⟩ := h.at (by omega)
  exact ⟨g, o, rfl, World.block_lt_of_cell? w ⟨g, o + k, none⟩ (h.cellAt k (List.getElem?_eq_getElem (by omega))), fun w' j u m hu => (h.still m).cellAt j hu⟩
end Go.Proofs.YtjpfmkfikidgkaaGreat
