/- A pairing heap: pair. -/
import Derived.Test.YtmkbinbggiocaaaHp4
import Derived.Test.YtmkbinbggiocaaaRd
set_option linter.unusedVariables false
set_option linter.unusedSimpArgs false
namespace Go.Proofs.Ytmkbinbggiocaaa
open Go.RowKit Arena
namespace Hp
open Go.Proofs.Ytmkbinbggiocaaa.Code
/-- What does not change. -/
structure Same (H H' : Hp) (k : Nat) : Prop where
  room : H'.room = H.room
  at_ : H'.at_ = H.at_
  root : H'.root = H.root
  lo : H.links ≤ H'.links
  hi : H'.links ≤ H.links + k
theorem Same.refl (H : Hp) : Same H H 0 := ⟨rfl, rfl, rfl, by omega, by omega⟩
theorem Same.trans {H H1 H2 : Hp} {j k : Nat} (a : Same H H1 j) (b : Same H1 H2 k) : Same H H2 (j + k) :=
  ⟨b.room.trans a.room, b.at_.trans a.at_, b.root.trans a.root, Int.le_trans a.lo b.lo, by have := a.hi; have := b.hi; omega⟩
theorem Same.mono {H H' : Hp} {j k : Nat} (a : Same H H' j) (h : j ≤ k) : Same H H' k := ⟨a.room, a.at_, a.root, a.lo, by have := a.hi; omega⟩
theorem put_same (H : Hp) (n : Int) (x : Nd) : Same H (H.put n x) 0 := ⟨rfl, rfl, rfl, Int.le_refl _, by show H.links ≤ _; omega⟩
theorem link1_same (H : Hp) (p q : Int) (x y : Nd) : Same H (link1 H p q x y) 1 := ⟨rfl, rfl, rfl, by show H.links ≤ H.links + 1; omega, by show H.links + 1 ≤ _; omega⟩
theorem join_same {H H' : Hp} {p q r : Int} {xp : Nd} (h : joinT H p q xp = some (H', r)) : Same H H' 1 := by
  obtain ⟨rfl, y, hy, ⟨_, xa, hxa, rfl⟩ | ⟨_, z, xa, _, _, rfl⟩⟩ := joinT_some h
  · exact (link1_same H _ _ _ _).trans (put_same _ _ _)
  · exact ((link1_same H _ _ _ _).trans (put_same _ _ _)).trans (put_same _ _ _)
theorem link_same {H H' : Hp} {a b r : Int} (h : linkT H a b = some (H', r)) : Same H H' 1 := by
  by_cases ha : a = -1
  · unfold linkT at h
    rw [if_pos ha] at h
    simp only [Option.some.injEq, Prod.mk.injEq] at h
    rw [← h.1]; exact (Same.refl H).mono (by omega)
  by_cases hb : b = -1
  · unfold linkT at h
    rw [if_neg ha, if_pos hb] at h
    simp only [Option.some.injEq, Prod.mk.injEq] at h
    rw [← h.1]; exact (Same.refl H).mono (by omega)
  obtain ⟨x, y, _, _, ⟨_, hj⟩ | ⟨_, hj⟩⟩ := linkT_some ha hb h
  · exact join_same hj
  · exact join_same hj
def loneT (H : Hp) (n : Int) : Option Hp := (H.A.get n).map fun x => H.put n { x with prev := -1, next := -1 }
theorem lone_same {H H' : Hp} {n : Int} (h : loneT H n = some H') : Same H H' 0 := by
  unfold loneT at h
  simp only [Option.map_eq_some_iff] at h
  obtain ⟨x, _, rfl⟩ := h
  exact put_same _ _ _
/-- The first pass: two by two. -/
def twosT : Nat → Hp → Int → List Int → Option (Hp × List Int)
  | fuel, H, n, trees => if n = -1 then some (H, trees) else match fuel with
    | 0 => none
    | fuel + 1 => (H.A.get n).bind fun x =>
      if x.next = -1 then (loneT H n).map fun H1 => (H1, trees ++ [n])
      else (H.A.get x.next).bind fun y => (loneT H n).bind fun H1 => (loneT H1 x.next).bind fun H2 => (linkT H2 n x.next).bind fun p => twosT fuel p.1 y.next (trees ++ [p.2])
/-- The second pass: one by one, from the last. -/
def onesT : Hp → Int → List Int → Option (Hp × Int)
  | H, root, [] => some (H, root)
  | H, root, t :: ts => (linkT H t root).bind fun p => onesT p.1 p.2 ts
def pairT (fuel : Nat) (H : Hp) (n : Int) : Option (Hp × Int) := (twosT fuel H n []).bind fun p => onesT p.1 (-1) p.2.reverse
theorem twos_end {fuel : Nat} {H : Hp} {trees : List Int} : twosT fuel H (-1) trees = some (H, trees) := by
  unfold twosT
  rw [if_pos rfl]
theorem twos_step {fuel : Nat} {H H' : Hp} {n : Int} {trees out : List Int} (hn : n ≠ -1) (h : twosT fuel H n trees = some (H', out)) :
    ∃ k x, fuel = k + 1 ∧ H.A.get n = some x ∧ ((x.next = -1 ∧ loneT H n = some H' ∧ out = trees ++ [n]) ∨
      (x.next ≠ -1 ∧ ∃ y H1 H2 H3 r, H.A.get x.next = some y ∧ loneT H n = some H1 ∧ loneT H1 x.next = some H2 ∧ linkT H2 n x.next = some (H3, r) ∧ twosT k H3 y.next (trees ++ [r]) = some (H', out))) := by
  unfold twosT at h
  rw [if_neg hn] at h
  cases fuel with
  | zero => cases h
  | succ k =>
    simp only [Option.bind_eq_some_iff] at h
    obtain ⟨x, hx, h⟩ := h
    refine ⟨k, x, rfl, hx, ?_⟩
    split at h
    · rename_i hc
      simp only [Option.map_eq_some_iff, Prod.mk.injEq] at h
      obtain ⟨H1, h1, rfl, rfl⟩ := h
      exact .inl ⟨hc, h1, rfl⟩
    · rename_i hc
      simp only [Option.bind_eq_some_iff] at h
      obtain ⟨y, hy, H1, h1, H2, h2, ⟨H3, r⟩, h3, h4⟩ := h
      exact .inr ⟨hc, y, H1, H2, H3, r, hy, h1, h2, h3, h4⟩
/-- The state of pair: the heap, and the trees so far in a row of their own. -/
structure PSt (w wr : World) (bh : Nat) (H : Hp) (F : List Nat) (av : Option Addr) (cv : Nat) (trees : List Int) : Prop where
  heap : HAt wr bh H F
  mod : Mod F w wr
  own : wr.ownsRow 0 3 1 (.slice av trees.length cv) trees.length (vi64 trees)
  new : ∀ g, (Value.slice av trees.length cv).ownBlock = some g → w.heap.size ≤ g
  low : ∀ b ∈ F, b < w.heap.size
theorem PSt.step {w wr w' : World} {bh : Nat} {H H' : Hp} {F : List Nat} {av : Option Addr} {cv : Nat} {trees : List Int} (h : PSt w wr bh H F av cv trees) (hh : HAt w' bh H' F) (m : Mod F wr w') : PSt w w' bh H' F av cv trees :=
  ⟨hh, h.mod.trans m (fun b hb _ => hb), own_keep h.own m (fun g hg hm => by have := h.new g hg; have := h.low g hm; omega), h.new, h.low⟩
theorem PSt.still {w wr w' : World} {bh : Nat} {H : Hp} {F : List Nat} {av : Option Addr} {cv : Nat} {trees : List Int} (h : PSt w wr bh H F av cv trees) (m : Mod [] wr w') : PSt w w' bh H F av cv trees := h.step (h.heap.still m) m.of0
theorem PSt.push {w wr w' : World} {bh : Nat} {H : Hp} {F : List Nat} {av av' : Option Addr} {cv cv' : Nat} {trees : List Int} (h : PSt w wr bh H F av cv trees) (t : Int)
    (ho : w'.ownsRow 0 3 1 (.slice av' (trees.length + 1) cv') (trees.length + 1) (vi64 trees ++ [.int .i64 t])) (m : Mod (Value.slice av trees.length cv).ownBlock.toList wr w')
    (hn : (Value.slice av' (trees.length + 1) cv').ownBlock = (Value.slice av trees.length cv).ownBlock ∨ ∃ b, (Value.slice av' (trees.length + 1) cv').ownBlock = some b ∧ wr.heap.size ≤ b) :
    PSt w w' bh H F av' cv' (trees ++ [t]) := by
  have e : (trees ++ [t]).length = trees.length + 1 := by simp
  refine ⟨h.heap.keep m (fun b hb hm => ?_), h.mod.trans m (fun b hb hlt => ?_), ?_, fun g hg => ?_, h.low⟩
  · have := h.new b (by simpa using hm); have := h.low b hb; omega
  · have := h.new b (by simpa using hb); omega
  · rw [e]; simpa [vi64] using ho
  · rw [e] at hg
    exact ge_of_old _ h.new hn h.mod.size g hg
end Hp
end Go.Proofs.Ytmkbinbggiocaaa
