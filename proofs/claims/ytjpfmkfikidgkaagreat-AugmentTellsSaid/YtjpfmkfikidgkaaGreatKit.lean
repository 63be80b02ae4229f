/- Frame and block words that the walks of this seat share: which blocks a call may have changed, and what a block holds. -/
import Derived.Test.YtjpfmkfikidgkaaGreatRows
import Derived.Test.YtjpfmkfikidgkaaGreatFields
import Derived.WalkKit
import Derived.WalkSpells
import Derived.WalkLawsBesides
import Derived.Deep.QuietTactic
import Derived.BigQuiet
import Derived.Lib.Hide
import Derived.Maps.AppendAt
import Derived.Deep.OwnRows
import Derived.Deep.AppendLies
import Derived.Laws.AppendOwnNone
set_option linter.unusedVariables false
set_option linter.unusedSimpArgs false
namespace Go.Proofs.YtjpfmkfikidgkaaGreat
open Go.RowKit

/-- The world w' is w, but that the blocks of F may hold something else, and that there may be new blocks. -/
structure Mod (F : List Nat) (w w' : World) : Prop where
  os : w'.os = w.os
  tape : w'.tape = w.tape
  output : w'.output = w.output
  size : w.heap.size ≤ w'.heap.size
  block : ∀ i, i < w.heap.size → i ∉ F → w'.heap[i]? = w.heap[i]?

theorem Mod.refl (F : List Nat) (w : World) : Mod F w w := ⟨rfl, rfl, rfl, Nat.le_refl _, fun _ _ _ => rfl⟩
theorem Mod.mono {F F' : List Nat} {w w' : World} (h : Mod F w w') (hs : ∀ b ∈ F, b ∈ F') : Mod F' w w' :=
  ⟨h.os, h.tape, h.output, h.size, fun i hi hn => h.block i hi fun hm => hn (hs i hm)⟩
/-- Blocks that the second step may change and that the first world did not have don't matter. -/
theorem Mod.trans {F F1 : List Nat} {w w1 w2 : World} (h : Mod F w w1) (k : Mod F1 w1 w2) (hs : ∀ b ∈ F1, b < w.heap.size → b ∈ F) : Mod F w w2 :=
  ⟨k.os.trans h.os, k.tape.trans h.tape, k.output.trans h.output, Nat.le_trans h.size k.size,
    fun i hi hn => (k.block i (Nat.lt_of_lt_of_le hi h.size) fun hm => hn (hs i hm hi)).trans (h.block i hi hn)⟩
theorem Mod.drew {F : List Nat} {w w' : World} (h : Mod F w w') : Mod F w w'.drew := ⟨h.os, h.tape, h.output, h.size, h.block⟩
theorem Mod.drewN {F : List Nat} {w w' : World} (h : Mod F w w') (n : Nat) : Mod F w (w'.drewN n) := ⟨h.os, h.tape, h.output, h.size, h.block⟩
theorem Mod.alloc {F : List Nat} {w w' : World} (h : Mod F w w') (o : Obj) : Mod F w (w'.alloc o) :=
  h.trans ⟨rfl, rfl, rfl, by simp, fun k hk _ => Below.heap_alloc _ _ _ hk⟩ (F1 := []) (by simp)
theorem Mod.setCell {F : List Nat} {w w' : World} (h : Mod F w w') (a : Addr) (u : Value) (hb : a.block < w.heap.size → a.block ∈ F) : Mod F w (w'.setCell a u) :=
  h.trans (F1 := [a.block]) ⟨rfl, rfl, rfl, by simp [World.setCell], fun k _ hn => Below.heap_setCell _ _ _ _ (by simpa using hn)⟩
    (by intro b hb1 hlt; simp at hb1; subst hb1; exact hb hlt)
theorem Mod.grown {F : List Nat} {w w1 w2 : World} (h : Mod F w w1) {row : Option Nat} (hg : w1.grownBy w2 row) (hr : ∀ b, row = some b → b < w.heap.size → b ∈ F) : Mod F w w2 :=
  h.trans (F1 := row.toList) ⟨hg.os, hg.tape, hg.output, hg.size, fun k hk hn => hg.block k hk (by intro e; subst e; simp at hn)⟩
    (by intro b hb hlt; exact hr b (by simpa using hb) hlt)
theorem Mod.of0 {F : List Nat} {w w' : World} (h : Mod [] w w') : Mod F w w' := h.mono (by simp)
theorem Mod.toBelow {F : List Nat} {w w' : World} (h : Mod F w w') {B : Nat} (hB : B ≤ w.heap.size) (hF : ∀ b ∈ F, B ≤ b) : Below B w w' :=
  ⟨h.os, h.tape, h.output, h.size, fun k hk => h.block k (by omega) fun hm => by have := hF k hm; omega⟩
theorem Mod.ofBelow {w w' : World} (h : Below w.heap.size w w') : Mod [] w w' := ⟨h.os, h.tape, h.output, h.size, fun k hk _ => h.block k hk⟩
theorem Mod.below {w w' : World} (h : Mod [] w w') : Below w.heap.size w w' := h.toBelow (Nat.le_refl _) (by simp)

/-- Block b holds the cells cs, of type t, none of them frozen. -/
def Has (w : World) (b : Nat) (cs : List Value) (t : TypeId) : Prop := w.heap[b]? = some (.cells cs.toArray t (0, 0))
theorem Has.lt {w : World} {b : Nat} {cs : List Value} {t : TypeId} (h : Has w b cs t) : b < w.heap.size := (Array.getElem?_eq_some_iff.1 h).1
theorem Has.keep {F : List Nat} {w w' : World} {b : Nat} {cs : List Value} {t : TypeId} (h : Has w b cs t) (m : Mod F w w') (hb : b ∉ F) : Has w' b cs t := (m.block b h.lt hb).trans h
theorem Has.cell {w : World} {b : Nat} {cs : List Value} {t : TypeId} (h : Has w b cs t) (i : Nat) {v : Value} (hv : cs[i]? = some v) : w.cell? ⟨b, i, none⟩ = some v := by
  unfold World.cell?; rw [show w.heap[(⟨b, i, none⟩ : Addr).block]? = _ from h]; simpa using hv
theorem Has.free {w : World} {b : Nat} {cs : List Value} {t : TypeId} (h : Has w b cs t) (i : Nat) : w.frozen? ⟨b, i, none⟩ = false := by
  unfold World.frozen?; rw [show w.heap[(⟨b, i, none⟩ : Addr).block]? = _ from h]; simp
theorem Has.set {w : World} {b : Nat} {cs : List Value} {t : TypeId} (h : Has w b cs t) (i : Nat) (v : Value) : Has (w.setCell ⟨b, i, none⟩ v) b (cs.set i v) t := by
  unfold Has at h ⊢
  simp only [World.setCell, Array.getElem?_modify, if_true, h, Option.map_some]
  simp
theorem Has.other {w : World} {b : Nat} {cs : List Value} {t : TypeId} (h : Has w b cs t) (a : Addr) (v : Value) (hb : b ≠ a.block) : Has (w.setCell a v) b cs t :=
  (Below.heap_setCell w a v b hb).trans h
theorem Has.alloc {w : World} {b : Nat} {cs : List Value} {t : TypeId} (h : Has w b cs t) (o : Obj) : Has (w.alloc o) b cs t :=
  (Below.heap_alloc w o b h.lt).trans h
theorem Has.drew {w : World} {b : Nat} {cs : List Value} {t : TypeId} (h : Has w b cs t) : Has w.drew b cs t := h
theorem Has.drewN {w : World} {b : Nat} {cs : List Value} {t : TypeId} (h : Has w b cs t) (n : Nat) : Has (w.drewN n) b cs t := h
theorem Has.new (w : World) (cs : List Value) (t : TypeId) : Has (w.alloc (.cells cs.toArray t)) w.heap.size cs t := heap_alloc_new w _

/-- A row that is owned, and the block that it lies in. -/
theorem own_other {w : World} {base e size n : Nat} {v : Value} {xs : List Value} (h : w.ownsRow base e size v n xs) (a : Addr) (u : Value) (hb : v.ownBlock ≠ some a.block) : (w.setCell a u).ownsRow base e size v n xs :=
  h.kept (row := some a.block) ⟨rfl, rfl, rfl, by simp [World.setCell], fun k _ hn => Below.heap_setCell _ _ _ _ (by simpa using hn)⟩ (.inr hb)
theorem own_keep {F : List Nat} {w w' : World} {base e size n : Nat} {v : Value} {xs : List Value} (h : w.ownsRow base e size v n xs) (m : Mod F w w') (hb : ∀ g, v.ownBlock = some g → g ∉ F) : w'.ownsRow base e size v n xs := by
  refine ⟨h.1, ?_⟩
  rcases h.2 with hn | ⟨g, cap, cur, rfl, hb0, hgg, rest⟩
  · exact .inl hn
  · exact .inr ⟨g, cap, cur, rfl, hb0, (m.block g (Array.getElem?_eq_some_iff.1 hgg).1 (hb g rfl)).trans hgg, rest⟩
theorem own_lt {w : World} {base e size n : Nat} {v : Value} {xs : List Value} (h : w.ownsRow base e size v n xs) {g : Nat} (hg : v.ownBlock = some g) : g < w.heap.size := (h.lt g hg).2

/-! ### append(v, x..) onto a row that is owned, the new ones boxed just ahead -/
section
variable {P : Program} {ops : Array Oper} {rest : List Oper} {o : Oper} {a : Act} {Q : Exit → Act → World → Prop}
theorem app_own {W : World} (hgd : o.guard = none) (s x : Operand) (t e : TypeId) (z : Value) (size bytes : Nat)
    (ho : o.op = .call { callee := .builtin .append, args := #[s, x], argTypes := #[t, t] })
    (ht : P.underlying t = some (.slice e)) (hinfo : (P.info? e).map (fun i => (i.zero, i.size, i.bytes)) = some (some z, size, bytes)) (hz : z.cells.size = size) (hsz : 0 < size) (hb0 : 0 < bytes)
    (v : Value) (n m : Nat) (xs news : List Value) (hs : a.eval s = v) {B : Nat} (hx : a.eval x = .slice (some ⟨B, 0, none⟩) m m) (hB : B = W.heap.size) (hl : news.length = m * size) (h1 : ∀ u ∈ news, u.oneCell' = true)
    (HO : W.ownsRow 0 e size v n xs) (hby : (n + m) * bytes ≤ 140737488355328)
    (h : ∀ a1 c1 w1, w1.ownsRow 0 e size (.slice a1 (n + m) c1) (n + m) (xs ++ news) → Mod v.ownBlock.toList W w1 → ((Value.slice a1 (n + m) c1).ownBlock = v.ownBlock ∨ ∃ b, (Value.slice a1 (n + m) c1).ownBlock = some b ∧ W.heap.size ≤ b) → wpList P ops Q rest (a.put o.dst (.slice a1 (n + m) c1)) w1) :
    wpList P ops Q (o :: rest) a (W.alloc (.cells news.toArray e)) := by
  subst hB
  obtain ⟨i0, hi, hzz⟩ := Option.map_eq_some_iff.1 hinfo
  simp only [Prod.mk.injEq] at hzz
  obtain ⟨hz0, hz1, hz2⟩ := hzz
  have hlen : n + m ≤ 140737488355328 := Nat.le_trans (Nat.le_mul_of_pos_right _ hb0) hby
  refine wpList_append_own_at (W.alloc (.cells news.toArray e)) hgd s x t ho 0 e i0 z size bytes ht hi hz0 hz1 hz2 hz hsz v n xs hs (HO.alloc _) ⟨W.heap.size, 0, none⟩ m m news hx hl
    (World.news_of_block (cs := news.toArray) (t := e) (fr := (0, 0)) (heap_alloc_new W _)) h1 (by simp only [maxLen]; omega) hby (Nat.zero_le _) ?_
  intro v1 w1 hown hg _ hat
  obtain ⟨a1, c1, rfl⟩ : ∃ a1 c1, v1 = .slice a1 (n + m) c1 := by
    rcases hown.2 with ⟨rfl, h0⟩ | ⟨g, cap, cur, rfl, _⟩
    · exact ⟨none, 0, by rw [h0]⟩
    · exact ⟨_, _, rfl⟩
  refine h a1 c1 w1 hown (((Mod.refl _ W).alloc _).grown hg fun b hb _ => by simp [hb]) ?_
  rcases hat with hat | hat
  · exact .inl hat
  · exact .inr ⟨_, hat, by simp⟩
end
/-- The block of a row behind an append. -/
theorem own_fresh {w : World} {F : List Nat} {v v1 : Value} (hF : ∀ b, v.ownBlock = some b → b ∈ F) (h : v1.ownBlock = v.ownBlock ∨ ∃ b, v1.ownBlock = some b ∧ w.heap.size ≤ b) :
    ∀ b, v1.ownBlock = some b → b ∈ F ∨ w.heap.size ≤ b := by
  intro b hb
  rcases h with h | ⟨b', hb', hle⟩
  · exact .inl (hF b (h ▸ hb))
  · rw [hb] at hb'; injection hb' with e; exact .inr (e ▸ hle)

/-! ### what a block holds behind stores, by simp -/
def setObj (a : Addr) (v : Value) : Obj → Obj
  | .cells c e fr => .cells (if a.spot.isSome then c else c.setIfInBounds a.off v) e fr
  | o => o
theorem setObj_cells (b i : Nat) (v : Value) (c : Array Value) (e : TypeId) (fr : Nat × Nat) : setObj ⟨b, i, none⟩ v (.cells c e fr) = .cells (c.setIfInBounds i v) e fr := rfl
theorem heap_set (w : World) (a : Addr) (v : Value) (k : Nat) : (w.setCell a v).heap[k]? = if k = a.block then (w.heap[k]?).map (setObj a v) else w.heap[k]? := by
  simp only [World.setCell, Array.getElem?_modify]
  by_cases h : k = a.block
  · subst h; simp; rfl
  · rw [if_neg (fun e => h e.symm), if_neg h]
theorem heap_al (w : World) (o : Obj) (k : Nat) (h : k < w.heap.size) : (w.alloc o).heap[k]? = w.heap[k]? := Below.heap_alloc w o k h

/-! ### a slice that is read, wherever it begins -/
def Reads (w : World) (size : Nat) (v : Value) (n : Nat) (xs : List Value) : Prop :=
  xs.length = n * size ∧ ((v = .slice none 0 0 ∧ n = 0) ∨ ∃ g o c, v = .slice (some ⟨g, o, none⟩) n c ∧ n ≤ c ∧ c ≤ maxLen ∧ ∀ j u, xs[j]? = some u → w.cell? ⟨g, o + j, none⟩ = some u)
theorem Reads.keep {F : List Nat} {w w' : World} {size n : Nat} {v : Value} {xs : List Value} (h : Reads w size v n xs) (m : Mod F w w') (hb : ∀ g, v.ownBlock = some g → g ∉ F) : Reads w' size v n xs := by
  refine ⟨h.1, ?_⟩
  rcases h.2 with hn | ⟨g, o, c, rfl, h1, h2, h3⟩
  · exact .inl hn
  · exact .inr ⟨g, o, c, rfl, h1, h2, fun j u hu => (World.cell?_of_block (m.block g (World.block_lt_of_cell? w ⟨g, o + j, none⟩ (h3 j u hu)) (hb g rfl))).trans (h3 j u hu)⟩
theorem Reads.nil (w : World) (size : Nat) : Reads w size (.slice none 0 0) 0 [] := ⟨by simp, .inl ⟨rfl, rfl⟩⟩
theorem Reads.own {w : World} {base e size n : Nat} {v : Value} {xs : List Value} (h : w.ownsRow base e size v n xs) : Reads w size v n xs := by
  refine ⟨h.1, ?_⟩
  rcases h.2 with hn | ⟨g, cap, cur, rfl, h0, h1, h2, h3, h4, h5⟩
  · exact .inl hn
  · refine .inr ⟨g, 0, cap, rfl, h2, h3, fun j u hu => ?_⟩
    have hj := (List.getElem?_eq_some_iff.1 hu).1
    have := World.ownsRow.cellAt (⟨h.1, .inr ⟨g, cap, cur, rfl, h0, h1, h2, h3, h4, h5⟩⟩ : w.ownsRow base e size _ n xs) j (by rw [← h.1]; exact hj)
    rw [Nat.zero_add, this, hu]
theorem Reads.cell {w : World} {size n g o c : Nat} {xs : List Value} (h : Reads w size (.slice (some ⟨g, o, none⟩) n c) n xs) (j : Nat) {u : Value} (hu : xs[j]? = some u) : w.cell? ⟨g, o + j, none⟩ = some u := by
  rcases h.2 with ⟨he, _⟩ | ⟨g', o', c', he, h1, h2, h3⟩
  · cases he
  · injection he with he _ _; injection he with he; injection he with e1 e2; subst e1; subst e2; exact h3 j u hu
theorem Reads.cases {w : World} {size n : Nat} {v : Value} {xs : List Value} (h : Reads w size v n xs) :
    (v = .slice none 0 0 ∧ n = 0 ∧ xs = []) ∨ ∃ g o c, v = .slice (some ⟨g, o, none⟩) n c ∧ n ≤ c ∧ c ≤ maxLen := by
  rcases h.2 with ⟨rfl, rfl⟩ | ⟨g, o, c, rfl, h1, h2, _⟩
  · exact .inl ⟨rfl, rfl, List.eq_nil_of_length_eq_zero (by simpa using h.1)⟩
  · exact .inr ⟨g, o, c, rfl, h1, h2⟩
/-- All but the first k. -/
theorem Reads.tail {w : World} {size n g o c : Nat} {xs : List Value} (h : Reads w size (.slice (some ⟨g, o, none⟩) n c) n xs) (k : Nat) (hk : k ≤ n) (o' : Nat) (ho : k < n → o' = o + k * size) :
    Reads w size (.slice (some ⟨g, o', none⟩) (n - k) (c - k)) (n - k) (xs.drop (k * size)) := by
  rcases h.2 with ⟨he, _⟩ | ⟨g1, o1, c1, he, h1, h2, h3⟩
  · cases he
  · injection he with he e2 e3; subst e3; injection he with he; injection he with e1 e4; subst e1; subst e4
    refine ⟨by rw [List.length_drop, h.1, Nat.sub_mul], .inr ⟨g, o', c - k, rfl, by omega, Nat.le_trans (Nat.sub_le _ _) h2, fun j u hu => ?_⟩⟩
    rw [List.getElem?_drop] at hu
    have hlt := (List.getElem?_eq_some_iff.1 hu).1
    rw [h.1] at hlt
    have hkn : k < n := by
      rcases Nat.lt_or_ge k n with h | h
      · exact h
      · exfalso
        have : n = k := by omega
        subst this
        omega
    rw [ho hkn, Nat.add_assoc]
    exact h3 _ _ hu
section
variable {P : Program} {ops : Array Oper} {rest : List Oper} {o : Oper} {a : Act} {Q : Exit → Act → World → Prop}
/-- append(v, src...): v owned, src read; nil let in. -/
theorem app_src {W : World} (hgd : o.guard = none) (s x : Operand) (t e : TypeId) (z : Value) (size bytes : Nat)
    (ho : o.op = .call { callee := .builtin .append, args := #[s, x], argTypes := #[t, t] })
    (ht : P.underlying t = some (.slice e)) (hinfo : (P.info? e).map (fun i => (i.zero, i.size, i.bytes)) = some (some z, size, bytes)) (hz : z.cells.size = size) (hsz : 0 < size) (hb0 : 0 < bytes)
    (v v2 : Value) (n m : Nat) (xs news : List Value) (hs : a.eval s = v) (hx : a.eval x = v2) (h1 : ∀ u ∈ news, u.oneCell' = true)
    (HO : W.ownsRow 0 e size v n xs) (HR : Reads W size v2 m news) (hby : (n + m) * bytes ≤ 140737488355328)
    (h : ∀ a1 c1 w1, w1.ownsRow 0 e size (.slice a1 (n + m) c1) (n + m) (xs ++ news) → Mod v.ownBlock.toList W w1 → ((Value.slice a1 (n + m) c1).ownBlock = v.ownBlock ∨ ∃ b, (Value.slice a1 (n + m) c1).ownBlock = some b ∧ W.heap.size ≤ b) → wpList P ops Q rest (a.put o.dst (.slice a1 (n + m) c1)) w1) :
    wpList P ops Q (o :: rest) a W := by
  obtain ⟨i0, hi, hzz⟩ := Option.map_eq_some_iff.1 hinfo
  simp only [Prod.mk.injEq] at hzz
  obtain ⟨hz0, hz1, hz2⟩ := hzz
  have hlen : n + m ≤ 140737488355328 := Nat.le_trans (Nat.le_mul_of_pos_right _ hb0) hby
  have form : ∀ (v1 : Value) (w1 : World), w1.ownsRow 0 e size v1 (n + m) (xs ++ news) → ∃ a1 c1, v1 = Value.slice a1 (n + m) c1 := by
    intro v1 w1 hown
    rcases hown.2 with ⟨rfl, h0⟩ | ⟨g, cap, cur, rfl, _⟩
    · exact ⟨none, 0, by rw [h0]⟩
    · exact ⟨_, _, rfl⟩
  rcases HR.2 with ⟨rfl, rfl⟩ | ⟨g, o2, c, rfl, _, _, hc⟩
  · have hn : news = [] := List.eq_nil_of_length_eq_zero (by simpa using HR.1)
    subst hn
    have HO' : W.ownsRow 0 e size v (n + 0) (xs ++ []) := by simpa using HO
    obtain ⟨a1, c1, rfl⟩ := form v W HO'
    exact wpList_append_own_none hgd s x t ho 0 e i0 size ht hi _ n xs hs HO hx (h a1 c1 W HO' (Mod.refl _ _) (.inl rfl))
  · refine wpList_append_own_at W hgd s x t ho 0 e i0 z size bytes ht hi hz0 hz1 hz2 hz hsz v n xs hs HO ⟨g, o2, none⟩ m c news hx HR.1
      (fun j u hu => ?_) h1 (by simp only [maxLen]; omega) hby (Nat.zero_le _) ?_
    · have := hc j u hu
      unfold Addr.add
      split
      · rename_i h0; subst h0; simpa using this
      · exact this
    · intro v1 w1 hown hg _ hat
      obtain ⟨a1, c1, rfl⟩ := form v1 w1 hown
      refine h a1 c1 w1 hown ((Mod.refl _ W).grown hg fun b hb _ => by simp [hb]) ?_
      rcases hat with hat | hat
      · exact .inl hat
      · exact .inr ⟨_, hat, Nat.le_refl _⟩
end

/-! ### a slot for a result, made ahead of a call that only makes memory -/
theorem slot2 {w w' : World} {t : TypeId} {x y : Value} (m : Mod [] (w.alloc (.cells #[x, y] t)) w') :
    w.heap.size < w'.heap.size ∧ w'.cell? ⟨w.heap.size, 0, none⟩ = some x ∧ w'.cell? ⟨w.heap.size, 1, none⟩ = some y ∧ ∀ i, w'.frozen? ⟨w.heap.size, i, none⟩ = false := by
  have hk := (Has.new w [x, y] t).keep m (by simp)
  exact ⟨hk.lt, hk.cell 0 rfl, hk.cell 1 rfl, hk.free⟩
theorem slot3 {w w' : World} {t : TypeId} {x y z : Value} (m : Mod [] (w.alloc (.cells #[x, y, z] t)) w') :
    w.heap.size < w'.heap.size ∧ w'.cell? ⟨w.heap.size, 0, none⟩ = some x ∧ w'.cell? ⟨w.heap.size, 1, none⟩ = some y ∧ w'.cell? ⟨w.heap.size, 2, none⟩ = some z ∧ ∀ i, w'.frozen? ⟨w.heap.size, i, none⟩ = false := by
  have hk := (Has.new w [x, y, z] t).keep m (by simp)
  exact ⟨hk.lt, hk.cell 0 rfl, hk.cell 1 rfl, hk.cell 2 rfl, hk.free⟩
end Go.Proofs.YtjpfmkfikidgkaaGreat
