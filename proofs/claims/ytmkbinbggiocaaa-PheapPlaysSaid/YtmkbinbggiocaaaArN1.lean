/- What the calls on an arena of nodes do: cell, At, Set. -/
import Derived.Test.YtmkbinbggiocaaaKit
import Derived.Test.YtmkbinbggiocaaaFlat
import Derived.Test.YtmkbinbggiocaaaArenaLaw
import Derived.Lib.Hide
set_option linter.unusedVariables false
set_option linter.unusedSimpArgs false
namespace Go.Proofs.Ytmkbinbggiocaaa
open Go.RowKit Arena
/-- A node of a heap. -/
structure Nd where
  v : Int
  key : Int
  child : Int
  next : Int
  prev : Int
namespace Nd
def zero : Nd := ⟨0, 0, 0, 0, 0⟩
def vals (x : Nd) : List Value := [.int .i64 x.v, .int .i64 x.key, .int .i64 x.child, .int .i64 x.next, .int .i64 x.prev]
def val (x : Nd) : Value := .agg #[.int .i64 x.v, .int .i64 x.key, .int .i64 x.child, .int .i64 x.next, .int .i64 x.prev]
end Nd
namespace ArN
def encC (c : RC Nd) : List Value := [.int .i64 c.1.v, .int .i64 c.1.key, .int .i64 c.1.child, .int .i64 c.1.next, .int .i64 c.1.prev, .bool c.2.1, .int .i64 c.2.2]
theorem encC_len (c : RC Nd) : (encC c).length = 7 := rfl
/-- The pointer to block ba is an arena that is A; its cells lie in the blocks of F, which are ba and, where there is one, the row's. -/
structure At (w : World) (ba : Nat) (A : Ar Nd) (F : List Nat) : Prop where
  mk ::
  out : ∃ (sv : Value) (C : List (RC Nd)) (f : Int), Fits Nd.zero A C f ∧ Has w ba [.int .i64 A.room, sv, .int .i64 f, .int .i64 A.count] 222 ∧
    w.ownsRow 0 225 7 sv C.length (flat encC C) ∧ sv.ownBlock ≠ some ba ∧ F = ba :: sv.ownBlock.toList
/-- What a call on the arena ba leaves: the arena is A', nothing else that was there has changed. -/
structure Left (w w' : World) (ba : Nat) (A' : Ar Nd) (F : List Nat) : Prop where
  mk ::
  out : ∃ F', At w' ba A' F' ∧ Mod F w w' ∧ ∀ b ∈ F', b ∈ F ∨ w.heap.size ≤ b
theorem row_cases {w : World} {sv : Value} {C : List (RC Nd)} (h : w.ownsRow 0 225 7 sv C.length (flat encC C)) :
    (sv = .slice none 0 0 ∧ C = []) ∨ ∃ g cap, sv = .slice (some ⟨g, 0, none⟩) C.length cap := by
  rcases h.2 with ⟨rfl, h0⟩ | ⟨g, cap, cur, rfl, _⟩
  · exact .inl ⟨rfl, List.eq_nil_of_length_eq_zero h0⟩
  · exact .inr ⟨g, cap, rfl⟩
/-- The seven cells of a place. -/
structure Seven (w : World) (g i : Nat) (c : RC Nd) : Prop where
  c0 : w.cell? ⟨g, i * 7, none⟩ = some (.int .i64 c.1.v)
  c1 : w.cell? ⟨g, i * 7 + 1, none⟩ = some (.int .i64 c.1.key)
  c2 : w.cell? ⟨g, i * 7 + 2, none⟩ = some (.int .i64 c.1.child)
  c3 : w.cell? ⟨g, i * 7 + 3, none⟩ = some (.int .i64 c.1.next)
  c4 : w.cell? ⟨g, i * 7 + 4, none⟩ = some (.int .i64 c.1.prev)
  c5 : w.cell? ⟨g, i * 7 + 5, none⟩ = some (.bool c.2.1)
  c6 : w.cell? ⟨g, i * 7 + 6, none⟩ = some (.int .i64 c.2.2)
theorem row_cell {w : World} {C : List (RC Nd)} {g cap : Nat} (h : w.ownsRow 0 225 7 (.slice (some ⟨g, 0, none⟩) C.length cap) C.length (flat encC C)) (i : Nat) {c : RC Nd} (hc : C[i]? = some c) : Seven w g i c := by
  obtain ⟨hi, he⟩ := List.getElem?_eq_some_iff.1 hc
  have key : ∀ r, r < 7 → w.cell? ⟨g, i * 7 + r, none⟩ = (encC c)[r]? := fun r hr => by
    rw [h.cellAt (i * 7 + r) (by omega), flat_get encC_len C i r hi hr, he]
  exact ⟨key 0 (by omega), key 1 (by omega), key 2 (by omega), key 3 (by omega), key 4 (by omega), key 5 (by omega), key 6 (by omega)⟩
theorem get_some {A : Ar Nd} {n : Int} {x : Nd} (h : A.get n = some x) : 0 ≤ n ∧ A.cells[n.toNat]? = some (some x) := by
  unfold Ar.get at h
  split at h
  · rename_i h0
    refine ⟨h0, ?_⟩
    cases hc : A.cells[n.toNat]? with
    | none => simp [hc] at h
    | some o => simp [hc] at h; rw [h]
  · cases h
theorem opened {w : World} {ba : Nat} {A : Ar Nd} {F : List Nat} (H : At w ba A F) {n : Int} {x : Nd} (hn : A.get n = some x) :
    ∃ (g cap : Nat) (C : List (RC Nd)) (f : Int), Fits Nd.zero A C f ∧ Has w ba [.int .i64 A.room, .slice (some ⟨g, 0, none⟩) C.length cap, .int .i64 f, .int .i64 A.count] 222 ∧
      w.ownsRow 0 225 7 (.slice (some ⟨g, 0, none⟩) C.length cap) C.length (flat encC C) ∧ g ≠ ba ∧ F = [ba, g] ∧ 0 ≤ n ∧ n < C.length ∧ C.length ≤ 1048576 ∧ C[n.toNat]? = some (x, true, 0) := by
  obtain ⟨h0, hx⟩ := get_some hn
  obtain ⟨sv, C, f, hfit, hb, hrow, hne, hF⟩ := H.out
  have hl := hfit.live _ _ hx
  have hlt := (List.getElem?_eq_some_iff.1 hl).1
  have h1 := hfit.len
  have h2 := hfit.fits
  have h3 := hfit.most
  rcases row_cases hrow with ⟨rfl, rfl⟩ | ⟨g, cap, rfl⟩
  · simp at hlt
  · exact ⟨g, cap, C, f, hfit, hb, hrow, by simpa [Value.ownBlock] using hne, by simpa [Value.ownBlock] using hF, h0, by omega, by omega, hl⟩
theorem At.lt {w : World} {ba : Nat} {A : Ar Nd} {F : List Nat} (H : At w ba A F) : ∀ b ∈ F, b < w.heap.size := by
  obtain ⟨sv, C, f, hfit, hb, hrow, hne, rfl⟩ := H.out
  intro b hm
  rcases List.mem_cons.1 hm with rfl | hm
  · exact hb.lt
  · exact own_lt hrow (by simpa using hm)
theorem At.keep {w w' : World} {ba : Nat} {A : Ar Nd} {F F0 : List Nat} (H : At w ba A F) (m : Mod F0 w w') (hd : ∀ b ∈ F, b ∉ F0) : At w' ba A F := by
  obtain ⟨sv, C, f, hfit, hb, hrow, hne, rfl⟩ := H.out
  exact ⟨sv, C, f, hfit, hb.keep m (hd _ (by simp)), own_keep hrow m (fun g hg => hd g (by simp [hg])), hne, rfl⟩
theorem At.still {w w' : World} {ba : Nat} {A : Ar Nd} {F : List Nat} (H : At w ba A F) (m : Mod [] w w') : At w' ba A F := H.keep m (by simp)
/-- A world in which a node is laid into a block of its own. -/
def putB (w : World) (b : Nat) (x : Nd) : World :=
  ((((w.setCell ⟨b, 0, none⟩ (.int .i64 x.v)).setCell ⟨b, 1, none⟩ (.int .i64 x.key)).setCell ⟨b, 2, none⟩ (.int .i64 x.child)).setCell ⟨b, 3, none⟩ (.int .i64 x.next)).setCell ⟨b, 4, none⟩ (.int .i64 x.prev)
theorem putB_mod {F : List Nat} {w0 w : World} (h : Mod F w0 w) (g : Nat) (x : Nd) (hg : g < w0.heap.size → g ∈ F) : Mod F w0 (putB w g x) :=
  ((((h.setCell _ _ hg).setCell _ _ hg).setCell _ _ hg).setCell _ _ hg).setCell _ _ hg
theorem putB_has {w : World} {b : Nat} {x : Nd} {a0 a1 a2 a3 a4 : Value} {t : TypeId} (h : Has w b [a0, a1, a2, a3, a4] t) : Has (putB w b x) b x.vals t :=
  ((((h.set 0 _).set 1 _).set 2 _).set 3 _).set 4 _
theorem putB_other {w : World} {b g : Nat} {x : Nd} {cs : List Value} {t : TypeId} (h : Has w b cs t) (hb : b ≠ g) : Has (putB w g x) b cs t :=
  ((((h.other _ _ hb).other _ _ hb).other _ _ hb).other _ _ hb).other _ _ hb
set_option maxHeartbeats 400000 in
theorem cell_live (ba g len cap : Nat) (n : Int) (w : World) (h0 : 0 ≤ n) (h1 : n < len) (hlen : len ≤ 1048576)
    (hc : w.cell? ⟨ba, 1, none⟩ = some (.slice (some ⟨g, 0, none⟩) len cap))
    (hl : w.cell? ⟨g, n.toNat * 7 + 5, none⟩ = some (.bool true)) :
    Calls Try.prog 174 #[.pointer (some ⟨ba, 0, none⟩), .int .i64 n] w fun e w' => e = .returned (.pointer (some ⟨g, n.toNat * 7, none⟩)) ∧ w = w' := by
  go_enter Try.func174, Try.ntmps174
  go_wp2
  go_ret
  exact ⟨rfl, rfl⟩
set_option maxHeartbeats 1000000 in
theorem at_some {w : World} {ba : Nat} {A : Ar Nd} {F : List Nat} (H : At w ba A F) (n : Int) (x : Nd) (hn : A.get n = some x) :
    Calls Try.prog 167 #[.pointer (some ⟨ba, 0, none⟩), .int .i64 n] w fun e w' => e = .returned (.tuple #[x.val, .bool true]) ∧ Mod [] w w' := by
  obtain ⟨wc, hwc⟩ : ∃ wc, wc = w.alloc (.cells #[.int .i64 0, .int .i64 0, .int .i64 0, .int .i64 0, .int .i64 0] 187) := ⟨_, rfl⟩
  have m0 : Mod [] w wc := by rw [hwc]; exact (Mod.refl [] w).alloc _
  obtain ⟨g, cap, C, f, hfit, hb, hrow, hne, hF, h0, h1, h2, hc⟩ := opened (H.still m0) hn
  obtain ⟨c0, c1, c2, c3, c4, c5, c6⟩ := row_cell hrow _ hc
  have hb1 := hb.cell 1 rfl
  have hB : Has wc w.heap.size [.int .i64 0, .int .i64 0, .int .i64 0, .int .i64 0, .int .i64 0] 187 := by rw [hwc]; exact Has.new w _ _
  have d0 := hB.cell 0 rfl
  have d1 := hB.cell 1 rfl
  have d2 := hB.cell 2 rfl
  have d3 := hB.cell 3 rfl
  have d4 := hB.cell 4 rfl
  have hz := hB.free
  have hl := hB.lt
  have hB' := Lib.hid hB
  have m0' := Lib.hid m0
  have hwc' := Lib.hid hwc
  clear hb hrow hF hc hn H hfit hB m0 hwc c6 hne
  generalize hBb : w.heap.size = B at *
  have hBb' := Lib.hid hBb
  clear hBb
  go_enter Try.func167, Try.ntmps167
  go_wp2_with fail
  rw [← hwc'.out, hBb'.out]
  refine (cell_live ba g _ cap _ _ h0 h1 h2 hb1 c5).mono ?_
  rintro e w' ⟨rfl, rfl⟩
  try dsimp only
  go_wp2_with fail
  have hf := putB_has (x := x) hB'.out
  have s0 := hf.cell 0 rfl
  have s1 := hf.cell 1 rfl
  have s2 := hf.cell 2 rfl
  have s3 := hf.cell 3 rfl
  have s4 := hf.cell 4 rfl
  have hfm := putB_mod m0'.out B x (fun hlt => by have := hBb'.out; omega)
  show bodyPost _ _ _ Exit.ret _ (putB wc B x)
  generalize putB wc B x = wf at *
  exact bodyPost_ret (v := .tuple #[x.val, .bool true]) (by simp [results, Try.results167, go_sem, s0, s1, s2, s3, s4, Nd.val]) rfl ⟨rfl, hfm⟩
theorem put_flat (C : List (RC Nd)) (i : Nat) (x y : Nd) (hc : C[i]? = some (y, true, 0)) :
    (((((flat encC C).set (i * 7) (.int .i64 x.v)).set (i * 7 + 1) (.int .i64 x.key)).set (i * 7 + 2) (.int .i64 x.child)).set (i * 7 + 3) (.int .i64 x.next)).set (i * 7 + 4) (.int .i64 x.prev) = flat encC (C.set i (x, true, 0)) := by
  obtain ⟨hi, he⟩ := List.getElem?_eq_some_iff.1 hc
  have hl := flat_take_length encC_len C i hi
  rw [flat_split C i hi, show i * 7 = i * 7 + 0 from rfl, mid_set _ _ _ (i * 7) 0 _ hl (by rw [encC_len]; omega), mid_set _ _ _ (i * 7) 1 _ hl (by simp [encC_len]),
    mid_set _ _ _ (i * 7) 2 _ hl (by simp [encC_len]), mid_set _ _ _ (i * 7) 3 _ hl (by simp [encC_len]), mid_set _ _ _ (i * 7) 4 _ hl (by simp [encC_len]), ← flat_mid C i hi, he]
  rfl
/-- A world in which a node is laid into a place. -/
def putW (w : World) (g j : Nat) (x : Nd) : World :=
  ((((w.setCell ⟨g, j, none⟩ (.int .i64 x.v)).setCell ⟨g, j + 1, none⟩ (.int .i64 x.key)).setCell ⟨g, j + 2, none⟩ (.int .i64 x.child)).setCell ⟨g, j + 3, none⟩ (.int .i64 x.next)).setCell ⟨g, j + 4, none⟩ (.int .i64 x.prev)
theorem putW_mod {F : List Nat} {w0 w : World} (h : Mod F w0 w) (g j : Nat) (x : Nd) (hg : g < w0.heap.size → g ∈ F) : Mod F w0 (putW w g j x) :=
  ((((h.setCell _ _ hg).setCell _ _ hg).setCell _ _ hg).setCell _ _ hg).setCell _ _ hg
theorem putW_other {w : World} {b g j : Nat} {x : Nd} {cs : List Value} {t : TypeId} (h : Has w b cs t) (hb : b ≠ g) : Has (putW w g j x) b cs t :=
  ((((h.other _ _ hb).other _ _ hb).other _ _ hb).other _ _ hb).other _ _ hb
set_option maxHeartbeats 1000000 in
theorem set_some {w : World} {ba : Nat} {A : Ar Nd} {F : List Nat} (H : At w ba A F) (n : Int) (x y : Nd) (hn : A.get n = some y) :
    Calls Try.prog 168 #[.pointer (some ⟨ba, 0, none⟩), .int .i64 n, x.val] w fun e w' => e = .returned (.bool true) ∧ At w' ba (A.put n.toNat x) F ∧ Mod F w w' := by
  obtain ⟨wc, hwc⟩ : ∃ wc, wc = w.alloc (.cells #[.int .i64 x.v, .int .i64 x.key, .int .i64 x.child, .int .i64 x.next, .int .i64 x.prev] 187) := ⟨_, rfl⟩
  have m0 : Mod [] w wc := by rw [hwc]; exact (Mod.refl [] w).alloc _
  obtain ⟨_, hx⟩ := get_some hn
  have hlt0 := H.lt
  obtain ⟨g, cap, C, f, hfit, hb, hrow, hne, rfl, h0, h1, h2, hc⟩ := opened (H.still m0) hn
  have hfin : At (putW wc g (n.toNat * 7) x) ba (A.put n.toNat x) [ba, g] ∧ Mod [ba, g] w (putW wc g (n.toNat * 7) x) := by
    have hs := (((((hrow.stored (n.toNat * 7) (.int .i64 x.v)).1.stored (n.toNat * 7 + 1) (.int .i64 x.key)).1.stored (n.toNat * 7 + 2) (.int .i64 x.child)).1.stored (n.toNat * 7 + 3) (.int .i64 x.next)).1.stored (n.toNat * 7 + 4) (.int .i64 x.prev)).1
    rw [put_flat C _ x y hc] at hs
    refine ⟨⟨_, C.set n.toNat (x, true, 0), f, hfit.put hx x, ?_, by rw [List.length_set]; exact hs, by simpa [Value.ownBlock] using hne, rfl⟩, putW_mod m0.of0 _ _ _ (fun _ => by simp)⟩
    have := putW_other (x := x) (j := n.toNat * 7) hb hne.symm
    simpa [Ar.put, Ar.count] using this
  obtain ⟨c0, c1, c2, c3, c4, c5, c6⟩ := row_cell hrow _ hc
  have hb1 := hb.cell 1 rfl
  have hfr := hrow.frozenAt
  have hB : Has wc w.heap.size [.int .i64 x.v, .int .i64 x.key, .int .i64 x.child, .int .i64 x.next, .int .i64 x.prev] 187 := by rw [hwc]; exact Has.new w _ _
  have d0 := hB.cell 0 rfl
  have d1 := hB.cell 1 rfl
  have d2 := hB.cell 2 rfl
  have d3 := hB.cell 3 rfl
  have d4 := hB.cell 4 rfl
  have hl := hB.lt
  have hgl := Nat.lt_of_lt_of_le (hlt0 g (by simp)) m0.size
  have hfin' := Lib.hid hfin
  have hwc' := Lib.hid hwc
  clear hb hrow hc hn H hfit hx hfin hB m0 hwc hlt0 hne
  unfold Nd.val
  go_enter Try.func168, Try.ntmps168
  go_wp2_with fail
  rw [← hwc'.out]
  refine (cell_live ba g _ cap _ _ h0 h1 h2 hb1 c5).mono ?_
  rintro e w' ⟨rfl, rfl⟩
  try dsimp only
  go_wp2_with fail
  go_ret
  exact ⟨rfl, hfin'.out⟩
end ArN
end Go.Proofs.Ytmkbinbggiocaaa
