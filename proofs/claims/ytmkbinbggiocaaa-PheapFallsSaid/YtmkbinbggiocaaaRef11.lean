/- What the calls on the reference's arena do, told of the plain arena. -/
import Derived.Test.YtmkbinbggiocaaaArena3
set_option linter.unusedVariables false
set_option linter.unusedSimpArgs false
namespace Go.Proofs.Ytmkbinbggiocaaa
open Go.RowKit Arena
namespace Ref11

def ints (l : List Int) : List Value := l.map fun x => .int .i64 x
def bools (l : List Bool) : List Value := l.map fun x => .bool x
def nats (l : List Nat) : List Value := l.map fun (x : Nat) => Value.int .i64 (x : Int)

/-- What holds of the plain arena. -/
structure Ok (A : Ar Int) : Prop where
  fits : A.cells.length ≤ A.room
  most : A.room ≤ 1048576
  dead : ∀ i : Nat, A.cells[i]? = some none ↔ i ∈ A.free
  nodup : A.free.Nodup
theorem ok_of {z : Int} {A : Ar Int} {C : List (RC Int)} {f : Int} (h : Fits z A C f) : Ok A := ⟨h.fits, h.most, h.dead, h.nodup⟩

structure Same (A : Ar Int) (X : List Int) (I : List Bool) : Prop where
  lx : X.length = A.cells.length
  li : I.length = A.cells.length
  live : ∀ (i : Nat) (x : Int), A.cells[i]? = some (some x) → X[i]? = some x ∧ I[i]? = some true
  dead : ∀ i : Nat, A.cells[i]? = some none → I[i]? = some false

structure At (w : World) (bx : Nat) (A : Ar Int) (F : List Nat) : Prop where
  mk ::
  out : ∃ (sx si sf : Value) (X : List Int) (I : List Bool), Same A X I ∧ Has w bx [.int .i64 A.room, sx, si, sf] 41 ∧
    w.ownsRow 0 3 1 sx X.length (ints X) ∧ w.ownsRow 0 4 1 si I.length (bools I) ∧ Reads w 1 sf A.free.length (nats A.free) ∧
    sx.ownBlock ≠ some bx ∧ si.ownBlock ≠ some bx ∧ sf.ownBlock ≠ some bx ∧ (∀ g, sx.ownBlock = some g → si.ownBlock ≠ some g) ∧ (∀ g, sx.ownBlock = some g → sf.ownBlock ≠ some g) ∧ (∀ g, si.ownBlock = some g → sf.ownBlock ≠ some g) ∧ (∀ g, sf.ownBlock = some g → g < w.heap.size) ∧
    F = bx :: (sx.ownBlock.toList ++ si.ownBlock.toList ++ sf.ownBlock.toList)
structure Left (w w' : World) (bx : Nat) (A' : Ar Int) (F : List Nat) : Prop where
  mk ::
  out : ∃ F', At w' bx A' F' ∧ Mod F w w' ∧ ∀ b ∈ F', b ∈ F ∨ w.heap.size ≤ b

/-! ### New -/
set_option maxHeartbeats 400000 in
theorem new_at (n : Int) (w : World) :
    Calls Try.prog 17 #[.int .i64 n] w fun e w' => e = .returned (.pointer (some ⟨w.heap.size, 0, none⟩)) ∧ At w' w.heap.size ⟨ArI.roomOf n, [], []⟩ [w.heap.size] ∧ Mod [] w w' := by
  have hfin : ∀ w1 (r : Int), r = ArI.roomOf n → w1 = w.alloc (.cells #[.int .i64 r, .slice none 0 0, .slice none 0 0, .slice none 0 0] 41) → At w1 w.heap.size ⟨ArI.roomOf n, [], []⟩ [w.heap.size] ∧ Mod [] w w1 := by
    rintro _ _ rfl rfl
    exact ⟨⟨.slice none 0 0, .slice none 0 0, .slice none 0 0, [], [], ⟨rfl, rfl, by simp, by simp⟩, Has.new w _ _, World.ownsRow_nil _ _ _ _, World.ownsRow_nil _ _ _ _, Reads.nil _ _, by simp [Value.ownBlock], by simp [Value.ownBlock], by simp [Value.ownBlock], by simp [Value.ownBlock], by simp [Value.ownBlock], by simp [Value.ownBlock], by simp [Value.ownBlock], by simp [Value.ownBlock]⟩, (Mod.refl _ _).alloc _⟩
  have hfin' := Lib.hid hfin
  clear hfin
  go_enter Try.func17, Try.ntmps17
  go_wp2
  all_goals
    go_ret
    exact ⟨rfl, hfin'.out _ _ (by unfold ArI.roomOf; omega) rfl⟩

/-! ### At -/
theorem row_form {w : World} {e : Nat} {v : Value} {xs : List Value} {n i : Nat} (h : w.ownsRow 0 e 1 v n xs) (hi : i < n) : ∃ g cap, v = .slice (some ⟨g, 0, none⟩) n cap := by
  rcases h.2 with ⟨rfl, h0⟩ | ⟨g, cap, cur, rfl, _⟩
  · omega
  · exact ⟨g, cap, rfl⟩
theorem row_slice {w : World} {e : Nat} {v : Value} {xs : List Value} {n : Nat} (h : w.ownsRow 0 e 1 v n xs) : ∃ a cap, v = .slice a n cap := by
  rcases h.2 with ⟨rfl, h0⟩ | ⟨g, cap, cur, rfl, _⟩
  · exact ⟨none, 0, by rw [h0]⟩
  · exact ⟨_, cap, rfl⟩
set_option maxHeartbeats 400000 in
theorem at_out (bx : Nat) (a : Option Addr) (len cap : Nat) (n : Int) (w : World) (h : n < 0 ∨ (len : Int) ≤ n) (hlt : bx < w.heap.size) (hc : w.cell? ⟨bx, 1, none⟩ = some (.slice a len cap)) :
    Calls Try.prog 25 #[.pointer (some ⟨bx, 0, none⟩), .int .i64 n] w fun e w' => e = .returned (.agg #[.int .i64 0, .bool false]) ∧ Mod [] w w' := by
  have hm : ∀ o1, Mod [] w (w.alloc o1) := fun o1 => (Mod.refl _ _).alloc o1
  have hm' := Lib.hid hm
  clear hm
  by_cases h0 : n < 0
  · go_enter Try.func25, Try.ntmps25
    go_wp2
    exact bodyPost_ret (v := .agg #[.int .i64 0, .bool false]) (by simp [results, Try.results25, go_sem]) rfl ⟨rfl, hm'.out _⟩
  · have h1 : (len : Int) ≤ n := by omega
    have h0' : 0 ≤ n := by omega
    go_enter Try.func25, Try.ntmps25
    go_wp2
    exact bodyPost_ret (v := .agg #[.int .i64 0, .bool false]) (by simp [results, Try.results25, go_sem]) rfl ⟨rfl, hm'.out _⟩
set_option maxHeartbeats 400000 in
theorem at_dead (bx gi len cap c2 : Nat) (a : Option Addr) (n : Int) (w : World) (h0 : 0 ≤ n) (h1 : n < len) (hlen : len ≤ 1048576) (hlt : bx < w.heap.size) (hlt2 : gi < w.heap.size) (hc : w.cell? ⟨bx, 1, none⟩ = some (.slice a len cap)) (hi : w.cell? ⟨bx, 2, none⟩ = some (.slice (some ⟨gi, 0, none⟩) len c2)) (hl : w.cell? ⟨gi, n.toNat, none⟩ = some (.bool false)) :
    Calls Try.prog 25 #[.pointer (some ⟨bx, 0, none⟩), .int .i64 n] w fun e w' => e = .returned (.agg #[.int .i64 0, .bool false]) ∧ Mod [] w w' := by
  have hm : ∀ o1, Mod [] w (w.alloc o1) := fun o1 => (Mod.refl _ _).alloc o1
  have hm' := Lib.hid hm
  clear hm
  go_enter Try.func25, Try.ntmps25
  go_wp2
  exact bodyPost_ret (v := .agg #[.int .i64 0, .bool false]) (by simp [results, Try.results25, go_sem]) rfl ⟨rfl, hm'.out _⟩
set_option maxHeartbeats 400000 in
theorem at_live (bx gx gi len c1 c2 : Nat) (n x : Int) (w : World) (h0 : 0 ≤ n) (h1 : n < len) (hlen : len ≤ 1048576) (hlt : bx < w.heap.size) (hlt2 : gi < w.heap.size) (hlt3 : gx < w.heap.size) (hc : w.cell? ⟨bx, 1, none⟩ = some (.slice (some ⟨gx, 0, none⟩) len c1)) (hi : w.cell? ⟨bx, 2, none⟩ = some (.slice (some ⟨gi, 0, none⟩) len c2)) (hl : w.cell? ⟨gi, n.toNat, none⟩ = some (.bool true)) (hx : w.cell? ⟨gx, n.toNat, none⟩ = some (.int .i64 x)) :
    Calls Try.prog 25 #[.pointer (some ⟨bx, 0, none⟩), .int .i64 n] w fun e w' => e = .returned (.agg #[.int .i64 x, .bool true]) ∧ Mod [] w w' := by
  have hm : ∀ o1, Mod [] w (w.alloc o1) := fun o1 => (Mod.refl _ _).alloc o1
  have hm' := Lib.hid hm
  clear hm
  go_enter Try.func25, Try.ntmps25
  go_wp2
  exact bodyPost_ret (v := .agg #[.int .i64 x, .bool true]) (by simp [results, Try.results25, go_sem]) rfl ⟨rfl, hm'.out _⟩
theorem ints_get {l : List Int} {i : Nat} {x : Int} (h : l[i]? = some x) : (ints l)[i]? = some (.int .i64 x) := by simp [ints, h]
theorem bools_get {l : List Bool} {i : Nat} {x : Bool} (h : l[i]? = some x) : (bools l)[i]? = some (.bool x) := by simp [bools, h]
theorem row_at {w : World} {e : Nat} {g cap n : Nat} {xs : List Value} (h : w.ownsRow 0 e 1 (.slice (some ⟨g, 0, none⟩) n cap) n xs) (i : Nat) {u : Value} (hu : xs[i]? = some u) : w.cell? ⟨g, i, none⟩ = some u := by
  have hi := (List.getElem?_eq_some_iff.1 hu).1
  rw [h.cellAt i (by rw [← h.1]; exact hi), hu]
theorem at_none {w : World} {bx : Nat} {A : Ar Int} {F : List Nat} (H : At w bx A F) (ok : Ok A) (n : Int) (hn : A.get n = none) :
    Calls Try.prog 25 #[.pointer (some ⟨bx, 0, none⟩), .int .i64 n] w fun e w' => e = .returned (.agg #[.int .i64 0, .bool false]) ∧ Mod [] w w' := by
  obtain ⟨sx, si, sf, X, I, hs, hb, hx, hi, hf, _⟩ := H.out
  have e1 := hs.lx
  have e2 := hs.li
  have e3 := ok.fits
  have e4 := ok.most
  obtain ⟨a1, c1, rfl⟩ := row_slice hx
  by_cases hin : 0 ≤ n ∧ n < A.cells.length
  · obtain ⟨h0, h1⟩ := hin
    obtain ⟨gi, c2, rfl⟩ := row_form hi (i := n.toNat) (by omega)
    have hd : A.cells[n.toNat]? = some none := by
      have hlt : n.toNat < A.cells.length := by omega
      rw [List.getElem?_eq_getElem hlt]
      simp only [Ar.get, h0, if_true, List.getElem?_eq_getElem hlt, Option.join_some] at hn
      rw [hn]
    have hI := hs.dead _ hd
    have hc2 := hb.cell 2 rfl
    rw [show I.length = X.length from by omega] at hc2
    exact at_dead bx gi X.length c1 c2 a1 n w h0 (by omega) (by omega) hb.lt (own_lt hi rfl) (hb.cell 1 rfl) hc2 (row_at hi _ (bools_get hI))
  · exact at_out bx a1 X.length c1 n w (by omega) hb.lt (hb.cell 1 rfl)
theorem at_some {w : World} {bx : Nat} {A : Ar Int} {F : List Nat} (H : At w bx A F) (ok : Ok A) (n x : Int) (hn : A.get n = some x) :
    Calls Try.prog 25 #[.pointer (some ⟨bx, 0, none⟩), .int .i64 n] w fun e w' => e = .returned (.agg #[.int .i64 x, .bool true]) ∧ Mod [] w w' := by
  obtain ⟨sx, si, sf, X, I, hs, hb, hx, hi, hf, _⟩ := H.out
  have e1 := hs.lx
  have e2 := hs.li
  have e3 := ok.fits
  have e4 := ok.most
  obtain ⟨h0, hc⟩ := ArI.get_some hn
  have hlt := (List.getElem?_eq_some_iff.1 hc).1
  obtain ⟨hX, hI⟩ := hs.live _ _ hc
  obtain ⟨gx, c1, rfl⟩ := row_form hx (i := n.toNat) (by omega)
  obtain ⟨gi, c2, rfl⟩ := row_form hi (i := n.toNat) (by omega)
  have hc2 := hb.cell 2 rfl
  rw [show I.length = X.length from by omega] at hc2
  exact at_live bx gx gi X.length c1 c2 n x w h0 (by omega) (by omega) hb.lt (own_lt hi rfl) (own_lt hx rfl) (hb.cell 1 rfl) hc2 (row_at hi _ (bools_get hI)) (row_at hx _ (ints_get hX))
end Ref11
end Go.Proofs.Ytmkbinbggiocaaa
