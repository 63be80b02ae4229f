/- What the calls on an arena of whole numbers do, part 2: At, Set, Free, Give, Len, Room, New. -/
import Derived.Test.YtmkbinbggiocaaaArena
set_option linter.unusedVariables false
set_option linter.unusedSimpArgs false
namespace Go.Proofs.Ytmkbinbggiocaaa
open Go.RowKit Arena
namespace ArI

/-- What a call on the arena ba leaves: the arena is A', nothing else that was there has changed. -/
structure Left (w w' : World) (ba : Nat) (A' : Ar Int) (F : List Nat) : Prop where
  mk ::
  out : ∃ F', At w' ba A' F' ∧ Mod F w w' ∧ ∀ b ∈ F', b ∈ F ∨ w.heap.size ≤ b

theorem get_some {A : Ar Int} {n x : Int} (h : A.get n = some x) : 0 ≤ n ∧ A.cells[n.toNat]? = some (some x) := by
  unfold Ar.get at h
  split at h
  · rename_i h0
    refine ⟨h0, ?_⟩
    cases hc : A.cells[n.toNat]? with
    | none => simp [hc] at h
    | some o => simp [hc] at h; rw [h]
  · cases h
theorem opened {w : World} {ba : Nat} {A : Ar Int} {F : List Nat} (H : At w ba A F) {n x : Int} (hn : A.get n = some x) :
    ∃ (g cap : Nat) (C : List (RC Int)) (f : Int), Fits 0 A C f ∧ Has w ba [.int .i64 A.room, .slice (some ⟨g, 0, none⟩) C.length cap, .int .i64 f, .int .i64 A.count] 147 ∧
      w.ownsRow 0 150 3 (.slice (some ⟨g, 0, none⟩) C.length cap) C.length (flat encC C) ∧ g ≠ ba ∧ F = [ba, g] ∧ 0 ≤ n ∧ n < C.length ∧ C.length ≤ 1048576 ∧ C[n.toNat]? = some (x, true, 0) := by
  obtain ⟨h0, hx⟩ := get_some hn
  obtain ⟨sv, C, f, hfit, hb, hrow, hne, hF⟩ := H.out
  have hl := hfit.live _ _ hx
  have hlt := (List.getElem?_eq_some_iff.1 hl).1
  have h1 := hfit.len
  have h2 := hfit.fits
  have h3 := hfit.most
  rcases row_cases hrow with ⟨rfl, rfl⟩ | ⟨g, cap, rfl⟩
  · simp at hlt
  · exact ⟨g, cap, C, f, hfit, hb, hrow, by simpa [Value.ownBlock] using hne, by simpa [Value.ownBlock] using hF, h0, by omega, by omega, hl⟩

/-! ### At -/
set_option maxHeartbeats 400000 in
theorem at_nil (n : Int) (w : World) :
    Calls Try.prog 24 #[.pointer none, .int .i64 n] w fun e w' => e = .returned (.tuple #[.int .i64 0, .bool false]) ∧ w = w' := by
  go_enter Try.func24, Try.ntmps24
  go_wp2_with (go_at_call 95; refine (cell_nil _ _).mono ?_; rintro e w' ⟨rfl, rfl⟩)
  go_ret2
  exact ⟨rfl, rfl⟩
set_option maxHeartbeats 400000 in
theorem at_none {w : World} {ba : Nat} {A : Ar Int} {F : List Nat} (H : At w ba A F) (n : Int) (hn : A.get n = none) :
    Calls Try.prog 24 #[.pointer (some ⟨ba, 0, none⟩), .int .i64 n] w fun e w' => e = .returned (.tuple #[.int .i64 0, .bool false]) ∧ w = w' := by
  have hn' := Lib.hid hn; clear hn
  go_enter Try.func24, Try.ntmps24
  go_wp2_with (go_at_call 95; refine (cell_none H _ hn'.out).mono ?_; rintro e w' ⟨rfl, rfl⟩)
  go_ret2
  exact ⟨rfl, rfl⟩
set_option maxHeartbeats 400000 in
theorem at_some {w : World} {ba : Nat} {A : Ar Int} {F : List Nat} (H : At w ba A F) (n x : Int) (hn : A.get n = some x) :
    Calls Try.prog 24 #[.pointer (some ⟨ba, 0, none⟩), .int .i64 n] w fun e w' => e = .returned (.tuple #[.int .i64 x, .bool true]) ∧ w = w' := by
  obtain ⟨g, cap, C, f, hfit, hb, hrow, hne, hF, h0, h1, h2, hc⟩ := opened H hn
  obtain ⟨c0, c1, c2⟩ := row_cell hrow _ hc
  have hb1 := hb.cell 1 rfl
  clear hb hrow hF hc hn H hfit
  go_enter Try.func24, Try.ntmps24
  go_wp2_with (go_at_call 95; refine (cell_live ba g _ cap _ _ h0 h1 h2 hb1 c1).mono ?_; rintro e w' ⟨rfl, rfl⟩)
  go_ret2
  exact ⟨rfl, rfl⟩

/-! ### Set -/
set_option maxHeartbeats 400000 in
theorem set_nil (n x : Int) (w : World) :
    Calls Try.prog 22 #[.pointer none, .int .i64 n, .int .i64 x] w fun e w' => e = .returned (.bool false) ∧ w = w' := by
  go_enter Try.func22, Try.ntmps22
  go_wp2_with (go_at_call 95; refine (cell_nil _ _).mono ?_; rintro e w' ⟨rfl, rfl⟩)
  go_ret
  exact ⟨rfl, rfl⟩
set_option maxHeartbeats 400000 in
theorem set_none {w : World} {ba : Nat} {A : Ar Int} {F : List Nat} (H : At w ba A F) (n x : Int) (hn : A.get n = none) :
    Calls Try.prog 22 #[.pointer (some ⟨ba, 0, none⟩), .int .i64 n, .int .i64 x] w fun e w' => e = .returned (.bool false) ∧ w = w' := by
  have hn' := Lib.hid hn; clear hn
  go_enter Try.func22, Try.ntmps22
  go_wp2_with (go_at_call 95; refine (cell_none H _ hn'.out).mono ?_; rintro e w' ⟨rfl, rfl⟩)
  go_ret
  exact ⟨rfl, rfl⟩
theorem put_flat (C : List (RC Int)) (i : Nat) (x y : Int) (hc : C[i]? = some (y, true, 0)) : (flat encC C).set (i * 3) (.int .i64 x) = flat encC (C.set i (x, true, 0)) := by
  obtain ⟨hi, he⟩ := List.getElem?_eq_some_iff.1 hc
  rw [flat_split C i hi, show i * 3 = i * 3 + 0 from rfl, mid_set _ _ _ (i * 3) 0 _ (flat_take_length encC_len C i hi) (by rw [encC_len]; omega), ← flat_mid C i hi, he]
  rfl
set_option maxHeartbeats 400000 in
theorem set_some {w : World} {ba : Nat} {A : Ar Int} {F : List Nat} (H : At w ba A F) (n x y : Int) (hn : A.get n = some y) :
    Calls Try.prog 22 #[.pointer (some ⟨ba, 0, none⟩), .int .i64 n, .int .i64 x] w fun e w' => e = .returned (.bool true) ∧ Left w w' ba (A.put n.toNat x) F := by
  obtain ⟨_, hx⟩ := get_some hn
  obtain ⟨g, cap, C, f, hfit, hb, hrow, hne, rfl, h0, h1, h2, hc⟩ := opened H hn
  have hfin : ∀ w1, w1 = w.setCell ⟨g, n.toNat * 3, none⟩ (.int .i64 x) → Left w w1 ba (A.put n.toNat x) [ba, g] := by
    rintro _ rfl
    have hs := (hrow.stored (n.toNat * 3) (.int .i64 x)).1
    rw [put_flat C _ x y hc] at hs
    refine ⟨[ba, g], ⟨_, C.set n.toNat (x, true, 0), f, hfit.put hx x, ?_, by rw [List.length_set]; exact hs, by simpa [Value.ownBlock] using hne, rfl⟩, ?_, fun b hb => .inl hb⟩
    · have := hb.other ⟨g, n.toNat * 3, none⟩ (.int .i64 x) (fun e => hne e.symm)
      simpa [Ar.put, Ar.count] using this
    · exact (Mod.refl _ _).setCell _ _ (fun _ => by simp)
  obtain ⟨c0, c1, c2⟩ := row_cell hrow _ hc
  have hb1 := hb.cell 1 rfl
  have hfr := hrow.frozenAt (n.toNat * 3)
  have hfin' := Lib.hid hfin
  clear hb hrow hc hn H hfit hx hfin
  go_enter Try.func22, Try.ntmps22
  go_wp2_with (go_at_call 95; refine (cell_live ba g _ cap _ _ h0 h1 h2 hb1 c1).mono ?_; rintro e w' ⟨rfl, rfl⟩)
  go_ret
  exact ⟨rfl, hfin'.out _ rfl⟩

/-! ### Free -/
set_option maxHeartbeats 400000 in
theorem free_nil (n : Int) (w : World) :
    Calls Try.prog 20 #[.pointer none, .int .i64 n] w fun e w' => e = .returned (.tuple #[.int .i64 0, .bool false]) ∧ w = w' := by
  go_enter Try.func20, Try.ntmps20
  go_wp2_with (go_at_call 95; refine (cell_nil _ _).mono ?_; rintro e w' ⟨rfl, rfl⟩)
  go_ret2
  exact ⟨rfl, rfl⟩
set_option maxHeartbeats 400000 in
theorem free_none {w : World} {ba : Nat} {A : Ar Int} {F : List Nat} (H : At w ba A F) (n : Int) (hn : A.get n = none) :
    Calls Try.prog 20 #[.pointer (some ⟨ba, 0, none⟩), .int .i64 n] w fun e w' => e = .returned (.tuple #[.int .i64 0, .bool false]) ∧ w = w' := by
  have hn' := Lib.hid hn; clear hn
  go_enter Try.func20, Try.ntmps20
  go_wp2_with (go_at_call 95; refine (cell_none H _ hn'.out).mono ?_; rintro e w' ⟨rfl, rfl⟩)
  go_ret2
  exact ⟨rfl, rfl⟩
theorem three_flat (C : List (RC Int)) (i : Nat) (c : RC Int) (hi : i < C.length) :
    (((flat encC C).set (i * 3) (.int .i64 c.1)).set (i * 3 + 1) (.bool c.2.1)).set (i * 3 + 2) (.int .i64 c.2.2) = flat encC (C.set i c) := by
  have hl := flat_take_length encC_len C i hi
  rw [flat_split C i hi, show i * 3 = i * 3 + 0 from rfl, mid_set _ _ _ (i * 3) 0 _ hl (by rw [encC_len]; omega), mid_set _ _ _ (i * 3) 1 _ hl (by simp [encC_len]),
    mid_set _ _ _ (i * 3) 2 _ hl (by simp [encC_len]), ← flat_mid C i hi]
  rfl
set_option maxHeartbeats 400000 in
theorem free_some {w : World} {ba : Nat} {A : Ar Int} {F : List Nat} (H : At w ba A F) (n y : Int) (hn : A.get n = some y) :
    Calls Try.prog 20 #[.pointer (some ⟨ba, 0, none⟩), .int .i64 n] w fun e w' => e = .returned (.tuple #[.int .i64 y, .bool true]) ∧ Left w w' ba (A.drop n.toNat) F := by
  obtain ⟨_, hx⟩ := get_some hn
  obtain ⟨g, cap, C, f, hfit, hb, hrow, hne, rfl, h0, h1, h2, hc⟩ := opened H hn
  have hcnt : (A.drop n.toNat).count + 1 = A.count := by
    have hd := hfit.drop hx
    have := hd.free_le
    simp only [Ar.drop, Ar.count, List.length_set, List.length_cons] at this ⊢
    omega
  have hfin : ∀ w1, w1 = ((((w.setCell ⟨g, n.toNat * 3, none⟩ (.int .i64 0)).setCell ⟨g, n.toNat * 3 + 1, none⟩ (.bool false)).setCell ⟨g, n.toNat * 3 + 2, none⟩ (.int .i64 f)).setCell ⟨ba, 2, none⟩ (.int .i64 n)).setCell ⟨ba, 3, none⟩ (.int .i64 ((A.count : Int) - 1)) → Left w w1 ba (A.drop n.toNat) [ba, g] := by
    rintro _ rfl
    have hs := (((hrow.stored (n.toNat * 3) (.int .i64 0)).1.stored (n.toNat * 3 + 1) (.bool false)).1.stored (n.toNat * 3 + 2) (.int .i64 f)).1
    rw [three_flat C n.toNat (0, false, f) (by omega)] at hs
    have hs2 := own_other (own_other hs ⟨ba, 2, none⟩ (.int .i64 n) (by simpa [Value.ownBlock] using hne)) ⟨ba, 3, none⟩ (.int .i64 ((A.count : Int) - 1)) (by simpa [Value.ownBlock] using hne)
    refine ⟨[ba, g], ⟨_, C.set n.toNat (0, false, f), n, ?_, ?_, by rw [List.length_set]; exact hs2, by simpa [Value.ownBlock] using hne, rfl⟩, ?_, fun b hb => .inl hb⟩
    · have := hfit.drop hx
      rwa [show ((n.toNat : Nat) : Int) = n from by omega] at this
    · have h5 := ((((hb.other ⟨g, n.toNat * 3, none⟩ (.int .i64 0) (fun e => hne e.symm)).other ⟨g, n.toNat * 3 + 1, none⟩ (.bool false) (fun e => hne e.symm)).other ⟨g, n.toNat * 3 + 2, none⟩ (.int .i64 f) (fun e => hne e.symm)).set 2 (.int .i64 n)).set 3 (.int .i64 ((A.count : Int) - 1))
      have e : ((A.count : Int) - 1) = ((A.drop n.toNat).count : Int) := by omega
      rw [e] at h5 ⊢
      simpa [Ar.drop] using h5
    · exact (((((Mod.refl _ _).setCell _ _ (fun _ => by simp)).setCell _ _ (fun _ => by simp)).setCell _ _ (fun _ => by simp)).setCell _ _ (fun _ => by simp)).setCell _ _ (fun _ => by simp)
  obtain ⟨c0, c1, c2⟩ := row_cell hrow _ hc
  have hb1 := hb.cell 1 rfl
  have hb2 := hb.cell 2 rfl
  have hb3 := hb.cell 3 rfl
  have hfb := hb.free
  have hfr := hrow.frozenAt
  have hne' : ba ≠ g := fun e => hne e.symm
  have hcl : (1 : Int) ≤ A.count := by omega
  have hcu : (A.count : Int) ≤ 1048576 := by
    have h4 := hfit.fits
    have h5 := hfit.most
    have h6 : A.count ≤ A.cells.length := Nat.sub_le _ _
    omega
  have hfin' := Lib.hid hfin
  clear hb hrow hc hn H hfit hx hfin hcnt
  go_enter Try.func20, Try.ntmps20
  go_wp2_with (go_at_call 95; refine (cell_live ba g _ cap _ _ h0 h1 h2 hb1 c1).mono ?_; rintro e w' ⟨rfl, rfl⟩)
  go_ret2
  exact ⟨rfl, hfin'.out _ rfl⟩
end ArI
end Go.Proofs.Ytmkbinbggiocaaa
