/- What the calls on an arena of whole numbers do, part 3: Give, Len, Room, New. -/
import Derived.Test.YtmkbinbggiocaaaArena2
set_option linter.unusedVariables false
set_option linter.unusedSimpArgs false
namespace Go.Proofs.Ytmkbinbggiocaaa
open Go.RowKit Arena
namespace ArI
theorem infoC : (Try.prog.info? 150).map (fun i => (i.zero, i.size, i.bytes)) = some (some (.agg #[.int .i64 0, .bool false, .int .i64 0]), 3, 24) := by kernel_rfl

theorem count_le {A : Ar Int} {C : List (RC Int)} {f : Int} (h : Fits 0 A C f) : A.count ≤ 1048576 ∧ A.count ≤ C.length ∧ C.length ≤ A.room ∧ A.room ≤ 1048576 := by
  have h4 := h.fits
  have h5 := h.most
  have h6 : A.count ≤ A.cells.length := Nat.sub_le _ _
  have h7 := h.len
  omega
/-! ### Len, Room -/
set_option maxHeartbeats 400000 in
theorem len_nil (w : World) :
    Calls Try.prog 27 #[.pointer none] w fun e w' => e = .returned (.int .i64 0) ∧ w = w' := by
  go_enter Try.func27, Try.ntmps27
  go_wp2
  go_ret
  exact ⟨rfl, rfl⟩
set_option maxHeartbeats 400000 in
theorem len_at {w : World} {ba : Nat} {A : Ar Int} {F : List Nat} (H : At w ba A F) :
    Calls Try.prog 27 #[.pointer (some ⟨ba, 0, none⟩)] w fun e w' => e = .returned (.int .i64 A.count) ∧ w = w' := by
  obtain ⟨sv, C, f, hfit, hb, hrow, hne, hF⟩ := H.out
  have hb3 := hb.cell 3 rfl
  clear hfit hb hrow hne hF H
  go_enter Try.func27, Try.ntmps27
  go_wp2
  go_ret
  exact ⟨rfl, rfl⟩
set_option maxHeartbeats 400000 in
theorem room_nil (w : World) :
    Calls Try.prog 28 #[.pointer none] w fun e w' => e = .returned (.int .i64 0) ∧ w = w' := by
  go_enter Try.func28, Try.ntmps28
  go_wp2
  go_ret
  exact ⟨rfl, rfl⟩
set_option maxHeartbeats 400000 in
theorem room_at {w : World} {ba : Nat} {A : Ar Int} {F : List Nat} (H : At w ba A F) :
    Calls Try.prog 28 #[.pointer (some ⟨ba, 0, none⟩)] w fun e w' => e = .returned (.int .i64 A.room) ∧ w = w' := by
  obtain ⟨sv, C, f, hfit, hb, hrow, hne, hF⟩ := H.out
  have hb0 := hb.cell 0 rfl
  clear hfit hb hrow hne hF H
  go_enter Try.func28, Try.ntmps28
  go_wp2
  go_ret
  exact ⟨rfl, rfl⟩

/-! ### New -/
def roomOf (n : Int) : Nat := (min (max n 0) 1048576).toNat
set_option maxHeartbeats 400000 in
theorem new_at (n : Int) (w : World) :
    Calls Try.prog 16 #[.int .i64 n] w fun e w' => e = .returned (.pointer (some ⟨w.heap.size, 0, none⟩)) ∧ At w' w.heap.size ⟨roomOf n, [], []⟩ [w.heap.size] ∧ Mod [] w w' := by
  have hfin : ∀ w1 (r : Int), r = roomOf n → w1 = w.alloc (.cells #[.int .i64 r, .slice none 0 0, .int .i64 (-1), .int .i64 0] 147) → At w1 w.heap.size ⟨roomOf n, [], []⟩ [w.heap.size] ∧ Mod [] w w1 := by
    rintro _ _ rfl rfl
    refine ⟨⟨.slice none 0 0, [], -1, Fits.made 0 _ (by unfold roomOf; omega), Has.new w _ _, World.ownsRow_nil _ _ _ _, by simp [Value.ownBlock], by simp [Value.ownBlock]⟩, (Mod.refl _ _).alloc _⟩
  have hfin' := Lib.hid hfin
  clear hfin
  go_enter Try.func16, Try.ntmps16
  go_wp2
  all_goals
    go_ret
    exact ⟨rfl, hfin'.out _ _ (by unfold roomOf; omega) rfl⟩

/-! ### Give -/
set_option maxHeartbeats 400000 in
theorem give_nil (x : Int) (w : World) :
    Calls Try.prog 18 #[.pointer none, .int .i64 x] w fun e w' => e = .returned (.tuple #[.int .i64 0, .bool false]) ∧ w = w' := by
  go_enter Try.func18, Try.ntmps18
  go_wp2
  go_ret2
  exact ⟨rfl, rfl⟩
set_option maxHeartbeats 400000 in
theorem give_old {w : World} {ba : Nat} {A : Ar Int} {F : List Nat} (H : At w ba A F) (x : Int) (i : Nat) (l : List Nat) (he : A.free = i :: l) :
    Calls Try.prog 18 #[.pointer (some ⟨ba, 0, none⟩), .int .i64 x] w fun e w' => e = .returned (.tuple #[.int .i64 i, .bool true]) ∧ Left w w' ba (A.give x).1 F := by
  obtain ⟨sv, C, f, hfit, hb, hrow, hne, rfl⟩ := H.out
  obtain ⟨rfl, hlt, nx, hc, hch⟩ := hfit.head he
  obtain ⟨g, cap, rfl⟩ : ∃ g cap, sv = .slice (some ⟨g, 0, none⟩) C.length cap := by
    rcases row_cases hrow with ⟨rfl, rfl⟩ | h
    · simp at hc
    · exact h
  have hcount := count_le hfit
  have hfl := hfit.free_le
  have hcnt : (A.give x).1.count = A.count + 1 := by
    simp only [Ar.give, he, Ar.count, List.length_set, List.length_cons] at hfl ⊢
    omega
  have hcl : A.count < C.length := by
    have := hfit.len
    simp only [he, Ar.count, List.length_cons] at hfl hcnt ⊢
    omega
  have hg : g ≠ ba := by simpa [Value.ownBlock] using hne
  have hfin : ∀ w0 nq w1, w0 = w.drewN nq → w1 = ((((w0.setCell ⟨ba, 2, none⟩ (.int .i64 nx)).setCell ⟨g, i * 3, none⟩ (.int .i64 x)).setCell ⟨g, i * 3 + 1, none⟩ (.bool true)).setCell ⟨g, i * 3 + 2, none⟩ (.int .i64 0)).setCell ⟨ba, 3, none⟩ (.int .i64 ((A.count : Int) + 1)) → Left w w1 ba (A.give x).1 [ba, g] := by
    rintro _ nq _ rfl rfl
    have hrow' : (w.drewN nq).ownsRow 0 150 3 (.slice (some ⟨g, 0, none⟩) C.length cap) C.length (flat encC C) := hrow
    have hs0 := own_other hrow' ⟨ba, 2, none⟩ (.int .i64 nx) hne
    have hs := (((hs0.stored (i * 3) (.int .i64 x)).1.stored (i * 3 + 1) (.bool true)).1.stored (i * 3 + 2) (.int .i64 0)).1
    rw [three_flat C i (x, true, 0) (by rw [hfit.len]; exact hlt)] at hs
    have hs2 := own_other hs ⟨ba, 3, none⟩ (.int .i64 ((A.count : Int) + 1)) hne
    refine ⟨[ba, g], ⟨_, C.set i (x, true, 0), nx, ?_, ?_, by rw [List.length_set]; exact hs2, hne, rfl⟩, ?_, fun b hb => .inl hb⟩
    · have := hfit.old he hc x
      simpa [Ar.give, he] using this
    · have h5 := ((((((hb.drewN nq).set 2 (.int .i64 nx)).other ⟨g, i * 3, none⟩ (.int .i64 x) (fun e => hg e.symm)).other ⟨g, i * 3 + 1, none⟩ (.bool true) (fun e => hg e.symm)).other ⟨g, i * 3 + 2, none⟩ (.int .i64 0) (fun e => hg e.symm))).set 3 (.int .i64 ((A.count : Int) + 1))
      have e : ((A.count : Int) + 1) = ((A.give x).1.count : Int) := by omega
      rw [e] at h5 ⊢
      simpa [Ar.give, he] using h5
    · exact (((((((Mod.refl _ _).drewN nq).setCell _ _ (fun _ => by simp)).setCell _ _ (fun _ => by simp)).setCell _ _ (fun _ => by simp)).setCell _ _ (fun _ => by simp))).setCell _ _ (fun _ => by simp)
  obtain ⟨c0, c1, c2⟩ := row_cell hrow _ hc
  have hb1 := hb.cell 1 rfl
  have hb2 := hb.cell 2 rfl
  have hb3 := hb.cell 3 rfl
  have hfb := hb.free
  have hfr := hrow.frozenAt
  have hg' : ba ≠ g := fun e => hg e.symm
  have hd : decide (A.count < C.length) = true := by simpa using hcl
  have hi1 : i < C.length := by rw [hfit.len]; exact hlt
  have hfin' := Lib.hid hfin
  obtain ⟨hu1, hu2, hu3, hu4⟩ := hcount
  clear hb hrow hc hch H hfit hfin hcnt hfl he hne
  go_enter Try.func18, Try.ntmps18
  go_wp2
  go_quiet (fail)
  go_wp2
  go_ret2
  exact ⟨rfl, hfin'.out _ _ _ rfl rfl⟩
set_option maxHeartbeats 400000 in
theorem give_full {w : World} {ba : Nat} {A : Ar Int} {F : List Nat} (H : At w ba A F) (x : Int) (he : A.free = []) (hr : A.room ≤ A.cells.length) :
    Calls Try.prog 18 #[.pointer (some ⟨ba, 0, none⟩), .int .i64 x] w fun e w' => e = .returned (.tuple #[.int .i64 0, .bool false]) ∧ Left w w' ba A F := by
  obtain ⟨sv, C, f, hfit, hb, hrow, hne, hF⟩ := H.out
  have hcount := count_le hfit
  have hcnt : A.count = C.length := by have := hfit.len; simp only [he, Ar.count, List.length_nil]; omega
  obtain ⟨a, c, hsv⟩ : ∃ a c, sv = .slice a C.length c := by
    rcases row_cases hrow with ⟨rfl, rfl⟩ | ⟨g, cap, rfl⟩
    · exact ⟨none, 0, rfl⟩
    · exact ⟨_, _, rfl⟩
  have hfin : ∀ nq mq, Left w ((w.drewN nq).drewN mq) ba A F := fun nq mq => ⟨F, ⟨sv, C, f, hfit, (hb.drewN nq).drewN mq, hrow, hne, hF⟩, ((Mod.refl _ _).drewN _).drewN _, fun b hb => .inl hb⟩
  subst hsv
  have hb0 := hb.cell 0 rfl
  have hb1 := hb.cell 1 rfl
  have hb3 := hb.cell 3 rfl
  have hd : decide (A.count < C.length) = false := by simp; omega
  have hd2 : decide (A.room ≤ C.length) = true := by have := hfit.len; simp; omega
  have hfin' := Lib.hid hfin
  clear hb hrow H hfit hfin hcnt he hne hcount hF
  go_enter Try.func18, Try.ntmps18
  go_wp2
  go_quiet (fail)
  go_wp2
  go_quiet (fail)
  go_wp2
  go_ret2
  exact ⟨rfl, hfin'.out _ _⟩
set_option maxHeartbeats 400000 in
theorem give_new {w : World} {ba : Nat} {A : Ar Int} {F : List Nat} (H : At w ba A F) (x : Int) (he : A.free = []) (hr : A.cells.length < A.room) :
    Calls Try.prog 18 #[.pointer (some ⟨ba, 0, none⟩), .int .i64 x] w fun e w' => e = .returned (.tuple #[.int .i64 A.cells.length, .bool true]) ∧ Left w w' ba (A.give x).1 F := by
  obtain ⟨sv, C, f, hfit, hb, hrow, hne, hF⟩ := H.out
  have hcount := count_le hfit
  have hlen := hfit.len
  have hcnt : A.count = C.length := by simp only [he, Ar.count, List.length_nil]; omega
  obtain ⟨a, c, hsv⟩ : ∃ a c, sv = .slice a C.length c := by
    rcases row_cases hrow with ⟨rfl, rfl⟩ | ⟨g, cap, rfl⟩
    · exact ⟨none, 0, rfl⟩
    · exact ⟨_, _, rfl⟩
  have hfin : ∀ w1 w2 w3 (v1 : Value) (nq : Nat), w1 = w.drewN nq → w2.ownsRow 0 150 3 v1 (C.length + 1) (flat encC C ++ encC (x, true, 0)) → Mod sv.ownBlock.toList w1 w2 →
      (v1.ownBlock = sv.ownBlock ∨ ∃ b, v1.ownBlock = some b ∧ w1.heap.size ≤ b) → w3 = (w2.setCell ⟨ba, 1, none⟩ v1).setCell ⟨ba, 3, none⟩ (.int .i64 ((C.length : Int) + 1)) → Left w w3 ba (A.give x).1 F := by
    rintro _ w2 _ v1 nq rfl hrow2 hm hv rfl
    have hb2 : Has w2 ba [.int .i64 A.room, sv, .int .i64 f, .int .i64 A.count] 147 := (hb.drewN nq).keep hm (by simpa using fun e => hne e)
    have hne2 : v1.ownBlock ≠ some ba := by
      rcases hv with hv | ⟨b, hv, hle⟩
      · rw [hv]; exact hne
      · rw [hv]; intro e; injection e with e; have := hb.lt; simp at hle; omega
    refine ⟨ba :: v1.ownBlock.toList, ⟨v1, C ++ [(x, true, 0)], f, ?_, ?_, ?_, hne2, rfl⟩, ?_, ?_⟩
    · have := hfit.new he hr x
      simpa [Ar.give, he, hr] using this
    · have h5 := (hb2.set 1 v1).set 3 (.int .i64 ((C.length : Int) + 1))
      have e : ((C.length : Int) + 1) = ((A.give x).1.count : Int) := by simp [Ar.give, he, hr, Ar.count]; omega
      rw [e] at h5 ⊢
      simpa [Ar.give, he, hr] using h5
    · have h6 := own_other (own_other hrow2 ⟨ba, 1, none⟩ v1 hne2) ⟨ba, 3, none⟩ (.int .i64 ((C.length : Int) + 1)) hne2
      simpa [flat_append, flat_one] using h6
    · refine ((((Mod.refl F w).drewN nq).trans hm ?_).setCell _ _ ?_).setCell _ _ ?_
      · intro b hb _; rw [hF]; exact List.mem_cons_of_mem _ hb
      · intro _; rw [hF]; simp
      · intro _; rw [hF]; simp
    · intro b hb
      rw [hF]
      rcases List.mem_cons.1 hb with rfl | hb
      · simp
      · rcases own_fresh (F := sv.ownBlock.toList) (by intro b hb; simp [hb]) hv b (by simpa using hb) with h | h
        · exact .inl (List.mem_cons_of_mem _ h)
        · exact .inr h
  have hb0 := hb.cell 0 rfl
  have hb1 := hb.cell 1 rfl
  have hb3 := hb.cell 3 rfl
  have hfb := hb.free
  rw [hcnt] at hb3
  have hd : decide (C.length < C.length) = false := by simp
  have hd2 : decide (A.room ≤ C.length) = false := by simp; omega
  have hfin' := Lib.hid hfin
  have hcnt := Lib.hid hcnt
  have hlen' : A.cells.length = C.length := hlen.symm
  rw [hlen']
  have hl1 : C.length < 1048576 := by omega
  clear hfit hfin he hF hlen hlen' hcount H
  subst hsv
  go_enter Try.func18, Try.ntmps18
  go_wp2
  go_quiet (fail)
  go_wp2
  go_quiet (fail)
  go_wp2_with (at_builtin; refine app_own rfl _ _ 145 150 _ 3 24 rfl Try.underlying145 infoC rfl (by omega) (by omega) (.slice a C.length c) C.length 1 (flat encC C) (encC (x, true, 0)) rfl rfl rfl rfl (by simp [encC, Value.oneCell']) hrow (by omega) ?_; intro a1 c1 w2 hown hm hv; have hb' := (hb.drewN _).keep hm (by intro hh; exact hne (by simpa using hh)); have k1 := hb'.cell 1 rfl; have k3 := hb'.cell 3 rfl; rw [hcnt.out] at k3; have hfb' := hb'.free; clear hb hb0 hb1 hb3 hfb)
  go_ret2
  exact ⟨rfl, hfin'.out _ _ _ _ _ rfl hown hm hv rfl⟩
end ArI
end Go.Proofs.Ytmkbinbggiocaaa
