/- What the calls on an arena of nodes do: Free, Len, New. -/
import Derived.Test.YtmkbinbggiocaaaArN1
set_option linter.unusedVariables false
set_option linter.unusedSimpArgs false
namespace Go.Proofs.Ytmkbinbggiocaaa
open Go.RowKit Arena
namespace ArN
/-- A world in which a whole place is laid. -/
def sevW (w : World) (g j : Nat) (c : RC Nd) : World := ((putW w g j c.1).setCell ⟨g, j + 5, none⟩ (.bool c.2.1)).setCell ⟨g, j + 6, none⟩ (.int .i64 c.2.2)
theorem sevW_mod {F : List Nat} {w0 w : World} (h : Mod F w0 w) (g j : Nat) (c : RC Nd) (hg : g < w0.heap.size → g ∈ F) : Mod F w0 (sevW w g j c) :=
  ((putW_mod h g j c.1 hg).setCell _ _ hg).setCell _ _ hg
theorem sevW_other {w : World} {b g j : Nat} {c : RC Nd} {cs : List Value} {t : TypeId} (h : Has w b cs t) (hb : b ≠ g) : Has (sevW w g j c) b cs t :=
  ((putW_other h hb).other _ _ hb).other _ _ hb
theorem seven_flat (C : List (RC Nd)) (i : Nat) (c : RC Nd) (hi : i < C.length) :
    (((((((flat encC C).set (i * 7) (.int .i64 c.1.v)).set (i * 7 + 1) (.int .i64 c.1.key)).set (i * 7 + 2) (.int .i64 c.1.child)).set (i * 7 + 3) (.int .i64 c.1.next)).set (i * 7 + 4) (.int .i64 c.1.prev)).set (i * 7 + 5) (.bool c.2.1)).set (i * 7 + 6) (.int .i64 c.2.2) = flat encC (C.set i c) := by
  have hl := flat_take_length encC_len C i hi
  rw [flat_split C i hi, show i * 7 = i * 7 + 0 from rfl, mid_set _ _ _ (i * 7) 0 _ hl (by rw [encC_len]; omega), mid_set _ _ _ (i * 7) 1 _ hl (by simp [encC_len]),
    mid_set _ _ _ (i * 7) 2 _ hl (by simp [encC_len]), mid_set _ _ _ (i * 7) 3 _ hl (by simp [encC_len]), mid_set _ _ _ (i * 7) 4 _ hl (by simp [encC_len]), mid_set _ _ _ (i * 7) 5 _ hl (by simp [encC_len]), mid_set _ _ _ (i * 7) 6 _ hl (by simp [encC_len]), ← flat_mid C i hi]
  rfl
theorem sev_own {w : World} {C : List (RC Nd)} {g cap : Nat} (hrow : w.ownsRow 0 225 7 (.slice (some ⟨g, 0, none⟩) C.length cap) C.length (flat encC C)) (i : Nat) (c : RC Nd) (hi : i < C.length) :
    (sevW w g (i * 7) c).ownsRow 0 225 7 (.slice (some ⟨g, 0, none⟩) C.length cap) C.length (flat encC (C.set i c)) := by
  have hs := (((((((hrow.stored (i * 7) (.int .i64 c.1.v)).1.stored (i * 7 + 1) (.int .i64 c.1.key)).1.stored (i * 7 + 2) (.int .i64 c.1.child)).1.stored (i * 7 + 3) (.int .i64 c.1.next)).1.stored (i * 7 + 4) (.int .i64 c.1.prev)).1.stored (i * 7 + 5) (.bool c.2.1)).1.stored (i * 7 + 6) (.int .i64 c.2.2)).1
  rw [seven_flat C i c hi] at hs
  exact hs
theorem count_le {A : Ar Nd} {C : List (RC Nd)} {f : Int} (h : Fits Nd.zero A C f) : A.count ≤ 1048576 ∧ A.count ≤ C.length ∧ C.length ≤ A.room ∧ A.room ≤ 1048576 := by
  have h4 := h.fits
  have h5 := h.most
  have h6 : A.count ≤ A.cells.length := Nat.sub_le _ _
  have h7 := h.len
  omega
set_option maxHeartbeats 400000 in
theorem len_at {w : World} {ba : Nat} {A : Ar Nd} {F : List Nat} (H : At w ba A F) :
    Calls Try.prog 139 #[.pointer (some ⟨ba, 0, none⟩)] w fun e w' => e = .returned (.int .i64 A.count) ∧ w = w' := by
  obtain ⟨sv, C, f, hfit, hb, hrow, hne, hF⟩ := H.out
  have hb3 := hb.cell 3 rfl
  clear hfit hb hrow hne hF H
  go_enter Try.func139, Try.ntmps139
  go_wp2
  go_ret
  exact ⟨rfl, rfl⟩
def roomOf (n : Int) : Nat := (min (max n 0) 1048576).toNat
set_option maxHeartbeats 400000 in
theorem new_at (n : Int) (w : World) :
    Calls Try.prog 131 #[.int .i64 n] w fun e w' => e = .returned (.pointer (some ⟨w.heap.size, 0, none⟩)) ∧ At w' w.heap.size ⟨roomOf n, [], []⟩ [w.heap.size] ∧ Mod [] w w' := by
  have hfin : ∀ w1 (r : Int), r = roomOf n → w1 = w.alloc (.cells #[.int .i64 r, .slice none 0 0, .int .i64 (-1), .int .i64 0] 222) → At w1 w.heap.size ⟨roomOf n, [], []⟩ [w.heap.size] ∧ Mod [] w w1 := by
    rintro _ _ rfl rfl
    refine ⟨⟨.slice none 0 0, [], -1, Fits.made _ _ (by unfold roomOf; omega), Has.new w _ _, World.ownsRow_nil _ _ _ _, by simp [Value.ownBlock], by simp [Value.ownBlock]⟩, (Mod.refl _ _).alloc _⟩
  have hfin' := Lib.hid hfin
  clear hfin
  go_enter Try.func131, Try.ntmps131
  go_wp2
  all_goals
    go_ret
    exact ⟨rfl, hfin'.out _ _ (by unfold roomOf; omega) rfl⟩
set_option maxRecDepth 100000 in
set_option maxHeartbeats 2000000 in
theorem free_some {w : World} {ba : Nat} {A : Ar Nd} {F : List Nat} (H : At w ba A F) (n : Int) (x : Nd) (hn : A.get n = some x) :
    Calls Try.prog 147 #[.pointer (some ⟨ba, 0, none⟩), .int .i64 n] w fun e w' => e = .returned (.tuple #[x.val, .bool true]) ∧ At w' ba (A.drop n.toNat) F ∧ Mod F w w' := by
  obtain ⟨wc, hwc⟩ : ∃ wc, wc = (w.alloc (.cells #[.int .i64 0, .int .i64 0, .int .i64 0, .int .i64 0, .int .i64 0] 187)).alloc (.cells #[.int .i64 0, .int .i64 0, .int .i64 0, .int .i64 0, .int .i64 0] 187) := ⟨_, rfl⟩
  obtain ⟨B, hBb⟩ : ∃ B, B = w.heap.size := ⟨_, rfl⟩
  have m0 : Mod [] w wc := by rw [hwc]; exact ((Mod.refl [] w).alloc _).alloc _
  have hlt0 := H.lt
  obtain ⟨_, hx⟩ := get_some hn
  obtain ⟨g, cap, C, f, hfit, hb, hrow, hne, rfl, h0, h1, h2, hc⟩ := opened (H.still m0) hn
  obtain ⟨c0, c1, c2, c3, c4, c5, c6⟩ := row_cell hrow _ hc
  have hB : Has wc B [.int .i64 0, .int .i64 0, .int .i64 0, .int .i64 0, .int .i64 0] 187 := by rw [hwc, hBb]; exact (Has.new w _ _).alloc _
  have hb1 := hb.cell 1 rfl
  have hb2 := hb.cell 2 rfl
  have hb3 := hb.cell 3 rfl
  have hfb := hb.free
  have hfr := hrow.frozenAt
  have hcnt : (A.drop n.toNat).count + 1 = A.count := by
    have hd := hfit.drop hx
    have := hd.free_le
    simp only [Ar.drop, Ar.count, List.length_set, List.length_cons] at this ⊢
    omega
  have hcl : (1 : Int) ≤ A.count := by omega
  have hcu : (A.count : Int) ≤ 1048576 := by have := (count_le hfit).1; omega
  have ltb : ba < wc.heap.size := hb.lt
  have ltg : g < wc.heap.size := Nat.lt_of_lt_of_le (hlt0 g (by simp)) m0.size
  have ltB := hB.lt
  have hBba : B ≠ ba := by have := hlt0 ba (by simp); omega
  have hBg : B ≠ g := by have := hlt0 g (by simp); omega
  have hne' : ba ≠ g := fun e => hne e.symm
  have d0 := hB.cell 0 rfl
  have d1 := hB.cell 1 rfl
  have d2 := hB.cell 2 rfl
  have d3 := hB.cell 3 rfl
  have d4 := hB.cell 4 rfl
  have dz := hB.free
  have hfin := Lib.hid (show At (((sevW wc g (n.toNat * 7) (Nd.zero, false, f)).setCell ⟨ba, 2, none⟩ (.int .i64 n)).setCell ⟨ba, 3, none⟩ (.int .i64 ((A.count : Int) - 1))) ba (A.drop n.toNat) [ba, g] ∧ Mod [ba, g] w (((sevW wc g (n.toNat * 7) (Nd.zero, false, f)).setCell ⟨ba, 2, none⟩ (.int .i64 n)).setCell ⟨ba, 3, none⟩ (.int .i64 ((A.count : Int) - 1))) from by
    have hs := sev_own hrow n.toNat (Nd.zero, false, f) (by omega)
    have hs2 := own_other (own_other hs ⟨ba, 2, none⟩ (.int .i64 n) (by simpa [Value.ownBlock] using hne)) ⟨ba, 3, none⟩ (.int .i64 ((A.count : Int) - 1)) (by simpa [Value.ownBlock] using hne)
    refine ⟨⟨_, C.set n.toNat (Nd.zero, false, f), n, ?_, ?_, by rw [List.length_set]; exact hs2, by simpa [Value.ownBlock] using hne, rfl⟩, ?_⟩
    · have := hfit.drop hx
      rwa [show ((n.toNat : Nat) : Int) = n from by omega] at this
    · have h5 := ((sevW_other (c := (Nd.zero, false, f)) (j := n.toNat * 7) hb hne').set 2 (.int .i64 n)).set 3 (.int .i64 ((A.count : Int) - 1))
      have e : ((A.count : Int) - 1) = ((A.drop n.toNat).count : Int) := by omega
      rw [e] at h5 ⊢
      simpa [Ar.drop] using h5
    · exact ((sevW_mod m0.of0 _ _ _ (fun _ => by simp)).setCell _ _ (fun _ => by simp)).setCell _ _ (fun _ => by simp))
  have hB' := Lib.hid (((sevW_other (c := (Nd.zero, false, f)) (j := n.toNat * 7) hB hBg).other ⟨ba, 2, none⟩ (.int .i64 n) hBba).other ⟨ba, 3, none⟩ (.int .i64 ((A.count : Int) - 1)) hBba)
  have hwc' := Lib.hid hwc
  have hBb' := Lib.hid hBb
  clear hb hrow hc hn H hfit hx hB m0 hwc hlt0 hne hcnt hBb
  go_enter Try.func147, Try.ntmps147
  go_wp2_with fail
  rw [← hBb'.out, ← hwc'.out]
  refine (cell_live ba g _ cap _ _ h0 h1 h2 hb1 c5).mono ?_
  rintro e w' ⟨rfl, rfl⟩
  try dsimp only
  go_wp2_with fail
  have hf := (putB_has (x := x) hB'.out).alloc (.cells #[.int .i64 x.v, .int .i64 x.key, .int .i64 x.child, .int .i64 x.next, .int .i64 x.prev] 187)
  have s0 := hf.cell 0 rfl
  have s1 := hf.cell 1 rfl
  have s2 := hf.cell 2 rfl
  have s3 := hf.cell 3 rfl
  have s4 := hf.cell 4 rfl
  have hres : At ((putB (((sevW wc g (n.toNat * 7) (Nd.zero, false, f)).setCell ⟨ba, 2, none⟩ (.int .i64 n)).setCell ⟨ba, 3, none⟩ (.int .i64 ((A.count : Int) - 1))) B x).alloc (.cells #[.int .i64 x.v, .int .i64 x.key, .int .i64 x.child, .int .i64 x.next, .int .i64 x.prev] 187)) ba (A.drop n.toNat) [ba, g] ∧ Mod [ba, g] w ((putB (((sevW wc g (n.toNat * 7) (Nd.zero, false, f)).setCell ⟨ba, 2, none⟩ (.int .i64 n)).setCell ⟨ba, 3, none⟩ (.int .i64 ((A.count : Int) - 1))) B x).alloc (.cells #[.int .i64 x.v, .int .i64 x.key, .int .i64 x.child, .int .i64 x.next, .int .i64 x.prev] 187)) := by
    obtain ⟨f1, f2⟩ := hfin.out
    have hmB : Mod [B] (((sevW wc g (n.toNat * 7) (Nd.zero, false, f)).setCell ⟨ba, 2, none⟩ (.int .i64 n)).setCell ⟨ba, 3, none⟩ (.int .i64 ((A.count : Int) - 1))) (putB (((sevW wc g (n.toNat * 7) (Nd.zero, false, f)).setCell ⟨ba, 2, none⟩ (.int .i64 n)).setCell ⟨ba, 3, none⟩ (.int .i64 ((A.count : Int) - 1))) B x) := putB_mod (Mod.refl _ _) B x (fun _ => by simp)
    refine ⟨(f1.keep hmB (fun b hb => ?_)).still ((Mod.refl [] _).alloc _), (f2.trans hmB (fun b hb hlt => ?_)).alloc _⟩
    · simp only [List.mem_cons, List.mem_nil_iff, or_false] at hb ⊢
      omega
    · have := hBb'.out
      simp only [List.mem_singleton] at hb
      omega
  show bodyPost _ _ _ Exit.ret _ ((putB (((sevW wc g (n.toNat * 7) (Nd.zero, false, f)).setCell ⟨ba, 2, none⟩ (.int .i64 n)).setCell ⟨ba, 3, none⟩ (.int .i64 ((A.count : Int) - 1))) B x).alloc (.cells #[.int .i64 x.v, .int .i64 x.key, .int .i64 x.child, .int .i64 x.next, .int .i64 x.prev] 187))
  generalize (putB (((sevW wc g (n.toNat * 7) (Nd.zero, false, f)).setCell ⟨ba, 2, none⟩ (.int .i64 n)).setCell ⟨ba, 3, none⟩ (.int .i64 ((A.count : Int) - 1))) B x).alloc (.cells #[.int .i64 x.v, .int .i64 x.key, .int .i64 x.child, .int .i64 x.next, .int .i64 x.prev] 187) = wf at *
  exact bodyPost_ret (v := .tuple #[x.val, .bool true]) (by simp [results, Try.results147, go_sem, s0, s1, s2, s3, s4, Nd.val]) rfl ⟨rfl, hres⟩
end ArN
end Go.Proofs.Ytmkbinbggiocaaa
