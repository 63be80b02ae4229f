/- What an edge of a graph weighs. -/
import Derived.Test.YtjpfmkfikidgkaaGreatNet3
import Derived.Test.YtjpfmkfikidgkaaGreatNet4
import Derived.Laws.EntriesVeiled
set_option linter.unusedVariables false
set_option linter.unusedSimpArgs false
namespace Go.Proofs.YtjpfmkfikidgkaaGreat
open Go.RowKit
namespace Edge
theorem norm_key (u v : Int) : ∃ x y : Int, norm (u, v, 0) = (x, y, 0) ∧ key (x, y, 0) = (min u v, max u v) := by
  unfold norm key
  simp only
  split
  · exact ⟨v, u, rfl, by simp only [Prod.mk.injEq]; omega⟩
  · exact ⟨u, v, rfl, by simp only [Prod.mk.injEq]; omega⟩
set_option maxRecDepth 100000 in
set_option maxHeartbeats 4000000 in
theorem weight_net {w : World} {b n : Nat} {L : List Ed} {F : List Nat} (h : NetP b n L w F) (hG : GOk n L) (u v : Int) : Calls Tryz.prog 143 #[.pointer (some ⟨b, 0, none⟩), .int .i64 u, .int .i64 v] w fun e w' => e = .returned (.int .i64 (weight L u v)) ∧ Mod [] w w' := by
  obtain ⟨gn, gd, a, c, hr⟩ := h.rd
  obtain ⟨x, y, hxy, hkey⟩ := norm_key u v
  have hnm := Lib.hid (normal_any (u, v, 0) w)
  unfold edV at hnm
  rw [hxy] at hnm
  simp only at hnm
  have hfw := Lib.hid (fun i b (hf : Found L (x, y, 0) i b) => found_weight hG.rising (u := u) (v := v) hkey hf)
  have hse := Lib.hid (fun W (m : Mod [] w W) => search_any (hr.eds.still m) hG.rising hG.len (x, y, 0))
  have hb := Lib.hid hr.hb
  have hce := Lib.hid (fun i (hi : i < L.length) => ed_cells hr.eds hi)
  clear hxy h hG hkey hr
  generalize weight L u v = r at *
  go_enter Tryz.func143, Tryz.ntmps143
  go_upto_region 4 with (go_at_call 167; refine hnm.out.mono ?_; rintro e w1 ⟨rfl, hm1⟩; have hm1' := Lib.hid hm1; clear hm1)
  have hbk := Lib.hid (fun (m : Fut (Mod []) (w1.alloc (.cells #[.int .i64 x, .int .i64 y, .int .i64 0] 146)).drew) => hb.out.keep (((hm1'.out.alloc (.cells #[.int .i64 x, .int .i64 y, .int .i64 0] 146)).drew).trans m.of (by simp)) (by simp))
  have hbb := Lib.hid (fun (m : Fut (Mod []) (w1.alloc (.cells #[.int .i64 x, .int .i64 y, .int .i64 0] 146)).drew) => (Has.new w1 [.int .i64 x, .int .i64 y, .int .i64 0] 146).keep ((Mod.refl [] (w1.alloc (.cells #[.int .i64 x, .int .i64 y, .int .i64 0] 146))).drew.trans m.of (by simp)) (by simp))
  have b2 := fun m => (hbk.out m).cell 2 rfl
  have r0 := fun m => (hbb.out m).cell 0 rfl
  have r1 := fun m => (hbb.out m).cell 1 rfl
  have r2 := fun m => (hbb.out m).cell 2 rfl
  have hse2 := Lib.hid (hse.out _ (hm1'.out.alloc (.cells #[.int .i64 x, .int .i64 y, .int .i64 0] 146)).drew)
  clear hse
  refine region_sched (G := Mod []) [([0,1,2,3,4],5)] [6,7,8,9,10] (by kernel_rfl) (by kernel_rfl) (by kernel_rfl) rfl (Mod.refl []) (fun _ _ _ h1 h2 => h1.trans h2 (by simp)) ?_
  simp only [stages, pickO, nthO, headO, List.cons_append, List.nil_append]
  refine sched_step ?_
  repeat (go_big_quiet_step (fail))
  refine wpQuiet_nil ?_
  intro K hK
  rw [if_pos (by rfl)]
  go_simp
  refine hse2.out.mono ?_
  rintro e w2 ⟨i, q, rfl, hf, hm2⟩
  try dsimp only
  refine hK.out _ _ hm2 ?_
  have hmod2 := Lib.hid ((hm1'.out.alloc (.cells #[.int .i64 x, .int .i64 y, .int .i64 0] 146)).drew.trans hm2 (by simp))
  have hfw2 := hfw.out i q hf
  clear hK K hm2 b2 r0 r1 r2 hse2 hbk hbb hfw hf
  refine sched_last ?_
  repeat (go_big_quiet_step (fail))
  refine wpQuiet_nil ?_
  cases q with
  | false =>
    have hz := hfw2.2 rfl
    subst hz
    clear hfw2
    go_wp2_with fail
    go_ret
    exact ⟨rfl, hmod2.out⟩
  | true =>
    obtain ⟨hi, hz⟩ := hfw2.1 rfl
    obtain ⟨g, o, rfl, hg, hcell⟩ := hce.out i hi
    obtain ⟨_, _, q2⟩ := hcell w2 hmod2.out
    rw [hz] at q2
    have hb2 := hb.out.keep hmod2.out (by simp)
    have b2 := hb2.cell 2 rfl
    have bl := hb2.lt
    have hg2 : g < w2.heap.size := Nat.lt_of_lt_of_le hg hmod2.out.size
    have hi1 : (i : Int) < L.length := by omega
    clear hfw2 hz hce hcell hb2
    go_wp2_with fail
    go_ret
    exact ⟨rfl, hmod2.out⟩
end Edge
end Go.Proofs.YtjpfmkfikidgkaaGreat
