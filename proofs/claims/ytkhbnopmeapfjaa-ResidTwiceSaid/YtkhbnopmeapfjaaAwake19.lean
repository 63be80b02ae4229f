/- The arcs of a graph that is there; the law's awake: arcs are told at all. -/
import Derived.Test.YtkhbnopmeapfjaaCsr6
import Derived.Test.YtkhbnopmeapfjaaNetGet
import Derived.Test.YtkhbnopmeapfjaaIntsE
import Derived.Test.YtkhbnopmeapfjaaNetNil
import Derived.Laws.EntriesVeiled
set_option linter.unusedVariables false
set_option linter.unusedSimpArgs false
namespace Go.Proofs.Ytkhbnopmeapfjaa
open Go.RowKit
namespace Edge
theorem csr_net {w0 w : World} {b n : Nat} {L : List Ed} {R : List Part} (hS : Sep w0 w (NetP b n L :: R)) (hG : GOk n L) :
    Calls Try.prog 28 #[.pointer (some ⟨b, 0, none⟩)] w fun e w' => ∃ b2, e = .returned (.pointer (some ⟨b2, 0, none⟩)) ∧ Sep w0 w' (ArcP b2 n L :: NetP b n L :: R) := by
  refine (acsr_new hG (fun W m => n_sep (hS.still m)) (fun W m => edges_sep (hS.still m) hG.len)).mono ?_
  rintro e w' ⟨b2, rfl, hA⟩
  obtain ⟨F, hP, hF, _⟩ := hA.first
  exact ⟨b2, rfl, hS.add hA.mod hP (fun x hx => (hF x hx).2)⟩
theorem gok_none : GOk 0 [] := ⟨by omega, List.Pairwise.nil, by simp, by simp, by simp [total], by simp⟩
theorem csr_none (w : World) : Calls Try.prog 28 #[.pointer none] w fun e w' => ∃ b2, e = .returned (.pointer (some ⟨b2, 0, none⟩)) ∧ Sep w w' [ArcP b2 0 []] := by
  refine acsr_new gok_none (fun W m => (n_nil W).mono ?_) (fun W m => (edges_nil W).mono ?_)
  · rintro e w' ⟨rfl, rfl⟩; exact ⟨rfl, rfl⟩
  · rintro e w' ⟨rfl, rfl⟩; exact ⟨none, 0, rfl, World.ownsRow_nil _ _ _ _, Mod.refl _ _, by simp [Value.ownBlock]⟩
section
variable {w0 w : World} {b n : Nat} {L : List Ed} {R : List Part}
theorem an_sep (h : Sep w0 w (ArcP b n L :: R)) (hG : GOk n L) : Calls Try.prog 29 #[.pointer (some ⟨b, 0, none⟩)] w fun e w' => e = .returned (.int .i64 n) ∧ w' = w := by
  obtain ⟨F, h1, _⟩ := h.first
  exact an_p h1 hG
theorem alen_sep (h : Sep w0 w (ArcP b n L :: R)) : Calls Try.prog 30 #[.pointer (some ⟨b, 0, none⟩)] w fun e w' => e = .returned (.int .i64 ((2 * L.length : Nat) : Int)) ∧ w' = w := by
  obtain ⟨F, h1, _⟩ := h.first
  exact alen_p h1
theorem ahead_sep (h : Sep w0 w (ArcP b n L :: R)) (hG : GOk n L) (i : Int) : Calls Try.prog 33 #[.pointer (some ⟨b, 0, none⟩), .int .i64 i] w fun e w' => e = .returned (.int .i64 (headI L i)) ∧ w' = w := by
  obtain ⟨F, h1, _⟩ := h.first
  exact ahead_p h1 hG i
theorem acap_sep (h : Sep w0 w (ArcP b n L :: R)) (hG : GOk n L) (i : Int) : Calls Try.prog 34 #[.pointer (some ⟨b, 0, none⟩), .int .i64 i] w fun e w' => e = .returned (.int .i64 (capI L i)) ∧ w' = w := by
  obtain ⟨F, h1, _⟩ := h.first
  exact acap_p h1 hG i
theorem atail_sep (h : Sep w0 w (ArcP b n L :: R)) (hG : GOk n L) (i : Int) (hi : i ≤ 9223372036854775807) : Calls Try.prog 32 #[.pointer (some ⟨b, 0, none⟩), .int .i64 i] w fun e w' => e = .returned (.int .i64 (tailI L i)) ∧ w' = w := by
  obtain ⟨F, h1, _⟩ := h.first
  exact atail_p h1 hG i hi
theorem aout_sep (h : Sep w0 w (ArcP b n L :: R)) (hG : GOk n L) (v : Int) : Calls Try.prog 31 #[.pointer (some ⟨b, 0, none⟩), .int .i64 v] w fun e w' => ∃ a c, e = .returned (.slice a (outI n L v).length c) ∧ Made w w' 3 1 a (outI n L v).length c (i64s (outI n L v)) := by
  obtain ⟨F, h1, _⟩ := h.first
  exact aout_p h1 hG v
end
theorem merged19 : merged [(0, 1, 5)] = [(0, 1, 5)] := by decide +kernel
set_option maxRecDepth 100000 in
set_option maxHeartbeats 4000000 in
theorem awake19 (w : World) : Calls Try.prog 27 #[] w fun e w' => e = .returned (.bool true) ∧ Mod [] w w' := by
  go_enter Try.func27, Try.ntmps27
  go_wp2_with fail
  refine (new_net 2 (l := [(0, 1, 5)]) (rd_ed (l := [(0, 1, 5)]) (Has.new w [.int .i64 0, .int .i64 1, .int .i64 5] 41) (by simp))).mono ?_
  rintro e w1 hN
  rcases hN.out with ⟨hne, _⟩ | ⟨he, b, rfl, hS⟩
  · exact absurd (by decide +kernel) hne
  have hG := new_ok he
  rw [merged19] at hS hG
  have e3 : ((2 : Int).toNat) = 2 := rfl
  rw [e3] at hS hG
  have hw1 := Lib.hid (show Mod [] w w1 from ((Mod.refl [] w).alloc _).trans hS.mod (by simp))
  have hnw := Lib.hid (csr_net hS hG)
  clear hN he hS
  try dsimp only
  go_wp2_with fail
  refine hnw.out.mono ?_
  rintro e w2 ⟨b2, rfl, hA⟩
  have hw2 := Lib.hid (show Mod [] w w2 from ((Mod.refl [] w).alloc _).trans hA.mod (by simp))
  have cl := Lib.hid (alen_sep hA)
  have cn := Lib.hid (an_sep hA hG)
  have chd := Lib.hid (ahead_sep hA hG 0)
  have ct := Lib.hid (atail_sep hA hG 1 (by omega))
  have cc := Lib.hid (acap_sep hA hG 1)
  have co := Lib.hid (aout_sep hA hG 0)
  have cb := Lib.hid (fun w => back_any 0 (by omega) w)
  rw [show headI [(0, 1, 5)] 0 = 1 by decide +kernel] at chd
  rw [show tailI [(0, 1, 5)] 1 = 1 by decide +kernel] at ct
  rw [show capI [(0, 1, 5)] 1 = 5 by decide +kernel] at cc
  rw [show outI 2 [(0, 1, 5)] 0 = [0] by decide +kernel] at co
  simp only [show backI 0 = 1 by decide +kernel] at cb
  simp only [List.length_cons, List.length_nil] at cl
  clear hnw hA hG
  try dsimp only
  go_wp2_with (first
    | (go_at_call 30; refine cl.out.mono ?_; rintro e w3 ⟨rfl, rfl⟩)
    | (go_at_call 29; refine cn.out.mono ?_; rintro e w3 ⟨rfl, rfl⟩)
    | (go_at_call 33; refine chd.out.mono ?_; rintro e w3 ⟨rfl, rfl⟩)
    | (go_at_call 32; refine ct.out.mono ?_; rintro e w3 ⟨rfl, rfl⟩)
    | (go_at_call 34; refine cc.out.mono ?_; rintro e w3 ⟨rfl, rfl⟩))
  refine co.out.mono ?_
  rintro e w4 ⟨a, c, rfl, hm⟩
  have hm' := Lib.hid hm.mod
  have hrd := Lib.hid (Reads.own (hm.own.alloc (.cells #[.int .i64 0] 3)))
  have hlit := Lib.hid (Has.new w4 [.int .i64 0] 3)
  clear hm
  try dsimp only
  go_wp2_with fail
  refine (ints_any (xs := [0]) (ys := [0]) hrd.out (show Reads _ 1 (.slice (some ⟨w4.heap.size, 0, none⟩) 1 1) 1 [.int .i64 0] from ⟨rfl, .inr ⟨_, 0, 1, rfl, Nat.le_refl _, by decide, fun j u hu => by rw [Nat.zero_add]; exact hlit.out.cell j hu⟩⟩)).mono ?_
  rintro e w5 ⟨rfl, hd⟩
  have hd' := Lib.hid hd.mod
  rw [show eqI [0] [0] = true by decide]
  try dsimp only
  go_wp2_with (go_at_call 39; refine (cb.out _).mono ?_; rintro e w6 ⟨rfl, rfl⟩)
  go_ret
  exact ⟨rfl, hw2.out.trans (hm'.out.trans (((Mod.refl [] w4).alloc _).trans hd'.out (by simp)) (by simp)) (by simp)⟩
end Edge
end Go.Proofs.Ytkhbnopmeapfjaa
