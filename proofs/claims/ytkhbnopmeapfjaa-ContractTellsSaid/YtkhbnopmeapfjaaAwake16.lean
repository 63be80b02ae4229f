/- The law's awake: a graph is made at all, and tells. -/
import Derived.Test.YtkhbnopmeapfjaaNet5
import Derived.Laws.EntriesVeiled
set_option linter.unusedVariables false
set_option linter.unusedSimpArgs false
namespace Go.Proofs.Ytkhbnopmeapfjaa
open Go.RowKit
namespace Edge
theorem rd_ed {w : World} {b : Nat} {l : List Ed} {t : TypeId} (h : Has w b (flat encEd l) t) (hl : l.length ≤ 1000000000) : Rd w 3 (.slice (some ⟨b, 0, none⟩) l.length l.length) l.length (flat encEd l) :=
  ⟨flat_length encEd_len l, .inr ⟨⟨b, 0, none⟩, l.length, rfl, Nat.le_refl _, by simp only [maxLen]; omega, fun j u hu => by rw [Addr.add_lit, Nat.zero_add]; exact h.cell j hu⟩⟩
section
variable {w0 w : World} {b n : Nat} {L : List Ed} {R : List Part}
theorem n_sep (h : Sep w0 w (NetP b n L :: R)) : Calls Try.prog 18 #[.pointer (some ⟨b, 0, none⟩)] w fun e w' => e = .returned (.int .i64 n) ∧ w' = w := by
  obtain ⟨F, h1, _⟩ := h.first
  exact n_net h1
theorem m_sep (h : Sep w0 w (NetP b n L :: R)) : Calls Try.prog 19 #[.pointer (some ⟨b, 0, none⟩)] w fun e w' => e = .returned (.int .i64 L.length) ∧ w' = w := by
  obtain ⟨F, h1, _⟩ := h.first
  exact m_net h1
theorem total_sep (h : Sep w0 w (NetP b n L :: R)) : Calls Try.prog 15 #[.pointer (some ⟨b, 0, none⟩)] w fun e w' => e = .returned (.int .i64 (total L)) ∧ w' = w := by
  obtain ⟨F, h1, _⟩ := h.first
  exact total_net h1
theorem degree_sep (h : Sep w0 w (NetP b n L :: R)) (hG : GOk n L) (v : Int) : Calls Try.prog 12 #[.pointer (some ⟨b, 0, none⟩), .int .i64 v] w fun e w' => e = .returned (.int .i64 (degree L v)) ∧ w' = w := by
  obtain ⟨F, h1, _⟩ := h.first
  exact degree_net h1 hG v
theorem near_sep (h : Sep w0 w (NetP b n L :: R)) (hG : GOk n L) (v : Int) : Calls Try.prog 13 #[.pointer (some ⟨b, 0, none⟩), .int .i64 v] w fun e w' => ∃ a c, e = .returned (.slice a (near n L v).length c) ∧ Sep w0 w' (Row 3 1 (near n L v).length (.slice a (near n L v).length c) (i64s (near n L v)) :: NetP b n L :: R) := by
  obtain ⟨F, h1, _⟩ := h.first
  refine (near_net h1 hG v).mono ?_
  rintro e w' ⟨a, c, rfl, hm⟩
  exact ⟨a, c, rfl, h.made hm⟩
theorem weight_sep (h : Sep w0 w (NetP b n L :: R)) (hG : GOk n L) (u v : Int) : Calls Try.prog 14 #[.pointer (some ⟨b, 0, none⟩), .int .i64 u, .int .i64 v] w fun e w' => e = .returned (.int .i64 (weight L u v)) ∧ Mod [] w w' := by
  obtain ⟨F, h1, _⟩ := h.first
  exact weight_net h1 hG u v
end
theorem newE_ok {n : Int} {l : List Ed} (h : newE n l = (0, 0)) : 0 ≤ n ∧ n ≤ 4096 ∧ l.length ≤ 1048576 ∧ ∀ e ∈ l, checkE n e = 0 := by
  unfold newE at h
  split at h
  · cases h
  split at h
  · cases h
  · exact ⟨by omega, by omega, by omega, checksE_ok.1 (by rw [h])⟩
theorem new_ok {n : Int} {l : List Ed} (h : newE n l = (0, 0)) : GOk n.toNat (merged l) := by
  obtain ⟨h1, h2, h3, h4⟩ := newE_ok h
  exact merged_ok (by omega) h3 (fun e he => by rw [show ((n.toNat : Nat) : Int) = n by omega]; exact h4 e he)
theorem merged16 : merged [(1, 0, 2), (0, 1, 3)] = [(0, 1, 5)] := by decide +kernel
set_option maxRecDepth 100000 in
set_option maxHeartbeats 4000000 in
theorem awake16 (w : World) : Calls Try.prog 10 #[] w fun e w' => e = .returned (.bool true) ∧ Mod [] w w' := by
  go_enter Try.func10, Try.ntmps10
  go_wp2_with fail
  refine (new_net 3 (l := [(1, 0, 2), (0, 1, 3)]) (rd_ed (l := [(1, 0, 2), (0, 1, 3)]) (Has.new w [.int .i64 1, .int .i64 0, .int .i64 2, .int .i64 0, .int .i64 1, .int .i64 3] 41) (by simp))).mono ?_
  rintro e w1 hN
  rcases hN.out with ⟨hne, _⟩ | ⟨he, b, rfl, hS⟩
  · exact absurd (by decide +kernel) hne
  have hG := new_ok he
  rw [merged16] at hS hG
  have e3 : ((3 : Int).toNat) = 3 := rfl
  rw [e3] at hS hG
  have hw1 := Lib.hid (show Mod [] w w1 from ((Mod.refl [] w).alloc _).trans hS.mod (by simp))
  have cn := Lib.hid (n_sep hS)
  have cm := Lib.hid (m_sep hS)
  have cw := Lib.hid (weight_sep hS hG 1 0)
  have cd := Lib.hid (fun w' m => degree_sep (w := w') (hS.still m) hG 1)
  have ct := Lib.hid (fun w' m => total_sep (w := w') (hS.still m))
  rw [show weight [(0, 1, 5)] 1 0 = 5 by decide] at cw
  simp only [show degree [(0, 1, 5)] 1 = 5 by decide] at cd
  simp only [show total [(0, 1, 5)] = 5 by decide] at ct
  clear hN he hG hS
  try dsimp only
  go_wp2_with (first
    | (go_at_call 18; refine cn.out.mono ?_; rintro e w2 ⟨rfl, rfl⟩)
    | (go_at_call 19; refine cm.out.mono ?_; rintro e w2 ⟨rfl, rfl⟩)
    | (go_at_call 14; refine cw.out.mono ?_; rintro e w2 ⟨rfl, hm⟩; have hm2 := Lib.hid hm; clear hm; have cd2 := Lib.hid (cd.out _ hm2.out); have ct2 := Lib.hid (ct.out _ hm2.out))
    | (go_at_call 12; refine cd2.out.mono ?_; rintro e w3 ⟨rfl, rfl⟩)
    | (go_at_call 15; refine ct2.out.mono ?_; rintro e w3 ⟨rfl, rfl⟩))
  go_ret
  exact ⟨rfl, hw1.out.trans hm2.out (by simp)⟩
end Edge
end Go.Proofs.Ytkhbnopmeapfjaa
