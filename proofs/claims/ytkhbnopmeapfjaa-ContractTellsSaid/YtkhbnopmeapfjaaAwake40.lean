/- Vertices of a graph that is there put together; the law's awake. -/
import Derived.Test.YtkhbnopmeapfjaaCon6
import Derived.Test.YtkhbnopmeapfjaaIntsE
set_option linter.unusedVariables false
set_option linter.unusedSimpArgs false
namespace Go.Proofs.Ytkhbnopmeapfjaa
open Go.RowKit
namespace Edge
section
variable {w0 w : World} {b n : Nat} {L : List Ed} {R : List Part}
theorem of_sep (hS : Sep w0 w (NetP b n L :: R)) (hG : GOk n L) (hP : (L.length : Int) * 2147483648 + total L ≤ 2251799813685248) (k : Int) {name : List Int} {va : Value} (h : Rd w 1 va name.length (i64s name)) :
    Calls Try.prog 45 #[.pointer (some ⟨b, 0, none⟩), .int .i64 k, va] w (OfOut k name n L w) :=
  of_gen hG (fun W m => n_sep (hS.still m)) (fun W m => edges_sep (hS.still m) hG.len) hP k h
theorem pair_sep (hS : Sep w0 w (NetP b n L :: R)) (hG : GOk n L) (hP : (L.length : Int) * 2147483648 + total L ≤ 2251799813685248) (u v : Int) :
    Calls Try.prog 46 #[.pointer (some ⟨b, 0, none⟩), .int .i64 u, .int .i64 v] w (PairOut n L u v w) :=
  pair_gen hG (fun W m => n_sep (hS.still m)) (fun W m => edges_sep (hS.still m) hG.len) hP u v
end
theorem gok_nil : GOk 0 [] := ⟨by omega, List.Pairwise.nil, by simp, by simp, by simp [total], by simp⟩
theorem of_none (w : World) : Calls Try.prog 45 #[.pointer none, .int .i64 0, .slice none 0 0] w (OfOut 0 [] 0 [] w) := by
  refine of_gen gok_nil (fun W m => (n_nil W).mono ?_) (fun W m => (edges_nil W).mono ?_) (by simp [total]) 0 (Rd.nil w 1)
  · rintro e w' ⟨rfl, rfl⟩; exact ⟨rfl, rfl⟩
  · rintro e w' ⟨rfl, rfl⟩; exact ⟨none, 0, rfl, World.ownsRow_nil _ _ _ _, Mod.refl _ _, by simp [Value.ownBlock]⟩
theorem pair_none (w : World) : Calls Try.prog 46 #[.pointer none, .int .i64 0, .int .i64 1] w (PairOut 0 [] 0 1 w) := by
  refine pair_gen gok_nil (fun W m => (n_nil W).mono ?_) (fun W m => (edges_nil W).mono ?_) (by simp [total]) 0 1
  · rintro e w' ⟨rfl, rfl⟩; exact ⟨rfl, rfl⟩
  · rintro e w' ⟨rfl, rfl⟩; exact ⟨none, 0, rfl, World.ownsRow_nil _ _ _ _, Mod.refl _ _, by simp [Value.ownBlock]⟩
/-- The graph of a naming is one. -/
theorem con_ok {n : Nat} {L : List Ed} (hG : GOk n L) {k : Int} {name : List Int} (h : name.length = n ∧ isN k name) : GOk k.toNat (merged (mapL name L)) := by
  have h1 := h.2.1
  obtain ⟨h2, h3, h4⟩ := merged_gen (mapL_ok hG h.1 h.2.2.1)
  have h5 := total_map name L
  have h6 : (mapL name L).length = L.length := by simp [mapL]
  have h7 := hG.tot
  have h8 := hG.len
  exact ⟨by omega, merged_rising _, fun e he => by have := h2 e he; omega, fun e he => (h2 e he).2.2.2, by omega, by omega⟩
theorem merged40 : merged [(0, 1, 1), (1, 2, 1), (0, 2, 1)] = [(0, 1, 1), (0, 2, 1), (1, 2, 1)] := by decide +kernel
theorem merged40b : merged (mapL (pairN 3 1 0) [(0, 1, 1), (0, 2, 1), (1, 2, 1)]) = [(0, 1, 2)] := by decide +kernel
set_option maxRecDepth 100000 in
set_option maxHeartbeats 4000000 in
theorem awake40 (w : World) : Calls Try.prog 44 #[] w fun e w' => e = .returned (.bool true) ∧ Mod [] w w' := by
  go_enter Try.func44, Try.ntmps44
  go_wp2_with fail
  refine (new_net 3 (l := [(0, 1, 1), (1, 2, 1), (0, 2, 1)]) (rd_ed (l := [(0, 1, 1), (1, 2, 1), (0, 2, 1)]) (Has.new w [.int .i64 0, .int .i64 1, .int .i64 1, .int .i64 1, .int .i64 2, .int .i64 1, .int .i64 0, .int .i64 2, .int .i64 1] 41) (by simp))).mono ?_
  rintro e w1 hN
  rcases hN.out with ⟨hne, _⟩ | ⟨he, b, rfl, hS⟩
  · exact absurd (by decide +kernel) hne
  have hG := new_ok he
  rw [merged40] at hS hG
  have e3 : ((3 : Int).toNat) = 3 := rfl
  rw [e3] at hS hG
  have hw1 := Lib.hid (show Mod [] w w1 from ((Mod.refl [] w).alloc _).trans hS.mod (by simp))
  have hpr := Lib.hid (pair_sep hS hG (by decide) 1 0)
  clear hN he hS
  try dsimp only
  go_wp2_with fail
  refine hpr.out.mono ?_
  rintro e w2 hO
  rcases hO.out with ⟨hbad, _⟩ | ⟨_, hisN, b2, a, c, rfl, hA⟩
  · exact absurd (by decide +kernel) hbad
  have hG2 := con_ok hG ⟨pairN_len 3 1 0, hisN⟩
  rw [merged40b] at hA hG2
  have hi : pairN 3 1 0 = [0, 0, 1] := by decide +kernel
  rw [hi] at hA
  have e4 : (((3 : Nat) : Int) - 1).toNat = 2 := rfl
  rw [e4] at hA hG2
  have hw2 := Lib.hid (hw1.out.trans hA.mod (by simp))
  have cn := Lib.hid (n_sep hA)
  have cw := Lib.hid (weight_sep hA hG2 0 1)
  rw [show weight [(0, 1, 2)] 0 1 = 2 by decide] at cw
  have hrow := Lib.hid (fun W (m : Mod [] w2 W) => own_keep (hA.swap.row) m (by simp))
  clear hpr hO hA hG hG2 hisN hi
  try dsimp only
  go_wp2_with (go_at_call 18; refine cn.out.mono ?_; rintro e w3 ⟨rfl, hw3⟩; subst w3)
  refine cw.out.mono ?_
  rintro e w3 ⟨rfl, hm3⟩
  have hm3' := Lib.hid hm3
  have hlit := Lib.hid (Has.new w3 [.int .i64 0, .int .i64 0, .int .i64 1] 3)
  have hrd := Lib.hid (Reads.own (hrow.out _ (hm3.alloc (.cells #[.int .i64 0, .int .i64 0, .int .i64 1] 3))))
  clear hm3
  try dsimp only
  go_wp2_with fail
  refine (ints_any (xs := [0, 0, 1]) (ys := [0, 0, 1]) hrd.out (show Reads _ 1 (.slice (some ⟨w3.heap.size, 0, none⟩) 3 3) 3 [.int .i64 0, .int .i64 0, .int .i64 1] from ⟨rfl, .inr ⟨_, 0, 3, rfl, Nat.le_refl _, by decide, fun j u hu => by rw [Nat.zero_add]; exact hlit.out.cell j hu⟩⟩)).mono ?_
  rintro e w5 ⟨rfl, hd⟩
  have hd' := Lib.hid hd.mod
  rw [show eqI [0, 0, 1] [0, 0, 1] = true by decide]
  try dsimp only
  go_wp2_with fail
  go_ret
  exact ⟨rfl, hw2.out.trans (hm3'.out.trans (((Mod.refl [] w3).alloc _).trans hd'.out (by simp)) (by simp)) (by simp)⟩
end Edge
end Go.Proofs.Ytkhbnopmeapfjaa
