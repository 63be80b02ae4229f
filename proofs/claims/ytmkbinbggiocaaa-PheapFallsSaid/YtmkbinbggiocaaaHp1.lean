/- A pairing heap's cells; get, turn, ahead. -/
import Derived.Test.YtmkbinbggiocaaaArN1
import Derived.Test.YtmkbinbggiocaaaSched
import Derived.Test.YtmkbinbggiocaaaCode2
import Derived.Deep.DeepCutAuto
import Derived.Deep.CutBlock
set_option linter.unusedVariables false
set_option linter.unusedSimpArgs false
namespace Go.Proofs.Ytmkbinbggiocaaa
open Go.RowKit Arena
/-- A heap as a plain thing: of each vertex its node, and the nodes. -/
structure Hp where
  room : Nat
  root : Int
  links : Int
  at_ : List Int
  A : Ar Nd
namespace Hp
open Go.Proofs.Ytmkbinbggiocaaa.Code
/-- The pointer to block bh is a heap that is H; its cells lie in the blocks of F. -/
structure HAt (w : World) (bh : Nat) (H : Hp) (F : List Nat) : Prop where
  mk ::
  out : ∃ (ba ga : Nat) (Fa : List Nat), Has w bh [.int .i64 H.room, .pointer (some ⟨ba, 0, none⟩), .slice (some ⟨ga, 0, none⟩) H.at_.length H.at_.length, .int .i64 H.root, .int .i64 H.links] 189 ∧
    ArN.At w ba H.A Fa ∧ Has w ga (vi64 H.at_) 3 ∧ bh ≠ ga ∧ bh ∉ Fa ∧ ga ∉ Fa ∧ F = bh :: ga :: Fa ∧ H.at_.length = H.room ∧ H.room ≤ 4096
theorem HAt.lt {w : World} {bh : Nat} {H : Hp} {F : List Nat} (h : HAt w bh H F) : ∀ b ∈ F, b < w.heap.size := by
  obtain ⟨ba, ga, Fa, h1, h2, h3, _, _, _, rfl, _⟩ := h.out
  intro b hb
  rcases List.mem_cons.1 hb with rfl | hb
  · exact h1.lt
  rcases List.mem_cons.1 hb with rfl | hb
  · exact h3.lt
  · exact h2.lt b hb
theorem HAt.keep {w w' : World} {bh : Nat} {H : Hp} {F F0 : List Nat} (h : HAt w bh H F) (m : Mod F0 w w') (hd : ∀ b ∈ F, b ∉ F0) : HAt w' bh H F := by
  obtain ⟨ba, ga, Fa, h1, h2, h3, h4, h5, h6, rfl, h7⟩ := h.out
  exact ⟨ba, ga, Fa, h1.keep m (hd _ (by simp)), h2.keep m (fun b hb => hd b (by simp [hb])), h3.keep m (hd _ (by simp)), h4, h5, h6, rfl, h7⟩
theorem HAt.still {w w' : World} {bh : Nat} {H : Hp} {F : List Nat} (h : HAt w bh H F) (m : Mod [] w w') : HAt w' bh H F := h.keep m (by simp)
def put (H : Hp) (n : Int) (x : Nd) : Hp := { H with A := H.A.put n.toNat x }
set_option maxHeartbeats 1000000 in
theorem get_any {w : World} {bh : Nat} {H : Hp} {F : List Nat} (h : HAt w bh H F) (n : Int) (x : Nd) (hn : H.A.get n = some x) :
    Calls Try.prog 135 #[.pointer (some ⟨bh, 0, none⟩), .int .i64 n] w fun e w' => e = .returned x.val ∧ Mod [] w w' := by
  obtain ⟨wc, hwc⟩ : ∃ wc, wc = w.alloc (.cells #[.int .i64 0, .int .i64 0, .int .i64 0, .int .i64 0, .int .i64 0] 187) := ⟨_, rfl⟩
  have m0 : Mod [] w wc := by rw [hwc]; exact (Mod.refl [] w).alloc _
  obtain ⟨ba, ga, Fa, h1, h2, h3, h4, h5, h6, h7, h8⟩ := h.out
  have hb1 := h1.cell 1 rfl
  have hbl := h1.lt
  obtain ⟨B, hBb⟩ : ∃ B, w.heap.size = B := ⟨_, rfl⟩
  have hB : Has wc B [.int .i64 0, .int .i64 0, .int .i64 0, .int .i64 0, .int .i64 0] 187 := by rw [hwc, ← hBb]; exact Has.new w _ _
  have hB' := Lib.hid hB
  have m0' := Lib.hid m0
  have hwc' := Lib.hid hwc
  have hat := Lib.hid (ArN.at_some (h2.still m0) n x hn)
  have hBb' := Lib.hid hBb
  clear h1 h2 h3 h4 h5 h6 h7 h8 hB m0 hwc hn h hBb
  go_enter Try.func135, Try.ntmps135
  go_wp2_with fail
  rw [← hwc'.out, hBb'.out]
  refine hat.out.mono ?_
  rintro e w1 ⟨rfl, hm⟩
  try dsimp only
  have hB1 := hB'.out.keep hm (by simp)
  have d0 := hB1.cell 0 rfl
  have d1 := hB1.cell 1 rfl
  have d2 := hB1.cell 2 rfl
  have d3 := hB1.cell 3 rfl
  have d4 := hB1.cell 4 rfl
  have hz := hB1.free
  have hl := hB1.lt
  have hB1' := Lib.hid hB1
  have hm1 := Lib.hid (m0'.out.trans hm (by simp))
  unfold Nd.val
  clear hB1 hm hat m0' hB' hb1 hbl
  go_wp2_with fail
  have hf := (ArN.putB_has (x := x) hB1'.out).alloc (.cells #[.int .i64 x.v, .int .i64 x.key, .int .i64 x.child, .int .i64 x.next, .int .i64 x.prev] 187)
  have s0 := hf.cell 0 rfl
  have s1 := hf.cell 1 rfl
  have s2 := hf.cell 2 rfl
  have s3 := hf.cell 3 rfl
  have s4 := hf.cell 4 rfl
  have hfm := (ArN.putB_mod hm1.out B x (fun hlt => by have := hBb'.out; omega)).alloc (.cells #[.int .i64 x.v, .int .i64 x.key, .int .i64 x.child, .int .i64 x.next, .int .i64 x.prev] 187)
  show bodyPost _ _ _ Exit.ret _ ((ArN.putB w1 B x).alloc (.cells #[.int .i64 x.v, .int .i64 x.key, .int .i64 x.child, .int .i64 x.next, .int .i64 x.prev] 187))
  generalize (ArN.putB w1 B x).alloc (.cells #[.int .i64 x.v, .int .i64 x.key, .int .i64 x.child, .int .i64 x.next, .int .i64 x.prev] 187) = wf at *
  exact bodyPost_ret (v := x.val) (by simp [results, Try.results135, go_sem, s0, s1, s2, s3, s4, Nd.val]) rfl ⟨rfl, hfm⟩
/-- turn: a function that makes y out of the node x, in a block of its own. -/
def Makes (w : World) (f : Nat) (caps : Array Value) (x y : Nd) : Prop :=
  ∀ (w1 : World) (B : Nat), Mod [] w w1 → w.heap.size ≤ B → Has w1 B x.vals 187 → Calls Try.prog f (#[.pointer (some ⟨B, 0, none⟩)] ++ caps) w1 fun e w' => e = .returned (.tuple #[]) ∧ Has w' B y.vals 187 ∧ Mod [B] w1 w'
set_option maxHeartbeats 2000000 in
theorem turn_any {w : World} {bh : Nat} {H : Hp} {F : List Nat} (h : HAt w bh H F) (n : Int) (x y : Nd) (hn : H.A.get n = some x) (f : Nat) (caps : Array Value) (hf : ∀ (B : Nat) (w : World), (callFunc f (#[.pointer (some ⟨B, 0, none⟩)] ++ caps)).run Try.prog w = .ok (.enter f (#[.pointer (some ⟨B, 0, none⟩)] ++ caps)) w)
    (hdo : Makes w f caps x y) :
    Calls Try.prog 136 #[.pointer (some ⟨bh, 0, none⟩), .int .i64 n, .func (.func f) #[] caps] w fun e w' => e = .returned (.tuple #[]) ∧ HAt w' bh (H.put n y) F ∧ Mod F w w' := by
  have hg := Lib.hid (get_any h n x hn)
  have h' := Lib.hid h
  have hn' := Lib.hid hn
  have hdo' := Lib.hid hdo
  clear h hn hdo
  go_enter Try.func136, Try.ntmps136
  go_wp2_with fail
  refine hg.out.mono ?_
  rintro e w1 ⟨rfl, hm⟩
  try dsimp only
  unfold Nd.val
  have hm1 := Lib.hid hm
  clear hm hg
  go_wp2_with fail
  have hB : Has (w1.alloc (.cells #[.int .i64 x.v, .int .i64 x.key, .int .i64 x.child, .int .i64 x.next, .int .i64 x.prev] 187)) w1.heap.size x.vals 187 := Has.new w1 x.vals _
  refine (hdo'.out _ w1.heap.size (hm1.out.alloc _) hm1.out.size hB).mono ?_
  rintro e w2 ⟨rfl, hy, hm2⟩
  try dsimp only
  have hm3 : Mod [] w w2 := (hm1.out.alloc _).trans hm2 (fun b hb hlt => by
    have := hm1.out.size
    simp only [List.mem_singleton] at hb
    omega)
  have hBw : w.heap.size ≤ w1.heap.size := hm1.out.size
  clear hB hm1 hdo' hf hm2
  generalize w1.heap.size = B at *
  have hBF : ∀ b ∈ F, b ≠ B := fun b hb => by have := h'.out.lt b hb; omega
  obtain ⟨ba, ga, Fa, h1, h2, h3, h4, h5, h6, rfl, h7, h8⟩ := (h'.out.still hm3).out
  have hBa : B ∉ Fa := fun hm => hBF B (by simp [hm]) rfl
  have fb : ∀ m : Fut (Mod Fa) w2.drew, m.v.cell? ⟨bh, 1, none⟩ = some (.pointer (some ⟨ba, 0, none⟩)) := fun m => (h1.drew.keep m.of h5).cell 1 rfl
  have f0 : ∀ m : Fut (Mod Fa) w2.drew, m.v.cell? ⟨B, 0, none⟩ = some (.int .i64 y.v) := fun m => (hy.drew.keep m.of hBa).cell 0 rfl
  have f1 : ∀ m : Fut (Mod Fa) w2.drew, m.v.cell? ⟨B, 1, none⟩ = some (.int .i64 y.key) := fun m => (hy.drew.keep m.of hBa).cell 1 rfl
  have f2 : ∀ m : Fut (Mod Fa) w2.drew, m.v.cell? ⟨B, 2, none⟩ = some (.int .i64 y.child) := fun m => (hy.drew.keep m.of hBa).cell 2 rfl
  have f3 : ∀ m : Fut (Mod Fa) w2.drew, m.v.cell? ⟨B, 3, none⟩ = some (.int .i64 y.next) := fun m => (hy.drew.keep m.of hBa).cell 3 rfl
  have f4 : ∀ m : Fut (Mod Fa) w2.drew, m.v.cell? ⟨B, 4, none⟩ = some (.int .i64 y.prev) := fun m => (hy.drew.keep m.of hBa).cell 4 rfl
  have hst := Lib.hid (ArN.set_some (h2.still (Mod.refl [] w2).drew) n y x hn'.out)
  have hfin : Hid (∀ w3, ArN.At w3 ba (H.A.put n.toNat y) Fa → Mod Fa w2.drew w3 → HAt w3 bh (H.put n y) (bh :: ga :: Fa) ∧ Mod (bh :: ga :: Fa) w w3) := Lib.hid (fun w3 ha hm => by
    refine ⟨⟨ba, ga, Fa, h1.drew.keep hm h5, ha, h3.drew.keep hm h6, h4, h5, h6, rfl, h7, h8⟩, hm3.drew.of0.trans hm (fun b hb _ => by simp [hb])⟩)
  clear h1 h2 h3 h4 h5 h6 h7 h8 h' hn' hy hm3 hBw hBF hBa
  go_upto_region 2 with fail
  refine region_sched (G := Mod Fa) [([0,1,2,3,4,5],6)] [] (by kernel_rfl) (by kernel_rfl) (by kernel_rfl) rfl (Mod.refl _) (fun _ _ _ h1 h2 => h1.trans h2 (fun b hb _ => hb)) ?_
  simp only [stages, pickO, nthO, headO, List.cons_append, List.nil_append]
  refine sched_step ?_
  repeat (go_big_quiet_step (fail))
  refine wpQuiet_nil ?_
  intro K hK
  rw [if_pos (by rfl)]
  go_simp
  refine hst.out.mono ?_
  rintro e w3 ⟨rfl, ha, hm⟩
  try dsimp only
  have hf2 := Lib.hid (hfin.out w3 ha hm)
  refine hK.out _ _ hm ?_
  clear hK K fb f0 f1 f2 f3 f4 hst hfin ha hm
  refine sched_last ?_
  refine wpQuiet_nil ?_
  go_wp2_with fail
  exact bodyPost_end (v := .tuple #[]) (by simp [results, Try.results136, go_sem]) rfl ⟨rfl, hf2.out⟩
end Hp
end Go.Proofs.Ytmkbinbggiocaaa
