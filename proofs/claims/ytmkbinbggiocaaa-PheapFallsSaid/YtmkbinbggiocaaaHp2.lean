/- A pairing heap: ahead; what the small functions make of a node. -/
import Derived.Test.YtmkbinbggiocaaaHp1
set_option linter.unusedVariables false
set_option linter.unusedSimpArgs false
namespace Go.Proofs.Ytmkbinbggiocaaa
open Go.RowKit Arena
namespace Hp
open Go.Proofs.Ytmkbinbggiocaaa.Code
def aheadT (x y : Nd) : Bool := decide (y.key < x.key) || (decide (x.key = y.key) && decide (x.v < y.v))
set_option maxHeartbeats 2000000 in
theorem ahead_any {w : World} {bh : Nat} {H : Hp} {F : List Nat} (h : HAt w bh H F) (a b : Int) (x y : Nd) (ha : H.A.get a = some x) (hb : H.A.get b = some y) :
    Calls Try.prog 163 #[.pointer (some ⟨bh, 0, none⟩), .int .i64 a, .int .i64 b] w fun e w' => e = .returned (.bool (aheadT x y)) ∧ Mod [] w w' := by
  have hg := Lib.hid (get_any h a x ha)
  have hg2 := Lib.hid (fun w' (m : Mod [] w w') => get_any (h.still m) b y hb)
  clear h ha hb
  go_enter Try.func163, Try.ntmps163
  go_wp2_with fail
  refine hg.out.mono ?_
  rintro e w1 ⟨rfl, hm⟩
  try dsimp only
  have hm1 := Lib.hid hm
  clear hm hg
  go_wp2_with fail
  refine (hg2.out _ hm1.out).mono ?_
  rintro e w2 ⟨rfl, hm⟩
  try dsimp only
  have hm2 := Lib.hid (hm1.out.trans hm (by simp))
  clear hm hg2 hm1
  unfold Nd.val
  rcases Int.lt_trichotomy x.key y.key with hk | hk | hk
  · have hr := Lib.hid (show aheadT x y = false by unfold aheadT; simp; omega)
    have k1 : ¬ y.key < x.key := by omega
    have k2 : (x.key == y.key) = false := by simp; omega
    go_wp2_with fail
    go_ret
    exact ⟨by rw [hr.out]; rfl, (hm2.out.alloc _).alloc _⟩
  · have k1 : ¬ y.key < x.key := by omega
    have k2 : (x.key == y.key) = true := by simp [hk]
    by_cases hv : x.v < y.v
    · have hr := Lib.hid (show aheadT x y = true by unfold aheadT; simp [hk, hv])
      clear hk
      go_wp2_with fail
      go_ret
      exact ⟨by rw [hr.out]; rfl, (hm2.out.alloc _).alloc _⟩
    · have hr := Lib.hid (show aheadT x y = false by unfold aheadT; simp [hk, hv])
      clear hk
      go_wp2_with fail
      go_ret
      exact ⟨by rw [hr.out]; rfl, (hm2.out.alloc _).alloc _⟩
  · have hr := Lib.hid (show aheadT x y = true by unfold aheadT; simp [hk])
    go_wp2_with fail
    go_ret
    exact ⟨by rw [hr.out]; rfl, (hm2.out.alloc _).alloc _⟩
/-- A captured box that holds a number in every world from w on, and lies outside of the new blocks. -/
structure Boxed (w : World) (c : Nat) (u : Int) (t : TypeId) : Prop where
  has : Has w c [.int .i64 u] t
theorem Boxed.at {w w1 : World} {c : Nat} {u : Int} {t : TypeId} (h : Boxed w c u t) (m : Mod [] w w1) : w1.cell? ⟨c, 0, none⟩ = some (.int .i64 u) := (h.has.keep m (by simp)).cell 0 rfl
theorem Boxed.lt {w : World} {c : Nat} {u : Int} {t : TypeId} (h : Boxed w c u t) : c < w.heap.size := h.has.lt
set_option maxHeartbeats 1000000 in
theorem link2_makes {w : World} {c : Nat} {u : Int} (h : Boxed w c u 3) (x : Nd) : Makes w 165 #[.pointer (some ⟨c, 0, none⟩)] x { x with prev := u } := by
  intro w1 B m hle hB
  have d0 := hB.cell 4 rfl
  have hz := hB.free 4
  have hl := hB.lt
  have k0 := h.at m
  have hf := Lib.hid (show Has (w1.setCell ⟨B, 4, none⟩ (.int .i64 u)) B { x with prev := u }.vals 187 ∧ Mod [B] w1 (w1.setCell ⟨B, 4, none⟩ (.int .i64 u)) from ⟨hB.set 4 _, (Mod.refl _ _).setCell _ _ (by simp)⟩)
  clear hB m h
  go_enter Try.func165, Try.ntmps165
  go_wp2_with fail
  exact bodyPost_end (v := .tuple #[]) (by simp [results, Try.results165, go_sem]) rfl ⟨rfl, hf.out⟩
set_option maxHeartbeats 1000000 in
theorem link3_makes {w : World} {c : Nat} {u : Int} (h : Boxed w c u 3) (x : Nd) : Makes w 166 #[.pointer (some ⟨c, 0, none⟩)] x { x with child := u } := by
  intro w1 B m hle hB
  have d0 := hB.cell 2 rfl
  have hz := hB.free 2
  have hl := hB.lt
  have k0 := h.at m
  have hf := Lib.hid (show Has (w1.setCell ⟨B, 2, none⟩ (.int .i64 u)) B { x with child := u }.vals 187 ∧ Mod [B] w1 (w1.setCell ⟨B, 2, none⟩ (.int .i64 u)) from ⟨hB.set 2 _, (Mod.refl _ _).setCell _ _ (by simp)⟩)
  clear hB m h
  go_enter Try.func166, Try.ntmps166
  go_wp2_with fail
  exact bodyPost_end (v := .tuple #[]) (by simp [results, Try.results166, go_sem]) rfl ⟨rfl, hf.out⟩
set_option maxHeartbeats 1000000 in
theorem raise1_makes {w : World} {c : Nat} {u : Int} (h : Boxed w c u 2) (x : Nd) : Makes w 137 #[.pointer (some ⟨c, 0, none⟩)] x { x with key := u } := by
  intro w1 B m hle hB
  have d0 := hB.cell 1 rfl
  have hz := hB.free 1
  have hl := hB.lt
  have k0 := h.at m
  have hf := Lib.hid (show Has (w1.setCell ⟨B, 1, none⟩ (.int .i64 u)) B { x with key := u }.vals 187 ∧ Mod [B] w1 (w1.setCell ⟨B, 1, none⟩ (.int .i64 u)) from ⟨hB.set 1 _, (Mod.refl _ _).setCell _ _ (by simp)⟩)
  clear hB m h
  go_enter Try.func137, Try.ntmps137
  go_wp2_with fail
  exact bodyPost_end (v := .tuple #[]) (by simp [results, Try.results137, go_sem]) rfl ⟨rfl, hf.out⟩
set_option maxHeartbeats 1000000 in
theorem cut3_makes (w : World) (x : Nd) : Makes w 171 #[] x { x with prev := -1, next := -1 } := by
  intro w1 B m hle hB
  have d3 := hB.cell 3 rfl
  have d4 := hB.cell 4 rfl
  have hz := hB.free
  have hl := hB.lt
  have hf := Lib.hid (show Has ((w1.setCell ⟨B, 4, none⟩ (.int .i64 (-1))).setCell ⟨B, 3, none⟩ (.int .i64 (-1))) B { x with prev := -1, next := -1 }.vals 187 ∧ Mod [B] w1 ((w1.setCell ⟨B, 4, none⟩ (.int .i64 (-1))).setCell ⟨B, 3, none⟩ (.int .i64 (-1))) from ⟨(hB.set 4 _).set 3 _, ((Mod.refl _ _).setCell _ _ (by simp)).setCell _ _ (by simp)⟩)
  clear hB m
  show Calls Try.prog 171 #[.pointer (some ⟨B, 0, none⟩)] w1 _
  go_enter Try.func171, Try.ntmps171
  go_wp2_with fail
  exact bodyPost_end (v := .tuple #[]) (by simp [results, Try.results171, go_sem]) rfl ⟨rfl, hf.out⟩
set_option maxHeartbeats 1000000 in
theorem pair1_makes (w : World) (x : Nd) : Makes w 172 #[] x { x with prev := -1, next := -1 } := by
  intro w1 B m hle hB
  have d3 := hB.cell 3 rfl
  have d4 := hB.cell 4 rfl
  have hz := hB.free
  have hl := hB.lt
  have hf := Lib.hid (show Has ((w1.setCell ⟨B, 4, none⟩ (.int .i64 (-1))).setCell ⟨B, 3, none⟩ (.int .i64 (-1))) B { x with prev := -1, next := -1 }.vals 187 ∧ Mod [B] w1 ((w1.setCell ⟨B, 4, none⟩ (.int .i64 (-1))).setCell ⟨B, 3, none⟩ (.int .i64 (-1))) from ⟨(hB.set 4 _).set 3 _, ((Mod.refl _ _).setCell _ _ (by simp)).setCell _ _ (by simp)⟩)
  clear hB m
  show Calls Try.prog 172 #[.pointer (some ⟨B, 0, none⟩)] w1 _
  go_enter Try.func172, Try.ntmps172
  go_wp2_with fail
  exact bodyPost_end (v := .tuple #[]) (by simp [results, Try.results172, go_sem]) rfl ⟨rfl, hf.out⟩
set_option maxHeartbeats 1000000 in
theorem pair2_makes (w : World) (x : Nd) : Makes w 173 #[] x { x with prev := -1, next := -1 } := by
  intro w1 B m hle hB
  have d3 := hB.cell 3 rfl
  have d4 := hB.cell 4 rfl
  have hz := hB.free
  have hl := hB.lt
  have hf := Lib.hid (show Has ((w1.setCell ⟨B, 4, none⟩ (.int .i64 (-1))).setCell ⟨B, 3, none⟩ (.int .i64 (-1))) B { x with prev := -1, next := -1 }.vals 187 ∧ Mod [B] w1 ((w1.setCell ⟨B, 4, none⟩ (.int .i64 (-1))).setCell ⟨B, 3, none⟩ (.int .i64 (-1))) from ⟨(hB.set 4 _).set 3 _, ((Mod.refl _ _).setCell _ _ (by simp)).setCell _ _ (by simp)⟩)
  clear hB m
  show Calls Try.prog 173 #[.pointer (some ⟨B, 0, none⟩)] w1 _
  go_enter Try.func173, Try.ntmps173
  go_wp2_with fail
  exact bodyPost_end (v := .tuple #[]) (by simp [results, Try.results173, go_sem]) rfl ⟨rfl, hf.out⟩
set_option maxHeartbeats 1000000 in
theorem cut1_makes {w : World} {c : Nat} {z : Nd} (h : Has w c z.vals 187) (x : Nd) : Makes w 169 #[.pointer (some ⟨c, 0, none⟩)] x { x with prev := z.prev } := by
  intro w1 B m hle hB
  have d0 := hB.cell 4 rfl
  have hz := hB.free 4
  have hl := hB.lt
  have k0 := (h.keep m (by simp)).cell 4 rfl
  have hf := Lib.hid (show Has (w1.setCell ⟨B, 4, none⟩ (.int .i64 z.prev)) B { x with prev := z.prev }.vals 187 ∧ Mod [B] w1 (w1.setCell ⟨B, 4, none⟩ (.int .i64 z.prev)) from ⟨hB.set 4 _, (Mod.refl _ _).setCell _ _ (by simp)⟩)
  clear hB m h
  go_enter Try.func169, Try.ntmps169
  go_wp2_with fail
  exact bodyPost_end (v := .tuple #[]) (by simp [results, Try.results169, go_sem]) rfl ⟨rfl, hf.out⟩
def unlink (n : Int) (z x : Nd) : Nd := if x.child = n then { x with child := z.next } else { x with next := z.next }
set_option maxHeartbeats 1000000 in
theorem cut2_makes {w : World} {cn c : Nat} {n : Int} {z : Nd} (hn : Boxed w cn n 3) (h : Has w c z.vals 187) (x : Nd) : Makes w 170 #[.pointer (some ⟨cn, 0, none⟩), .pointer (some ⟨c, 0, none⟩)] x (unlink n z x) := by
  intro w1 B m hle hB
  have d2 := hB.cell 2 rfl
  have d3 := hB.cell 3 rfl
  have hz := hB.free
  have hl := hB.lt
  have k0 := (h.keep m (by simp)).cell 3 rfl
  have k1 := hn.at m
  by_cases hc : x.child = n
  · have hf := Lib.hid (fun w2 (e : ∃ nq, w2 = (w1.drewN nq).setCell ⟨B, 2, none⟩ (.int .i64 z.next)) => show Has w2 B (unlink n z x).vals 187 ∧ Mod [B] w1 w2 from by
      obtain ⟨nq, rfl⟩ := e
      unfold unlink
      rw [if_pos hc]
      exact ⟨(hB.drewN nq).set 2 _, ((Mod.refl _ _).drewN nq).setCell _ _ (by simp)⟩)
    have hc' : (x.child == n) = true := by simp [hc]
    clear hB m h hc hn
    go_enter Try.func170, Try.ntmps170
    go_wp2_with fail
    go_quiet (fail)
    go_wp2_with fail
    exact bodyPost_end (v := .tuple #[]) (by simp [results, Try.results170, go_sem]) rfl ⟨rfl, hf.out _ ⟨_, rfl⟩⟩
  · have hf := Lib.hid (fun w2 (e : ∃ nq, w2 = (w1.drewN nq).setCell ⟨B, 3, none⟩ (.int .i64 z.next)) => show Has w2 B (unlink n z x).vals 187 ∧ Mod [B] w1 w2 from by
      obtain ⟨nq, rfl⟩ := e
      unfold unlink
      rw [if_neg hc]
      exact ⟨(hB.drewN nq).set 3 _, ((Mod.refl _ _).drewN nq).setCell _ _ (by simp)⟩)
    have hc' : (x.child == n) = false := by simpa using hc
    clear hB m h hc hn
    go_enter Try.func170, Try.ntmps170
    go_wp2_with fail
    go_quiet (fail)
    go_wp2_with fail
    exact bodyPost_end (v := .tuple #[]) (by simp [results, Try.results170, go_sem]) rfl ⟨rfl, hf.out _ ⟨_, rfl⟩⟩
set_option maxHeartbeats 2000000 in
theorem link1_makes {w : World} {ca cf : Nat} {a u : Int} (ha : Boxed w ca a 3) (hu : Boxed w cf u 3) (x : Nd) : Makes w 164 #[.pointer (some ⟨ca, 0, none⟩), .pointer (some ⟨cf, 0, none⟩)] x { x with prev := a, next := u } := by
  intro w1 B m hle hB
  have n1 : ca ≠ B := by have := ha.lt; omega
  have n2 : cf ≠ B := by have := hu.lt; omega
  have f1 : ∀ m2 : Fut (Mod [B]) w1.drew, m2.v.cell? ⟨ca, 0, none⟩ = some (.int .i64 a) := fun m2 => (((ha.has.keep m (by simp)).drew).keep m2.of (by simp [n1])).cell 0 rfl
  have f2 : ∀ m2 : Fut (Mod [B]) w1.drew, m2.v.cell? ⟨cf, 0, none⟩ = some (.int .i64 u) := fun m2 => (((hu.has.keep m (by simp)).drew).keep m2.of (by simp [n2])).cell 0 rfl
  have d4 := hB.cell 4 rfl
  have d3 := hB.cell 3 rfl
  have hz := hB.free
  have hl := hB.lt
  have hB' := Lib.hid hB
  clear hB m ha hu n1 n2
  go_enter Try.func164, Try.ntmps164
  go_wp2_with fail
  refine region_sched (G := Mod [B]) [([0,1,2,3,4,5],6), ([7,8],9)] [] (by kernel_rfl) (by kernel_rfl) (by kernel_rfl) rfl (Mod.refl _) (fun _ _ _ h1 h2 => h1.trans h2 (fun b hb _ => hb)) ?_
  simp only [stages, pickO, nthO, headO, List.cons_append, List.nil_append]
  refine sched_step ?_
  repeat (go_big_quiet_step (fail))
  refine wpQuiet_nil ?_
  intro K hK
  rw [if_pos (by rfl)]
  go_simp
  have hm2 : Mod [B] w1.drew (w1.drew.setCell ⟨B, 4, none⟩ (.int .i64 a)) := (Mod.refl _ _).setCell _ _ (by simp)
  have hB2 := (hB'.out.drew).set 4 (.int .i64 a)
  refine hK.out _ _ hm2 ?_
  have hm2' := Lib.hid hm2
  have hB2' := Lib.hid hB2
  clear hK K f1 f2 d4 hm2 hB2
  refine sched_step ?_
  repeat (go_big_quiet_step (fail))
  refine wpQuiet_nil ?_
  intro K hK
  rw [if_pos (by rfl)]
  go_simp
  have hm3 : Mod [B] (w1.drew.setCell ⟨B, 4, none⟩ (.int .i64 a)) ((w1.drew.setCell ⟨B, 4, none⟩ (.int .i64 a)).setCell ⟨B, 3, none⟩ (.int .i64 u)) := (Mod.refl _ _).setCell _ _ (by simp)
  have hf := Lib.hid (show Has ((w1.drew.setCell ⟨B, 4, none⟩ (.int .i64 a)).setCell ⟨B, 3, none⟩ (.int .i64 u)) B { x with prev := a, next := u }.vals 187 ∧ Mod [B] w1 ((w1.drew.setCell ⟨B, 4, none⟩ (.int .i64 a)).setCell ⟨B, 3, none⟩ (.int .i64 u)) from ⟨hB2'.out.set 3 _, ((Mod.refl _ w1).drew.trans hm2'.out (fun b hb _ => hb)).trans hm3 (fun b hb _ => hb)⟩)
  refine hK.out _ _ hm3 ?_
  clear hK K d3 hz hl hm3 hB2' hm2' hB'
  refine sched_last ?_
  refine wpQuiet_nil ?_
  go_wp2_with fail
  exact bodyPost_end (v := .tuple #[]) (by simp [results, Try.results164, go_sem]) rfl ⟨rfl, hf.out⟩
end Hp
end Go.Proofs.Ytmkbinbggiocaaa
