/- PheapPlays: a call on both heaps. -/
import Derived.Test.YtmkbinbggiocaaaRef12c
import Derived.Test.YtmkbinbggiocaaaSep
set_option linter.unusedVariables false
set_option linter.unusedSimpArgs false
namespace Go.Proofs.Ytmkbinbggiocaaa
open Go.RowKit Arena
namespace Ref12
open Go.Proofs.Ytmkbinbggiocaaa.Code
open Go.Proofs.Ytmkbinbggiocaaa.Hp
def HpP (bh : Nat) (H : Hp) : Part := fun w F => HAt w bh H F
def XP (bx : Nat) (I : List Bool) (X : List Int) : Part := fun w F => XAt w bx I X F
instance (bh : Nat) (H : Hp) : Good (HpP bh H) where
  lt h := HAt.lt h
  keep h m hd := HAt.keep h m hd
instance (bx : Nat) (I : List Bool) (X : List Int) : Good (XP bx I X) where
  lt h := XAt.lt h
  keep h m hd := XAt.keep h m hd
section
variable {w0 w : World} {bh bx : Nat} {H H' : Hp} {I : List Bool} {X : List Int} {L : List Part}
theorem push_s (h : Sep w0 w (HpP bh H :: L)) (v key : Int) (ok : Bool) (hT : pushT H v key = some (H', ok)) (hl0 : 0 ≤ H.links) (hl1 : H.links < 4611686018427387904) :
    Calls Try.prog 72 #[.pointer (some ⟨bh, 0, none⟩), .int .i64 v, .int .i64 key] w fun e w' => e = .returned (.bool ok) ∧ Sep w0 w' (HpP bh H' :: L) := by
  obtain ⟨F, h1, h2, h3⟩ := h.first
  refine (push_any h1 v key ok hT hl0 hl1).mono ?_
  rintro e w' ⟨rfl, hl⟩
  obtain ⟨F', a, b, c⟩ := hl.out
  exact ⟨rfl, h3 _ _ F' a b c⟩
theorem raise_s (h : Sep w0 w (HpP bh H :: L)) (v key : Int) (ok : Bool) (hT : raiseT H v key = some (H', ok)) (hl0 : 0 ≤ H.links) (hl1 : H.links < 4611686018427387904) :
    Calls Try.prog 73 #[.pointer (some ⟨bh, 0, none⟩), .int .i64 v, .int .i64 key] w fun e w' => e = .returned (.bool ok) ∧ Sep w0 w' (HpP bh H' :: L) := by
  obtain ⟨F, h1, h2, h3⟩ := h.first
  refine (raise_any h1 v key ok hT hl0 hl1).mono ?_
  rintro e w' ⟨rfl, hl⟩
  obtain ⟨F', a, b, c⟩ := hl.out
  exact ⟨rfl, h3 _ _ F' a b c⟩
theorem drop_s (fuel : Nat) (h : Sep w0 w (HpP bh H :: L)) (v : Int) (ok : Bool) (hT : dropT fuel H v = some (H', ok)) (hl0 : 0 ≤ H.links) (hl1 : H.links + 2 * fuel < 2305843009213693952) (hfu : fuel ≤ 1048576) :
    Calls Try.prog 84 #[.pointer (some ⟨bh, 0, none⟩), .int .i64 v] w fun e w' => e = .returned (.bool ok) ∧ Sep w0 w' (HpP bh H' :: L) := by
  obtain ⟨F, h1, h2, h3⟩ := h.first
  refine (drop_any fuel h1 v ok hT hl0 hl1 hfu (fun H1 hp => ⟨(part_same hp).1, (part_same hp).2.1⟩)).mono ?_
  rintro e w' ⟨rfl, hh, hm⟩
  exact ⟨rfl, h3 _ _ F hh hm (fun b hb => .inl hb)⟩
theorem pop_s (fuel : Nat) (h : Sep w0 w (HpP bh H :: L)) (v k : Int) (ok : Bool) (hT : popT fuel H = some (H', v, k, ok)) (hl0 : 0 ≤ H.links) (hl1 : H.links + 2 * fuel < 2305843009213693952) (hfu : fuel ≤ 1048576) :
    Calls Try.prog 74 #[.pointer (some ⟨bh, 0, none⟩)] w fun e w' => e = .returned (.tuple #[.int .i64 v, .int .i64 k, .bool ok]) ∧ Sep w0 w' (HpP bh H' :: L) := by
  obtain ⟨F, h1, h2, h3⟩ := h.first
  refine (pop_any fuel h1 v k ok hT hl0 hl1 hfu).mono ?_
  rintro e w' ⟨rfl, hh, hm⟩
  exact ⟨rfl, h3 _ _ F hh hm (fun b hb => .inl hb)⟩
theorem xpush_s (h : Sep w0 w (HpP bh H :: XP bx I X :: L)) (v key : Int) :
    Calls Try.prog 141 #[.pointer (some ⟨bx, 0, none⟩), .int .i64 v, .int .i64 key] w fun e w' => e = .returned (.bool (pushR I v)) ∧ Sep w0 w' (HpP bh H :: XP bx (pushI I v) (pushX I X v key) :: L) := by
  obtain ⟨F, h1, h2, h3⟩ := h.swap.first
  refine (push_x h1 v key).mono ?_
  rintro e w' ⟨rfl, hh, hm⟩
  exact ⟨rfl, (h3 (XP bx _ _) _ F hh hm (fun b hb => .inl hb)).swap⟩
theorem xraise_s (h : Sep w0 w (HpP bh H :: XP bx I X :: L)) (v key : Int) :
    Calls Try.prog 142 #[.pointer (some ⟨bx, 0, none⟩), .int .i64 v, .int .i64 key] w fun e w' => e = .returned (.bool (raiseR I X v key)) ∧ Sep w0 w' (HpP bh H :: XP bx I (raiseX I X v key) :: L) := by
  obtain ⟨F, h1, h2, h3⟩ := h.swap.first
  refine (raise_x h1 v key).mono ?_
  rintro e w' ⟨rfl, hh, hm⟩
  exact ⟨rfl, (h3 (XP bx _ _) _ F hh hm (fun b hb => .inl hb)).swap⟩
theorem xdrop_s (h : Sep w0 w (HpP bh H :: XP bx I X :: L)) (v : Int) :
    Calls Try.prog 143 #[.pointer (some ⟨bx, 0, none⟩), .int .i64 v] w fun e w' => e = .returned (.bool (inR I v)) ∧ Sep w0 w' (HpP bh H :: XP bx (dropI I v) (dropX I X v) :: L) := by
  obtain ⟨F, h1, h2, h3⟩ := h.swap.first
  refine (drop_x h1 v).mono ?_
  rintro e w' ⟨rfl, hh, hm⟩
  exact ⟨rfl, (h3 (XP bx _ _) _ F hh hm (fun b hb => .inl hb)).swap⟩
theorem xpop_s (h : Sep w0 w (HpP bh H :: XP bx I X :: L)) :
    Calls Try.prog 144 #[.pointer (some ⟨bx, 0, none⟩)] w fun e w' => e = .returned (topVal (topV I X)) ∧ Sep w0 w' (HpP bh H :: XP bx (popI I X) (popX I X) :: L) := by
  obtain ⟨F, h1, h2, h3⟩ := h.swap.first
  refine (pop_x h1).mono ?_
  rintro e w' ⟨rfl, hh, hm⟩
  exact ⟨rfl, (h3 (XP bx _ _) _ F hh hm (fun b hb => .inl hb)).swap⟩
theorem xfirst_s (h : Sep w0 w (HpP bh H :: XP bx I X :: L)) :
    Calls Try.prog 145 #[.pointer (some ⟨bx, 0, none⟩)] w fun e w' => e = .returned (topVal (topV I X)) ∧ Sep w0 w' (HpP bh H :: XP bx I X :: L) := by
  obtain ⟨F, h1, h2, h3⟩ := h.swap.first
  refine (first_x h1).mono ?_
  rintro e w' ⟨rfl, hm⟩
  exact ⟨rfl, h.still hm⟩
theorem top_s (h : Sep w0 w (HpP bh H :: L)) (v k : Int) (ok : Bool) (hT : topT H = some (v, k, ok)) :
    Calls Try.prog 83 #[.pointer (some ⟨bh, 0, none⟩)] w fun e w' => e = .returned (.tuple #[.int .i64 v, .int .i64 k, .bool ok]) ∧ Sep w0 w' (HpP bh H :: L) := by
  obtain ⟨F, h1, h2, h3⟩ := h.first
  refine (top_any h1 v k ok hT).mono ?_
  rintro e w' ⟨rfl, hm⟩
  exact ⟨rfl, h.still hm⟩
end
/-- What do leaves. -/
structure DoOut (w0 : World) (bh bx : Nat) (H : Hp) (L : List Part) (e : Ending) (w' : World) : Prop where
  mk ::
  out : ∃ H' I' X', e = .returned (.bool true) ∧ Sep w0 w' (HpP bh H' :: XP bx I' X' :: L) ∧ Ok H' I' X' ∧ H.links ≤ H'.links ∧ H'.links ≤ H.links + 8193 ∧ H'.room = H.room
/-- A block keeps what it holds. -/
def KB (b : Nat) (cs : List Value) (t : TypeId) (w w' : World) : Prop := Has w b cs t → Has w' b cs t
instance (b : Nat) (cs : List Value) (t : TypeId) (w : World) : Nonempty (Fut (KB b cs t) w) := ⟨⟨w, id⟩⟩
set_option maxRecDepth 100000 in
set_option maxHeartbeats 4000000 in
theorem do_any {w0 w : World} {bh bx : Nat} {H : Hp} {I : List Bool} {X : List Int} {L : List Part} (hS : Sep w0 w (HpP bh H :: XP bx I X :: L)) (hok : Ok H I X) (hl0 : 0 ≤ H.links) (hl1 : H.links < 1152921504606846976) (K V Key : Int) :
    Calls Try.prog 78 #[.pointer (some ⟨bh, 0, none⟩), .pointer (some ⟨bx, 0, none⟩), .agg #[.int .i64 K, .int .i64 V, .int .i64 Key]] w (DoOut w0 bh bx H L) := by
  have hB := (hS.box [.int .i64 K, .int .i64 V, .int .i64 Key] 118)
  have h0 := hB.blk
  have hB' := Lib.hid hB.back2
  have h0' := Lib.hid h0
  have hok' := Lib.hid hok
  have c0 := h0.cell 0 rfl
  have c1 := h0.cell 1 rfl
  have c2 := h0.cell 2 rfl
  have cl := h0.lt
  clear hS hB h0 hok
  go_enter Try.func78, Try.ntmps78
  by_cases k0 : K = 0
  · subst k0
    obtain ⟨H', hT, hO, hl2, hl3, hr⟩ := push_ok hok'.out V Key
    have hp := Lib.hid (push_s (hB'.out.still (Mod.refl [] _).drew) V Key _ hT hl0 (by omega))
    have hO' := Lib.hid hO
    have hr' := Lib.hid hr
    clear hT hO hr
    go_upto_region 3 with fail
    generalize hw1 : w.alloc _ = w1 at *
    generalize hBb : w.heap.size = B at *
    have hw1' := Lib.hid hw1
    have hBb' := Lib.hid hBb
    clear hw1 hBb
    have q0 : ∀ m : Fut (KB B [.int .i64 0, .int .i64 V, .int .i64 Key] 118) w1.drew, m.v.cell? ⟨B, 1, none⟩ = some (.int .i64 V) := fun m => (m.of h0'.out).cell 1 rfl
    have q1 : ∀ m : Fut (KB B [.int .i64 0, .int .i64 V, .int .i64 Key] 118) w1.drew, m.v.cell? ⟨B, 2, none⟩ = some (.int .i64 Key) := fun m => (m.of h0'.out).cell 2 rfl
    clear c0 c1 c2
    refine region_sched (G := KB B [.int .i64 0, .int .i64 V, .int .i64 Key] 118) [([0,1,2,3,4,6,7,8,9,10],5), ([],11)] [12,13] (by kernel_rfl) (by kernel_rfl) (by kernel_rfl) rfl (fun _ h => h) (fun _ _ _ h1 h2 h => h2 (h1 h)) ?_
    simp only [stages, pickO, nthO, headO, List.cons_append, List.nil_append]
    refine sched_step ?_
    repeat (go_big_quiet_step (fail))
    refine wpQuiet_nil ?_
    intro K hK
    rw [if_pos (by rfl)]
    go_simp
    refine hp.out.mono ?_
    rintro e w2 ⟨rfl, hS2⟩
    try dsimp only
    refine hK.out _ _ (fun _ => hS2.front2.blk) ?_
    clear hK K q0 q1 hp
    have hp2 := Lib.hid (xpush_s hS2 V Key)
    clear hS2
    refine sched_step ?_
    refine wpQuiet_nil ?_
    intro K hK
    rw [if_pos (by rfl)]
    go_simp
    refine hp2.out.mono ?_
    rintro e w3 ⟨rfl, hS3⟩
    try dsimp only
    refine hK.out _ _ (fun _ => hS3.front2.blk) ?_
    clear hK K hp2
    have hS3' := Lib.hid hS3
    clear hS3
    refine sched_last ?_
    repeat (go_big_quiet_step (fail))
    refine wpQuiet_nil ?_
    go_wp2_with fail
    go_ret
    refine ⟨_, _, _, ?_, hS3'.out.front2.tail, hO'.out, hl2, by omega, hr'.out⟩
    simp
  by_cases k1 : K = 1
  · subst k1
    clear k0
    obtain ⟨H', hT, hO, hl2, hl3, hr⟩ := raise_ok hok'.out V Key
    have hp := Lib.hid (raise_s (hB'.out.still (Mod.refl [] _).drew) V Key _ hT hl0 (by omega))
    have hO' := Lib.hid hO
    have hr' := Lib.hid hr
    clear hT hO hr
    go_upto_region 5 with fail
    generalize hw1 : w.alloc _ = w1 at *
    generalize hBb : w.heap.size = B at *
    have hw1' := Lib.hid hw1
    have hBb' := Lib.hid hBb
    clear hw1 hBb
    have q0 : ∀ m : Fut (KB B [.int .i64 1, .int .i64 V, .int .i64 Key] 118) w1.drew, m.v.cell? ⟨B, 1, none⟩ = some (.int .i64 V) := fun m => (m.of h0'.out).cell 1 rfl
    have q1 : ∀ m : Fut (KB B [.int .i64 1, .int .i64 V, .int .i64 Key] 118) w1.drew, m.v.cell? ⟨B, 2, none⟩ = some (.int .i64 Key) := fun m => (m.of h0'.out).cell 2 rfl
    clear c0 c1 c2
    refine region_sched (G := KB B [.int .i64 1, .int .i64 V, .int .i64 Key] 118) [([0,1,2,3,4,6,7,8,9,10],5), ([],11)] [12,13] (by kernel_rfl) (by kernel_rfl) (by kernel_rfl) rfl (fun _ h => h) (fun _ _ _ h1 h2 h => h2 (h1 h)) ?_
    simp only [stages, pickO, nthO, headO, List.cons_append, List.nil_append]
    refine sched_step ?_
    repeat (go_big_quiet_step (fail))
    refine wpQuiet_nil ?_
    intro K hK
    rw [if_pos (by rfl)]
    go_simp
    refine hp.out.mono ?_
    rintro e w2 ⟨rfl, hS2⟩
    try dsimp only
    refine hK.out _ _ (fun _ => hS2.front2.blk) ?_
    clear hK K q0 q1 hp
    have hp2 := Lib.hid (xraise_s hS2 V Key)
    clear hS2
    refine sched_step ?_
    refine wpQuiet_nil ?_
    intro K hK
    rw [if_pos (by rfl)]
    go_simp
    refine hp2.out.mono ?_
    rintro e w3 ⟨rfl, hS3⟩
    try dsimp only
    refine hK.out _ _ (fun _ => hS3.front2.blk) ?_
    clear hK K hp2
    have hS3' := Lib.hid hS3
    clear hS3
    refine sched_last ?_
    repeat (go_big_quiet_step (fail))
    refine wpQuiet_nil ?_
    go_wp2_with fail
    go_ret
    refine ⟨_, _, _, ?_, hS3'.out.front2.tail, hO'.out, hl2, by omega, hr'.out⟩
    simp
  by_cases k3 : K = 3
  · subst k3
    clear k0 k1
    obtain ⟨H', hT, hO, hl2, hl3, hr⟩ := drop_ok hok'.out V
    have hp := Lib.hid (drop_s 4096 (hB'.out.still (Mod.refl [] _).drew) V _ hT hl0 (by omega) (by omega))
    have hO' := Lib.hid hO
    have hr' := Lib.hid hr
    clear hT hO hr
    go_upto_region 7 with fail
    generalize hw1 : w.alloc _ = w1 at *
    generalize hBb : w.heap.size = B at *
    have hw1' := Lib.hid hw1
    have hBb' := Lib.hid hBb
    clear hw1 hBb
    have q0 : ∀ m : Fut (KB B [.int .i64 3, .int .i64 V, .int .i64 Key] 118) w1.drew, m.v.cell? ⟨B, 1, none⟩ = some (.int .i64 V) := fun m => (m.of h0'.out).cell 1 rfl
    clear c0 c1 c2
    refine region_sched (G := KB B [.int .i64 3, .int .i64 V, .int .i64 Key] 118) [([0,1,2,4,5,6],3), ([],7)] [8,9] (by kernel_rfl) (by kernel_rfl) (by kernel_rfl) rfl (fun _ h => h) (fun _ _ _ h1 h2 h => h2 (h1 h)) ?_
    simp only [stages, pickO, nthO, headO, List.cons_append, List.nil_append]
    refine sched_step ?_
    repeat (go_big_quiet_step (fail))
    refine wpQuiet_nil ?_
    intro K hK
    rw [if_pos (by rfl)]
    go_simp
    refine hp.out.mono ?_
    rintro e w2 ⟨rfl, hS2⟩
    try dsimp only
    refine hK.out _ _ (fun _ => hS2.front2.blk) ?_
    clear hK K q0 hp
    have hp2 := Lib.hid (xdrop_s hS2 V)
    clear hS2
    refine sched_step ?_
    refine wpQuiet_nil ?_
    intro K hK
    rw [if_pos (by rfl)]
    go_simp
    refine hp2.out.mono ?_
    rintro e w3 ⟨rfl, hS3⟩
    try dsimp only
    refine hK.out _ _ (fun _ => hS3.front2.blk) ?_
    clear hK K hp2
    have hS3' := Lib.hid hS3
    clear hS3
    refine sched_last ?_
    repeat (go_big_quiet_step (fail))
    refine wpQuiet_nil ?_
    go_wp2_with fail
    go_ret
    refine ⟨_, _, _, ?_, hS3'.out.front2.tail, hO'.out, hl2, by omega, hr'.out⟩
    simp
  by_cases k2 : K = 2
  · subst k2
    clear k0 k1 k3
    have hB2 := (hB'.out.box [.int .i64 0, .int .i64 0, .bool false] 197).back2
    have hB2' := Lib.hid hB2
    clear hB2
    obtain ⟨H', hT, hO, hl2, hl3, hr⟩ := pop_ok hok'.out
    have hx := fun (H2 : Hp) (w3 : World) (hS : Sep w0 w3 (HpP bh H2 :: XP bx I X :: Blk (w.alloc (.cells #[.int .i64 2, .int .i64 V, .int .i64 Key] 118)).heap.size [.int .i64 0, .int .i64 0, .bool false] 197 :: Blk w.heap.size [.int .i64 2, .int .i64 V, .int .i64 Key] 118 :: L)) => xpop_s hS
    unfold topVal at hx
    generalize topV I X = t at *
    obtain ⟨tv, tk, tb⟩ := t
    simp only at hx
    have hp := Lib.hid (pop_s 4096 hB2'.out tv tk tb hT hl0 (by omega) (by omega))
    have hx' := Lib.hid hx
    have hO' := Lib.hid hO
    have hr' := Lib.hid hr
    clear hx hT hO hr
    rw [World.size_alloc] at hp hx'
    go_wp2_with fail
    refine hp.out.mono ?_
    rintro e w2 ⟨rfl, hS2⟩
    try dsimp only
    have hp2 := Lib.hid (hx'.out _ _ hS2)
    have hcl2 := hS2.front2.blk.lt
    clear hS2 hx' hp
    go_wp2_with fail
    refine hp2.out.mono ?_
    rintro e w3 ⟨rfl, hS3⟩
    try dsimp only
    have hz := hS3.front2
    have u0 := hz.blk.cell 0 rfl
    have u1 := hz.blk.cell 1 rfl
    have u2 := hz.blk.cell 2 rfl
    have uz := hz.blk.free
    have ul := hz.blk.lt
    have hS4 := Lib.hid ((((hz.set 0 (.int .i64 tv)).set 1 (.int .i64 tk)).set 2 (.bool tb)).tail.front2.tail)
    clear hS3 hp2 hz hcl2 hB2'
    go_wp2_with fail
    go_ret
    refine ⟨_, _, _, ?_, hS4.out, hO'.out, hl2, by omega, hr'.out⟩
    simp
  · have t0 : (K == 0) = false := by simpa using k0
    have t1 : (K == 1) = false := by simpa using k1
    have t2 : (K == 2) = false := by simpa using k2
    have t3 : (K == 3) = false := by simpa using k3
    clear k0 k1 k2 k3
    have hB2 := (hB'.out.box [.int .i64 0, .int .i64 0, .bool false] 197).back2
    have hB2' := Lib.hid hB2
    clear hB2
    have hT := top_ok hok'.out
    have hx := fun (H2 : Hp) (w3 : World) (hS : Sep w0 w3 (HpP bh H2 :: XP bx I X :: Blk (w.alloc (.cells #[.int .i64 K, .int .i64 V, .int .i64 Key] 118)).heap.size [.int .i64 0, .int .i64 0, .bool false] 197 :: Blk w.heap.size [.int .i64 K, .int .i64 V, .int .i64 Key] 118 :: L)) => xfirst_s hS
    unfold topVal at hx
    generalize topV I X = t at *
    obtain ⟨tv, tk, tb⟩ := t
    simp only at hx
    have hp := Lib.hid (top_s hB2'.out tv tk tb hT)
    have hx' := Lib.hid hx
    clear hx hT
    rw [World.size_alloc] at hp hx'
    go_wp2_with fail
    refine hp.out.mono ?_
    rintro e w2 ⟨rfl, hS2⟩
    try dsimp only
    have hp2 := Lib.hid (hx'.out _ _ hS2)
    have hcl2 := hS2.front2.blk.lt
    clear hS2 hx' hp
    go_wp2_with fail
    refine hp2.out.mono ?_
    rintro e w3 ⟨rfl, hS3⟩
    try dsimp only
    have hz := hS3.front2
    have u0 := hz.blk.cell 0 rfl
    have u1 := hz.blk.cell 1 rfl
    have u2 := hz.blk.cell 2 rfl
    have uz := hz.blk.free
    have ul := hz.blk.lt
    have hS4 := Lib.hid ((((hz.set 0 (.int .i64 tv)).set 1 (.int .i64 tk)).set 2 (.bool tb)).tail.front2.tail)
    clear hS3 hp2 hz hcl2 hB2'
    go_wp2_with fail
    go_ret
    refine ⟨_, _, _, ?_, hS4.out, hok'.out, Int.le_refl _, by omega, rfl⟩
    simp
end Ref12
end Go.Proofs.Ytmkbinbggiocaaa
