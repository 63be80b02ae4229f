/- CodePuts: the walk. -/
import Derived.Test.YtmkbinbggiocaaaCode5
import Derived.Test.YtmkbinbggiocaaaSched
import Derived.Test.YtmkbinbggiocaaaAwake45
import Derived.Test.YtmkbinbggiocaaaRead2
set_option linter.unusedVariables false
set_option linter.unusedSimpArgs false
namespace Go.Proofs.Ytmkbinbggiocaaa
open Go.RowKit
namespace Code
theorem Made.mk0 {w w' : World} (m : Mod [] w w') (e size : Nat) : Made w w' e size none 0 0 [] := ⟨World.ownsRow_nil _ _ _ _, m, by simp [Value.ownBlock]⟩
/-- The same number without its sign. -/
def u64N (x : Int) : Nat := (x % 18446744073709551616).toNat
theorem u64N_lt (x : Int) : u64N x < 18446744073709551616 := by unfold u64N; omega
theorem u64N_wrap (x : Int) : IntKind.u64.wrap x = ((u64N x : Nat) : Int) := by rw [IntKind.wrap_u64]; unfold u64N; omega
theorem listB_len {α : Type} (f : α → Nat) (l : List α) (h : ∀ x ∈ l, f x < 18446744073709551616) (hl : l.length ≤ 10000) : (listB f l).length ≤ 10 + 10 * l.length := by
  have h1 := natB_len10 (n := l.length) (by omega)
  have h2 := flatB_len f l h
  rw [listB, List.length_append]; omega
abbrev FutM (w : World) := Fut (Mod []) w
def FutM.on {w w1 : World} (h : Mod [] w w1) (m : FutM w1) : FutM w := ⟨m.v, h.trans m.of (by simp)⟩
theorem FutM.cell {w w1 : World} (h : Mod [] w w1) {a : Addr} {v : Value} (f : ∀ m : FutM w, m.v.cell? a = some v) : ∀ m : FutM w1, m.v.cell? a = some v := fun m => f (m.on h)
theorem FutM.conv {w w1 : World} (h : Mod [] w w1) {s d : TypeId} {x v : Value} (f : ∀ m : FutM w, (convert s d x).run Try.prog m.v = .ok v m.v) : ∀ m : FutM w1, (convert s d x).run Try.prog m.v = .ok v m.v := fun m => f (m.on h)
set_option maxRecDepth 100000 in
set_option maxHeartbeats 8000000 in
theorem puts_any {w : World} {vb vL vS : Value} (bs l : List Int) (N : Int) (s : List Int) (hb : Rd w 1 vb bs.length (u8s bs)) (hL : Rd w 1 vL l.length (vi64 l)) (hS : Rd w 1 vS s.length (vi64 s))
    (hl : ∀ x ∈ l, -9223372036854775808 ≤ x ∧ x ≤ 9223372036854775807)
    (haw : ∀ w, Calls Try.prog 31 #[] w fun e w' => e = .returned (.bool true) ∧ Mod [] w w')
    (h1 : bs.length ≤ 100) (h2 : l.length ≤ 100) (h3 : s.length ≤ 300) :
    Calls Try.prog 5 #[vb, .agg #[vL, .int .i64 N, vS]] w fun e w' => e = .returned (.bool true) ∧ Mod [] w w' := by
  obtain ⟨ab, cb, rfl⟩ := hb.val
  obtain ⟨al, cl, rfl⟩ := hL.val
  obtain ⟨as_, cs, rfl⟩ := hS.val
  have hg1 : decide (100 < bs.length) = false := by simp; omega
  have hg2 : decide (100 < l.length) = false := by simp; omega
  have hg3 : decide (300 < s.length) = false := by simp; omega
  have hbox := Has.new w [.slice al l.length cl, .int .i64 N, .slice as_ s.length cs] 48
  have hbox' := Lib.hid hbox
  have hb' := Lib.hid hb
  have hL' := Lib.hid hL
  have hS' := Lib.hid hS
  have hl' := Lib.hid hl
  have haw' := Lib.hid haw
  obtain ⟨wb, hwb⟩ : ∃ wb, wb = w.alloc (.cells #[.slice al l.length cl, .int .i64 N, .slice as_ s.length cs] 48) := ⟨_, rfl⟩
  have hwb' := Lib.hid hwb
  have hmw := Lib.hid (hwb ▸ (Mod.refl [] w).alloc (.cells #[.slice al l.length cl, .int .i64 N, .slice as_ s.length cs] 48))
  have hBb := Lib.hid (show wb.heap.size = w.heap.size + 1 by rw [hwb]; simp)
  clear hbox hb hL hS hl haw hwb
  go_enter Try.func5, Try.ntmps5
  go_wp2_with fail
  generalize hB : w.heap.size = B at *
  have hB' := Lib.hid hB
  clear hB
  go_loopw [5, 6] (fun u i wr => ∃ (k : Nat) (au : Option Addr) (cu : Nat), k ≤ l.length ∧ i = .int .i64 k ∧ u = .slice au k cu ∧ Made wb wr 50 1 au k cu (vu64 ((l.take k).map u64N)) ∧ Has wr B [.slice al l.length cl, .int .i64 N, .slice as_ s.length cs] 48) (fun u i _ => l.length - (intOf i).toNat)
  case atStart => exact ⟨0, none, 0, Nat.zero_le _, rfl, rfl, hwb'.out ▸ Made.mk0 (Mod.refl _ _) _ _, hbox'.out⟩
  case round =>
    clear hbox'
    obtain ⟨k, au, cu, hk, rfl, rfl, hmd, hbx⟩ := hrel
    obtain ⟨wo, hwo⟩ : ∃ wo : World, wo = wr := ⟨_, rfl⟩
    clear hwo
    have hmr := hmw.out.trans hmd.mod (by simp)
    have c0 := hbx.cell 0 rfl
    have c1 := hbx.cell 1 rfl
    have c2 := hbx.cell 2 rfl
    by_cases hlt : k < l.length
    · obtain ⟨x, hx⟩ : ∃ x, l[k]? = some x := ⟨l[k], List.getElem?_eq_getElem hlt⟩
      have hxb := hl'.out x (List.mem_of_getElem? hx)
      obtain ⟨gl, ol, rfl, _, _, hcell⟩ := (hL'.out.still hmr).at (by rw [vi64_len]; omega)
      have hc := hcell k _ (vi64_get hx)
      have hwrap := u64N_wrap x
      clear hcell
      have hu64 := u64N_lt x
      go_wp2_with (at_builtin; refine app_own rfl (.tmp 33) (.tmp 40) 49 50 _ 1 8 rfl Try.underlying49 infoU64 rfl (by omega) (by omega) (.slice au k cu) k 1 (vu64 ((l.take k).map u64N)) [.int .u64 (u64N x)] rfl rfl (by simp) rfl (by simp [Value.oneCell']) hmd.own (by omega) ?_; intro aA cA wA hA mA vA)
      have hmA := hmd.push hA mA vA
      have e1 : vu64 ((l.take k).map u64N) ++ [.int .u64 (u64N x)] = vu64 ((l.take (k + 1)).map u64N) := by rw [List.take_add_one, hx]; simp [vu64]
      rw [e1] at hmA
      have hbA := hbx.keepGe mA hmd.new (by rw [hBb.out]; omega)
      obtain ⟨gA, rfl⟩ := hmA.form (by omega)
      have fu : ∀ m : FutM wA.drew, m.v.cell? ⟨gA, k, none⟩ = some (.int .u64 (u64N x)) := fun m =>
        (hmA.still ((Mod.refl [] wA).drew.trans m.of (by simp))).cell k (vu64_get (by rw [List.take_add_one, hx]; simp [hk, List.length_take, Nat.min_eq_left (Nat.le_of_lt hlt)]))
      have fy : ∀ m : FutM wA.drew, m.v.cell? ⟨B, 0, none⟩ = some (.slice (some ⟨gl, ol, none⟩) l.length cl) := fun m => (hbA.keep ((Mod.refl [] wA).drew.trans m.of (by simp)) (by simp)).cell 0 rfl
      have hmrA := hmw.out.trans hmA.mod (by simp)
      have fl : ∀ m : FutM wA.drew, m.v.cell? ⟨gl, ol + k, none⟩ = some (.int .i64 x) := fun m => (hL'.out.still (hmrA.trans ((Mod.refl [] wA).drew.trans m.of (by simp)) (by simp))).cellAt k (vi64_get hx)
      have fb : ∀ m : FutM wA.drew, (convert 45 9 (.slice ab bs.length cb)).run Try.prog m.v = .ok (.string (strOfNums bs)) m.v := fun m => conv_rd (hb'.out.still (hmrA.trans ((Mod.refl [] wA).drew.trans m.of (by simp)) (by simp)))
      have hk1 : (k : Int) < (k : Int) + 1 := by omega
      have hk2 : k < k + 1 := by omega
      have hx0 := hxb.1
      have hx1 := hxb.2
      have hsg := signN_lt x hx0 hx1
      obtain ⟨sb, hsb⟩ : ∃ z, z = strOfNums bs := ⟨_, rfl⟩
      obtain ⟨z1, hz1⟩ : ∃ z, z = bs ++ natB (u64N x) := ⟨_, rfl⟩
      obtain ⟨z2, hz2⟩ : ∃ z, z = natB (u64N x) := ⟨_, rfl⟩
      obtain ⟨z3, hz3⟩ : ∃ z, z = bs ++ natB (signN x) := ⟨_, rfl⟩
      obtain ⟨z4, hz4⟩ : ∃ z, z = natB (signN x) := ⟨_, rfl⟩
      have q1 := Lib.hid (fun W (h : Rd W 1 (.slice ab bs.length cb) bs.length (u8s bs)) => nat_any (u64N x) hu64 h (by omega))
      have q2 := Lib.hid (fun W => refNat_any (u64N x) W hu64)
      have q3 := Lib.hid (fun W (h : Rd W 1 (.slice ab bs.length cb) bs.length (u8s bs)) => int_any x hx0 hx1 h (by omega))
      have q4 := Lib.hid (fun W => refNat_any (signN x) W hsg)
      have q5 := Lib.hid (fun W => refSign x W hx0 hx1)
      have len2 : z2.length ≤ 10 := by rw [hz2]; exact natB_len10 hu64
      have len4 : z4.length ≤ 10 := by rw [hz4]; exact natB_len10 hsg
      have add1 : strOfNums bs ++ strOfNums z2 = strOfNums z1 := by rw [str_add, hz2, hz1]
      have add2 : strOfNums bs ++ strOfNums z4 = strOfNums z3 := by rw [str_add, hz4, hz3]
      have sz1 : ¬ (9223372036854775807 < (strOfNums bs).size + (strOfNums z2).size) := by simp only [strOfNums_size]; omega
      have sz2 : ¬ (9223372036854775807 < (strOfNums bs).size + (strOfNums z4).size) := by simp only [strOfNums_size]; omega
      rw [← hz1] at q1
      rw [← hz2] at q2
      rw [← hz3] at q3
      rw [← hz4] at q4
      rw [← hsb] at fb add1 add2 sz1 sz2
      clear hz1 hz2 hz3 hz4 hsb
      generalize hs1 : strOfNums z1 = s1 at *
      generalize hs2 : strOfNums z2 = s2 at *
      generalize hs3 : strOfNums z3 = s3 at *
      generalize hs4 : strOfNums z4 = s4 at *
      have hs1' := Lib.hid hs1
      have hs2' := Lib.hid hs2
      have hs3' := Lib.hid hs3
      have hs4' := Lib.hid hs4
      clear hs1 hs2 hs3 hs4
      refine region_sched (G := Mod []) [([0,1,2,3,4,7,8,9,10,11,12],5), ([6],13), ([14,15,16,17,18,19,20,21,22,23,26,27,28,29,30,31,32],24), ([25],33), ([],34)] [35,36,37,38] (by kernel_rfl) (by kernel_rfl) (by kernel_rfl) rfl (Mod.refl []) (fun _ _ _ h1 h2 => h1.trans h2 (by simp)) ?_
      simp only [stages, pickO, nthO, headO, List.cons_append, List.nil_append]
      refine sched_step ?_
      repeat (go_big_quiet_step (fail))
      refine wpQuiet_nil ?_
      intro K hK
      rw [if_pos (by rfl)]
      go_simp
      refine (q1.out _ (hb'.out.still (hmrA.trans (Mod.refl [] wA).drew (by simp)))).mono ?_
      rintro e w1 ⟨a1, c1, rfl, hm1⟩
      dsimp only
      refine hK.out _ _ hm1.mod ?_
      clear hK K
      replace fu := FutM.cell hm1.mod fu
      replace fy := FutM.cell hm1.mod fy
      replace fl := FutM.cell hm1.mod fl
      replace fb := FutM.conv hm1.mod fb
      have f1 : ∀ m : FutM w1, (convert 45 9 (.slice a1 z1.length c1)).run Try.prog m.v = .ok (.string s1) m.v := fun m => hs1'.out ▸ conv_rd ((Rd.own hm1.own).still m.of)
      refine sched_step ?_
      repeat (go_big_quiet_step (fail))
      refine wpQuiet_nil ?_
      intro K hK
      rw [if_pos (by rfl)]
      go_simp
      refine (q2.out _).mono ?_
      rintro e w2 ⟨a2, c2, rfl, hm2⟩
      dsimp only
      refine hK.out _ _ hm2.mod ?_
      clear hK K
      replace fu := FutM.cell hm2.mod fu
      replace fy := FutM.cell hm2.mod fy
      replace fl := FutM.cell hm2.mod fl
      replace fb := FutM.conv hm2.mod fb
      replace f1 := FutM.conv hm2.mod f1
      have f2 : ∀ m : FutM w2, (convert 45 9 (.slice a2 z2.length c2)).run Try.prog m.v = .ok (.string s2) m.v := fun m => hs2'.out ▸ conv_rd ((Rd.own hm2.own).still m.of)
      refine sched_step ?_
      repeat (go_big_quiet_step (fail))
      refine wpQuiet_nil ?_
      intro K hK
      rw [if_pos (by rfl)]
      go_simp
      refine (q3.out _ (hb'.out.still (((hmrA.trans (Mod.refl [] wA).drew (by simp)).trans hm1.mod (by simp)).trans hm2.mod (by simp)))).mono ?_
      rintro e w3 ⟨a3, c3, rfl, hm3⟩
      dsimp only
      refine hK.out _ _ hm3.mod ?_
      clear hK K
      replace fl := FutM.cell hm3.mod fl
      replace fy := FutM.cell hm3.mod fy
      replace fb := FutM.conv hm3.mod fb
      have f3 : ∀ m : FutM w3, (convert 45 9 (.slice a3 z3.length c3)).run Try.prog m.v = .ok (.string s3) m.v := fun m => hs3'.out ▸ conv_rd ((Rd.own hm3.own).still m.of)
      refine sched_step ?_
      repeat (go_big_quiet_step (fail))
      refine wpQuiet_nil ?_
      intro K hK
      rw [if_pos (by rfl)]
      go_simp
      refine (q5.out _).mono ?_
      rintro e w4 ⟨rfl, rfl⟩
      dsimp only
      refine hK.out _ _ (Mod.refl [] _) ?_
      clear hK K
      refine sched_step ?_
      repeat (go_big_quiet_step (fail))
      refine wpQuiet_nil ?_
      intro K hK
      rw [if_pos (by rfl)]
      go_simp
      refine (q4.out _).mono ?_
      rintro e w5 ⟨a5, c5, rfl, hm5⟩
      dsimp only
      refine hK.out _ _ hm5.mod ?_
      clear hK K
      have f5 : ∀ m : FutM w5, (convert 45 9 (.slice a5 z4.length c5)).run Try.prog m.v = .ok (.string s4) m.v := fun m => hs4'.out ▸ conv_rd ((Rd.own hm5.own).still m.of)
      refine sched_last ?_
      repeat (go_big_quiet_step (fail))
      refine wpQuiet_nil ?_
      clear fu fy fl fb f1 f2 f3 f5
      have hm15 := (((((Mod.refl [] wA).drew.trans hm1.mod (by simp)).trans hm2.mod (by simp)).trans hm3.mod (by simp)).trans hm5.mod (by simp))
      have hmE := hmA.still hm15
      have hbE := hbA.keep hm15 (by simp)
      go_wp2_with fail
      go_roundw
      case rel => exact ⟨k + 1, some ⟨gA, 0, none⟩, cA, by omega, by go_num, rfl, hmE, hbE⟩
      case measure => simp [intOf]; omega
    · have hk' : k = l.length := by omega
      subst hk'
      rw [List.take_length] at hmd
      obtain ⟨l', hl2⟩ : ∃ l', l' = l.map u64N := ⟨_, rfl⟩
      rw [← hl2] at hmd
      have hll : l'.length = l.length := by rw [hl2, List.length_map]
      have hlt' : ∀ x ∈ l', x < 18446744073709551616 := by
        rw [hl2]
        simp only [List.mem_map]
        rintro _ ⟨x, _, rfl⟩
        exact u64N_lt x
      have hU0 : Rd wr 1 (.slice au l.length cu) l'.length (vu64 l') := by rw [hll]; exact Rd.own hmd.own
      obtain ⟨sb, hsb⟩ : ∃ z, z = strOfNums bs := ⟨_, rfl⟩
      obtain ⟨z1, hz1⟩ : ∃ z, z = bs ++ listB id l' := ⟨_, rfl⟩
      obtain ⟨z2, hz2⟩ : ∃ z, z = listB id l' := ⟨_, rfl⟩
      obtain ⟨z3, hz3⟩ : ∃ z, z = bs ++ listB signN l := ⟨_, rfl⟩
      obtain ⟨z4, hz4⟩ : ∃ z, z = listB signN l := ⟨_, rfl⟩
      have r1 := Lib.hid (fun W (h : Rd W 1 (.slice ab bs.length cb) bs.length (u8s bs)) (h2 : Rd W 1 (.slice au l.length cu) l'.length (vu64 l')) => nats_any l' hlt' h (by omega) h2 (by omega))
      have r2 := Lib.hid (fun W (h2 : Rd W 1 (.slice au l.length cu) l'.length (vu64 l')) => refNats l' hlt' h2 (by omega))
      have r3 := Lib.hid (fun W (h : Rd W 1 (.slice ab bs.length cb) bs.length (u8s bs)) (h2 : Rd W 1 (.slice al l.length cl) l.length (vi64 l)) => ints_any l hl'.out h (by omega) h2 (by omega))
      have r4 := Lib.hid (fun W (h2 : Rd W 1 (.slice al l.length cl) l.length (vi64 l)) => refInts l hl'.out h2 (by omega))
      have len2 : z2.length ≤ 1010 := by rw [hz2]; exact Nat.le_trans (listB_len id l' hlt' (by omega)) (by omega)
      have len4 : z4.length ≤ 1010 := by rw [hz4]; exact Nat.le_trans (listB_len signN l (fun x hx => signN_lt x (hl'.out x hx).1 (hl'.out x hx).2) (by omega)) (by omega)
      have add1 : strOfNums bs ++ strOfNums z2 = strOfNums z1 := by rw [str_add, hz2, hz1]
      have add2 : strOfNums bs ++ strOfNums z4 = strOfNums z3 := by rw [str_add, hz4, hz3]
      have sz1 : ¬ (9223372036854775807 < (strOfNums bs).size + (strOfNums z2).size) := by simp only [strOfNums_size]; omega
      have sz2 : ¬ (9223372036854775807 < (strOfNums bs).size + (strOfNums z4).size) := by simp only [strOfNums_size]; omega
      have hsb1 : strOfNums bs = sb := hsb.symm
      rw [← hz1] at r1
      rw [← hz2] at r2
      rw [← hz3] at r3
      rw [← hz4] at r4
      rw [← hsb] at add1 add2 sz1 sz2
      clear hz1 hz2 hz3 hz4 hl2 hlt' hll hsb
      generalize hs1 : strOfNums z1 = s1 at *
      generalize hs2 : strOfNums z2 = s2 at *
      generalize hs3 : strOfNums z3 = s3 at *
      generalize hs4 : strOfNums z4 = s4 at *
      have hs1' := Lib.hid hs1
      have hs2' := Lib.hid hs2
      have hs3' := Lib.hid hs3
      have hs4' := Lib.hid hs4
      have hsb' := Lib.hid hsb1
      have hU0' := Lib.hid hU0
      clear hs1 hs2 hs3 hs4 len2 len4 hsb1 hU0
      have p1 := bits_any (vb := .slice ab bs.length cb) (vl := .slice as_ s.length cs) N s (hb'.out.still hmr) (by omega) (hS'.out.still hmr)
      have p2 := fun W (h : Rd W 1 (.slice as_ s.length cs) s.length (vi64 s)) => refBits_any N s h
      cases hok : bitsOk N s with
      | true =>
        have hN : wideN N ≤ 513 := by
          simp only [bitsOk, Bool.and_eq_true, decide_eq_true_eq] at hok
          unfold wideN; omega
        obtain ⟨z6, hz6⟩ : ∃ z, z = bs ++ bitsB (wideN N) s := ⟨_, rfl⟩
        obtain ⟨z7, hz7⟩ : ∃ z, z = bitsB (wideN N) s := ⟨_, rfl⟩
        have len7 : z7.length ≤ 513 := by rw [hz7, bitsB_len]; exact hN
        have add3 : strOfNums bs ++ strOfNums z7 = strOfNums z6 := by rw [str_add, hz6, hz7]
        have sz3 : ¬ (9223372036854775807 < (strOfNums bs).size + (strOfNums z7).size) := by simp only [strOfNums_size]; omega
        rw [hsb'.out] at add3 sz3
        replace p1 := p1.mono fun e w' h => show ∃ a c, e = .returned (.tuple #[.slice a (bs ++ bitsB (wideN N) s).length c, .bool true]) ∧ Made wr w' 5 1 a (bs ++ bitsB (wideN N) s).length c (u8s (bs ++ bitsB (wideN N) s)) by simpa only [BitsOut, hok, if_true] using h
        replace p2 := Lib.hid (fun W h => (p2 W h).mono fun e w' h => show ∃ a c, e = .returned (.agg #[.slice a (bitsB (wideN N) s).length c, .bool true]) ∧ Made W w' 5 1 a (bitsB (wideN N) s).length c (u8s (bitsB (wideN N) s)) by simpa only [RefBitsOut, hok, if_true] using h)
        rw [← hz6] at p1
        rw [← hz7] at p2
        clear hz6 hz7 hN len7
        generalize hs6 : strOfNums z6 = s6 at *
        generalize hs7 : strOfNums z7 = s7 at *
        have hs6' := Lib.hid hs6
        have hs7' := Lib.hid hs7
        have p1' := Lib.hid p1
        clear hs6 hs7 p1 hok
        go_wp2_with fail
        refine p1'.out.mono ?_
        rintro e y1 ⟨a6, c6, rfl, hy1⟩
        dsimp only
        have hbx1 := hbx.keep hy1.mod (by simp)
        have d1 := hbx1.cell 1 rfl
        have d2 := hbx1.cell 2 rfl
        go_wp2_with fail
        refine (p2.out _ (hS'.out.still (hmr.trans hy1.mod (by simp)))).mono ?_
        rintro e y2 ⟨a7, c7, rfl, hy2⟩
        dsimp only
        have hbx2 := hbx1.keep hy2.mod (by simp)
        have e0 := hbx2.cell 0 rfl
        have e1 := hbx2.cell 1 rfl
        have e2 := hbx2.cell 2 rfl
        have hm12 := hmr.trans (hy1.mod.trans hy2.mod (by simp)) (by simp)
        have kb : ∀ o, (convert 45 9 (.slice ab bs.length cb)).run Try.prog (y2.alloc o) = .ok (.string sb) (y2.alloc o) := fun o => hsb'.out ▸ conv_rd (hb'.out.still (hm12.alloc o))
        have k6 : ∀ o, (convert 45 9 (.slice a6 z6.length c6)).run Try.prog (y2.alloc o) = .ok (.string s6) (y2.alloc o) := fun o => hs6'.out ▸ conv_rd ((Rd.own hy1.own).still (hy2.mod.alloc o))
        have k7 : ∀ o, (convert 45 9 (.slice a7 z7.length c7)).run Try.prog (y2.alloc o) = .ok (.string s7) (y2.alloc o) := fun o => hs7'.out ▸ conv_rd ((Rd.own hy2.own).still ((Mod.refl [] y2).alloc o))
        have hm7 : ∀ o, Mod [] w (y2.alloc o) := fun o => hm12.alloc o
        have hm7' := Lib.hid hm7
        have hb7' : Hid (∀ o, Has (y2.alloc o) B [.slice al l.length cl, .int .i64 N, .slice as_ s.length cs] 48) := fun o => hbx2.alloc o
        have hU7 : Hid (∀ o, Rd (y2.alloc o) 1 (.slice au l.length cu) l'.length (vu64 l')) := fun o => hU0'.out.still ((hy1.mod.trans hy2.mod (by simp)).alloc o)
        clear hm7 hm12
        go_wp2_with fail
        obtain ⟨W, hW⟩ : ∃ W, W = y2.alloc (.cells #[.slice a7 z7.length c7, .bool true] 58) := ⟨_, rfl⟩
        rw [← hW]
        have hm7 := hm7'.out (.cells #[.slice a7 z7.length c7, .bool true] 58)
        have hb7 := hb7'.out (.cells #[.slice a7 z7.length c7, .bool true] 58)
        have hU := Lib.hid (hU7.out (.cells #[.slice a7 z7.length c7, .bool true] 58))
        rw [← hW] at hm7 hb7 hU
        clear hW kb k6 k7 hm7' hb7' hU7 hbx1 d1 d2 e0 e1 e2 c0 c1 c2
        have fy : ∀ m : FutM W.drew, m.v.cell? ⟨B, 0, none⟩ = some (.slice al l.length cl) := fun m => (hb7.keep ((Mod.refl [] W).drew.trans m.of (by simp)) (by simp)).cell 0 rfl
        have fb : ∀ m : FutM W.drew, (convert 45 9 (.slice ab bs.length cb)).run Try.prog m.v = .ok (.string sb) m.v := fun m => hsb'.out ▸ conv_rd (hb'.out.still (hm7.trans ((Mod.refl [] W).drew.trans m.of (by simp)) (by simp)))
        refine region_sched (G := Mod []) [([0,1,4,5,6],2), ([3],7), ([8,9,10,11,12,13,14,17,18,19,20],15), ([16],21), ([22,23,24,25,26],27)] [28,29] (by kernel_rfl) (by kernel_rfl) (by kernel_rfl) rfl (Mod.refl []) (fun _ _ _ h1 h2 => h1.trans h2 (by simp)) ?_
        simp only [stages, pickO, nthO, headO, List.cons_append, List.nil_append]
        refine sched_step ?_
        repeat (go_big_quiet_step (fail))
        refine wpQuiet_nil ?_
        intro K hK
        rw [if_pos (by rfl)]
        go_simp
        refine (r1.out _ (hb'.out.still (hm7.trans (Mod.refl [] _).drew (by simp))) (hU.out.still (Mod.refl [] _).drew)).mono ?_
        rintro e x1 ⟨a1, c1, rfl, hx1⟩
        dsimp only
        refine hK.out _ _ hx1.mod ?_
        clear hK K
        replace fy := FutM.cell hx1.mod fy
        replace fb := FutM.conv hx1.mod fb
        have g1 : ∀ m : FutM x1, (convert 45 9 (.slice a1 z1.length c1)).run Try.prog m.v = .ok (.string s1) m.v := fun m => hs1'.out ▸ conv_rd ((Rd.own hx1.own).still m.of)
        refine sched_step ?_
        repeat (go_big_quiet_step (fail))
        refine wpQuiet_nil ?_
        intro K hK
        rw [if_pos (by rfl)]
        go_simp
        refine (r2.out _ (hU.out.still ((Mod.refl [] _).drew.trans hx1.mod (by simp)))).mono ?_
        rintro e x2 ⟨a2, c2, rfl, hx2⟩
        dsimp only
        refine hK.out _ _ hx2.mod ?_
        clear hK K
        replace fy := FutM.cell hx2.mod fy
        replace fb := FutM.conv hx2.mod fb
        replace g1 := FutM.conv hx2.mod g1
        have g2 : ∀ m : FutM x2, (convert 45 9 (.slice a2 z2.length c2)).run Try.prog m.v = .ok (.string s2) m.v := fun m => hs2'.out ▸ conv_rd ((Rd.own hx2.own).still m.of)
        refine sched_step ?_
        repeat (go_big_quiet_step (fail))
        refine wpQuiet_nil ?_
        intro K hK
        rw [if_pos (by rfl)]
        go_simp
        have hmx := ((Mod.refl [] _).drew.trans hx1.mod (by simp)).trans hx2.mod (by simp)
        refine (r3.out _ (hb'.out.still (hm7.trans hmx (by simp))) (hL'.out.still (hm7.trans hmx (by simp)))).mono ?_
        rintro e x3 ⟨a3, c3, rfl, hx3⟩
        dsimp only
        refine hK.out _ _ hx3.mod ?_
        clear hK K
        replace fy := FutM.cell hx3.mod fy
        replace fb := FutM.conv hx3.mod fb
        have g3 : ∀ m : FutM x3, (convert 45 9 (.slice a3 z3.length c3)).run Try.prog m.v = .ok (.string s3) m.v := fun m => hs3'.out ▸ conv_rd ((Rd.own hx3.own).still m.of)
        refine sched_step ?_
        repeat (go_big_quiet_step (fail))
        refine wpQuiet_nil ?_
        intro K hK
        rw [if_pos (by rfl)]
        go_simp
        refine (r4.out _ (hL'.out.still (hm7.trans (hmx.trans hx3.mod (by simp)) (by simp)))).mono ?_
        rintro e x4 ⟨a4, c4, rfl, hx4⟩
        dsimp only
        refine hK.out _ _ hx4.mod ?_
        clear hK K
        have g4 : ∀ m : FutM x4, (convert 45 9 (.slice a4 z4.length c4)).run Try.prog m.v = .ok (.string s4) m.v := fun m => hs4'.out ▸ conv_rd ((Rd.own hx4.own).still m.of)
        refine sched_step ?_
        repeat (go_big_quiet_step (fail))
        refine wpQuiet_nil ?_
        intro K hK
        rw [if_pos (by rfl)]
        go_simp
        refine (haw'.out _).mono ?_
        rintro e x5 ⟨rfl, hx5⟩
        dsimp only
        refine hK.out _ _ hx5 ?_
        clear hK K
        refine sched_last ?_
        repeat (go_big_quiet_step (fail))
        refine wpQuiet_nil ?_
        have hfin := ((hm7.trans hmx (by simp)).trans hx3.mod (by simp)).trans (hx4.mod.trans hx5 (by simp)) (by simp)
        clear fy fb g1 g2 g3 g4
        go_wp2_with fail
        go_ret
        exact ⟨rfl, hfin⟩
      | false =>
        replace p1 := p1.mono fun e w' h => show e = .returned (.tuple #[.slice none 0 0, .bool false]) ∧ Mod [] wr w' by simpa [BitsOut, hok] using h
        replace p2 := Lib.hid (fun W h => (p2 W h).mono fun e w' h => show e = .returned (.agg #[.slice none 0 0, .bool false]) ∧ Mod [] W w' by simpa [RefBitsOut, hok] using h)
        have p1' := Lib.hid p1
        clear p1 hok
        go_wp2_with fail
        refine p1'.out.mono ?_
        rintro e y1 ⟨rfl, hy1⟩
        dsimp only
        have hbx1 := hbx.keep hy1 (by simp)
        have d1 := hbx1.cell 1 rfl
        have d2 := hbx1.cell 2 rfl
        go_wp2_with fail
        refine (p2.out _ (hS'.out.still (hmr.trans hy1 (by simp)))).mono ?_
        rintro e y2 ⟨rfl, hy2⟩
        dsimp only
        have hbx2 := hbx1.keep hy2 (by simp)
        have e0 := hbx2.cell 0 rfl
        have e1 := hbx2.cell 1 rfl
        have e2 := hbx2.cell 2 rfl
        have hm12 := hmr.trans (hy1.trans hy2 (by simp)) (by simp)
        have hm7 : ∀ o, Mod [] w (y2.alloc o) := fun o => hm12.alloc o
        have hm7' := Lib.hid hm7
        have hb7' : Hid (∀ o, Has (y2.alloc o) B [.slice al l.length cl, .int .i64 N, .slice as_ s.length cs] 48) := fun o => hbx2.alloc o
        have hU7 : Hid (∀ o, Rd (y2.alloc o) 1 (.slice au l.length cu) l'.length (vu64 l')) := fun o => hU0'.out.still ((hy1.trans hy2 (by simp)).alloc o)
        clear hm7 hm12
        go_wp2_with fail
        obtain ⟨W, hW⟩ : ∃ W, W = y2.alloc (.cells #[.slice none 0 0, .bool false] 58) := ⟨_, rfl⟩
        rw [← hW]
        have hm7 := hm7'.out (.cells #[.slice none 0 0, .bool false] 58)
        have hb7 := hb7'.out (.cells #[.slice none 0 0, .bool false] 58)
        have hU := Lib.hid (hU7.out (.cells #[.slice none 0 0, .bool false] 58))
        rw [← hW] at hm7 hb7 hU
        clear hW hm7' hb7' hU7 hbx1 d1 d2 e0 e1 e2 c0 c1 c2
        have fy : ∀ m : FutM W.drew, m.v.cell? ⟨B, 0, none⟩ = some (.slice al l.length cl) := fun m => (hb7.keep ((Mod.refl [] W).drew.trans m.of (by simp)) (by simp)).cell 0 rfl
        have fb : ∀ m : FutM W.drew, (convert 45 9 (.slice ab bs.length cb)).run Try.prog m.v = .ok (.string sb) m.v := fun m => hsb'.out ▸ conv_rd (hb'.out.still (hm7.trans ((Mod.refl [] W).drew.trans m.of (by simp)) (by simp)))
        refine region_sched (G := Mod []) [([0,1,4,5,6],2), ([3],7), ([8,9,10,11,12,13,14,17,18,19,20],15), ([16],21), ([22,23,24,25,26],27)] [28,29] (by kernel_rfl) (by kernel_rfl) (by kernel_rfl) rfl (Mod.refl []) (fun _ _ _ h1 h2 => h1.trans h2 (by simp)) ?_
        simp only [stages, pickO, nthO, headO, List.cons_append, List.nil_append]
        refine sched_step ?_
        repeat (go_big_quiet_step (fail))
        refine wpQuiet_nil ?_
        intro K hK
        rw [if_pos (by rfl)]
        go_simp
        refine (r1.out _ (hb'.out.still (hm7.trans (Mod.refl [] _).drew (by simp))) (hU.out.still (Mod.refl [] _).drew)).mono ?_
        rintro e x1 ⟨a1, c1, rfl, hx1⟩
        dsimp only
        refine hK.out _ _ hx1.mod ?_
        clear hK K
        replace fy := FutM.cell hx1.mod fy
        replace fb := FutM.conv hx1.mod fb
        have g1 : ∀ m : FutM x1, (convert 45 9 (.slice a1 z1.length c1)).run Try.prog m.v = .ok (.string s1) m.v := fun m => hs1'.out ▸ conv_rd ((Rd.own hx1.own).still m.of)
        refine sched_step ?_
        repeat (go_big_quiet_step (fail))
        refine wpQuiet_nil ?_
        intro K hK
        rw [if_pos (by rfl)]
        go_simp
        refine (r2.out _ (hU.out.still ((Mod.refl [] _).drew.trans hx1.mod (by simp)))).mono ?_
        rintro e x2 ⟨a2, c2, rfl, hx2⟩
        dsimp only
        refine hK.out _ _ hx2.mod ?_
        clear hK K
        replace fy := FutM.cell hx2.mod fy
        replace fb := FutM.conv hx2.mod fb
        replace g1 := FutM.conv hx2.mod g1
        have g2 : ∀ m : FutM x2, (convert 45 9 (.slice a2 z2.length c2)).run Try.prog m.v = .ok (.string s2) m.v := fun m => hs2'.out ▸ conv_rd ((Rd.own hx2.own).still m.of)
        refine sched_step ?_
        repeat (go_big_quiet_step (fail))
        refine wpQuiet_nil ?_
        intro K hK
        rw [if_pos (by rfl)]
        go_simp
        have hmx := ((Mod.refl [] _).drew.trans hx1.mod (by simp)).trans hx2.mod (by simp)
        refine (r3.out _ (hb'.out.still (hm7.trans hmx (by simp))) (hL'.out.still (hm7.trans hmx (by simp)))).mono ?_
        rintro e x3 ⟨a3, c3, rfl, hx3⟩
        dsimp only
        refine hK.out _ _ hx3.mod ?_
        clear hK K
        replace fy := FutM.cell hx3.mod fy
        replace fb := FutM.conv hx3.mod fb
        have g3 : ∀ m : FutM x3, (convert 45 9 (.slice a3 z3.length c3)).run Try.prog m.v = .ok (.string s3) m.v := fun m => hs3'.out ▸ conv_rd ((Rd.own hx3.own).still m.of)
        refine sched_step ?_
        repeat (go_big_quiet_step (fail))
        refine wpQuiet_nil ?_
        intro K hK
        rw [if_pos (by rfl)]
        go_simp
        refine (r4.out _ (hL'.out.still (hm7.trans (hmx.trans hx3.mod (by simp)) (by simp)))).mono ?_
        rintro e x4 ⟨a4, c4, rfl, hx4⟩
        dsimp only
        refine hK.out _ _ hx4.mod ?_
        clear hK K
        have g4 : ∀ m : FutM x4, (convert 45 9 (.slice a4 z4.length c4)).run Try.prog m.v = .ok (.string s4) m.v := fun m => hs4'.out ▸ conv_rd ((Rd.own hx4.own).still m.of)
        refine sched_step ?_
        repeat (go_big_quiet_step (fail))
        refine wpQuiet_nil ?_
        intro K hK
        rw [if_pos (by rfl)]
        go_simp
        refine (haw'.out _).mono ?_
        rintro e x5 ⟨rfl, hx5⟩
        dsimp only
        refine hK.out _ _ hx5 ?_
        clear hK K
        refine sched_last ?_
        repeat (go_big_quiet_step (fail))
        refine wpQuiet_nil ?_
        have hfin := ((hm7.trans hmx (by simp)).trans hx3.mod (by simp)).trans (hx4.mod.trans hx5 (by simp)) (by simp)
        clear fy fb g1 g2 g3 g4
        go_wp2_with fail
        go_ret
        exact ⟨rfl, hfin⟩
set_option maxRecDepth 100000 in
set_option maxHeartbeats 4000000 in
theorem puts_far {w : World} {ab al as_ : Option Addr} {nb cb nl cl ns cs : Nat} (N : Int) (h : 100 < nb ∨ 100 < nl ∨ 300 < ns) :
    Calls Try.prog 5 #[.slice ab nb cb, .agg #[.slice al nl cl, .int .i64 N, .slice as_ ns cs]] w fun e w' => e = .returned (.bool true) ∧ Mod [] w w' := by
  have haw := Lib.hid (fun W => awake_true W)
  have hm := Lib.hid ((Mod.refl [] w).alloc (.cells #[.slice al nl cl, .int .i64 N, .slice as_ ns cs] 48))
  have h' := Lib.hid h
  clear h
  by_cases h1 : 100 < nb
  · have g1 : decide (100 < (nb : Int)) = true := by simp; omega
    have g1' : decide (100 < nb) = true := by simpa using h1
    go_enter Try.func5, Try.ntmps5
    go_wp2_with fail
    refine (haw.out _).mono ?_
    rintro e w1 ⟨rfl, hm1⟩
    dsimp only
    have hf := Lib.hid (hm.out.trans hm1 (by simp))
    clear hm1
    go_wp2_with fail
    go_ret
    exact ⟨rfl, hf.out⟩
  · have g1 : decide (100 < (nb : Int)) = false := by simp; omega
    have g1' : decide (100 < nb) = false := by simpa using h1
    by_cases h2 : 100 < nl
    · have g2 : decide (100 < (nl : Int)) = true := by simp; omega
      have g2' : decide (100 < nl) = true := by simpa using h2
      go_enter Try.func5, Try.ntmps5
      go_wp2_with fail
      refine (haw.out _).mono ?_
      rintro e w1 ⟨rfl, hm1⟩
      dsimp only
      have hf := Lib.hid (hm.out.trans hm1 (by simp))
      clear hm1
      go_wp2_with fail
      go_ret
      exact ⟨rfl, hf.out⟩
    · have g2 : decide (100 < (nl : Int)) = false := by simp; omega
      have g2' : decide (100 < nl) = false := by simpa using h2
      have h3 : 300 < ns := by have := h'.out; omega
      have g3 : decide (300 < (ns : Int)) = true := by simp; omega
      have g3' : decide (300 < ns) = true := by simpa using h3
      go_enter Try.func5, Try.ntmps5
      go_wp2_with fail
      refine (haw.out _).mono ?_
      rintro e w1 ⟨rfl, hm1⟩
      dsimp only
      have hf := Lib.hid (hm.out.trans hm1 (by simp))
      clear hm1
      go_wp2_with fail
      go_ret
      exact ⟨rfl, hf.out⟩
theorem puts_all {w : World} {vb vL vS : Value} (bs l : List Int) (N : Int) (s : List Int) (hb : Rd w 1 vb bs.length (u8s bs)) (hL : Rd w 1 vL l.length (vi64 l)) (hS : Rd w 1 vS s.length (vi64 s))
    (hl : ∀ x ∈ l, (Lit.int .i64 x).wf = true) :
    Calls Try.prog 5 #[vb, .agg #[vL, .int .i64 N, vS]] w fun e w' => e = .returned (.bool true) ∧ Mod [] w w' := by
  by_cases h : 100 < bs.length ∨ 100 < l.length ∨ 300 < s.length
  · obtain ⟨ab, cb, rfl⟩ := hb.val
    obtain ⟨al, cl, rfl⟩ := hL.val
    obtain ⟨as_, cs, rfl⟩ := hS.val
    exact puts_far N h
  · exact puts_any bs l N s hb hL hS (fun x hx => wf64 (hl x hx)) (fun W => awake_true W) (by omega) (by omega) (by omega)
end Code
end Go.Proofs.Ytmkbinbggiocaaa
