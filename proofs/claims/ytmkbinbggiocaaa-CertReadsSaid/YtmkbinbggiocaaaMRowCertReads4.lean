/- CodePuts: the walk. What is put is read: the plain law. The reference's reader: Nat. The reference's reader: Int. The reference's reader: Count. The reference's way to read a set: number by number; the plain law. The reference's reader: Bits. The reference's reader: Bits, the way through. Mark: what both readers do with bytes that must stand next; bytes.Equal, bytes.HasPrefix, a string as bytes. Mark of both readers. -/
import Derived.Laws.IdiomStrings
import Derived.Test.YtmkbinbggiocaaaMRowCertReads3
import Derived.Test.YtmkbinbggiocaaaMRowCertReads2
import Derived.Test.YtmkbinbggiocaaaMRowCertReads0
import Derived.Test.YtmkbinbggiocaaaMRowCertReads1
set_option linter.unusedVariables false
set_option linter.unusedSimpArgs false
namespace Go.Proofs.Ytmkbinbggiocaaa
open Go.RowKit
namespace Code
theorem Made.mk0 {w w' : World} (m : Mod [] w w') (e size : Nat) : Made w w' e size none 0 0 [] := ⟨World.ownsRow_nil _ _ _ _, m, by simp [Value.ownBlock]⟩
/-- The same number without its sign. -/
def u64N (x : Int) : Nat := (x % 18446744073709551616).toNat
theorem u64N_lt (x : Int) : u64N x < 18446744073709551616 := by unfold u64N; omega
theorem u64N_wrap (x : Int) : IntKind.u64.wrap x = ((u64N x : Nat) : Int) := by rw [IntKind.wrap_u64]; unfold u64N; omega
theorem listB_len {α : Type} (f : α → Nat) (l : List α) (h : ∀ x ∈ l, f x < 18446744073709551616) (hl : l.length ≤ 10000) : (listB f l).length ≤ 10 + 10 * l.length := by
  have h1 := natB_len10 (n := l.length) (by omega)
  have h2 := flatB_len f l h
  rw [listB, List.length_append]; omega
abbrev FutM (w : World) := Fut (Mod []) w
def FutM.on {w w1 : World} (h : Mod [] w w1) (m : FutM w1) : FutM w := ⟨m.v, h.trans m.of (by simp)⟩
theorem FutM.cell {w w1 : World} (h : Mod [] w w1) {a : Addr} {v : Value} (f : ∀ m : FutM w, m.v.cell? a = some v) : ∀ m : FutM w1, m.v.cell? a = some v := fun m => f (m.on h)
theorem FutM.conv {w w1 : World} (h : Mod [] w w1) {s d : TypeId} {x v : Value} (f : ∀ m : FutM w, (convert s d x).run Try.prog m.v = .ok v m.v) : ∀ m : FutM w1, (convert s d x).run Try.prog m.v = .ok v m.v := fun m => f (m.on h)
set_option maxRecDepth 100000 in
set_option maxHeartbeats 8000000 in
theorem puts_any {w : World} {vb vL vS : Value} (bs l : List Int) (N : Int) (s : List Int) (hb : Rd w 1 vb bs.length (u8s bs)) (hL : Rd w 1 vL l.length (vi64 l)) (hS : Rd w 1 vS s.length (vi64 s))
    (hl : ∀ x ∈ l, -9223372036854775808 ≤ x ∧ x ≤ 9223372036854775807)
    (haw : ∀ w, Calls Try.prog 31 #[] w fun e w' => e = .returned (.bool true) ∧ Mod [] w w')
    (h1 : bs.length ≤ 100) (h2 : l.length ≤ 100) (h3 : s.length ≤ 300) :
    Calls Try.prog 5 #[vb, .agg #[vL, .int .i64 N, vS]] w fun e w' => e = .returned (.bool true) ∧ Mod [] w w' := by
  obtain ⟨ab, cb, rfl⟩ := hb.val
  obtain ⟨al, cl, rfl⟩ := hL.val
  obtain ⟨as_, cs, rfl⟩ := hS.val
  have hg1 : decide (100 < bs.length) = false := by simp; omega
  have hg2 : decide (100 < l.length) = false := by simp; omega
  have hg3 : decide (300 < s.length) = false := by simp; omega
  have hbox := Has.new w [.slice al l.length cl, .int .i64 N, .slice as_ s.length cs] 48
  have hbox' := Lib.hid hbox
  have hb' := Lib.hid hb
  have hL' := Lib.hid hL
  have hS' := Lib.hid hS
  have hl' := Lib.hid hl
  have haw' := Lib.hid haw
  obtain ⟨wb, hwb⟩ : ∃ wb, wb = w.alloc (.cells #[.slice al l.length cl, .int .i64 N, .slice as_ s.length cs] 48) := ⟨_, rfl⟩
  have hwb' := Lib.hid hwb
  have hmw := Lib.hid (hwb ▸ (Mod.refl [] w).alloc (.cells #[.slice al l.length cl, .int .i64 N, .slice as_ s.length cs] 48))
  have hBb := Lib.hid (show wb.heap.size = w.heap.size + 1 by rw [hwb]; simp)
  clear hbox hb hL hS hl haw hwb
  go_enter Try.func5, Try.ntmps5
  go_wp2_with fail
  generalize hB : w.heap.size = B at *
  have hB' := Lib.hid hB
  clear hB
  go_loopw [5, 6] (fun u i wr => ∃ (k : Nat) (au : Option Addr) (cu : Nat), k ≤ l.length ∧ i = .int .i64 k ∧ u = .slice au k cu ∧ Made wb wr 50 1 au k cu (vu64 ((l.take k).map u64N)) ∧ Has wr B [.slice al l.length cl, .int .i64 N, .slice as_ s.length cs] 48) (fun u i _ => l.length - (intOf i).toNat)
  case atStart => exact ⟨0, none, 0, Nat.zero_le _, rfl, rfl, hwb'.out ▸ Made.mk0 (Mod.refl _ _) _ _, hbox'.out⟩
  case round =>
    clear hbox'
    obtain ⟨k, au, cu, hk, rfl, rfl, hmd, hbx⟩ := hrel
    obtain ⟨wo, hwo⟩ : ∃ wo : World, wo = wr := ⟨_, rfl⟩
    clear hwo
    have hmr := hmw.out.trans hmd.mod (by simp)
    have c0 := hbx.cell 0 rfl
    have c1 := hbx.cell 1 rfl
    have c2 := hbx.cell 2 rfl
    by_cases hlt : k < l.length
    · obtain ⟨x, hx⟩ : ∃ x, l[k]? = some x := ⟨l[k], List.getElem?_eq_getElem hlt⟩
      have hxb := hl'.out x (List.mem_of_getElem? hx)
      obtain ⟨gl, ol, rfl, _, _, hcell⟩ := (hL'.out.still hmr).at (by rw [vi64_len]; omega)
      have hc := hcell k _ (vi64_get hx)
      have hwrap := u64N_wrap x
      clear hcell
      have hu64 := u64N_lt x
      go_wp2_with (at_builtin; refine app_own rfl (.tmp 33) (.tmp 40) 49 50 _ 1 8 rfl Try.underlying49 infoU64 rfl (by omega) (by omega) (.slice au k cu) k 1 (vu64 ((l.take k).map u64N)) [.int .u64 (u64N x)] rfl rfl (by simp) rfl (by simp [Value.oneCell']) hmd.own (by omega) ?_; intro aA cA wA hA mA vA)
      have hmA := hmd.push hA mA vA
      have e1 : vu64 ((l.take k).map u64N) ++ [.int .u64 (u64N x)] = vu64 ((l.take (k + 1)).map u64N) := by rw [List.take_add_one, hx]; simp [vu64]
      rw [e1] at hmA
      have hbA := hbx.keepGe mA hmd.new (by rw [hBb.out]; omega)
      obtain ⟨gA, rfl⟩ := hmA.form (by omega)
      have fu : ∀ m : FutM wA.drew, m.v.cell? ⟨gA, k, none⟩ = some (.int .u64 (u64N x)) := fun m =>
        (hmA.still ((Mod.refl [] wA).drew.trans m.of (by simp))).cell k (vu64_get (by rw [List.take_add_one, hx]; simp [hk, List.length_take, Nat.min_eq_left (Nat.le_of_lt hlt)]))
      have fy : ∀ m : FutM wA.drew, m.v.cell? ⟨B, 0, none⟩ = some (.slice (some ⟨gl, ol, none⟩) l.length cl) := fun m => (hbA.keep ((Mod.refl [] wA).drew.trans m.of (by simp)) (by simp)).cell 0 rfl
      have hmrA := hmw.out.trans hmA.mod (by simp)
      have fl : ∀ m : FutM wA.drew, m.v.cell? ⟨gl, ol + k, none⟩ = some (.int .i64 x) := fun m => (hL'.out.still (hmrA.trans ((Mod.refl [] wA).drew.trans m.of (by simp)) (by simp))).cellAt k (vi64_get hx)
      have fb : ∀ m : FutM wA.drew, (convert 45 9 (.slice ab bs.length cb)).run Try.prog m.v = .ok (.string (strOfNums bs)) m.v := fun m => conv_rd (hb'.out.still (hmrA.trans ((Mod.refl [] wA).drew.trans m.of (by simp)) (by simp)))
      have hk1 : (k : Int) < (k : Int) + 1 := by omega
      have hk2 : k < k + 1 := by omega
      have hx0 := hxb.1
      have hx1 := hxb.2
      have hsg := signN_lt x hx0 hx1
      obtain ⟨sb, hsb⟩ : ∃ z, z = strOfNums bs := ⟨_, rfl⟩
      obtain ⟨z1, hz1⟩ : ∃ z, z = bs ++ natB (u64N x) := ⟨_, rfl⟩
      obtain ⟨z2, hz2⟩ : ∃ z, z = natB (u64N x) := ⟨_, rfl⟩
      obtain ⟨z3, hz3⟩ : ∃ z, z = bs ++ natB (signN x) := ⟨_, rfl⟩
      obtain ⟨z4, hz4⟩ : ∃ z, z = natB (signN x) := ⟨_, rfl⟩
      have q1 := Lib.hid (fun W (h : Rd W 1 (.slice ab bs.length cb) bs.length (u8s bs)) => nat_any (u64N x) hu64 h (by omega))
      have q2 := Lib.hid (fun W => refNat_any (u64N x) W hu64)
      have q3 := Lib.hid (fun W (h : Rd W 1 (.slice ab bs.length cb) bs.length (u8s bs)) => int_any x hx0 hx1 h (by omega))
      have q4 := Lib.hid (fun W => refNat_any (signN x) W hsg)
      have q5 := Lib.hid (fun W => refSign x W hx0 hx1)
      have len2 : z2.length ≤ 10 := by rw [hz2]; exact natB_len10 hu64
      have len4 : z4.length ≤ 10 := by rw [hz4]; exact natB_len10 hsg
      have add1 : strOfNums bs ++ strOfNums z2 = strOfNums z1 := by rw [str_add, hz2, hz1]
      have add2 : strOfNums bs ++ strOfNums z4 = strOfNums z3 := by rw [str_add, hz4, hz3]
      have sz1 : ¬ (9223372036854775807 < (strOfNums bs).size + (strOfNums z2).size) := by simp only [strOfNums_size]; omega
      have sz2 : ¬ (9223372036854775807 < (strOfNums bs).size + (strOfNums z4).size) := by simp only [strOfNums_size]; omega
      rw [← hz1] at q1
      rw [← hz2] at q2
      rw [← hz3] at q3
      rw [← hz4] at q4
      rw [← hsb] at fb add1 add2 sz1 sz2
      clear hz1 hz2 hz3 hz4 hsb
      generalize hs1 : strOfNums z1 = s1 at *
      generalize hs2 : strOfNums z2 = s2 at *
      generalize hs3 : strOfNums z3 = s3 at *
      generalize hs4 : strOfNums z4 = s4 at *
      have hs1' := Lib.hid hs1
      have hs2' := Lib.hid hs2
      have hs3' := Lib.hid hs3
      have hs4' := Lib.hid hs4
      clear hs1 hs2 hs3 hs4
      refine region_sched (G := Mod []) [([0,1,2,3,4,7,8,9,10,11,12],5), ([6],13), ([14,15,16,17,18,19,20,21,22,23,26,27,28,29,30,31,32],24), ([25],33), ([],34)] [35,36,37,38] (by kernel_rfl) (by kernel_rfl) (by kernel_rfl) rfl (Mod.refl []) (fun _ _ _ h1 h2 => h1.trans h2 (by simp)) ?_
      simp only [stages, pickO, nthO, headO, List.cons_append, List.nil_append]
      refine sched_step ?_
      repeat (go_big_quiet_step (fail))
      refine wpQuiet_nil ?_
      intro K hK
      rw [if_pos (by rfl)]
      go_simp
      refine (q1.out _ (hb'.out.still (hmrA.trans (Mod.refl [] wA).drew (by simp)))).mono ?_
      rintro e w1 ⟨a1, c1, rfl, hm1⟩
      dsimp only
      refine hK.out _ _ hm1.mod ?_
      clear hK K
      replace fu := FutM.cell hm1.mod fu
      replace fy := FutM.cell hm1.mod fy
      replace fl := FutM.cell hm1.mod fl
      replace fb := FutM.conv hm1.mod fb
      have f1 : ∀ m : FutM w1, (convert 45 9 (.slice a1 z1.length c1)).run Try.prog m.v = .ok (.string s1) m.v := fun m => hs1'.out ▸ conv_rd ((Rd.own hm1.own).still m.of)
      refine sched_step ?_
      repeat (go_big_quiet_step (fail))
      refine wpQuiet_nil ?_
      intro K hK
      rw [if_pos (by rfl)]
      go_simp
      refine (q2.out _).mono ?_
      rintro e w2 ⟨a2, c2, rfl, hm2⟩
      dsimp only
      refine hK.out _ _ hm2.mod ?_
      clear hK K
      replace fu := FutM.cell hm2.mod fu
      replace fy := FutM.cell hm2.mod fy
      replace fl := FutM.cell hm2.mod fl
      replace fb := FutM.conv hm2.mod fb
      replace f1 := FutM.conv hm2.mod f1
      have f2 : ∀ m : FutM w2, (convert 45 9 (.slice a2 z2.length c2)).run Try.prog m.v = .ok (.string s2) m.v := fun m => hs2'.out ▸ conv_rd ((Rd.own hm2.own).still m.of)
      refine sched_step ?_
      repeat (go_big_quiet_step (fail))
      refine wpQuiet_nil ?_
      intro K hK
      rw [if_pos (by rfl)]
      go_simp
      refine (q3.out _ (hb'.out.still (((hmrA.trans (Mod.refl [] wA).drew (by simp)).trans hm1.mod (by simp)).trans hm2.mod (by simp)))).mono ?_
      rintro e w3 ⟨a3, c3, rfl, hm3⟩
      dsimp only
      refine hK.out _ _ hm3.mod ?_
      clear hK K
      replace fl := FutM.cell hm3.mod fl
      replace fy := FutM.cell hm3.mod fy
      replace fb := FutM.conv hm3.mod fb
      have f3 : ∀ m : FutM w3, (convert 45 9 (.slice a3 z3.length c3)).run Try.prog m.v = .ok (.string s3) m.v := fun m => hs3'.out ▸ conv_rd ((Rd.own hm3.own).still m.of)
      refine sched_step ?_
      repeat (go_big_quiet_step (fail))
      refine wpQuiet_nil ?_
      intro K hK
      rw [if_pos (by rfl)]
      go_simp
      refine (q5.out _).mono ?_
      rintro e w4 ⟨rfl, rfl⟩
      dsimp only
      refine hK.out _ _ (Mod.refl [] _) ?_
      clear hK K
      refine sched_step ?_
      repeat (go_big_quiet_step (fail))
      refine wpQuiet_nil ?_
      intro K hK
      rw [if_pos (by rfl)]
      go_simp
      refine (q4.out _).mono ?_
      rintro e w5 ⟨a5, c5, rfl, hm5⟩
      dsimp only
      refine hK.out _ _ hm5.mod ?_
      clear hK K
      have f5 : ∀ m : FutM w5, (convert 45 9 (.slice a5 z4.length c5)).run Try.prog m.v = .ok (.string s4) m.v := fun m => hs4'.out ▸ conv_rd ((Rd.own hm5.own).still m.of)
      refine sched_last ?_
      repeat (go_big_quiet_step (fail))
      refine wpQuiet_nil ?_
      clear fu fy fl fb f1 f2 f3 f5
      have hm15 := (((((Mod.refl [] wA).drew.trans hm1.mod (by simp)).trans hm2.mod (by simp)).trans hm3.mod (by simp)).trans hm5.mod (by simp))
      have hmE := hmA.still hm15
      have hbE := hbA.keep hm15 (by simp)
      go_wp2_with fail
      go_roundw
      case rel => exact ⟨k + 1, some ⟨gA, 0, none⟩, cA, by omega, by go_num, rfl, hmE, hbE⟩
      case measure => simp [intOf]; omega
    · have hk' : k = l.length := by omega
      subst hk'
      rw [List.take_length] at hmd
      obtain ⟨l', hl2⟩ : ∃ l', l' = l.map u64N := ⟨_, rfl⟩
      rw [← hl2] at hmd
      have hll : l'.length = l.length := by rw [hl2, List.length_map]
      have hlt' : ∀ x ∈ l', x < 18446744073709551616 := by
        rw [hl2]
        simp only [List.mem_map]
        rintro _ ⟨x, _, rfl⟩
        exact u64N_lt x
      have hU0 : Rd wr 1 (.slice au l.length cu) l'.length (vu64 l') := by rw [hll]; exact Rd.own hmd.own
      obtain ⟨sb, hsb⟩ : ∃ z, z = strOfNums bs := ⟨_, rfl⟩
      obtain ⟨z1, hz1⟩ : ∃ z, z = bs ++ listB id l' := ⟨_, rfl⟩
      obtain ⟨z2, hz2⟩ : ∃ z, z = listB id l' := ⟨_, rfl⟩
      obtain ⟨z3, hz3⟩ : ∃ z, z = bs ++ listB signN l := ⟨_, rfl⟩
      obtain ⟨z4, hz4⟩ : ∃ z, z = listB signN l := ⟨_, rfl⟩
      have r1 := Lib.hid (fun W (h : Rd W 1 (.slice ab bs.length cb) bs.length (u8s bs)) (h2 : Rd W 1 (.slice au l.length cu) l'.length (vu64 l')) => nats_any l' hlt' h (by omega) h2 (by omega))
      have r2 := Lib.hid (fun W (h2 : Rd W 1 (.slice au l.length cu) l'.length (vu64 l')) => refNats l' hlt' h2 (by omega))
      have r3 := Lib.hid (fun W (h : Rd W 1 (.slice ab bs.length cb) bs.length (u8s bs)) (h2 : Rd W 1 (.slice al l.length cl) l.length (vi64 l)) => ints_any l hl'.out h (by omega) h2 (by omega))
      have r4 := Lib.hid (fun W (h2 : Rd W 1 (.slice al l.length cl) l.length (vi64 l)) => refInts l hl'.out h2 (by omega))
      have len2 : z2.length ≤ 1010 := by rw [hz2]; exact Nat.le_trans (listB_len id l' hlt' (by omega)) (by omega)
      have len4 : z4.length ≤ 1010 := by rw [hz4]; exact Nat.le_trans (listB_len signN l (fun x hx => signN_lt x (hl'.out x hx).1 (hl'.out x hx).2) (by omega)) (by omega)
      have add1 : strOfNums bs ++ strOfNums z2 = strOfNums z1 := by rw [str_add, hz2, hz1]
      have add2 : strOfNums bs ++ strOfNums z4 = strOfNums z3 := by rw [str_add, hz4, hz3]
      have sz1 : ¬ (9223372036854775807 < (strOfNums bs).size + (strOfNums z2).size) := by simp only [strOfNums_size]; omega
      have sz2 : ¬ (9223372036854775807 < (strOfNums bs).size + (strOfNums z4).size) := by simp only [strOfNums_size]; omega
      have hsb1 : strOfNums bs = sb := hsb.symm
      rw [← hz1] at r1
      rw [← hz2] at r2
      rw [← hz3] at r3
      rw [← hz4] at r4
      rw [← hsb] at add1 add2 sz1 sz2
      clear hz1 hz2 hz3 hz4 hl2 hlt' hll hsb
      generalize hs1 : strOfNums z1 = s1 at *
      generalize hs2 : strOfNums z2 = s2 at *
      generalize hs3 : strOfNums z3 = s3 at *
      generalize hs4 : strOfNums z4 = s4 at *
      have hs1' := Lib.hid hs1
      have hs2' := Lib.hid hs2
      have hs3' := Lib.hid hs3
      have hs4' := Lib.hid hs4
      have hsb' := Lib.hid hsb1
      have hU0' := Lib.hid hU0
      clear hs1 hs2 hs3 hs4 len2 len4 hsb1 hU0
      have p1 := bits_any (vb := .slice ab bs.length cb) (vl := .slice as_ s.length cs) N s (hb'.out.still hmr) (by omega) (hS'.out.still hmr)
      have p2 := fun W (h : Rd W 1 (.slice as_ s.length cs) s.length (vi64 s)) => refBits_any N s h
      cases hok : bitsOk N s with
      | true =>
        have hN : wideN N ≤ 513 := by
          simp only [bitsOk, Bool.and_eq_true, decide_eq_true_eq] at hok
          unfold wideN; omega
        obtain ⟨z6, hz6⟩ : ∃ z, z = bs ++ bitsB (wideN N) s := ⟨_, rfl⟩
        obtain ⟨z7, hz7⟩ : ∃ z, z = bitsB (wideN N) s := ⟨_, rfl⟩
        have len7 : z7.length ≤ 513 := by rw [hz7, bitsB_len]; exact hN
        have add3 : strOfNums bs ++ strOfNums z7 = strOfNums z6 := by rw [str_add, hz6, hz7]
        have sz3 : ¬ (9223372036854775807 < (strOfNums bs).size + (strOfNums z7).size) := by simp only [strOfNums_size]; omega
        rw [hsb'.out] at add3 sz3
        replace p1 := p1.mono fun e w' h => show ∃ a c, e = .returned (.tuple #[.slice a (bs ++ bitsB (wideN N) s).length c, .bool true]) ∧ Made wr w' 5 1 a (bs ++ bitsB (wideN N) s).length c (u8s (bs ++ bitsB (wideN N) s)) by simpa only [BitsOut, hok, if_true] using h
        replace p2 := Lib.hid (fun W h => (p2 W h).mono fun e w' h => show ∃ a c, e = .returned (.agg #[.slice a (bitsB (wideN N) s).length c, .bool true]) ∧ Made W w' 5 1 a (bitsB (wideN N) s).length c (u8s (bitsB (wideN N) s)) by simpa only [RefBitsOut, hok, if_true] using h)
        rw [← hz6] at p1
        rw [← hz7] at p2
        clear hz6 hz7 hN len7
        generalize hs6 : strOfNums z6 = s6 at *
        generalize hs7 : strOfNums z7 = s7 at *
        have hs6' := Lib.hid hs6
        have hs7' := Lib.hid hs7
        have p1' := Lib.hid p1
        clear hs6 hs7 p1 hok
        go_wp2_with fail
        refine p1'.out.mono ?_
        rintro e y1 ⟨a6, c6, rfl, hy1⟩
        dsimp only
        have hbx1 := hbx.keep hy1.mod (by simp)
        have d1 := hbx1.cell 1 rfl
        have d2 := hbx1.cell 2 rfl
        go_wp2_with fail
        refine (p2.out _ (hS'.out.still (hmr.trans hy1.mod (by simp)))).mono ?_
        rintro e y2 ⟨a7, c7, rfl, hy2⟩
        dsimp only
        have hbx2 := hbx1.keep hy2.mod (by simp)
        have e0 := hbx2.cell 0 rfl
        have e1 := hbx2.cell 1 rfl
        have e2 := hbx2.cell 2 rfl
        have hm12 := hmr.trans (hy1.mod.trans hy2.mod (by simp)) (by simp)
        have kb : ∀ o, (convert 45 9 (.slice ab bs.length cb)).run Try.prog (y2.alloc o) = .ok (.string sb) (y2.alloc o) := fun o => hsb'.out ▸ conv_rd (hb'.out.still (hm12.alloc o))
        have k6 : ∀ o, (convert 45 9 (.slice a6 z6.length c6)).run Try.prog (y2.alloc o) = .ok (.string s6) (y2.alloc o) := fun o => hs6'.out ▸ conv_rd ((Rd.own hy1.own).still (hy2.mod.alloc o))
        have k7 : ∀ o, (convert 45 9 (.slice a7 z7.length c7)).run Try.prog (y2.alloc o) = .ok (.string s7) (y2.alloc o) := fun o => hs7'.out ▸ conv_rd ((Rd.own hy2.own).still ((Mod.refl [] y2).alloc o))
        have hm7 : ∀ o, Mod [] w (y2.alloc o) := fun o => hm12.alloc o
        have hm7' := Lib.hid hm7
        have hb7' : Hid (∀ o, Has (y2.alloc o) B [.slice al l.length cl, .int .i64 N, .slice as_ s.length cs] 48) := fun o => hbx2.alloc o
        have hU7 : Hid (∀ o, Rd (y2.alloc o) 1 (.slice au l.length cu) l'.length (vu64 l')) := fun o => hU0'.out.still ((hy1.mod.trans hy2.mod (by simp)).alloc o)
        clear hm7 hm12
        go_wp2_with fail
        obtain ⟨W, hW⟩ : ∃ W, W = y2.alloc (.cells #[.slice a7 z7.length c7, .bool true] 58) := ⟨_, rfl⟩
        rw [← hW]
        have hm7 := hm7'.out (.cells #[.slice a7 z7.length c7, .bool true] 58)
        have hb7 := hb7'.out (.cells #[.slice a7 z7.length c7, .bool true] 58)
        have hU := Lib.hid (hU7.out (.cells #[.slice a7 z7.length c7, .bool true] 58))
        rw [← hW] at hm7 hb7 hU
        clear hW kb k6 k7 hm7' hb7' hU7 hbx1 d1 d2 e0 e1 e2 c0 c1 c2
        have fy : ∀ m : FutM W.drew, m.v.cell? ⟨B, 0, none⟩ = some (.slice al l.length cl) := fun m => (hb7.keep ((Mod.refl [] W).drew.trans m.of (by simp)) (by simp)).cell 0 rfl
        have fb : ∀ m : FutM W.drew, (convert 45 9 (.slice ab bs.length cb)).run Try.prog m.v = .ok (.string sb) m.v := fun m => hsb'.out ▸ conv_rd (hb'.out.still (hm7.trans ((Mod.refl [] W).drew.trans m.of (by simp)) (by simp)))
        refine region_sched (G := Mod []) [([0,1,4,5,6],2), ([3],7), ([8,9,10,11,12,13,14,17,18,19,20],15), ([16],21), ([22,23,24,25,26],27)] [28,29] (by kernel_rfl) (by kernel_rfl) (by kernel_rfl) rfl (Mod.refl []) (fun _ _ _ h1 h2 => h1.trans h2 (by simp)) ?_
        simp only [stages, pickO, nthO, headO, List.cons_append, List.nil_append]
        refine sched_step ?_
        repeat (go_big_quiet_step (fail))
        refine wpQuiet_nil ?_
        intro K hK
        rw [if_pos (by rfl)]
        go_simp
        refine (r1.out _ (hb'.out.still (hm7.trans (Mod.refl [] _).drew (by simp))) (hU.out.still (Mod.refl [] _).drew)).mono ?_
        rintro e x1 ⟨a1, c1, rfl, hx1⟩
        dsimp only
        refine hK.out _ _ hx1.mod ?_
        clear hK K
        replace fy := FutM.cell hx1.mod fy
        replace fb := FutM.conv hx1.mod fb
        have g1 : ∀ m : FutM x1, (convert 45 9 (.slice a1 z1.length c1)).run Try.prog m.v = .ok (.string s1) m.v := fun m => hs1'.out ▸ conv_rd ((Rd.own hx1.own).still m.of)
        refine sched_step ?_
        repeat (go_big_quiet_step (fail))
        refine wpQuiet_nil ?_
        intro K hK
        rw [if_pos (by rfl)]
        go_simp
        refine (r2.out _ (hU.out.still ((Mod.refl [] _).drew.trans hx1.mod (by simp)))).mono ?_
        rintro e x2 ⟨a2, c2, rfl, hx2⟩
        dsimp only
        refine hK.out _ _ hx2.mod ?_
        clear hK K
        replace fy := FutM.cell hx2.mod fy
        replace fb := FutM.conv hx2.mod fb
        replace g1 := FutM.conv hx2.mod g1
        have g2 : ∀ m : FutM x2, (convert 45 9 (.slice a2 z2.length c2)).run Try.prog m.v = .ok (.string s2) m.v := fun m => hs2'.out ▸ conv_rd ((Rd.own hx2.own).still m.of)
        refine sched_step ?_
        repeat (go_big_quiet_step (fail))
        refine wpQuiet_nil ?_
        intro K hK
        rw [if_pos (by rfl)]
        go_simp
        have hmx := ((Mod.refl [] _).drew.trans hx1.mod (by simp)).trans hx2.mod (by simp)
        refine (r3.out _ (hb'.out.still (hm7.trans hmx (by simp))) (hL'.out.still (hm7.trans hmx (by simp)))).mono ?_
        rintro e x3 ⟨a3, c3, rfl, hx3⟩
        dsimp only
        refine hK.out _ _ hx3.mod ?_
        clear hK K
        replace fy := FutM.cell hx3.mod fy
        replace fb := FutM.conv hx3.mod fb
        have g3 : ∀ m : FutM x3, (convert 45 9 (.slice a3 z3.length c3)).run Try.prog m.v = .ok (.string s3) m.v := fun m => hs3'.out ▸ conv_rd ((Rd.own hx3.own).still m.of)
        refine sched_step ?_
        repeat (go_big_quiet_step (fail))
        refine wpQuiet_nil ?_
        intro K hK
        rw [if_pos (by rfl)]
        go_simp
        refine (r4.out _ (hL'.out.still (hm7.trans (hmx.trans hx3.mod (by simp)) (by simp)))).mono ?_
        rintro e x4 ⟨a4, c4, rfl, hx4⟩
        dsimp only
        refine hK.out _ _ hx4.mod ?_
        clear hK K
        have g4 : ∀ m : FutM x4, (convert 45 9 (.slice a4 z4.length c4)).run Try.prog m.v = .ok (.string s4) m.v := fun m => hs4'.out ▸ conv_rd ((Rd.own hx4.own).still m.of)
        refine sched_step ?_
        repeat (go_big_quiet_step (fail))
        refine wpQuiet_nil ?_
        intro K hK
        rw [if_pos (by rfl)]
        go_simp
        refine (haw'.out _).mono ?_
        rintro e x5 ⟨rfl, hx5⟩
        dsimp only
        refine hK.out _ _ hx5 ?_
        clear hK K
        refine sched_last ?_
        repeat (go_big_quiet_step (fail))
        refine wpQuiet_nil ?_
        have hfin := ((hm7.trans hmx (by simp)).trans hx3.mod (by simp)).trans (hx4.mod.trans hx5 (by simp)) (by simp)
        clear fy fb g1 g2 g3 g4
        go_wp2_with fail
        go_ret
        exact ⟨rfl, hfin⟩
      | false =>
        replace p1 := p1.mono fun e w' h => show e = .returned (.tuple #[.slice none 0 0, .bool false]) ∧ Mod [] wr w' by simpa [BitsOut, hok] using h
        replace p2 := Lib.hid (fun W h => (p2 W h).mono fun e w' h => show e = .returned (.agg #[.slice none 0 0, .bool false]) ∧ Mod [] W w' by simpa [RefBitsOut, hok] using h)
        have p1' := Lib.hid p1
        clear p1 hok
        go_wp2_with fail
        refine p1'.out.mono ?_
        rintro e y1 ⟨rfl, hy1⟩
        dsimp only
        have hbx1 := hbx.keep hy1 (by simp)
        have d1 := hbx1.cell 1 rfl
        have d2 := hbx1.cell 2 rfl
        go_wp2_with fail
        refine (p2.out _ (hS'.out.still (hmr.trans hy1 (by simp)))).mono ?_
        rintro e y2 ⟨rfl, hy2⟩
        dsimp only
        have hbx2 := hbx1.keep hy2 (by simp)
        have e0 := hbx2.cell 0 rfl
        have e1 := hbx2.cell 1 rfl
        have e2 := hbx2.cell 2 rfl
        have hm12 := hmr.trans (hy1.trans hy2 (by simp)) (by simp)
        have hm7 : ∀ o, Mod [] w (y2.alloc o) := fun o => hm12.alloc o
        have hm7' := Lib.hid hm7
        have hb7' : Hid (∀ o, Has (y2.alloc o) B [.slice al l.length cl, .int .i64 N, .slice as_ s.length cs] 48) := fun o => hbx2.alloc o
        have hU7 : Hid (∀ o, Rd (y2.alloc o) 1 (.slice au l.length cu) l'.length (vu64 l')) := fun o => hU0'.out.still ((hy1.trans hy2 (by simp)).alloc o)
        clear hm7 hm12
        go_wp2_with fail
        obtain ⟨W, hW⟩ : ∃ W, W = y2.alloc (.cells #[.slice none 0 0, .bool false] 58) := ⟨_, rfl⟩
        rw [← hW]
        have hm7 := hm7'.out (.cells #[.slice none 0 0, .bool false] 58)
        have hb7 := hb7'.out (.cells #[.slice none 0 0, .bool false] 58)
        have hU := Lib.hid (hU7.out (.cells #[.slice none 0 0, .bool false] 58))
        rw [← hW] at hm7 hb7 hU
        clear hW hm7' hb7' hU7 hbx1 d1 d2 e0 e1 e2 c0 c1 c2
        have fy : ∀ m : FutM W.drew, m.v.cell? ⟨B, 0, none⟩ = some (.slice al l.length cl) := fun m => (hb7.keep ((Mod.refl [] W).drew.trans m.of (by simp)) (by simp)).cell 0 rfl
        have fb : ∀ m : FutM W.drew, (convert 45 9 (.slice ab bs.length cb)).run Try.prog m.v = .ok (.string sb) m.v := fun m => hsb'.out ▸ conv_rd (hb'.out.still (hm7.trans ((Mod.refl [] W).drew.trans m.of (by simp)) (by simp)))
        refine region_sched (G := Mod []) [([0,1,4,5,6],2), ([3],7), ([8,9,10,11,12,13,14,17,18,19,20],15), ([16],21), ([22,23,24,25,26],27)] [28,29] (by kernel_rfl) (by kernel_rfl) (by kernel_rfl) rfl (Mod.refl []) (fun _ _ _ h1 h2 => h1.trans h2 (by simp)) ?_
        simp only [stages, pickO, nthO, headO, List.cons_append, List.nil_append]
        refine sched_step ?_
        repeat (go_big_quiet_step (fail))
        refine wpQuiet_nil ?_
        intro K hK
        rw [if_pos (by rfl)]
        go_simp
        refine (r1.out _ (hb'.out.still (hm7.trans (Mod.refl [] _).drew (by simp))) (hU.out.still (Mod.refl [] _).drew)).mono ?_
        rintro e x1 ⟨a1, c1, rfl, hx1⟩
        dsimp only
        refine hK.out _ _ hx1.mod ?_
        clear hK K
        replace fy := FutM.cell hx1.mod fy
        replace fb := FutM.conv hx1.mod fb
        have g1 : ∀ m : FutM x1, (convert 45 9 (.slice a1 z1.length c1)).run Try.prog m.v = .ok (.string s1) m.v := fun m => hs1'.out ▸ conv_rd ((Rd.own hx1.own).still m.of)
        refine sched_step ?_
        repeat (go_big_quiet_step (fail))
        refine wpQuiet_nil ?_
        intro K hK
        rw [if_pos (by rfl)]
        go_simp
        refine (r2.out _ (hU.out.still ((Mod.refl [] _).drew.trans hx1.mod (by simp)))).mono ?_
        rintro e x2 ⟨a2, c2, rfl, hx2⟩
        dsimp only
        refine hK.out _ _ hx2.mod ?_
        clear hK K
        replace fy := FutM.cell hx2.mod fy
        replace fb := FutM.conv hx2.mod fb
        replace g1 := FutM.conv hx2.mod g1
        have g2 : ∀ m : FutM x2, (convert 45 9 (.slice a2 z2.length c2)).run Try.prog m.v = .ok (.string s2) m.v := fun m => hs2'.out ▸ conv_rd ((Rd.own hx2.own).still m.of)
        refine sched_step ?_
        repeat (go_big_quiet_step (fail))
        refine wpQuiet_nil ?_
        intro K hK
        rw [if_pos (by rfl)]
        go_simp
        have hmx := ((Mod.refl [] _).drew.trans hx1.mod (by simp)).trans hx2.mod (by simp)
        refine (r3.out _ (hb'.out.still (hm7.trans hmx (by simp))) (hL'.out.still (hm7.trans hmx (by simp)))).mono ?_
        rintro e x3 ⟨a3, c3, rfl, hx3⟩
        dsimp only
        refine hK.out _ _ hx3.mod ?_
        clear hK K
        replace fy := FutM.cell hx3.mod fy
        replace fb := FutM.conv hx3.mod fb
        have g3 : ∀ m : FutM x3, (convert 45 9 (.slice a3 z3.length c3)).run Try.prog m.v = .ok (.string s3) m.v := fun m => hs3'.out ▸ conv_rd ((Rd.own hx3.own).still m.of)
        refine sched_step ?_
        repeat (go_big_quiet_step (fail))
        refine wpQuiet_nil ?_
        intro K hK
        rw [if_pos (by rfl)]
        go_simp
        refine (r4.out _ (hL'.out.still (hm7.trans (hmx.trans hx3.mod (by simp)) (by simp)))).mono ?_
        rintro e x4 ⟨a4, c4, rfl, hx4⟩
        dsimp only
        refine hK.out _ _ hx4.mod ?_
        clear hK K
        have g4 : ∀ m : FutM x4, (convert 45 9 (.slice a4 z4.length c4)).run Try.prog m.v = .ok (.string s4) m.v := fun m => hs4'.out ▸ conv_rd ((Rd.own hx4.own).still m.of)
        refine sched_step ?_
        repeat (go_big_quiet_step (fail))
        refine wpQuiet_nil ?_
        intro K hK
        rw [if_pos (by rfl)]
        go_simp
        refine (haw'.out _).mono ?_
        rintro e x5 ⟨rfl, hx5⟩
        dsimp only
        refine hK.out _ _ hx5 ?_
        clear hK K
        refine sched_last ?_
        repeat (go_big_quiet_step (fail))
        refine wpQuiet_nil ?_
        have hfin := ((hm7.trans hmx (by simp)).trans hx3.mod (by simp)).trans (hx4.mod.trans hx5 (by simp)) (by simp)
        clear fy fb g1 g2 g3 g4
        go_wp2_with fail
        go_ret
        exact ⟨rfl, hfin⟩
set_option maxRecDepth 100000 in
set_option maxHeartbeats 4000000 in
theorem puts_far {w : World} {ab al as_ : Option Addr} {nb cb nl cl ns cs : Nat} (N : Int) (h : 100 < nb ∨ 100 < nl ∨ 300 < ns) :
    Calls Try.prog 5 #[.slice ab nb cb, .agg #[.slice al nl cl, .int .i64 N, .slice as_ ns cs]] w fun e w' => e = .returned (.bool true) ∧ Mod [] w w' := by
  have haw := Lib.hid (fun W => awake_true W)
  have hm := Lib.hid ((Mod.refl [] w).alloc (.cells #[.slice al nl cl, .int .i64 N, .slice as_ ns cs] 48))
  have h' := Lib.hid h
  clear h
  by_cases h1 : 100 < nb
  · have g1 : decide (100 < (nb : Int)) = true := by simp; omega
    have g1' : decide (100 < nb) = true := by simpa using h1
    go_enter Try.func5, Try.ntmps5
    go_wp2_with fail
    refine (haw.out _).mono ?_
    rintro e w1 ⟨rfl, hm1⟩
    dsimp only
    have hf := Lib.hid (hm.out.trans hm1 (by simp))
    clear hm1
    go_wp2_with fail
    go_ret
    exact ⟨rfl, hf.out⟩
  · have g1 : decide (100 < (nb : Int)) = false := by simp; omega
    have g1' : decide (100 < nb) = false := by simpa using h1
    by_cases h2 : 100 < nl
    · have g2 : decide (100 < (nl : Int)) = true := by simp; omega
      have g2' : decide (100 < nl) = true := by simpa using h2
      go_enter Try.func5, Try.ntmps5
      go_wp2_with fail
      refine (haw.out _).mono ?_
      rintro e w1 ⟨rfl, hm1⟩
      dsimp only
      have hf := Lib.hid (hm.out.trans hm1 (by simp))
      clear hm1
      go_wp2_with fail
      go_ret
      exact ⟨rfl, hf.out⟩
    · have g2 : decide (100 < (nl : Int)) = false := by simp; omega
      have g2' : decide (100 < nl) = false := by simpa using h2
      have h3 : 300 < ns := by have := h'.out; omega
      have g3 : decide (300 < (ns : Int)) = true := by simp; omega
      have g3' : decide (300 < ns) = true := by simpa using h3
      go_enter Try.func5, Try.ntmps5
      go_wp2_with fail
      refine (haw.out _).mono ?_
      rintro e w1 ⟨rfl, hm1⟩
      dsimp only
      have hf := Lib.hid (hm.out.trans hm1 (by simp))
      clear hm1
      go_wp2_with fail
      go_ret
      exact ⟨rfl, hf.out⟩
theorem puts_all {w : World} {vb vL vS : Value} (bs l : List Int) (N : Int) (s : List Int) (hb : Rd w 1 vb bs.length (u8s bs)) (hL : Rd w 1 vL l.length (vi64 l)) (hS : Rd w 1 vS s.length (vi64 s))
    (hl : ∀ x ∈ l, (Lit.int .i64 x).wf = true) :
    Calls Try.prog 5 #[vb, .agg #[vL, .int .i64 N, vS]] w fun e w' => e = .returned (.bool true) ∧ Mod [] w w' := by
  by_cases h : 100 < bs.length ∨ 100 < l.length ∨ 300 < s.length
  · obtain ⟨ab, cb, rfl⟩ := hb.val
    obtain ⟨al, cl, rfl⟩ := hL.val
    obtain ⟨as_, cs, rfl⟩ := hS.val
    exact puts_far N h
  · exact puts_any bs l N s hb hL hS (fun x hx => wf64 (hl x hx)) (fun W => awake_true W) (by omega) (by omega) (by omega)
end Code
end Go.Proofs.Ytmkbinbggiocaaa

set_option linter.unusedVariables false
set_option linter.unusedSimpArgs false
namespace Go.Proofs.Ytmkbinbggiocaaa
open Go.RowKit
namespace Code
theorem natB_byte (n : Nat) : ∀ x ∈ natB n, 0 ≤ x ∧ x < 256 := by
  induction n using Nat.strongRecOn with
  | ind n ih =>
    intro x hx
    by_cases h : n < 128
    · rw [natB_small h] at hx
      simp only [List.mem_singleton] at hx
      omega
    · rw [natB_big h] at hx
      rcases List.mem_cons.1 hx with rfl | hx
      · omega
      · exact ih _ (by omega) x hx
theorem byteAt_256 {l : List Int} (hr : Rising l) (h0 : ∀ x ∈ l, 0 ≤ x) (j : Nat) : ∀ k, byteAt (l.take k) j < 256
  | 0 => by simp [byteAt]
  | k + 1 => by
    have ih := byteAt_256 hr h0 j k
    cases hx : l[k]? with
    | none => rw [List.take_add_one, hx]; simpa using ih
    | some u =>
      have hu0 := h0 u (List.mem_of_getElem? hx)
      have e : l.take (k + 1) = l.take k ++ [u] := by rw [List.take_add_one, hx]; rfl
      rw [e, byteAt_snoc]
      by_cases h : u / 8 = (j : Int)
      · rw [if_pos h]
        have h1 := byteAt_lt hr h0 k u hu0 (fun i x hi hx' => hr i k x u hx' hx hi)
        have e8 : (u / 8).toNat = j := by omega
        rw [e8] at h1
        have := bit_le u hu0
        omega
      · rw [if_neg h]; omega
theorem bitsB_byte {m : Nat} {l : List Int} (hr : Rising l) (h0 : ∀ x ∈ l, 0 ≤ x) : ∀ x ∈ bitsB m l, 0 ≤ x ∧ x < 256 := by
  intro x hx
  simp only [bitsB, List.mem_map, List.mem_range] at hx
  obtain ⟨j, _, rfl⟩ := hx
  have := byteAt_256 hr h0 j l.length
  rw [List.take_length] at this
  omega
/-- The bytes of a list and a set. -/
def packB (l : List Int) (N : Int) (s : List Int) : List Int := listB signN l ++ bitsB (wideN N) s
/-- Where the number i of the list stands. -/
def posB (l : List Int) (i : Nat) : Nat := (natB l.length ++ (l.take i).flatMap fun x => natB (signN x)).length
theorem packB_split (l : List Int) (N : Int) (s : List Int) (i : Nat) : packB l N s = (natB l.length ++ (l.take i).flatMap fun x => natB (signN x)) ++ (((l.drop i).flatMap fun x => natB (signN x)) ++ bitsB (wideN N) s) := by
  unfold packB listB
  have : l.flatMap (fun x => natB (signN x)) = ((l.take i).flatMap fun x => natB (signN x)) ++ ((l.drop i).flatMap fun x => natB (signN x)) := by
    rw [← List.flatMap_append, List.take_append_drop]
  rw [this]
  simp only [List.append_assoc]
theorem packB_drop (l : List Int) (N : Int) (s : List Int) (i : Nat) : (packB l N s).drop (posB l i) = ((l.drop i).flatMap fun x => natB (signN x)) ++ bitsB (wideN N) s := by
  rw [packB_split l N s i, posB, List.drop_left]
theorem flat_ge : ∀ (l : List Int), l.length ≤ (l.flatMap fun x => natB (signN x)).length
  | [] => by simp
  | x :: l => by
    have := flat_ge l
    have h := List.length_pos_iff.2 (natB_ne (signN x))
    simp only [List.flatMap_cons, List.length_append, List.length_cons]
    omega
theorem back_count (l : List Int) (N : Int) (s : List Int) (hl : l.length ≤ 10000) : rCount (packB l N s) 0 false = (l.length, posB l 0, false) := by
  have hp : natP 0 ((packB l N s).drop 0) = some (l.length, (natB l.length).length) := by
    rw [List.drop_zero, packB, listB, List.append_assoc]
    exact natP_back _ (by omega) _
  unfold rCount
  rw [hp]
  simp only
  have h1 := flat_ge l
  rw [if_neg (by simp), if_pos]
  · simp [posB]
  · simp only [packB, listB, List.length_append]
    omega
theorem back_int (l : List Int) (N : Int) (s : List Int) (i : Nat) (x : Int) (hx : l[i]? = some x) (hr : -9223372036854775808 ≤ x ∧ x ≤ 9223372036854775807) : rNat (packB l N s) (posB l i) false = (signN x, posB l (i + 1), false) := by
  have hi : i < l.length := (List.getElem?_eq_some_iff.1 hx).1
  have hd : l.drop i = x :: l.drop (i + 1) := by
    rw [List.drop_eq_getElem_cons hi]; congr 1; rw [List.getElem?_eq_getElem hi] at hx; simpa using hx
  have hp : natP 0 ((packB l N s).drop (posB l i)) = some (signN x, (natB (signN x)).length) := by
    rw [packB_drop, hd, List.flatMap_cons, List.append_assoc]
    exact natP_back _ (signN_lt x hr.1 hr.2) _
  unfold rNat
  rw [hp]
  simp only
  rw [if_neg (by simp)]
  have : posB l (i + 1) = posB l i + (natB (signN x)).length := by
    unfold posB
    rw [flat_take (fun x => natB (signN x)) l i x hx]
    simp only [List.length_append]
    omega
  rw [this]
theorem packB_len (l : List Int) (N : Int) (s : List Int) : (packB l N s).length = posB l l.length + wideN N := by
  rw [packB_split l N s l.length, List.length_append]
  simp [posB, bitsB_len]
theorem back_bits (l : List Int) (N : Int) (s : List Int) (hok : bitsOk N s = true) : rBits (packB l N s) (posB l l.length) false N = (s, posB l l.length + wideN N, false) := by
  simp only [bitsOk, Bool.and_eq_true, decide_eq_true_eq] at hok
  obtain ⟨⟨h0, h1⟩, hrise⟩ := hok
  rw [rises_iff] at hrise
  obtain ⟨hris, hrng⟩ := hrise
  have hset : setFrom 0 (((packB l N s).drop (posB l l.length)).take (wideN N)) = s := by
    rw [packB_drop, List.drop_length]
    simp only [List.flatMap_nil, List.nil_append]
    rw [List.take_of_length_le (by rw [bitsB_len]; exact Nat.le_refl _)]
    have := setFrom_bitsB (wideN N) s hris (fun x hx => ⟨by have := (hrng x hx).1; omega, by have := (hrng x hx).1; have := (hrng x hx).2; unfold wideN; omega⟩) s.length (Nat.le_refl _)
    rwa [List.take_length] at this
  have hlo : lastOk N s = true := by
    unfold lastOk
    cases hx : s.getLast? with
    | none => rfl
    | some x =>
      simp only [decide_eq_true_eq]
      exact (hrng x (List.mem_of_getLast? hx)).2
  unfold rBits
  rw [hset, hlo]
  have hlen := packB_len l N s
  rw [if_neg (by omega)]
  simp
theorem packB_byte (l : List Int) (N : Int) (s : List Int) (hok : bitsOk N s = true) : ∀ x ∈ packB l N s, 0 ≤ x ∧ x < 256 := by
  simp only [bitsOk, Bool.and_eq_true, decide_eq_true_eq] at hok
  obtain ⟨⟨h0, h1⟩, hrise⟩ := hok
  rw [rises_iff] at hrise
  intro x hx
  simp only [packB, listB, List.mem_append, List.mem_flatMap] at hx
  rcases hx with (hx | ⟨y, _, hx⟩) | hx
  · exact natB_byte _ x hx
  · exact natB_byte _ x hx
  · exact bitsB_byte hrise.1 (fun y hy => by have := (hrise.2 y hy).1; omega) x hx
end Code
end Go.Proofs.Ytmkbinbggiocaaa

set_option linter.unusedVariables false
set_option linter.unusedSimpArgs false
namespace Go.Proofs.Ytmkbinbggiocaaa
open Go.RowKit
namespace Code
theorem str_inj : ∀ {a b : List Int}, (∀ x ∈ a, 0 ≤ x ∧ x < 256) → (∀ x ∈ b, 0 ≤ x ∧ x < 256) → (strOfNums a).toList = (strOfNums b).toList → a = b := by
  intro a b ha hb h
  have h1 : a.map (fun n => UInt8.ofNat n.toNat) = b.map (fun n => UInt8.ofNat n.toNat) := by
    rw [ByteArray.toList_eq, ByteArray.toList_eq, strOfNums_data, strOfNums_data] at h
    exact h
  clear h
  induction a generalizing b with
  | nil => cases b <;> simp_all
  | cons x a ih =>
    cases b with
    | nil => simp at h1
    | cons y b =>
      simp only [List.map_cons, List.cons.injEq] at h1
      have hx := ha x (by simp)
      have hy := hb y (by simp)
      have e : x.toNat = y.toNat := by
        have := congrArg UInt8.toNat h1.1
        simp only [UInt8.toNat_ofNat'] at this
        omega
      rw [show x = y by omega, ih (fun z hz => ha z (by simp [hz])) (fun z hz => hb z (by simp [hz])) h1.2]
theorem slice_mid {P : Program} {size : Nat} (t : TypeId) (ht : P.underlying t = some (.slice (P.elem t))) (hs : ∀ w : World, (sizeOf (P.elem t)).run P w = .ok 1 w) (g o n c k i : Nat) (h : k + i < c) :
    ∀ w : World, (Instr.slice t (.slice (some ⟨g, o, none⟩) n c) (some (.int .i64 (k : Int))) (some (.int .i64 ((k : Int) + (i : Int) + 1))) none).run P w = .ok (.slice (some ⟨g, o + k, none⟩) (i + 1) (c - k)) w := by
  intro w
  rw [run_slice_lh w t (some ⟨g, o, none⟩) n c ht .i64 .i64 k ((k : Int) + (i : Int) + 1) (by omega) (by omega) (by omega), hs]
  simp only [Result.andThen, sliced, Int.toNat_natCast]
  rw [if_neg (by omega)]
  simp only [Option.map_some, Addr.add_lit, Nat.mul_one]
  rw [show ((k : Int) + (i : Int) + 1).toNat - k = i + 1 by omega]
theorem Rd_mid {w : World} {g o c k i : Nat} {bs : List Int} (h : Rd w 1 (.slice (some ⟨g, o, none⟩) bs.length c) bs.length (u8s bs)) (hk : k + i < bs.length) (hc : k + i < c) : Rd w 1 (.slice (some ⟨g, o + k, none⟩) (i + 1) (c - k)) (i + 1) (u8s ((bs.drop k).take (i + 1))) := by
  have hle : c ≤ maxLen := by
    rcases h.2 with ⟨he, _⟩ | ⟨ad, c', he, _, h2, _⟩
    · simp at he
    · simp only [Value.slice.injEq, true_and] at he
      obtain ⟨_, rfl⟩ := he
      exact h2
  refine ⟨by simp [u8s]; omega, .inr ⟨_, _, rfl, by omega, by omega, fun j u hu => ?_⟩⟩
  have hj : j < i + 1 := by
    rcases Nat.lt_or_ge j (i + 1) with h' | h'
    · exact h'
    · rw [List.getElem?_eq_none (by simp [u8s]; omega)] at hu; simp at hu
  have hu' : (u8s bs)[k + j]? = some u := by
    rw [← hu]; simp only [u8s, List.map_take, List.map_drop, List.getElem?_take, if_pos hj, List.getElem?_drop]
  rw [Addr.add_lit, Nat.add_assoc]
  exact h.cellAt (k + j) hu'
set_option maxRecDepth 100000 in
set_option maxHeartbeats 8000000 in
theorem xNat {w0 w : World} {r k : Nat} {vb : Value} {bs : List Int} {stop : Bool} (h : XAt w0 w r vb bs k stop) (hbb : ∀ x ∈ bs, 0 ≤ x ∧ x < 256) :
    Calls Try.prog 106 #[.pointer (some ⟨r, 0, none⟩)] w (XNatOut w0 w r vb bs k stop fun n => .int .u64 n) := by
  obtain ⟨ab, cb, rfl⟩ := h.rd.val
  have hxb : Hid (∀ x ∈ bs.drop k, 0 ≤ x ∧ x < 256) := fun x hx => hbb x (List.mem_of_mem_drop hx)
  have hle := h.le
  have hbig := h.big
  have h' := Lib.hid h
  have hout : Hid (∀ w1 (s1 : Bool), XAt w0 w1 r (.slice ab bs.length cb) bs k s1 → Mod [r] w w1 → (stop = true ∨ natP 0 (bs.drop k) = none) → ∀ w2, w2 = w1.setCell ⟨r, 2, none⟩ (.bool true) → XNatOut w0 w r (.slice ab bs.length cb) bs k stop (fun n => .int .u64 n) (.returned (.int .u64 0)) w2) := fun w1 s1 hX hm hno w2 e => by
    subst e
    have e1 : rNat bs k stop = (0, k, true) := by
      unfold rNat
      rcases hno with h | h
      · simp [h]
      · simp [h]
    unfold XNatOut
    rw [e1]
    exact ⟨by simp, hX.halt.1, trM r _ _ _ hm hX.halt.2⟩
  clear h hbb
  go_enter Try.func106, Try.ntmps106
  go_wp2_with fail
  go_loopw [3, 4] (fun nv iv wr => ∃ (i m : Nat) (st : Bool), i ≤ 10 ∧ iv = .int .i64 i ∧ nv = .int .u64 m ∧ XAt w0 wr r (.slice ab bs.length cb) bs k st ∧ Mod [r] w wr ∧ (st = true → stop = true ∨ natP 0 (bs.drop k) = none) ∧
    (st = false → stop = false ∧ k + i ≤ bs.length ∧ m = valN ((bs.drop k).take i) % 18446744073709551616 ∧ ∀ j z, j < i → (bs.drop k)[j]? = some z → 128 ≤ z)) (fun nv iv _ => 10 - (intOf iv).toNat)
  case atStart => exact ⟨0, 0, stop, by omega, rfl, rfl, h'.out, Mod.refl _ _, fun h => .inl h, fun h => ⟨h, by omega, by simp [valN], fun j z hj => by omega⟩⟩
  case round =>
    obtain ⟨i, m, st, hi, rfl, rfl, hX, hm, hst, hrun⟩ := hrel
    obtain ⟨wo, hwo⟩ : ∃ wo : World, wo = wr := ⟨_, rfl⟩
    clear hwo
    have c0 := hX.has.cell 0 rfl
    have c1 := hX.has.cell 1 rfl
    have c2 := hX.has.cell 2 rfl
    have fr2 := hX.has.free 2
    have fr1 := hX.has.free 1
    have hrl := hX.has.lt
    have hX' := Lib.hid hX
    have hm' := Lib.hid hm
    have hst' := Lib.hid hst
    have hrun' := Lib.hid hrun
    clear hX hm hst hrun
    by_cases h10 : i < 10
    · have t1 : decide ((i : Int) < 10) = true := by simp; omega
      have t1' : decide (i < 10) = true := by simpa using h10
      cases st with
      | true =>
        have hno := Lib.hid (hst'.out rfl)
        go_wp2_with fail
        go_quiet (fail)
        have hf := Lib.hid (hout.out _ _ (hX'.out.still ((Mod.refl [] wr).drewN nq)) (trM r _ _ _ hm'.out ((Mod.refl [r] wr).drewN nq)) hno.out)
        go_wp2_with fail
        go_ret
        exact hf.out _ rfl
      | false =>
        obtain ⟨hs0, hki, hmv, hprev⟩ := hrun'.out rfl
        have hmv' := Lib.hid hmv
        have hprev' := Lib.hid hprev
        have hw1 : IntKind.i64.wrap ((k : Int) + (i : Int)) = (k : Int) + (i : Int) := IntWalk.i64_in _ (by omega)
        clear hmv hprev
        by_cases hlt : k + i < bs.length
        · have t2 : decide ((k : Int) + (i : Int) < (bs.length : Int)) = true := by simp; omega
          have t2' : decide (k + i < bs.length) = true := by simpa using hlt
          obtain ⟨x, hx⟩ : ∃ x, bs[k + i]? = some x := ⟨bs[k + i], List.getElem?_eq_getElem hlt⟩
          have hxd : (bs.drop k)[i]? = some x := by rw [List.getElem?_drop]; exact hx
          have hx01 := hxb.out x (List.mem_of_getElem? hxd)
          obtain ⟨g, o, rfl, _, _, hcell⟩ := hX'.out.read.at (by rw [u8s_length]; omega)
          have hc := hcell (k + i) _ (u8s_get hx)
          have hi0 : (0 : Int) ≤ (k : Int) + (i : Int) := by omega
          have hi1 : (k : Int) + (i : Int) < (bs.length : Int) := by omega
          have hi2 : ((k : Int) + (i : Int)).toNat = k + i := by omega
          obtain ⟨mm, hmm⟩ : ∃ mm, mm = valN ((bs.drop k).take (i + 1)) % 18446744073709551616 := ⟨_, rfl⟩
          have hsum : IntKind.u64.wrap ((m : Int) + IntKind.u64.wrap (x % 128 * 2 ^ (7 * i))) = (mm : Int) := by
            have htl : ((bs.drop k).take i).length = i := by rw [List.length_take, List.length_drop]; omega
            have hv : valN ((bs.drop k).take (i + 1)) = valN ((bs.drop k).take i) + 128 ^ i * (x % 128).toNat := by
              rw [List.take_add_one, hxd]; simp only [Option.toList_some]; rw [valN_snoc, htl]
            obtain ⟨q, hq⟩ : ∃ q, q = 128 ^ i * (x % 128).toNat := ⟨_, rfl⟩
            have e1 : x % 128 * 2 ^ (7 * i) = (q : Int) := by
              rw [pow7, hq, Int.natCast_mul, Int.mul_comm]
              congr 1
              omega
            have hm2 := hmv'.out
            rw [e1, IntKind.wrap_u64, IntKind.wrap_u64, hmm, hv, ← hq]
            omega
          have hmm' := Lib.hid hmm
          have hxd' := Lib.hid hxd
          clear hcell hx hmm hxd
          by_cases h128 : x < 128
          · have t3 : decide (x < 128) = true := by simpa using h128
            have hmx : mm < 18446744073709551616 := by rw [hmm'.out]; omega
            obtain ⟨ys, hys⟩ : ∃ ys, ys = (bs.drop k).take (i + 1) := ⟨_, rfl⟩
            have hyl : ys.length = i + 1 := by rw [hys, List.length_take, List.length_drop]; omega
            obtain ⟨sx, hsx⟩ : ∃ q, q = strOfNums ys := ⟨_, rfl⟩
            obtain ⟨zs, hzs⟩ : ∃ zs, zs = natB mm := ⟨_, rfl⟩
            obtain ⟨sz, hsz⟩ : ∃ q, q = strOfNums zs := ⟨_, rfl⟩
            have hkc : k + i < cb := by
              rcases hX'.out.rd.2 with ⟨he, hz⟩ | ⟨ad, c', he, hz, _⟩
              · omega
              · simp only [Value.slice.injEq, true_and] at he
                obtain ⟨_, rfl⟩ := he
                omega
            have hsl := slice_mid (P := Try.prog) (size := 1) 45 (by kernel_rfl) (fun w => by kernel_rfl) g o bs.length cb k i hkc
            have hw2 : IntKind.i64.wrap ((k : Int) + (i : Int) + 1) = (k : Int) + (i : Int) + 1 := IntWalk.i64_in _ (by omega)
            have fc0 : ∀ n (m : FutM (wr.drewN n)), m.v.cell? ⟨r, 0, none⟩ = some (.slice (some ⟨g, o, none⟩) bs.length cb) := fun n m => (hX'.out.has.keep (((Mod.refl [] wr).drewN n).trans m.of (by simp)) (by simp)).cell 0 rfl
            have fc1 : ∀ n (m : FutM (wr.drewN n)), m.v.cell? ⟨r, 1, none⟩ = some (.int .i64 k) := fun n m => (hX'.out.has.keep (((Mod.refl [] wr).drewN n).trans m.of (by simp)) (by simp)).cell 1 rfl
            have fcv : ∀ n (m : FutM (wr.drewN n)), (convert 45 9 (.slice (some ⟨g, o + k, none⟩) (i + 1) (cb - k))).run Try.prog m.v = .ok (.string sx) m.v := fun n m => by
              have hrd := Rd_mid (hX'.out.read.still (((Mod.refl [] wr).drewN n).trans m.of (by simp))) hlt hkc
              rw [← hys] at hrd
              have := conv_rd (bs := ys) (by rw [hyl]; exact hrd)
              rwa [← hsx] at this
            have q1 := Lib.hid (fun W => refNat_any mm W hmx)
            rw [← hzs] at q1
            have hlaw := Lib.hid (refnat_hit hxb.out hxd'.out h128 hprev'.out)
            rw [← hmm'.out, ← hys, ← hzs] at hlaw
            have hsx' := Lib.hid hsx
            have hsz' := Lib.hid hsz
            have hzs' := Lib.hid hzs
            have hys' := Lib.hid hys
            clear hyl hsx hsz hzs hys h128
            go_wp2_with fail
            go_quiet (fail)
            obtain ⟨na, hna⟩ : ∃ na, na = nq := ⟨_, rfl⟩
            subst hna
            go_wp2_with fail
            go_quiet (fail)
            go_wp2_with fail
            refine region_sched (G := Mod []) [([0,3,4,5,6,7,8,9,10,11,12,13,14,15,16,17,18,19],1)] [2,20] (by kernel_rfl) (by kernel_rfl) (by kernel_rfl) rfl (Mod.refl []) (fun _ _ _ h1 h2 => h1.trans h2 (by simp)) ?_
            simp only [stages, pickO, nthO, headO, List.cons_append, List.nil_append]
            refine sched_step ?_
            repeat (go_big_quiet_step (fail))
            refine wpQuiet_nil ?_
            intro K hK
            rw [if_pos (by rfl)]
            go_simp
            refine (q1.out _).mono ?_
            rintro e w1 ⟨az, cz, rfl, hm1⟩
            try dsimp only
            refine hK.out _ _ hm1.mod ?_
            clear hK K
            have fz : ∀ m : FutM w1, (convert 45 9 (.slice az zs.length cz)).run Try.prog m.v = .ok (.string sz) m.v := fun m => by
              have := conv_rd ((Rd.own hm1.own).still m.of)
              rwa [← hsz'.out] at this
            have fcv1 := FutM.conv (w := wr.drewN (na + nq + 1)) hm1.mod (fcv (na + nq + 1))
            have hW1 := Lib.hid (((Mod.refl [] wr).drewN (na + nq + 1)).trans hm1.mod (by simp))
            have hX1 := Lib.hid (hX'.out.still hW1.out)
            have hm1' := Lib.hid (trM r _ _ _ hm'.out hW1.out.of0)
            have k1 := hX1.out.has.cell 1 rfl
            have k2 := hX1.out.has.cell 2 rfl
            have g1 := hX1.out.has.free 1
            have g2 := hX1.out.has.free 2
            have gl := hX1.out.has.lt
            clear fc0 fc1 fcv c0 c1 c2 fr1 fr2 hrl
            by_cases hzy : zs = ys
            · have hse : (sz.toList == sx.toList) = true := by rw [hsz'.out, hsx'.out, hzy]; simp
              have hN := Lib.hid (hlaw.out.1 hzy)
              clear hzy
              refine sched_last ?_
              repeat (go_big_quiet_step (fail))
              refine wpQuiet_nil ?_
              clear fz fcv1
              have hfin : ∀ w2, w2 = w1.setCell ⟨r, 1, none⟩ (.int .i64 ((k + (i + 1) : Nat) : Int)) → XNatOut w0 w r (.slice (some ⟨g, o, none⟩) bs.length cb) bs k stop (fun n => .int .u64 n) (.returned (.int .u64 mm)) w2 := fun w2 e => by
                subst e
                have hgo := hX1.out.go (k + (i + 1)) (by omega)
                have e1 : rNat bs k stop = (mm, k + (i + 1), false) := by
                  unfold rNat; rw [hs0, hN.out]; simp
                unfold XNatOut
                rw [e1]
                exact ⟨rfl, hgo.1, trM r _ _ _ hm1'.out hgo.2⟩
              have hfin' := Lib.hid hfin
              clear hfin
              go_wp2_with fail
              go_ret
              exact hfin'.out _ (by go_num)
            · have hse : (sz.toList == sx.toList) = false := by
                rw [hsz'.out, hsx'.out]
                simp only [beq_eq_false_iff_ne]
                intro h
                exact hzy (str_inj (by rw [hzs'.out]; exact natB_byte mm) (by rw [hys'.out]; exact fun y hy => hxb.out y (List.mem_of_mem_take hy)) h)
              have hN := Lib.hid (hlaw.out.2 hzy)
              clear hzy
              refine sched_last ?_
              repeat (go_big_quiet_step (fail))
              refine wpQuiet_nil ?_
              clear fz fcv1
              go_wp2_with fail
              go_roundw
              case rel => exact ⟨i + 1, mm, true, by omega, by go_num, rfl, hX1.out.halt.1, trM r _ _ _ hm1'.out hX1.out.halt.2, fun _ => .inr hN.out, fun h => absurd h (by simp)⟩
              case measure => simp [intOf]; omega
          · have t3 : decide (x < 128) = false := by simpa using h128
            have h128' := Lib.hid h128
            clear h128
            go_wp2_with fail
            go_quiet (fail)
            go_wp2_with fail
            go_quiet (fail)
            go_wp2_with fail
            go_roundw
            case rel =>
              refine ⟨i + 1, mm, false, by omega, by go_num, rfl, hX'.out.still ((Mod.refl [] wr).drewN _), trM r _ _ _ hm'.out ((Mod.refl [r] wr).drewN _), fun h => absurd h (by simp), fun _ => ⟨hs0, by omega, hmm'.out, fun j z hj hz => ?_⟩⟩
              rcases Nat.lt_or_ge j i with hji | hji
              · exact hprev'.out j z hji hz
              · have : j = i := by omega
                subst this
                rw [hxd'.out] at hz
                simp only [Option.some.injEq] at hz
                have := h128'.out
                omega
            case measure => simp [intOf]; omega
        · have t2 : decide ((k : Int) + (i : Int) < (bs.length : Int)) = false := by simp; omega
          have t2' : decide (k + i < bs.length) = false := by simpa using hlt
          have hno : Hid (stop = true ∨ natP 0 (bs.drop k) = none) := .inr (refnat_miss hxb.out fun j z hj hz => hprev'.out j z (by
            have := (List.getElem?_eq_some_iff.1 hz).1
            rw [List.length_drop] at this; omega) hz)
          clear hlt
          go_wp2_with fail
          go_quiet (fail)
          have hf := Lib.hid (hout.out _ _ (hX'.out.still ((Mod.refl [] wr).drewN nq)) (trM r _ _ _ hm'.out ((Mod.refl [r] wr).drewN nq)) hno.out)
          go_wp2_with fail
          go_ret
          exact hf.out _ rfl
    · have t1 : decide ((i : Int) < 10) = false := by simp; omega
      have t1' : decide (i < 10) = false := by simpa using h10
      have hno : Hid (stop = true ∨ natP 0 (bs.drop k) = none) := by
        show stop = true ∨ natP 0 (bs.drop k) = none
        cases st with
        | true => exact hst'.out rfl
        | false => exact .inr (refnat_miss hxb.out fun j z hj hz => (hrun'.out rfl).2.2.2 j z (by omega) hz)
      clear h10
      go_wp2_with fail
      go_quiet (fail)
      have hf := Lib.hid (hout.out _ _ (hX'.out.still ((Mod.refl [] wr).drewN nq)) (trM r _ _ _ hm'.out ((Mod.refl [r] wr).drewN nq)) hno.out)
      go_wp2_with fail
      go_ret
      exact hf.out _ rfl
end Code
end Go.Proofs.Ytmkbinbggiocaaa

set_option linter.unusedVariables false
set_option linter.unusedSimpArgs false
namespace Go.Proofs.Ytmkbinbggiocaaa
open Go.RowKit
namespace Code
set_option maxHeartbeats 2000000 in
theorem xInt {w0 w : World} {r k : Nat} {vb : Value} {bs : List Int} {stop : Bool} (h : XAt w0 w r vb bs k stop) (hbb : ∀ x ∈ bs, 0 ≤ x ∧ x < 256) :
    Calls Try.prog 107 #[.pointer (some ⟨r, 0, none⟩)] w (XNatOut w0 w r vb bs k stop fun n => .int .i64 (unsign n)) := by
  have hn := Lib.hid (xNat h hbb)
  have hlt := rNat_lt (k := k) (stop := stop) hbb
  clear h hbb
  go_enter Try.func107, Try.ntmps107
  go_wp2_with fail
  refine hn.out.mono ?_
  rintro e w1 ⟨rfl, hR, hm⟩
  dsimp only
  have hfin : ∀ v, v = unsign (rNat bs k stop).1 → XNatOut w0 w r vb bs k stop (fun n => .int .i64 (unsign n)) (.returned (.int .i64 v)) w1 := fun v hv => ⟨by rw [hv], hR, hm⟩
  have hfin' := Lib.hid hfin
  clear hfin hR hm hn
  generalize (rNat bs k stop).1 = n at *
  obtain ⟨q, hq⟩ : ∃ q, q = n / 2 := ⟨_, rfl⟩
  have hq1 : q < 9223372036854775808 := by omega
  have hd2 : (n : Int) / 2 = (q : Int) := by omega
  have hw : IntKind.i64.wrap (q : Int) = (q : Int) := IntWalk.i64_in _ (by omega)
  have hw2 : IntKind.i64.wrap (-1 - (q : Int)) = -1 - (q : Int) := IntWalk.i64_in _ (by omega)
  by_cases hp : n % 2 = 0
  · have hu0 : unsign n = (q : Int) := by unfold unsign; rw [if_pos hp, hq]
    have hu := Lib.hid hu0
    have t : (((n : Int) % 2) == 1) = false := by simp; omega
    have t' : ((n % 2) == 1) = false := by simp [hp]
    clear hp hu0 hq
    go_wp2_with fail
    go_ret
    exact hfin'.out _ hu.out.symm
  · have hu0 : unsign n = -1 - (q : Int) := by unfold unsign; rw [if_neg hp, hq]; omega
    have hu := Lib.hid hu0
    have t : (((n : Int) % 2) == 1) = true := by simp; omega
    have t' : ((n % 2) == 1) = true := by simp; omega
    clear hp hu0 hq
    go_wp2_with fail
    go_ret
    exact hfin'.out _ hu.out.symm
end Code
end Go.Proofs.Ytmkbinbggiocaaa

set_option linter.unusedVariables false
set_option linter.unusedSimpArgs false
namespace Go.Proofs.Ytmkbinbggiocaaa
open Go.RowKit
namespace Code
def XCountOut (w0 w : World) (r : Nat) (vb : Value) (bs : List Int) (k : Nat) (stop : Bool) (e : Ending) (w' : World) : Prop :=
  e = .returned (.int .i64 (rCount bs k stop).1) ∧ XAt w0 w' r vb bs (rCount bs k stop).2.1 (rCount bs k stop).2.2 ∧ Mod [r] w w'
theorem rCount_of {bs : List Int} {k : Nat} {stop : Bool} {n k2 : Nat} {s2 : Bool} (h : rNat bs k stop = (n, k2, s2)) : rCount bs k stop = if n ≤ bs.length - k2 then (n, k2, s2) else (0, k, true) := by
  unfold rNat at h
  unfold rCount
  by_cases hs : stop = true
  · rw [if_pos hs] at h ⊢
    simp only [Prod.mk.injEq] at h
    obtain ⟨rfl, rfl, rfl⟩ := h
    rw [if_pos (by omega)]
  · rw [if_neg hs] at h ⊢
    cases hp : natP 0 (bs.drop k) with
    | some p =>
      obtain ⟨m, j⟩ := p
      rw [hp] at h
      simp only [Prod.mk.injEq] at h
      obtain ⟨rfl, rfl, rfl⟩ := h
      simp only [Nat.sub_sub]
    | none =>
      rw [hp] at h
      simp only [Prod.mk.injEq] at h
      obtain ⟨rfl, rfl, rfl⟩ := h
      simp
set_option maxHeartbeats 4000000 in
theorem xCount {w0 w : World} {r k : Nat} {vb : Value} {bs : List Int} {stop : Bool} (h : XAt w0 w r vb bs k stop) (hbb : ∀ x ∈ bs, 0 ≤ x ∧ x < 256) :
    Calls Try.prog 108 #[.pointer (some ⟨r, 0, none⟩)] w (XCountOut w0 w r vb bs k stop) := by
  obtain ⟨ab, cb, rfl⟩ := h.rd.val
  have hn := Lib.hid (xNat h hbb)
  have hlt := rNat_lt (k := k) (stop := stop) hbb
  have c1 := h.has.cell 1 rfl
  have hle := h.le
  have hbig := h.big
  clear h hbb
  go_enter Try.func108, Try.ntmps108
  go_wp2_with fail
  refine hn.out.mono ?_
  intro e w1 he
  unfold XNatOut at he
  rcases hrn : rNat bs k stop with ⟨n, k2, s2⟩
  rw [hrn] at he hlt
  obtain ⟨rfl, hX, hm⟩ := he
  have hrc := rCount_of hrn
  dsimp only at hX
  dsimp only
  have d0 := hX.has.cell 0 rfl
  have d1 := hX.has.cell 1 rfl
  have d2 := hX.has.cell 2 rfl
  have f1 := hX.has.free 1
  have f2 := hX.has.free 2
  have hl1 := hX.has.lt
  have hk2 := hX.le
  have hX' := Lib.hid hX
  have hm' := Lib.hid hm
  obtain ⟨q, hq⟩ : ∃ q, q = bs.length - k2 := ⟨_, rfl⟩
  rw [← hq] at hrc
  have hw1 : IntKind.i64.wrap ((bs.length : Int) - (k2 : Int)) = (q : Int) := by rw [IntWalk.i64_in _ (by omega)]; omega
  have hw2 : IntKind.u64.wrap (q : Int) = (q : Int) := by rw [IntKind.wrap_u64]; omega
  have hrc' := Lib.hid hrc
  simp only at hlt
  clear hX hm hrn hrc c1 hn
  by_cases hle2 : n ≤ q
  · have t : decide ((q : Int) < (n : Int)) = false := by simp; omega
    have t' : decide (q < n) = false := by simp; omega
    have hwn : IntKind.i64.wrap (n : Int) = (n : Int) := IntWalk.i64_in _ (by omega)
    have hle3 := Lib.hid hle2
    clear hq hle2
    go_wp2_with fail
    go_quiet (fail)
    have hf : XCountOut w0 w r (.slice ab bs.length cb) bs k stop (.returned (.int .i64 n)) (w1.drewN nq) := by
      unfold XCountOut
      rw [hrc'.out, if_pos hle3.out]
      exact ⟨rfl, hX'.out.still ((Mod.refl [] w1).drewN nq), trM r _ _ _ hm'.out ((Mod.refl [r] w1).drewN nq)⟩
    have hf' := Lib.hid hf
    clear hf
    go_wp2_with fail
    go_ret
    exact hf'.out
  · have t : decide ((q : Int) < (n : Int)) = true := by simp; omega
    have t' : decide (q < n) = true := by simp; omega
    have hle3 := Lib.hid hle2
    have hf : ∀ nq, XCountOut w0 w r (.slice ab bs.length cb) bs k stop (.returned (.int .i64 0)) (((w1.drewN nq).setCell ⟨r, 1, none⟩ (.int .i64 k)).setCell ⟨r, 2, none⟩ (.bool true)) := fun nq => by
      have hg := (hX'.out.still ((Mod.refl [] w1).drewN nq)).go k hle
      unfold XCountOut
      rw [hrc'.out, if_neg hle3.out]
      exact ⟨by simp, hg.1.halt.1, trM r _ _ _ (trM r _ _ _ (trM r _ _ _ hm'.out ((Mod.refl [r] w1).drewN nq)) hg.2) hg.1.halt.2⟩
    have hf' := Lib.hid hf
    clear hf hq hle2
    go_wp2_with fail
    go_quiet (fail)
    go_wp2_with fail
    go_ret
    exact hf'.out _
end Code
end Go.Proofs.Ytmkbinbggiocaaa

set_option linter.unusedVariables false
set_option linter.unusedSimpArgs false
namespace Go.Proofs.Ytmkbinbggiocaaa
open Go.RowKit
namespace Code
def setTo (xs : List Int) (v : Nat) : List Int := ((List.range v).filter fun u => ((xs.getD (u / 8) 0).toNat).testBit (u % 8)).map fun u => ((u : Nat) : Int)
theorem setTo_succ (xs : List Int) (v : Nat) : setTo xs (v + 1) = setTo xs v ++ if ((xs.getD (v / 8) 0).toNat).testBit (v % 8) then [(v : Int)] else [] := by
  unfold setTo
  rw [List.range_succ, List.filter_append, List.map_append]
  congr 1
  by_cases h : ((xs.getD (v / 8) 0).toNat).testBit (v % 8) = true
  · rw [if_pos h, List.filter_cons, if_pos h]; rfl
  · rw [if_neg h, List.filter_cons, if_neg h]; rfl
theorem setTo_bytes (xs : List Int) : ∀ i, i ≤ xs.length → setTo xs (8 * i) = setFrom 0 (xs.take i)
  | 0, _ => by simp [setTo, setFrom]
  | i + 1, hi => by
    obtain ⟨x, hx⟩ : ∃ x, xs[i]? = some x := ⟨xs[i], List.getElem?_eq_getElem (by omega)⟩
    have htl : (xs.take i).length = i := by rw [List.length_take]; omega
    rw [List.take_add_one, hx]
    simp only [Option.toList_some]
    rw [setFrom_append, htl, ← setTo_bytes xs i (by omega)]
    unfold setTo
    rw [show 8 * (i + 1) = 8 * i + 8 by omega, List.range_add, List.filter_append, List.map_append]
    congr 1
    simp only [setFrom, Nat.zero_add, List.append_nil, low, List.filter_map, List.map_map]
    have hf : ∀ u ∈ List.range 8, ((fun u => ((xs.getD (u / 8) 0).toNat).testBit (u % 8)) ∘ fun x => 8 * i + x) u = x.toNat.testBit u := by
      intro u hu
      rw [List.mem_range] at hu
      simp only [Function.comp]
      rw [show (8 * i + u) / 8 = i by omega, show (8 * i + u) % 8 = u by omega]
      simp [List.getD_eq_getElem?_getD, hx]
    rw [List.filter_congr hf]
    rfl
theorem rises_last (n : Int) : ∀ (l : List Int) (last : Int), l.Pairwise (· < ·) → (∀ x ∈ l, last < x) → risesB n last l = match l.getLast? with
    | none => true
    | some x => decide (x < n)
  | [], _, _, _ => rfl
  | [x], last, _, h => by
    have := h x (by simp)
    simp [risesB, this]
  | x :: y :: l, last, hp, h => by
    have hx := h x (by simp)
    rw [List.pairwise_cons] at hp
    have ih := rises_last n (y :: l) x hp.2 hp.1
    rw [risesB, ih, List.getLast?_cons_cons]
    cases hl : (y :: l).getLast? with
    | none => simp at hl
    | some z =>
      have hz := hp.1 z (List.mem_of_getLast? hl)
      simp only [hx, decide_true, Bool.true_and]
      by_cases hzn : z < n
      · have : x < n := by omega
        simp [hzn, this]
      · simp [hzn]
theorem setTo_rises (xs : List Int) (v : Nat) : (setTo xs v).Pairwise (· < ·) ∧ ∀ x ∈ setTo xs v, (-1 : Int) < x ∧ x < v := by
  unfold setTo
  refine ⟨?_, fun x hx => ?_⟩
  · rw [List.pairwise_map]
    refine List.Pairwise.filter _ ?_
    exact List.pairwise_lt_range.imp fun h => by omega
  · simp only [List.mem_map, List.mem_filter, List.mem_range] at hx
    obtain ⟨u, ⟨hu, _⟩, rfl⟩ := hx
    omega
end Code
end Go.Proofs.Ytmkbinbggiocaaa

set_option linter.unusedVariables false
set_option linter.unusedSimpArgs false
namespace Go.Proofs.Ytmkbinbggiocaaa
open Go.RowKit
namespace Code
def XBitsOut (w0 w : World) (r : Nat) (vb : Value) (bs : List Int) (k : Nat) (stop : Bool) (n : Int) (e : Ending) (w' : World) : Prop :=
  ∃ v, e = .returned v ∧ Rd w' 1 v (rBits bs k stop n).1.length (vi64 (rBits bs k stop n).1) ∧ (∀ g, v.ownBlock = some g → w.heap.size ≤ g) ∧ XAt w0 w' r vb bs (rBits bs k stop n).2.1 (rBits bs k stop n).2.2 ∧ Mod [r] w w'
theorem xBits_no {w0 w w' : World} {r k : Nat} {vb : Value} {bs : List Int} {stop : Bool} {n : Int} (h : rBits bs k stop n = ([], k, true)) (hX : XAt w0 w' r vb bs k true) (m : Mod [r] w w') : XBitsOut w0 w r vb bs k stop n (.returned (.slice none 0 0)) w' := by
  unfold XBitsOut
  rw [h]
  exact ⟨_, rfl, Rd.nil _ _, by simp [Value.ownBlock], hX, m⟩
/-- A part of a row that is read. -/
theorem slice_sub {P : Program} (t : TypeId) (ht : P.underlying t = some (.slice (P.elem t))) (hs : ∀ w : World, (sizeOf (P.elem t)).run P w = .ok 1 w) {w0 : World} {a : Option Addr} {c : Nat} {bs : List Int} (h : Rd w0 1 (.slice a bs.length c) bs.length (u8s bs)) (k m : Nat) (hk : k + m ≤ bs.length) (x y : Int) (hx : x = (k : Int)) (hy : y = ((k + m : Nat) : Int)) :
    ∃ a' c', (∀ w : World, (Instr.slice t (.slice a bs.length c) (some (.int .i64 x)) (some (.int .i64 y)) none).run P w = .ok (.slice a' m c') w) ∧ ∀ w', Mod [] w0 w' → Rd w' 1 (.slice a' m c') m (u8s ((bs.drop k).take m)) := by
  subst hx hy
  have hlen : ((bs.drop k).take m).length = m := by rw [List.length_take, List.length_drop]; omega
  have hcm : bs.length ≤ c ∧ c ≤ maxLen := by
    rcases h.2 with ⟨he, h0⟩ | ⟨ad, c', he, h1, h2, _⟩
    · simp only [Value.slice.injEq] at he
      obtain ⟨_, _, rfl⟩ := he
      simp only [maxLen]
      omega
    · simp only [Value.slice.injEq, true_and] at he
      obtain ⟨_, rfl⟩ := he
      exact ⟨h1, h2⟩
  refine ⟨(if c = k then a else a.map fun ad => ad.add k), c - k, fun w => ?_, fun w' hm => ?_⟩
  · rw [run_slice_lh w t a bs.length c ht .i64 .i64 k ((k + m : Nat) : Int) (by omega) (by omega) (by omega), hs]
    simp only [Result.andThen, sliced, Int.toNat_natCast, Nat.mul_one, Nat.add_sub_cancel_left]
  · refine ⟨by rw [u8s_length, hlen]; omega, ?_⟩
    cases a with
    | none =>
      rcases h.2 with ⟨he, h0⟩ | ⟨ad, c', he, _⟩
      · simp only [Value.slice.injEq] at he
        obtain ⟨_, _, rfl⟩ := he
        exact .inl ⟨by simp; omega, by omega⟩
      · simp at he
    | some ad =>
      by_cases hkc : c = k
      · rw [if_pos hkc]
        have hm0 : m = 0 := by omega
        subst hm0
        exact .inr ⟨ad, c - k, rfl, by omega, by omega, fun j u hu => by simp [u8s] at hu⟩
      · rw [if_neg hkc]
        refine .inr ⟨ad.add k, c - k, rfl, by omega, by omega, fun j u hu => ?_⟩
        have hj : j < m := by
          rcases Nat.lt_or_ge j m with h' | h'
          · exact h'
          · rw [List.getElem?_eq_none (by rw [u8s_length, hlen]; omega)] at hu; simp at hu
        have hu' : (u8s bs)[k + j]? = some u := by
          rw [← hu]; simp only [u8s, List.map_take, List.map_drop, List.getElem?_take, if_pos hj, List.getElem?_drop]
        obtain ⟨g, o, e, _, _, hc⟩ := (h.still hm).at (by rw [u8s_length]; omega)
        simp only [Option.some.injEq] at e
        subst e
        rw [Addr.add_lit, Addr.add_lit, Nat.add_assoc]
        exact hc _ _ hu'
theorem wide_le (n : Int) (h0 : 0 ≤ n) (h1 : n ≤ 4096) : wideN n ≤ 512 ∧ ((n + 7) / 8 : Int) = (wideN n : Int) := by unfold wideN; omega
set_option maxRecDepth 100000 in
set_option maxHeartbeats 4000000 in
theorem xBits_stop {w0 w : World} {r k : Nat} {vb : Value} {bs : List Int} {stop : Bool} (n : Int) (h : XAt w0 w r vb bs k stop) (hn : n < 0 ∨ 4096 < n ∨ stop = true ∨ bs.length - k < wideN n) :
    Calls Try.prog 109 #[.pointer (some ⟨r, 0, none⟩), .int .i64 n] w (XBitsOut w0 w r vb bs k stop n) := by
  obtain ⟨ab, cb, rfl⟩ := h.rd.val
  have e1 : rBits bs k stop n = ([], k, true) := by
    unfold rBits
    rcases hn with h | h | h | h
    · rw [if_pos (by omega)]
    · rw [if_pos (by omega)]
    · split
      · rfl
      · rw [if_pos (by simp [h])]
    · rw [if_pos (by omega)]
  have c0 := h.has.cell 0 rfl
  have c1 := h.has.cell 1 rfl
  have c2 := h.has.cell 2 rfl
  have fr2 := h.has.free 2
  have hrl := h.has.lt
  have hle := h.le
  have hbig := h.big
  have hfin : ∀ nq, XBitsOut w0 w r (.slice ab bs.length cb) bs k stop n (.returned (.slice none 0 0)) ((w.drewN nq).setCell ⟨r, 2, none⟩ (.bool true)) := fun nq => by
    have hX := (h.still ((Mod.refl [] w).drewN nq)).halt
    exact xBits_no e1 hX.1 (trM r _ _ _ ((Mod.refl [r] w).drewN nq) hX.2)
  have hfin' := Lib.hid hfin
  clear hfin h e1
  by_cases h0 : n < 0
  · have t1 : decide (n < 0) = true := by simpa using h0
    clear hn
    go_enter Try.func109, Try.ntmps109
    go_wp2_with fail
    go_quiet (fail)
    go_wp2_with fail
    go_ret
    exact hfin'.out _
  · have t1 : decide (n < 0) = false := by simpa using h0
    by_cases h1 : 4096 < n
    · have t2 : decide (4096 < n) = true := by simpa using h1
      clear hn
      go_enter Try.func109, Try.ntmps109
      go_wp2_with fail
      go_quiet (fail)
      go_wp2_with fail
      go_ret
      exact hfin'.out _
    · have t2 : decide (4096 < n) = false := by simpa using h1
      cases stop with
      | true =>
        clear hn
        go_enter Try.func109, Try.ntmps109
        go_wp2_with fail
        go_quiet (fail)
        go_wp2_with fail
        go_ret
        exact hfin'.out _
      | false =>
        have hs : bs.length - k < wideN n := by
          rcases hn with h | h | h | h
          · exact absurd h h0
          · exact absurd h h1
          · cases h
          · exact h
        obtain ⟨hw1, hw2⟩ := wide_le n (by omega) (by omega)
        have hw3 : IntKind.i64.wrap ((bs.length : Int) - (k : Int)) = (bs.length : Int) - (k : Int) := IntWalk.i64_in _ (by omega)
        have hw4 : IntKind.i64.wrap (n + 7) = n + 7 := IntWalk.i64_in _ (by omega)
        have t3 : decide ((bs.length : Int) - (k : Int) < (n + 7) / 8) = true := by rw [hw2]; simp; omega
        have h0' : 0 ≤ n := by omega
        have h1' : n ≤ 4096 := by omega
        clear hn hs hw1 hw2 h0 h1
        go_enter Try.func109, Try.ntmps109
        go_wp2_with fail
        go_quiet (fail)
        go_wp2_with fail
        go_ret
        exact hfin'.out _
end Code
end Go.Proofs.Ytmkbinbggiocaaa

set_option linter.unusedVariables false
set_option linter.unusedSimpArgs false
namespace Go.Proofs.Ytmkbinbggiocaaa
open Go.RowKit
namespace Code
theorem setTo_last (n : Int) (h0 : 0 ≤ n) (h1 : n ≤ 4096) (ys : List Int) : bitsOk n (setTo ys (8 * ys.length)) = lastOk n (setFrom 0 ys) := by
  have e := setTo_bytes ys ys.length (Nat.le_refl _)
  rw [List.take_length] at e
  have hr := setTo_rises ys (8 * ys.length)
  rw [e] at hr ⊢
  unfold bitsOk lastOk
  rw [rises_last n _ (-1) hr.1 (fun x hx => (hr.2 x hx).1)]
  cases (setFrom 0 ys).getLast? <;> simp [h0, h1]
theorem u8_and1 (y : Nat) (h : y < 256) : bits .and .u8 (y : Int) 1 = ((y % 2 : Nat) : Int) := by
  have := u8_and (y : Int) 1 (by omega) (by omega) (by omega) (by omega)
  rw [this]
  simp [Nat.and_one_is_mod]
theorem test_shift (x u : Nat) : (x / 2 ^ u) % 2 = if x.testBit u then 1 else 0 := by
  rw [Nat.testBit_eq_decide_div_mod_eq]
  split <;> simp_all
set_option maxRecDepth 100000 in
set_option maxHeartbeats 8000000 in
theorem xBits_main {w0 w : World} {r k : Nat} {vb : Value} {bs : List Int} (n : Int) (h : XAt w0 w r vb bs k false) (hbb : ∀ x ∈ bs, 0 ≤ x ∧ x < 256) (h0 : 0 ≤ n) (h1 : n ≤ 4096) (hs : wideN n ≤ bs.length - k) :
    Calls Try.prog 109 #[.pointer (some ⟨r, 0, none⟩), .int .i64 n] w (XBitsOut w0 w r vb bs k false n) := by
  obtain ⟨ab, cb, rfl⟩ := h.rd.val
  obtain ⟨hw1, hw2⟩ := wide_le n h0 h1
  have hle := h.le
  have hbig := h.big
  obtain ⟨a', c', hsl, hrd⟩ := slice_sub (P := Try.prog) 45 (by kernel_rfl) (fun w => by kernel_rfl) h.read k (wideN n) (by omega) k ((k : Int) + (n + 7) / 8) rfl (by rw [hw2]; omega)
  have hbx : Hid (∀ x ∈ (bs.drop k).take (wideN n), 0 ≤ x ∧ x < 256) := fun x hx => hbb x (List.mem_of_mem_drop (List.mem_of_mem_take hx))
  have hyl : ((bs.drop k).take (wideN n)).length = wideN n := by rw [List.length_take, List.length_drop]; omega
  have hlast := setTo_last n h0 h1 ((bs.drop k).take (wideN n))
  have hset := setTo_bytes ((bs.drop k).take (wideN n)) _ (Nat.le_refl _)
  rw [List.take_length] at hset
  have e1 : rBits bs k false n = if lastOk n (setFrom 0 ((bs.drop k).take (wideN n))) then (setFrom 0 ((bs.drop k).take (wideN n)), k + wideN n, false) else ([], k, true) := by
    unfold rBits
    rw [if_neg (by omega)]
    cases lastOk n (setFrom 0 ((bs.drop k).take (wideN n))) <;> simp
  generalize hys : (bs.drop k).take (wideN n) = ys at *
  rw [← hset] at e1 hlast
  have hkm : k + wideN n ≤ bs.length := by omega
  generalize hm : wideN n = m at *
  rw [hyl] at hlast hset e1
  have c0 := h.has.cell 0 rfl
  have c1 := h.has.cell 1 rfl
  have c2 := h.has.cell 2 rfl
  have hrl := h.has.lt
  have hw3 : IntKind.i64.wrap ((bs.length : Int) - (k : Int)) = (bs.length : Int) - (k : Int) := IntWalk.i64_in _ (by omega)
  have hw4 : IntKind.i64.wrap (n + 7) = n + 7 := IntWalk.i64_in _ (by omega)
  have hw5 : IntKind.i64.wrap ((k : Int) + (n + 7) / 8) = (k : Int) + (n + 7) / 8 := IntWalk.i64_in _ (by omega)
  have t1 : decide (n < 0) = false := by simp; omega
  have t2 : decide (4096 < n) = false := by simp; omega
  have t3 : decide ((bs.length : Int) - (k : Int) < (n + 7) / 8) = false := by rw [hw2]; simp; omega
  have hX := Lib.hid h
  have hrd' := Lib.hid hrd
  have hyl' := Lib.hid hyl
  have hlast' := Lib.hid hlast
  have e1' := Lib.hid e1
  clear h hbb hrd hyl hlast hset e1 hys hm hs
  clear hw2
  go_enter Try.func109, Try.ntmps109
  go_wp2_with fail
  go_quiet (fail)
  go_wp2_with fail
  go_quiet (fail)
  clear hw3 hw4 hw5 t1 t2 t3 hsl
  go_wp2_with fail
  go_loopw [6, 7] (fun ov vv wr => ∃ (u : Nat) (ao : Option Addr) (co : Nat), u ≤ 8 * m ∧ vv = .int .i64 u ∧ ov = .slice ao (setTo ys u).length co ∧ Made w wr 3 1 ao (setTo ys u).length co (vi64 (setTo ys u))) (fun ov vv _ => 8 * m - (intOf vv).toNat)
  case atStart => exact ⟨0, none, 0, Nat.zero_le _, rfl, rfl, Made.mk0 (((Mod.refl [] w).drewN _).drewN _) _ _⟩
  case round =>
    obtain ⟨u, ao, co, hu, rfl, rfl, hmd⟩ := hrel
    obtain ⟨wo, hwo⟩ : ∃ wo : World, wo = wr := ⟨_, rfl⟩
    clear hwo
    have hlen : (setTo ys u).length ≤ u := by unfold setTo; rw [List.length_map]; exact Nat.le_trans (List.length_filter_le _ _) (by simp)
    by_cases hlt : u < 8 * m
    · obtain ⟨x, hx⟩ : ∃ x, ys[u / 8]? = some x := ⟨ys[u / 8]'(by rw [hyl'.out]; omega), List.getElem?_eq_getElem _⟩
      have hxb := hbx.out x (List.mem_of_getElem? hx)
      obtain ⟨b0, rfl⟩ := Int.eq_ofNat_of_zero_le hxb.1
      have hb0 : b0 < 256 := by have := hxb.2; omega
      obtain ⟨g, o, rfl, _, _, hcell⟩ := (hrd'.out wr hmd.mod).at (by rw [u8s_length, hyl'.out]; omega)
      have hc := hcell (u / 8) _ (u8s_get hx)
      have hsucc := setTo_succ ys u
      have hgd : ys.getD (u / 8) 0 = (b0 : Int) := by rw [List.getD_eq_getElem?_getD, hx]; rfl
      rw [hgd, Int.toNat_natCast] at hsucc
      have hsucc' := Lib.hid hsucc
      have hts := Lib.hid (test_shift b0 (u % 8))
      have hq : b0 / 2 ^ (u % 8) < 256 := Nat.lt_of_le_of_lt (Nat.div_le_self _ _) hb0
      have hand := u8_and1 (b0 / 2 ^ (u % 8)) hq
      clear hcell hx hxb hgd hsucc
      have t1 : decide ((u : Int) < 8 * (m : Int)) = true := by simp; omega
      have t1' : decide (u < 8 * m) = true := by simp; omega
      have hcast : (b0 : Int) / 2 ^ (u % 8) = ((b0 / 2 ^ (u % 8) : Nat) : Int) := by simp
      rw [← hcast] at hand
      clear hcast
      cases htb : b0.testBit (u % 8) with
      | true =>
        have e2 := hts.out
        rw [htb] at e2
        have t2 : (bits BinOp.and IntKind.u8 ((b0 : Int) / 2 ^ (u % 8)) 1 == 1) = true := by rw [hand, e2]; rfl
        have hs1 := hsucc'.out
        rw [htb] at hs1
        simp only [if_true] at hs1
        have hs1' := Lib.hid hs1
        clear hand e2 htb hts hs1 hsucc'
        go_wp2_with (at_builtin; refine app_own rfl (.tmp 74) (.tmp 76) 36 3 _ 1 8 rfl Try.underlying36 infoInt rfl (by omega) (by omega) (.slice ao (setTo ys u).length co) (setTo ys u).length 1 (vi64 (setTo ys u)) [.int .i64 u] rfl rfl (by simp) rfl (by simp [Value.oneCell']) hmd.own (by omega) ?_; intro aA cA wA hA mA vA)
        go_roundw
        case rel =>
          refine ⟨u + 1, aA, cA, by omega, by go_num, by rw [hs1'.out]; simp, ?_⟩
          have := hmd.push hA mA vA
          rw [hs1'.out, List.length_append]
          rw [show vi64 (setTo ys u ++ [(u : Int)]) = vi64 (setTo ys u) ++ [.int .i64 (u : Int)] from by simp [vi64]]
          exact this
        case measure => simp [intOf]; omega
      | false =>
        have e2 := hts.out
        rw [htb] at e2
        have t2 : (bits BinOp.and IntKind.u8 ((b0 : Int) / 2 ^ (u % 8)) 1 == 1) = false := by rw [hand, e2]; rfl
        have hs1 := hsucc'.out
        rw [htb] at hs1
        simp only [Bool.false_eq_true, if_false, List.append_nil] at hs1
        have hs1' := Lib.hid hs1
        clear hand e2 htb hts hs1 hsucc'
        go_wp2_with fail
        go_roundw
        case rel => exact ⟨u + 1, ao, co, by omega, by go_num, by rw [hs1'.out], by rw [hs1'.out]; exact hmd⟩
        case measure => simp [intOf]; omega
    · have hum : 8 * m = u := by omega
      have t1 : decide ((u : Int) < 8 * (m : Int)) = false := by simp; omega
      have t1' : decide (u < 8 * m) = false := by simpa using hlt
      have hlast2 := hlast'.out
      have e2 := e1'.out
      rw [hum] at hlast2 e2
      have hum' := Lib.hid hum
      clear hum hlt hlast' e1'
      generalize setTo ys u = O at *
      have hcall := Lib.hid (refBits_any n O (Rd.own hmd.own))
      have hmd' := Lib.hid hmd
      have hX1 := hX.out.still hmd.mod
      cases hok : lastOk n O with
      | true =>
        rw [hok] at hlast2 e2
        have hX1' := Lib.hid hX1
        have hlast3 := Lib.hid hlast2
        have e3 := Lib.hid e2
        clear hlast2 e2 hok hX1 hmd c0 c1 c2
        go_wp2_with fail
        refine hcall.out.mono ?_
        intro e w3 h3
        unfold RefBitsOut at h3
        rw [hlast3.out] at h3
        simp only [if_true] at h3
        obtain ⟨aB, cB, rfl, hB⟩ := h3
        dsimp only
        have hX3 := hX1'.out.still hB.mod
        have d0 := hX3.has.cell 0 rfl
        have d1 := hX3.has.cell 1 rfl
        have f1 := hX3.has.free 1
        have hl3 := hX3.has.lt
        have hkm' : k + m ≤ bs.length := hkm
        have hgo := hX3.go (k + m) hkm'
        have hfin : ∀ w4, w4 = w3.setCell ⟨r, 1, none⟩ (.int .i64 ((k + m : Nat) : Int)) → XBitsOut w0 w r (.slice ab bs.length cb) bs k false n (.returned (.slice ao O.length co)) w4 := fun w4 e => by
          subst e
          have hmw : Mod [r] w (w3.setCell ⟨r, 1, none⟩ (.int .i64 ((k + m : Nat) : Int))) := trM r _ _ _ ((hmd'.out.mod.of0 (F := [r])).trans hB.mod (by simp)) hgo.2
          unfold XBitsOut
          rw [e3.out]
          simp only [if_true]
          refine ⟨_, rfl, ?_, fun g hg => hmd'.out.new g hg, hgo.1, hmw⟩
          refine ((Rd.own hmd'.out.own).still hB.mod).keep hgo.2 (fun g hg hm => ?_)
          have h1 := hmd'.out.new g hg
          have h2 := hX.out.has.lt
          simp only [List.mem_singleton] at hm
          omega
        have hfin' := Lib.hid hfin
        clear hX3 hgo hfin hB
        go_wp2_with fail
        go_ret
        exact hfin'.out _ (by go_num)
      | false =>
        rw [hok] at hlast2 e2
        have hX1' := Lib.hid hX1
        have hlast3 := Lib.hid hlast2
        have e3 := Lib.hid e2
        clear hlast2 e2 hok hX1 hmd c0 c1 c2
        go_wp2_with fail
        refine hcall.out.mono ?_
        intro e w3 h3
        unfold RefBitsOut at h3
        rw [hlast3.out] at h3
        simp only [Bool.false_eq_true, if_false] at h3
        obtain ⟨rfl, hB⟩ := h3
        dsimp only
        have hX3 := hX1'.out.still hB
        have d2 := hX3.has.cell 2 rfl
        have f2 := hX3.has.free 2
        have hl3 := hX3.has.lt
        have hh := hX3.halt
        have hfin : ∀ w4, w4 = w3.setCell ⟨r, 2, none⟩ (.bool true) → XBitsOut w0 w r (.slice ab bs.length cb) bs k false n (.returned (.slice none 0 0)) w4 := fun w4 e => by
          subst e
          have hmw : Mod [r] w (w3.setCell ⟨r, 2, none⟩ (.bool true)) := trM r _ _ _ ((hmd'.out.mod.of0 (F := [r])).trans hB (by simp)) hh.2
          exact xBits_no (by rw [e3.out]; simp) hh.1 hmw
        have hfin' := Lib.hid hfin
        clear hX3 hh hfin hB
        go_wp2_with fail
        go_ret
        exact hfin'.out _ rfl
theorem xBits {w0 w : World} {r k : Nat} {vb : Value} {bs : List Int} {stop : Bool} (n : Int) (h : XAt w0 w r vb bs k stop) (hbb : ∀ x ∈ bs, 0 ≤ x ∧ x < 256) :
    Calls Try.prog 109 #[.pointer (some ⟨r, 0, none⟩), .int .i64 n] w (XBitsOut w0 w r vb bs k stop n) := by
  by_cases hs : n < 0 ∨ 4096 < n ∨ stop = true ∨ bs.length - k < wideN n
  · exact xBits_stop n h hs
  · have hst : stop = false := by cases stop <;> simp_all
    subst hst
    exact xBits_main n h hbb (by omega) (by omega) (by omega)
end Code
end Go.Proofs.Ytmkbinbggiocaaa

set_option linter.unusedVariables false
set_option linter.unusedSimpArgs false
namespace Go.Proofs.Ytmkbinbggiocaaa
open Go.RowKit
namespace Code
/-- A string's bytes. -/
def bytesI (s : ByteArray) : List Int := s.data.toList.map fun b => ((b.toNat : Nat) : Int)
theorem bytesI_len (s : ByteArray) : (bytesI s).length = s.size := by rw [bytesI, List.length_map, Array.length_toList]; rfl
theorem bytesI_byte (s : ByteArray) : ∀ x ∈ bytesI s, 0 ≤ x ∧ x < 256 := by
  intro x hx
  simp only [bytesI, List.mem_map] at hx
  obtain ⟨b, _, rfl⟩ := hx
  have := b.toNat_lt
  omega
theorem str_bytesI (s : ByteArray) : strOfNums (bytesI s) = s := by
  apply ByteArray.ext
  apply Array.ext'
  simp only [strOfNums, bytesI, List.map_map]
  rw [List.toList_toArray]
  conv => rhs; rw [← List.map_id s.data.toList]
  apply List.map_congr_left
  intro b _
  simp
/-- Do these bytes stand ahead? -/
def isPre (xs ys : List Int) : Bool := decide (ys = xs.take ys.length)
theorem str_beq {a b : List Int} (ha : ∀ x ∈ a, 0 ≤ x ∧ x < 256) (hb : ∀ x ∈ b, 0 ≤ x ∧ x < 256) : ((strOfNums a).toList == (strOfNums b).toList) = decide (a = b) := by
  by_cases h : a = b
  · subst h; simp
  · rw [decide_eq_false h]
    simp only [beq_eq_false_iff_ne]
    exact fun e => h (str_inj ha hb e)
set_option maxHeartbeats 1000000 in
theorem equal_any {w : World} {va vb : Value} {xs ys : List Int} (ha : Rd w 1 va xs.length (u8s xs)) (hb : Rd w 1 vb ys.length (u8s ys)) (hx : ∀ x ∈ xs, 0 ≤ x ∧ x < 256) (hy : ∀ x ∈ ys, 0 ≤ x ∧ x < 256) :
    Calls Try.prog 183 #[va, vb] w fun e w' => e = .returned (.bool (decide (xs = ys))) ∧ w = w' := by
  have h1 := conv_rd ha
  have h2 := conv_rd hb
  have h3 := Lib.hid (str_beq hx hy)
  obtain ⟨a1, c1, rfl⟩ := ha.val
  obtain ⟨a2, c2, rfl⟩ := hb.val
  clear ha hb hx hy
  generalize strOfNums xs = sx at *
  generalize strOfNums ys = sy at *
  go_enter Try.func183, Try.ntmps183
  go_wp2_with fail
  go_ret
  exact ⟨by rw [← h3.out]; rfl, rfl⟩
set_option maxHeartbeats 1000000 in
theorem hasP_any {w : World} {va vb : Value} {xs ys : List Int} (ha : Rd w 1 va xs.length (u8s xs)) (hb : Rd w 1 vb ys.length (u8s ys)) (hx : ∀ x ∈ xs, 0 ≤ x ∧ x < 256) (hy : ∀ x ∈ ys, 0 ≤ x ∧ x < 256) :
    Calls Try.prog 157 #[va, vb] w fun e w' => e = .returned (.bool (isPre xs ys)) ∧ w = w' := by
  obtain ⟨a1, c1, rfl⟩ := ha.val
  obtain ⟨a2, c2, rfl⟩ := hb.val
  by_cases hle : ys.length ≤ xs.length
  · have t1 : decide ((ys.length : Int) ≤ (xs.length : Int)) = true := by simp; omega
    have t1' : decide (ys.length ≤ xs.length) = true := by simpa using hle
    have hmc : ys.length ≤ c1 := by
      rcases ha.2 with ⟨he, hz⟩ | ⟨ad, c', he, hz, _⟩
      · omega
      · simp only [Value.slice.injEq, true_and] at he
        obtain ⟨_, rfl⟩ := he
        omega
    have hsl := slice_to (P := Try.prog) (size := 1) 45 (by kernel_rfl) (fun w => by kernel_rfl) a1 xs.length c1 ys.length hmc
    have hr := Rd_to ha hle
    have htl : (xs.take ys.length).length = ys.length := by rw [List.length_take]; omega
    have he := equal_any (xs := xs.take ys.length) (ys := ys) (by rw [htl]; exact hr) hb (fun x h => hx x (List.mem_of_mem_take h)) hy
    have he' := Lib.hid he
    have hp : isPre xs ys = decide (xs.take ys.length = ys) := by
      unfold isPre
      by_cases h : ys = xs.take ys.length
      · rw [decide_eq_true h, decide_eq_true h.symm]
      · rw [decide_eq_false h, decide_eq_false (fun e => h e.symm)]
    rw [hp]
    clear ha hb hx hy hr htl he hp
    generalize decide (xs.take ys.length = ys) = q at *
    go_enter Try.func157, Try.ntmps157
    go_wp2_with fail
    refine he'.out.mono ?_
    rintro e w1 ⟨rfl, rfl⟩
    dsimp only
    go_wp2_with fail
    go_ret
    exact ⟨rfl, rfl⟩
  · have t1 : decide ((ys.length : Int) ≤ (xs.length : Int)) = false := by simp; omega
    have t1' : decide (ys.length ≤ xs.length) = false := by simpa using hle
    have hp : isPre xs ys = false := by
      unfold isPre
      rw [decide_eq_false]
      intro h
      have := congrArg List.length h
      rw [List.length_take] at this
      omega
    rw [hp]
    clear ha hb hx hy hp hle
    go_enter Try.func157, Try.ntmps157
    go_wp2_with fail
    go_ret
    exact ⟨rfl, rfl⟩
/-- A string as bytes. -/
theorem conv_str (s : ByteArray) (hs : s.size ≤ 9223372036854775807) (w : World) : ∃ c w', (convert 9 45 (.string s)).run Try.prog w = .ok (.slice (some ⟨w.heap.size, 0, none⟩) s.size c) w' ∧ Mod [] w w' ∧ Rd w' 1 (.slice (some ⟨w.heap.size, 0, none⟩) s.size c) (bytesI s).length (u8s (bytesI s)) := by
  refine ⟨_, _, run_bytes_of_string w 9 45 5 s Try.underlying9 Try.underlying45 Try.underlying5, ((Mod.refl [] w).drew).alloc _, ?_⟩
  refine ⟨by rw [u8s_length]; omega, .inr ⟨_, _, by rw [bytesI_len], by rw [bytesI_len]; exact grownCap_ge _ _ _ _, grownCap_le_maxLen _ _ _ _ (by simp only [maxLen]; omega), fun j u hu => ?_⟩⟩
  have hj : j < s.size := by
    rcases Nat.lt_or_ge j s.size with h' | h'
    · exact h'
    · rw [List.getElem?_eq_none (by rw [u8s_length, bytesI_len]; omega)] at hu; simp at hu
  rw [Addr.add_lit, Nat.zero_add]
  unfold World.cell?
  rw [show (w.drew.alloc (.cells (bytesRow s (grownCap w s.size 0 5)) 5 ((bytesRow s (grownCap w s.size 0 5)).size, (bytesRow s (grownCap w s.size 0 5)).size + 1))).heap[(⟨w.heap.size, j, none⟩ : Addr).block]? = _ from heap_alloc_new w.drew _]
  rw [← hu]
  have hd : j < s.data.size := hj
  simp [bytesRow, u8s, bytesI, Array.getElem?_append]
  rw [if_pos hj]
  rfl
def cvC (s : ByteArray) (w : World) : Nat := grownCap w s.size 0 5
def cvW (s : ByteArray) (w : World) : World := w.drew.alloc (.cells (bytesRow s (grownCap w s.size 0 5)) 5 ((bytesRow s (grownCap w s.size 0 5)).size, (bytesRow s (grownCap w s.size 0 5)).size + 1))
theorem conv_run (s : ByteArray) (w : World) : (convert 9 45 (.string s)).run Try.prog w = .ok (.slice (some ⟨w.heap.size, 0, none⟩) s.size (cvC s w)) (cvW s w) :=
  run_bytes_of_string w 9 45 5 s Try.underlying9 Try.underlying45 Try.underlying5
theorem cvW_mod (s : ByteArray) (w : World) : Mod [] w (cvW s w) := ((Mod.refl [] w).drew).alloc _
theorem cvW_rd (s : ByteArray) (hs : s.size ≤ 9223372036854775807) (w : World) : Rd (cvW s w) 1 (.slice (some ⟨w.heap.size, 0, none⟩) s.size (cvC s w)) (bytesI s).length (u8s (bytesI s)) := by
  obtain ⟨c, w', h1, h2, h3⟩ := conv_str s hs w
  rw [conv_run] at h1
  simp only [Result.ok.injEq, Value.slice.injEq, true_and] at h1
  obtain ⟨rfl, rfl⟩ := h1
  exact h3
theorem cvW_size (s : ByteArray) (w : World) : (cvW s w).heap.size = w.heap.size + 1 := by simp [cvW]
end Code
end Go.Proofs.Ytmkbinbggiocaaa

set_option linter.unusedVariables false
set_option linter.unusedSimpArgs false
namespace Go.Proofs.Ytmkbinbggiocaaa
open Go.RowKit
namespace Code
def rMark (bs : List Int) (k : Nat) (stop : Bool) (ss : List Int) : Nat × Bool := if stop || !isPre (bs.drop k) ss then (k, true) else (k + ss.length, false)
def RMarkOut (w : World) (r : Nat) (a : Option Addr) (c : Nat) (bs : List Int) (k : Nat) (stop : Bool) (ss : List Int) (e : Ending) (w' : World) : Prop :=
  e = .returned (.tuple #[]) ∧ RAt w' r a c bs (rMark bs k stop ss).1 (rMark bs k stop ss).2 ∧ Mod [r] w w'
def XMarkOut (w0 w : World) (r : Nat) (vb : Value) (bs : List Int) (k : Nat) (stop : Bool) (ss : List Int) (e : Ending) (w' : World) : Prop :=
  e = .returned (.tuple #[]) ∧ XAt w0 w' r vb bs (rMark bs k stop ss).1 (rMark bs k stop ss).2 ∧ Mod [r] w w'
theorem isPre_len {xs ys : List Int} (h : isPre xs ys = true) : ys.length ≤ xs.length := by
  simp only [isPre, decide_eq_true_eq] at h
  have := congrArg List.length h
  rw [List.length_take] at this
  omega
set_option maxHeartbeats 2000000 in
theorem rdMark {w : World} {r c k : Nat} {a : Option Addr} {bs : List Int} {stop : Bool} (s : ByteArray) (hs : s.size ≤ 9223372036854775807) (h : RAt w r a c bs k stop) (hbb : ∀ x ∈ bs, 0 ≤ x ∧ x < 256) :
    Calls Try.prog 105 #[.pointer (some ⟨r, 0, none⟩), .string s] w (RMarkOut w r a c bs k stop (bytesI s)) := by
  have hl := Lib.hid (fun W (h : RAt W r a c bs k stop) => left_any h)
  have h' := Lib.hid h
  have hcv := conv_run s
  have hm0 := Lib.hid (fun W => cvW_mod s W)
  have hr0 := Lib.hid (fun W => cvW_rd s hs W)
  have hx : Hid (∀ x ∈ bs.drop k, 0 ≤ x ∧ x < 256) := fun x hx => hbb x (List.mem_of_mem_drop hx)
  have hy : Hid (∀ x ∈ bytesI s, 0 ≤ x ∧ x < 256) := bytesI_byte s
  have hlen : Hid ((bytesI s).length = s.size) := bytesI_len s
  have hbig := h.big
  have hbd : Hid (isPre (bs.drop k) (bytesI s) = true → k + s.size ≤ bs.length) := fun h2 => by
    have h1 := isPre_len h2
    rw [List.length_drop, bytesI_len] at h1
    have := h.le
    have : 0 < bs.length - k ∨ s.size = 0 := by omega
    omega
  clear h hbb
  have hdef : Hid (∀ b, isPre (bs.drop k) (bytesI s) = b → rMark bs k stop (bytesI s) = if stop || !b then (k, true) else (k + s.size, false)) := fun b hb => by
    unfold rMark
    rw [hb, bytesI_len]
  generalize hxs : bs.drop k = xs at *
  clear hxs
  by_cases hno : stop = true ∨ isPre xs (bytesI s) = false
  · have hout : Hid (∀ w1 w2, Mod [] w w1 → Mod [r] w1 w2 → RAt w2 r a c bs k true → RMarkOut w r a c bs k stop (bytesI s) (.returned (.tuple #[])) w2) := fun w1 w2 h1 h2 h3 => by
      have e1 : rMark bs k stop (bytesI s) = (k, true) := by
        rw [hdef.out _ rfl]
        rcases hno with h | h <;> simp [h]
      unfold RMarkOut
      rw [e1]
      exact ⟨rfl, h3, h1.of0.trans h2 (fun b hb _ => hb)⟩
    have hno' := Lib.hid hno
    clear hno
    generalize hq : isPre xs (bytesI s) = q at *
    have hq' := Lib.hid hq
    clear hq
    go_enter Try.func105, Try.ntmps105
    go_wp2_with fail
    go_region_with (first
      | (go_at_call 103; refine (hl.out _ (h'.out.still ?_)).mono ?_; (first | exact (Mod.refl [] w).drew | exact (Mod.refl [] w).drew.trans (hm0.out _) (by simp)); rintro e w1 ⟨v, rfl, hd, hr⟩; obtain ⟨al, cl, rfl⟩ := hr.val; dsimp only)
      | (go_at_call 157; refine (hasP_any (xs := xs) (ys := bytesI s) ?_ ?_ hx.out hy.out).mono ?_; (first | exact hr | exact hr.still (hm0.out _)); (first | exact hr0.out _ | exact (hr0.out _).still hd.mod); rw [hq'.out]; rintro e w2 ⟨rfl, rfl⟩; dsimp only)
      | (go_at_call 102; refine (take_no (r := r) (a := a) (c := c) (bs := bs) (k := k) (stop := stop) (h'.out.still ?_) (s.size : Int) q hno'.out).mono ?_; (first | exact ((Mod.refl [] w).drew.trans hd.mod (by simp)).trans (hm0.out _) (by simp) | exact ((Mod.refl [] w).drew.trans (hm0.out _) (by simp)).trans hd.mod (by simp)); rintro e w3 ⟨rfl, hR, hm3⟩; dsimp only))
    · have hf := Lib.hid (hout.out _ _ (((Mod.refl [] w).drew.trans hd.mod (by simp)).trans (hm0.out _) (by simp)) hm3 hR)
      go_wp2_with fail

      go_end0
      exact hf.out
    · have hf := Lib.hid (hout.out _ _ (((Mod.refl [] w).drew.trans (hm0.out _) (by simp)).trans hd.mod (by simp)) hm3 hR)
      go_wp2_with fail
      go_end0
      exact hf.out
  · have hs0 : stop = false := by cases stop <;> simp_all
    have hq0 : isPre xs (bytesI s) = true := by cases h : isPre xs (bytesI s) <;> simp_all
    subst hs0
    have hout : Hid (∀ w1 w2, Mod [] w w1 → Mod [r] w1 w2 → RAt w2 r a c bs (k + s.size) false → RMarkOut w r a c bs k false (bytesI s) (.returned (.tuple #[])) w2) := fun w1 w2 h1 h2 h3 => by
      unfold RMarkOut
      rw [hdef.out _ hq0]
      exact ⟨rfl, by simpa using h3, h1.of0.trans h2 (fun b hb _ => hb)⟩
    have hb2 := Lib.hid (hbd.out hq0)
    have hq' := Lib.hid hq0
    clear hno hq0
    go_enter Try.func105, Try.ntmps105
    go_wp2_with fail
    go_region_with (first
      | (go_at_call 103; refine (hl.out _ (h'.out.still ?_)).mono ?_; (first | exact (Mod.refl [] w).drew | exact (Mod.refl [] w).drew.trans (hm0.out _) (by simp)); rintro e w1 ⟨v, rfl, hd, hr⟩; obtain ⟨al, cl, rfl⟩ := hr.val; dsimp only)
      | (go_at_call 157; refine (hasP_any (xs := xs) (ys := bytesI s) ?_ ?_ hx.out hy.out).mono ?_; (first | exact hr | exact hr.still (hm0.out _)); (first | exact hr0.out _ | exact (hr0.out _).still hd.mod); rw [hq'.out]; rintro e w2 ⟨rfl, rfl⟩; dsimp only)
      | (go_at_call 102; refine (take_yes (r := r) (a := a) (c := c) (bs := bs) (k := k) (h'.out.still ?_) s.size hb2.out).mono ?_; (first | exact ((Mod.refl [] w).drew.trans hd.mod (by simp)).trans (hm0.out _) (by simp) | exact ((Mod.refl [] w).drew.trans (hm0.out _) (by simp)).trans hd.mod (by simp)); rintro e w3 ⟨rfl, hR, hm3⟩; dsimp only))
    · have hf := Lib.hid (hout.out _ _ (((Mod.refl [] w).drew.trans hd.mod (by simp)).trans (hm0.out _) (by simp)) hm3 hR)
      go_wp2_with fail
      go_end0
      exact hf.out
    · have hf := Lib.hid (hout.out _ _ (((Mod.refl [] w).drew.trans (hm0.out _) (by simp)).trans hd.mod (by simp)) hm3 hR)
      go_wp2_with fail
      go_end0
      exact hf.out
end Code
end Go.Proofs.Ytmkbinbggiocaaa
