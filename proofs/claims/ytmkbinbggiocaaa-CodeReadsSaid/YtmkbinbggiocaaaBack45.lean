/- CodeBack: the walk. -/
import Derived.Test.YtmkbinbggiocaaaBackLaw
import Derived.Test.YtmkbinbggiocaaaPuts45
import Derived.Test.YtmkbinbggiocaaaSame45
set_option linter.unusedVariables false
set_option linter.unusedSimpArgs false
namespace Go.Proofs.Ytmkbinbggiocaaa
open Go.RowKit
namespace Code
theorem rNat_cases {bs : List Int} {n k : Nat} {st : Bool} (hbb : ∀ x ∈ bs, 0 ≤ x ∧ x < 256) (h : rNat bs 0 false = (n, k, st)) : (k = 0 ∧ n = 0 ∧ st = true) ∨ (0 < k ∧ n < 18446744073709551616 ∧ natB n = bs.take k ∧ k ≤ bs.length) := by
  unfold rNat at h
  rw [if_neg (by simp), List.drop_zero] at h
  cases hp : natP 0 bs with
  | none =>
    rw [hp] at h
    simp only [Prod.mk.injEq] at h
    obtain ⟨rfl, rfl, rfl⟩ := h
    exact .inl ⟨rfl, rfl, rfl⟩
  | some p =>
    obtain ⟨m, j⟩ := p
    rw [hp] at h
    simp only [Prod.mk.injEq, Nat.zero_add] at h
    obtain ⟨rfl, rfl, rfl⟩ := h
    obtain ⟨h1, h2, h3, h4⟩ := natP_len hbb hp
    exact .inr ⟨h4, h2, h3, h1⟩
theorem freshM {wb w1 w2 : World} {r : Nat} (h : Mod [] wb w1) (m : Mod [r] w1 w2) (hr : wb.heap.size ≤ r) : Mod [] wb w2 := h.trans m (fun b hb hlt => by simp only [List.mem_singleton] at hb; omega)
set_option maxRecDepth 100000 in
set_option maxHeartbeats 8000000 in
theorem back_any {w : World} {vb vL vS : Value} (bs l : List Int) (N : Int) (s : List Int) (hb : Rd w 1 vb bs.length (u8s bs)) (hL : Rd w 1 vL l.length (vi64 l)) (hS : Rd w 1 vS s.length (vi64 s))
    (hl : ∀ x ∈ l, -9223372036854775808 ≤ x ∧ x ≤ 9223372036854775807) (hbb : ∀ x ∈ bs, 0 ≤ x ∧ x < 256)
    (h1 : bs.length ≤ 100) (h2 : l.length ≤ 100) (h3 : s.length ≤ 300) :
    Calls Try.prog 6 #[vb, .agg #[vL, .int .i64 N, vS]] w fun e w' => e = .returned (.bool true) ∧ Mod [] w w' := by
  obtain ⟨ab, cb, rfl⟩ := hb.val
  obtain ⟨al, cl, rfl⟩ := hL.val
  obtain ⟨as_, cs, rfl⟩ := hS.val
  have hg1 : decide (100 < bs.length) = false := by simp; omega
  have hg2 : decide (100 < l.length) = false := by simp; omega
  have hg3 : decide (300 < s.length) = false := by simp; omega
  obtain ⟨wb, hwb⟩ : ∃ wb, wb = w.alloc (.cells #[.slice al l.length cl, .int .i64 N, .slice as_ s.length cs] 48) := ⟨_, rfl⟩
  obtain ⟨B, hB⟩ : ∃ B, B = w.heap.size := ⟨_, rfl⟩
  have hbox : Has wb B [.slice al l.length cl, .int .i64 N, .slice as_ s.length cs] 48 := by rw [hwb, hB]; exact Has.new w _ _
  have hmw0 : Mod [] w wb := by rw [hwb]; exact (Mod.refl [] w).alloc _
  have hbox' := Lib.hid hbox
  have hmw := Lib.hid hmw0
  have hb' := Lib.hid hb
  have hL' := Lib.hid hL
  have hS' := Lib.hid hS
  have hl' := Lib.hid hl
  have hbb' := Lib.hid hbb
  have haw := Lib.hid (fun W => awake_true W)
  have hwb' := Lib.hid hwb
  have hB' := Lib.hid hB
  clear hbox hb hL hS hl hbb hmw0 hwb hB
  go_enter Try.func6, Try.ntmps6
  go_wp2_with fail
  rw [← hB'.out, ← hwb'.out]
  refine region_sched (G := Mod []) [([0,1,3,4,5,6],2), ([],7)] [8,9,10,11,12] (by kernel_rfl) (by kernel_rfl) (by kernel_rfl) rfl (Mod.refl []) (fun _ _ _ h1 h2 => h1.trans h2 (by simp)) ?_
  simp only [stages, pickO, nthO, headO, List.cons_append, List.nil_append]
  have fy0 : ∀ m : FutM wb.drew, m.v.cell? ⟨B, 0, none⟩ = some (.slice al l.length cl) := fun m => (hbox'.out.keep ((Mod.refl [] wb).drew.trans m.of (by simp)) (by simp)).cell 0 rfl
  have fy1 : ∀ m : FutM wb.drew, m.v.cell? ⟨B, 1, none⟩ = some (.int .i64 N) := fun m => (hbox'.out.keep ((Mod.refl [] wb).drew.trans m.of (by simp)) (by simp)).cell 1 rfl
  have fy2 : ∀ m : FutM wb.drew, m.v.cell? ⟨B, 2, none⟩ = some (.slice as_ s.length cs) := fun m => (hbox'.out.keep ((Mod.refl [] wb).drew.trans m.of (by simp)) (by simp)).cell 2 rfl
  have p1 := Lib.hid (fun W (h : Rd W 1 (.slice al l.length cl) l.length (vi64 l)) => ints_any (vb := .slice none 0 0) (bs := []) l hl'.out (Rd.nil W 1) (by simp) h (by omega))
  simp only [List.nil_append] at p1
  obtain ⟨z1, hz1⟩ : ∃ z, z = listB signN l := ⟨_, rfl⟩
  rw [← hz1] at p1
  have len1 : z1.length ≤ 1010 := by rw [hz1]; exact Nat.le_trans (listB_len signN l (fun x hx => signN_lt x (hl'.out x hx).1 (hl'.out x hx).2) (by omega)) (by omega)
  have hz1' := Lib.hid hz1
  clear hz1
  refine sched_step ?_
  repeat (go_big_quiet_step (fail))
  refine wpQuiet_nil ?_
  intro K hK
  rw [if_pos (by rfl)]
  go_simp
  refine (p1.out _ (hL'.out.still (hmw.out.trans (Mod.refl [] wb).drew (by simp)))).mono ?_
  rintro e w1 ⟨a1, c1, rfl, hm1⟩
  try dsimp only
  refine hK.out _ _ hm1.mod ?_
  clear hK K
  replace fy1 := FutM.cell hm1.mod fy1
  replace fy2 := FutM.cell hm1.mod fy2
  refine sched_step ?_
  repeat (go_big_quiet_step (fail))
  refine wpQuiet_nil ?_
  intro K hK
  rw [if_pos (by rfl)]
  go_simp
  have hw1 := hmw.out.trans ((Mod.refl [] wb).drew.trans hm1.mod (by simp)) (by simp)
  cases hok : bitsOk N s with
  | false =>
    refine (bits_any (bs := z1) N s (Rd.own hm1.own) (by omega) (hS'.out.still hw1)).mono ?_
    intro e w2 h2b
    simp only [BitsOut, hok] at h2b
    obtain ⟨rfl, hm2⟩ := h2b
    try dsimp only
    refine hK.out _ _ hm2 ?_
    clear hK K
    refine sched_last ?_
    repeat (go_big_quiet_step (fail))
    refine wpQuiet_nil ?_
    have hT := Lib.hid (hw1.trans hm2 (by simp))
    clear fy0 fy1 fy2 hm1 hm2 hw1 p1 hok
    have hbR := hb'.out.still hT.out
    go_wp2_with fail
    refine (new_any hbR (by omega)).mono ?_
    rintro e u1 ⟨r2, a2, c2, rfl, hR2, hu1, hr2n, _⟩
    dsimp only
    have hu1' := Lib.hid (hT.out.trans hu1 (by simp))
    have hr2' := Lib.hid (Nat.le_trans hT.out.size hr2n)
    have hR2' := Lib.hid hR2
    clear hbR hR2 hu1 hr2n
    go_wp2_with fail
    refine (rdNat hR2'.out hbb'.out).mono ?_
    intro e u2 h2
    unfold RNatOut at h2
    rcases hrn : rNat bs 0 false with ⟨n2, k2, s2⟩
    rw [hrn] at h2
    obtain ⟨rfl, hR3, hm3⟩ := h2
    have hcase := Lib.hid (rNat_cases hbb'.out hrn)
    dsimp only
    have hu2 := Lib.hid (hu1'.out.trans hm3 (fun b hb hlt => by have := hr2'.out; simp only [List.mem_singleton] at hb; omega))
    have hR3' := Lib.hid hR3
    clear hR3 hm3 hrn
    go_wp2_with fail
    refine (rdAt hR3'.out).mono ?_
    rintro e u3 ⟨rfl, rfl⟩
    dsimp only
    by_cases hk2 : k2 = 0
    · have hz : n2 = 0 ∧ s2 = true := by
        rcases hcase.out with ⟨_, h1, h2⟩ | ⟨h1, _⟩
        · exact ⟨h1, h2⟩
        · omega
      obtain ⟨rfl, rfl⟩ := hz
      subst hk2
      go_wp2_with fail
      refine (rdEnd hR3'.out).mono ?_
      rintro e u4 ⟨rfl, hm4⟩
      have ee : rEnd bs 0 true = 17 := by simp [rEnd]
      rw [ee]
      dsimp only
      have hu4 := Lib.hid (hu2.out.trans hm4 (by simp))
      clear hm4 ee
      go_wp2_with fail
      refine (haw.out _).mono ?_
      rintro e u5 ⟨rfl, hm5⟩
      dsimp only
      have hu5 := Lib.hid (hu4.out.trans hm5 (by simp))
      clear hm5
      go_wp2_with fail
      go_ret
      exact ⟨rfl, hu5.out⟩
    · have hkk : ((k2 : Int) == 0) = false := by simp; omega
      have hz : n2 < 18446744073709551616 ∧ natB n2 = bs.take k2 ∧ k2 ≤ bs.length := by
        rcases hcase.out with ⟨h0, _⟩ | ⟨_, h⟩
        · omega
        · exact h
      obtain ⟨hn2, hnb, hk2l⟩ := hz
      have hmc : k2 ≤ cb := by
        rcases hb'.out.2 with ⟨he, hz⟩ | ⟨ad, c', he, hz, _⟩
        · omega
        · simp only [Value.slice.injEq, true_and] at he
          obtain ⟨_, rfl⟩ := he
          omega
      have hsl := slice_to (P := Try.prog) (size := 1) 45 (by kernel_rfl) (fun w => by kernel_rfl) ab bs.length cb k2 hmc
      have q1 := Lib.hid (fun W => nat_any (w := W) (vb := .slice none 0 0) (bs := []) n2 hn2 (Rd.nil W 1) (by simp))
      simp only [List.nil_append] at q1
      have htl : (bs.take k2).length = k2 := by rw [List.length_take]; omega
      obtain ⟨z, hz⟩ : ∃ z, z = bs.take k2 := ⟨_, rfl⟩
      rw [hnb, ← hz] at q1
      have hzl : z.length = k2 := by rw [hz, htl]
      have hrz : Hid (∀ W, Mod [] w W → Rd W 1 (.slice ab k2 cb) z.length (u8s z)) := fun W hm => by
        rw [hzl, hz]; exact Rd_to (hb'.out.still hm) hk2l
      rw [hzl] at q1
      obtain ⟨sz, hsz⟩ : ∃ q, q = strOfNums z := ⟨_, rfl⟩
      have hsz' := Lib.hid hsz
      have hzl' := Lib.hid hzl
      clear hz hnb htl hzl hk2 hsz hcase
      go_wp2_with fail
      refine region_sched (G := Mod []) [([0,3,4],1), ([2],5), ([6,7,8,9],10)] [11,12] (by kernel_rfl) (by kernel_rfl) (by kernel_rfl) rfl (Mod.refl []) (fun _ _ _ h1 h2 => h1.trans h2 (by simp)) ?_
      simp only [stages, pickO, nthO, headO, List.cons_append, List.nil_append]
      refine sched_step ?_
      repeat (go_big_quiet_step (fail))
      refine wpQuiet_nil ?_
      intro K hK
      rw [if_pos (by rfl)]
      go_simp
      refine (q1.out _).mono ?_
      rintro e x1 ⟨az, cz, rfl, hx1⟩
      try dsimp only
      refine hK.out _ _ hx1.mod ?_
      clear hK K
      have g1 : ∀ m : FutM x1, (convert 45 9 (.slice az k2 cz)).run Try.prog m.v = .ok (.string sz) m.v := fun m => by
        have h := conv_rd (bs := z) (v := .slice az k2 cz) (by have h := (Rd.own hx1.own).still m.of; rw [hzl'.out]; exact h)
        rwa [← hsz'.out] at h
      have hx0 := Lib.hid (hu2.out.trans ((Mod.refl [] _).drew.trans hx1.mod (by simp)) (by simp))
      have hRx := Lib.hid (hR3'.out.still ((Mod.refl [] _).drew.trans hx1.mod (by simp)))
      refine sched_step ?_
      repeat (go_big_quiet_step (fail))
      refine wpQuiet_nil ?_
      intro K hK
      rw [if_pos (by rfl)]
      go_simp
      refine (rdAt hRx.out).mono ?_
      rintro e x2 ⟨rfl, rfl⟩
      try dsimp only
      refine hK.out _ _ (Mod.refl [] _) ?_
      clear hK K
      have g2 : ∀ m : FutM x1, (convert 45 9 (.slice ab k2 cb)).run Try.prog m.v = .ok (.string sz) m.v := fun m => by
        have h := conv_rd (bs := z) (v := .slice ab k2 cb) (hrz.out m.v (hx0.out.trans m.of (by simp)))
        rwa [← hsz'.out] at h
      refine sched_step ?_
      repeat (go_big_quiet_step (fail))
      refine wpQuiet_nil ?_
      intro K hK
      rw [if_pos (by rfl)]
      go_simp
      refine (haw.out _).mono ?_
      rintro e x3 ⟨rfl, hx3⟩
      try dsimp only
      refine hK.out _ _ hx3 ?_
      clear hK K
      refine sched_last ?_
      repeat (go_big_quiet_step (fail))
      refine wpQuiet_nil ?_
      have hfin := Lib.hid (hx0.out.trans hx3 (by simp))
      clear g1 g2 hx3
      go_wp2_with fail
      go_ret
      exact ⟨rfl, hfin.out⟩
  | true =>
    obtain ⟨S, hS0⟩ : ∃ S, S = packB l N s := ⟨_, rfl⟩
    have hSS : z1 ++ bitsB (wideN N) s = S := by rw [hS0, hz1'.out]; rfl
    have p3 := bits_any (bs := z1) N s (Rd.own hm1.own) (by omega) (hS'.out.still hw1)
    replace p3 := p3.mono fun e w' h => show ∃ a c, e = .returned (.tuple #[.slice a (z1 ++ bitsB (wideN N) s).length c, .bool true]) ∧ Made w1 w' 5 1 a (z1 ++ bitsB (wideN N) s).length c (u8s (z1 ++ bitsB (wideN N) s)) by simpa only [BitsOut, hok, if_true] using h
    rw [hSS] at p3
    have hSl : S.length ≤ 2000 := by
      have h6 : wideN N ≤ 513 := by
        simp only [bitsOk, Bool.and_eq_true, decide_eq_true_eq] at hok
        unfold wideN; omega
      rw [← hSS, List.length_append, bitsB_len]; omega
    have hSb := Lib.hid (show ∀ x ∈ S, 0 ≤ x ∧ x < 256 by rw [hS0]; exact packB_byte l N s hok)
    have b1 := back_count l N s (by omega)
    have b2 := Lib.hid (fun i x hx => back_int l N s i x hx (hl'.out x (List.mem_of_getElem? hx)))
    have b3 := back_bits l N s hok
    have b4 := packB_len l N s
    rw [← hS0] at b1 b2 b3 b4
    have b1' := Lib.hid b1
    have b3' := Lib.hid b3
    have b4' := Lib.hid b4
    clear b1 b3 b4 hSS hS0 hok
    refine p3.mono ?_
    rintro e w2 ⟨a2, c2, rfl, hm2⟩
    try dsimp only
    refine hK.out _ _ hm2.mod ?_
    clear hK K
    refine sched_last ?_
    repeat (go_big_quiet_step (fail))
    refine wpQuiet_nil ?_
    have hm02 := Lib.hid (((Mod.refl [] wb).drew.trans hm1.mod (by simp)).trans hm2.mod (by simp))
    have hm2' := Lib.hid hm2
    clear fy0 fy1 fy2 hm1 hm2 hw1 p1 p3
    go_wp2_with fail
    refine (new_any (Rd.own hm2'.out.own) (by omega)).mono ?_
    rintro e w3 ⟨r, a3, c3, rfl, hR, hmN, hrn, _⟩
    dsimp only
    have hrB : wb.heap.size ≤ r := by have := hm02.out.size; omega
    have hm03 := Lib.hid (hm02.out.trans hmN (by simp))
    have hR' := Lib.hid hR
    clear hR hmN hrn
    go_wp2_with fail
    refine (rdCount hR'.out hSb.out).mono ?_
    intro e w4 h4
    unfold RCountOut at h4
    rw [b1'.out] at h4
    obtain ⟨rfl, hR4, hm4⟩ := h4
    dsimp only
    have hm04 := Lib.hid (freshM hm03.out hm4 hrB)
    have hR4' := Lib.hid hR4
    clear hR4 hm4
    go_wp2_with fail
    go_loopw [9] (fun iv wr => ∃ i : Nat, i ≤ l.length ∧ iv = .int .i64 i ∧ RAt wr r a3 c3 S (posB l i) false ∧ Mod [] wb wr) (fun iv _ => l.length - (intOf iv).toNat)
    case atStart => exact ⟨0, Nat.zero_le _, rfl, hR4'.out, hm04.out⟩
    case round =>
      obtain ⟨i, hi, rfl, hRi, hmi⟩ := hrel
      obtain ⟨wo, hwo⟩ : ∃ wo : World, wo = wr := ⟨_, rfl⟩
      clear hwo
      have hbx := hbox'.out.keep hmi (by simp)
      have d0 := hbx.cell 0 rfl
      have hRi' := Lib.hid hRi
      have hmi' := Lib.hid hmi
      clear hRi hmi hbx
      by_cases hlt : i < l.length
      · obtain ⟨x, hx⟩ : ∃ x, l[i]? = some x := ⟨l[i], List.getElem?_eq_getElem hlt⟩
        obtain ⟨gl, ol, rfl, _, _, _⟩ := hL'.out.at (by rw [vi64_len]; omega)
        have hlt2 : (i : Int) < l.length := by omega
        have hmod : Hid (∀ W, Mod [r] wr.drew W → Mod [] wb W) := fun W m => freshM (hmi'.out.trans (Mod.refl [] wr).drew (by simp)) m hrB
        have fy : ∀ m : Fut (Mod [r]) wr.drew, m.v.cell? ⟨B, 0, none⟩ = some (.slice (some ⟨gl, ol, none⟩) l.length cl) := fun m => (hbox'.out.keep (hmod.out m.v m.of) (by simp)).cell 0 rfl
        have fl : ∀ m : Fut (Mod [r]) wr.drew, m.v.cell? ⟨gl, ol + i, none⟩ = some (.int .i64 x) := fun m => (hL'.out.still (hmw.out.trans (hmod.out m.v m.of) (by simp))).cellAt i (vi64_get hx)
        have hbi := Lib.hid (b2.out i x hx)
        go_wp2_with fail
        refine region_sched (G := Mod [r]) [([0,1,2,3,4,5,6,8,9,10,11,12],7)] [13,14] (by kernel_rfl) (by kernel_rfl) (by kernel_rfl) rfl (Mod.refl [r]) (trM r) ?_
        simp only [stages, pickO, nthO, headO, List.cons_append, List.nil_append]
        refine sched_step ?_
        repeat (go_big_quiet_step (fail))
        refine wpQuiet_nil ?_
        intro K hK
        rw [if_pos (by rfl)]
        go_simp
        refine (rdInt (hRi'.out.still (Mod.refl [] wr).drew) hSb.out).mono ?_
        intro e w5 h5
        unfold RNatOut at h5
        rw [hbi.out] at h5
        obtain ⟨rfl, hR5, hm5⟩ := h5
        dsimp only
        rw [unsign_signN]
        try dsimp only
        refine hK.out _ _ hm5 ?_
        clear hK K
        refine sched_last ?_
        repeat (go_big_quiet_step (fail))
        refine wpQuiet_nil ?_
        have hR5' := Lib.hid hR5
        have hm5' := Lib.hid (hmod.out w5 hm5)
        clear fy fl hR5 hm5 hx d0
        go_wp2_with fail
        go_roundw
        case rel => exact ⟨i + 1, by omega, by go_num, hR5'.out, hm5'.out⟩
        case measure => simp [intOf]; omega
      · have hil : i = l.length := by omega
        subst hil
        have hmod : Hid (∀ W, Mod [r] wr.drew W → Mod [] wb W) := fun W m => freshM (hmi'.out.trans (Mod.refl [] wr).drew (by simp)) m hrB
        have fy0 : ∀ m : Fut (Mod [r]) wr.drew, m.v.cell? ⟨B, 0, none⟩ = some (.slice al l.length cl) := fun m => (hbox'.out.keep (hmod.out m.v m.of) (by simp)).cell 0 rfl
        have fy1 : ∀ m : Fut (Mod [r]) wr.drew, m.v.cell? ⟨B, 1, none⟩ = some (.int .i64 N) := fun m => (hbox'.out.keep (hmod.out m.v m.of) (by simp)).cell 1 rfl
        have fy2 : ∀ m : Fut (Mod [r]) wr.drew, m.v.cell? ⟨B, 2, none⟩ = some (.slice as_ s.length cs) := fun m => (hbox'.out.keep (hmod.out m.v m.of) (by simp)).cell 2 rfl
        go_wp2_with fail
        refine region_sched (G := Mod [r]) [([0,1,2,3,4,5,6,7,8,10,11],9), ([],12), ([13,14,15,16],17)] [18,19] (by kernel_rfl) (by kernel_rfl) (by kernel_rfl) rfl (Mod.refl [r]) (trM r) ?_
        simp only [stages, pickO, nthO, headO, List.cons_append, List.nil_append]
        refine sched_step ?_
        repeat (go_big_quiet_step (fail))
        refine wpQuiet_nil ?_
        intro K hK
        rw [if_pos (by rfl)]
        go_simp
        refine (rdBits N (hRi'.out.still (Mod.refl [] wr).drew) hSb.out).mono ?_
        intro e w5 h5
        unfold RBitsOut at h5
        rw [b3'.out] at h5
        dsimp only at h5
        obtain ⟨v5, rfl, hv5, hn5, hR5, hm5⟩ := h5
        obtain ⟨a5, c5, rfl⟩ := hv5.val
        try dsimp only
        refine hK.out _ _ hm5 ?_
        clear hK K
        have hm05 := Lib.hid (hmod.out w5 hm5)
        refine sched_step ?_
        repeat (go_big_quiet_step (fail))
        refine wpQuiet_nil ?_
        intro K hK
        rw [if_pos (by rfl)]
        go_simp
        refine (same_any hv5 (hS'.out.still (hmw.out.trans hm05.out (by simp)))).mono ?_
        rintro e w6 ⟨rfl, hm6⟩
        have ee : eqI s s = true := by simp [eqI]
        rw [ee]
        try dsimp only
        refine hK.out _ _ hm6.mod.of0 ?_
        clear hK K
        refine sched_step ?_
        repeat (go_big_quiet_step (fail))
        refine wpQuiet_nil ?_
        intro K hK
        rw [if_pos (by rfl)]
        go_simp
        refine (rdEnd (hR5.still hm6.mod)).mono ?_
        rintro e w7 ⟨rfl, hm7⟩
        have e7 : rEnd S (posB l l.length + wideN N) false = 0 := by rw [← b4'.out]; simp [rEnd]
        rw [e7]
        try dsimp only
        refine hK.out _ _ hm7.of0 ?_
        clear hK K
        refine sched_last ?_
        repeat (go_big_quiet_step (fail))
        refine wpQuiet_nil ?_
        have hT := Lib.hid (hmw.out.trans (hm05.out.trans (hm6.mod.trans hm7 (by simp)) (by simp)) (by simp))
        clear fy0 fy1 fy2 hv5 hn5 hR5 hm5 hm6 hm7 ee e7 d0
        have hbR := hb'.out.still hT.out
        go_wp2_with fail
        refine (new_any hbR (by omega)).mono ?_
        rintro e u1 ⟨r2, a2, c2, rfl, hR2, hu1, hr2n, _⟩
        dsimp only
        have hu1' := Lib.hid (hT.out.trans hu1 (by simp))
        have hr2' := Lib.hid (Nat.le_trans hT.out.size hr2n)
        have hR2' := Lib.hid hR2
        clear hbR hR2 hu1 hr2n
        go_wp2_with fail
        refine (rdNat hR2'.out hbb'.out).mono ?_
        intro e u2 h2
        unfold RNatOut at h2
        rcases hrn : rNat bs 0 false with ⟨n2, k2, s2⟩
        rw [hrn] at h2
        obtain ⟨rfl, hR3, hm3⟩ := h2
        have hcase := Lib.hid (rNat_cases hbb'.out hrn)
        dsimp only
        have hu2 := Lib.hid (hu1'.out.trans hm3 (fun b hb hlt => by have := hr2'.out; simp only [List.mem_singleton] at hb; omega))
        have hR3' := Lib.hid hR3
        clear hR3 hm3 hrn
        go_wp2_with fail
        refine (rdAt hR3'.out).mono ?_
        rintro e u3 ⟨rfl, rfl⟩
        dsimp only
        by_cases hk2 : k2 = 0
        · have hz : n2 = 0 ∧ s2 = true := by
            rcases hcase.out with ⟨_, h1, h2⟩ | ⟨h1, _⟩
            · exact ⟨h1, h2⟩
            · omega
          obtain ⟨rfl, rfl⟩ := hz
          subst hk2
          go_wp2_with fail
          refine (rdEnd hR3'.out).mono ?_
          rintro e u4 ⟨rfl, hm4⟩
          have ee : rEnd bs 0 true = 17 := by simp [rEnd]
          rw [ee]
          dsimp only
          have hu4 := Lib.hid (hu2.out.trans hm4 (by simp))
          clear hm4 ee
          go_wp2_with fail
          refine (haw.out _).mono ?_
          rintro e u5 ⟨rfl, hm5⟩
          dsimp only
          have hu5 := Lib.hid (hu4.out.trans hm5 (by simp))
          clear hm5
          go_wp2_with fail
          go_ret
          exact ⟨rfl, hu5.out⟩
        · have hkk : ((k2 : Int) == 0) = false := by simp; omega
          have hz : n2 < 18446744073709551616 ∧ natB n2 = bs.take k2 ∧ k2 ≤ bs.length := by
            rcases hcase.out with ⟨h0, _⟩ | ⟨_, h⟩
            · omega
            · exact h
          obtain ⟨hn2, hnb, hk2l⟩ := hz
          have hmc : k2 ≤ cb := by
            rcases hb'.out.2 with ⟨he, hz⟩ | ⟨ad, c', he, hz, _⟩
            · omega
            · simp only [Value.slice.injEq, true_and] at he
              obtain ⟨_, rfl⟩ := he
              omega
          have hsl := slice_to (P := Try.prog) (size := 1) 45 (by kernel_rfl) (fun w => by kernel_rfl) ab bs.length cb k2 hmc
          have q1 := Lib.hid (fun W => nat_any (w := W) (vb := .slice none 0 0) (bs := []) n2 hn2 (Rd.nil W 1) (by simp))
          simp only [List.nil_append] at q1
          have htl : (bs.take k2).length = k2 := by rw [List.length_take]; omega
          obtain ⟨z, hz⟩ : ∃ z, z = bs.take k2 := ⟨_, rfl⟩
          rw [hnb, ← hz] at q1
          have hzl : z.length = k2 := by rw [hz, htl]
          have hrz : Hid (∀ W, Mod [] w W → Rd W 1 (.slice ab k2 cb) z.length (u8s z)) := fun W hm => by
            rw [hzl, hz]; exact Rd_to (hb'.out.still hm) hk2l
          rw [hzl] at q1
          obtain ⟨sz, hsz⟩ : ∃ q, q = strOfNums z := ⟨_, rfl⟩
          have hsz' := Lib.hid hsz
          have hzl' := Lib.hid hzl
          clear hz hnb htl hzl hk2 hsz hcase
          go_wp2_with fail
          refine region_sched (G := Mod []) [([0,3,4],1), ([2],5), ([6,7,8,9],10)] [11,12] (by kernel_rfl) (by kernel_rfl) (by kernel_rfl) rfl (Mod.refl []) (fun _ _ _ h1 h2 => h1.trans h2 (by simp)) ?_
          simp only [stages, pickO, nthO, headO, List.cons_append, List.nil_append]
          refine sched_step ?_
          repeat (go_big_quiet_step (fail))
          refine wpQuiet_nil ?_
          intro K hK
          rw [if_pos (by rfl)]
          go_simp
          refine (q1.out _).mono ?_
          rintro e x1 ⟨az, cz, rfl, hx1⟩
          try dsimp only
          refine hK.out _ _ hx1.mod ?_
          clear hK K
          have g1 : ∀ m : FutM x1, (convert 45 9 (.slice az k2 cz)).run Try.prog m.v = .ok (.string sz) m.v := fun m => by
            have h := conv_rd (bs := z) (v := .slice az k2 cz) (by have h := (Rd.own hx1.own).still m.of; rw [hzl'.out]; exact h)
            rwa [← hsz'.out] at h
          have hx0 := Lib.hid (hu2.out.trans ((Mod.refl [] _).drew.trans hx1.mod (by simp)) (by simp))
          have hRx := Lib.hid (hR3'.out.still ((Mod.refl [] _).drew.trans hx1.mod (by simp)))
          refine sched_step ?_
          repeat (go_big_quiet_step (fail))
          refine wpQuiet_nil ?_
          intro K hK
          rw [if_pos (by rfl)]
          go_simp
          refine (rdAt hRx.out).mono ?_
          rintro e x2 ⟨rfl, rfl⟩
          try dsimp only
          refine hK.out _ _ (Mod.refl [] _) ?_
          clear hK K
          have g2 : ∀ m : FutM x1, (convert 45 9 (.slice ab k2 cb)).run Try.prog m.v = .ok (.string sz) m.v := fun m => by
            have h := conv_rd (bs := z) (v := .slice ab k2 cb) (hrz.out m.v (hx0.out.trans m.of (by simp)))
            rwa [← hsz'.out] at h
          refine sched_step ?_
          repeat (go_big_quiet_step (fail))
          refine wpQuiet_nil ?_
          intro K hK
          rw [if_pos (by rfl)]
          go_simp
          refine (haw.out _).mono ?_
          rintro e x3 ⟨rfl, hx3⟩
          try dsimp only
          refine hK.out _ _ hx3 ?_
          clear hK K
          refine sched_last ?_
          repeat (go_big_quiet_step (fail))
          refine wpQuiet_nil ?_
          have hfin := Lib.hid (hx0.out.trans hx3 (by simp))
          clear g1 g2 hx3
          go_wp2_with fail
          go_ret
          exact ⟨rfl, hfin.out⟩
set_option maxRecDepth 100000 in
set_option maxHeartbeats 4000000 in
theorem back_far {w : World} {ab al as_ : Option Addr} {nb cb nl cl ns cs : Nat} (N : Int) (h : 100 < nb ∨ 100 < nl ∨ 300 < ns) :
    Calls Try.prog 6 #[.slice ab nb cb, .agg #[.slice al nl cl, .int .i64 N, .slice as_ ns cs]] w fun e w' => e = .returned (.bool true) ∧ Mod [] w w' := by
  have haw := Lib.hid (fun W => awake_true W)
  have hm := Lib.hid ((Mod.refl [] w).alloc (.cells #[.slice al nl cl, .int .i64 N, .slice as_ ns cs] 48))
  have h' := Lib.hid h
  clear h
  by_cases h1 : 100 < nb
  · have g1 : decide (100 < (nb : Int)) = true := by simp; omega
    have g1' : decide (100 < nb) = true := by simpa using h1
    go_enter Try.func6, Try.ntmps6
    go_wp2_with fail
    refine (haw.out _).mono ?_
    rintro e w1 ⟨rfl, hm1⟩
    dsimp only
    have hf := Lib.hid (hm.out.trans hm1 (by simp))
    clear hm1
    go_wp2_with fail
    go_ret
    exact ⟨rfl, hf.out⟩
  · have g1 : decide (100 < (nb : Int)) = false := by simp; omega
    have g1' : decide (100 < nb) = false := by simpa using h1
    by_cases h2 : 100 < nl
    · have g2 : decide (100 < (nl : Int)) = true := by simp; omega
      have g2' : decide (100 < nl) = true := by simpa using h2
      go_enter Try.func6, Try.ntmps6
      go_wp2_with fail
      refine (haw.out _).mono ?_
      rintro e w1 ⟨rfl, hm1⟩
      dsimp only
      have hf := Lib.hid (hm.out.trans hm1 (by simp))
      clear hm1
      go_wp2_with fail
      go_ret
      exact ⟨rfl, hf.out⟩
    · have g2 : decide (100 < (nl : Int)) = false := by simp; omega
      have g2' : decide (100 < nl) = false := by simpa using h2
      have h3 : 300 < ns := by have := h'.out; omega
      have g3 : decide (300 < (ns : Int)) = true := by simp; omega
      have g3' : decide (300 < ns) = true := by simpa using h3
      go_enter Try.func6, Try.ntmps6
      go_wp2_with fail
      refine (haw.out _).mono ?_
      rintro e w1 ⟨rfl, hm1⟩
      dsimp only
      have hf := Lib.hid (hm.out.trans hm1 (by simp))
      clear hm1
      go_wp2_with fail
      go_ret
      exact ⟨rfl, hf.out⟩
theorem back_all {w : World} {vb vL vS : Value} (bs l : List Int) (N : Int) (s : List Int) (hb : Rd w 1 vb bs.length (u8s bs)) (hL : Rd w 1 vL l.length (vi64 l)) (hS : Rd w 1 vS s.length (vi64 s))
    (hl : ∀ x ∈ l, (Lit.int .i64 x).wf = true) (hbb : ∀ x ∈ bs, (Lit.int .u8 x).wf = true) :
    Calls Try.prog 6 #[vb, .agg #[vL, .int .i64 N, vS]] w fun e w' => e = .returned (.bool true) ∧ Mod [] w w' := by
  by_cases h : 100 < bs.length ∨ 100 < l.length ∨ 300 < s.length
  · obtain ⟨ab, cb, rfl⟩ := hb.val
    obtain ⟨al, cl, rfl⟩ := hL.val
    obtain ⟨as_, cs, rfl⟩ := hS.val
    exact back_far N h
  · exact back_any bs l N s hb hL hS (fun x hx => wf64 (hl x hx)) (fun x hx => wf8 (hbb x hx)) (by omega) (by omega) (by omega)
end Code
end Go.Proofs.Ytmkbinbggiocaaa
