/- The law of shares: its walk. -/
import Derived.Test.YtmkbinbggiocaaaAwake44
import Derived.Test.YtmkbinbggiocaaaKit3
import Derived.Deep.DeepCutAuto
import Derived.Deep.CutBlock
set_option linter.unusedVariables false
set_option linter.unusedSimpArgs false
namespace Go.Proofs.Ytmkbinbggiocaaa
open Go.RowKit
namespace Ratio
open Go.Proofs.Ytmkbinbggiocaaa.Code Go.Proofs.Ytmkbinbggiocaaa.Fl
def vu64 (l : List Nat) : List Value := l.map fun (m : Nat) => .int .u64 (m : Int)
theorem vu64_len (l : List Nat) : (vu64 l).length = l.length := by simp [vu64]
theorem rd_u64 {w : World} {a : Option Addr} {c k : Nat} {l : List Nat} (h : Rd w 1 (.slice a l.length c) l.length (vu64 l)) (hk : k < l.length) :
    ∃ g o, a = some ⟨g, o, none⟩ ∧ w.cell? ⟨g, o + k, none⟩ = some (.int .u64 (l.getD k 0 : Nat)) := by
  obtain ⟨g, o, rfl, _, _, hc⟩ := h.at (by rw [vu64_len]; omega)
  exact ⟨g, o, rfl, hc k _ (by simp [vu64, List.getElem?_eq_getElem hk, List.getD_eq_getElem?_getD])⟩
theorem infoF : (Try.prog.info? 81).map (fun i => (i.zero, i.size, i.bytes)) = some (some (.float .f64 0), 1, 8) := by kernel_rfl
/-- Is one of the first k a NaN, or is there none at all? -/
def noneB (L : List Nat) (k : Nat) : Bool := ((L.length : Int) == 0) || (L.take k).any fun m => (fl m).isNone
theorem noneB_succ {L : List Nat} {k : Nat} (h : k < L.length) : noneB L (k + 1) = (noneB L k || (fl (L.getD k 0)).isNone) := by
  unfold noneB
  rw [List.take_add_one, List.getElem?_eq_getElem h, List.getD_eq_getElem?_getD, List.getElem?_eq_getElem h]
  simp only [List.any_append, Option.toList, List.any_cons, List.any_nil, Bool.or_false, Bool.or_assoc, Option.getD_some]
theorem vf64_snoc {L : List Nat} {k : Nat} (h : k < L.length) : vf64 (L.take (k + 1)) = vf64 (L.take k) ++ [.float .f64 (L.getD k 0)] := by
  unfold vf64
  rw [List.take_add_one, List.getElem?_eq_getElem h, List.getD_eq_getElem?_getD, List.getElem?_eq_getElem h]
  simp only [List.map_append, Option.toList, List.map_cons, List.map_nil, Option.getD_some]
theorem noneB_law (L : List Nat) (h : noneB L L.length = true) : fquo (fsum L) (some (cv L.length)) = none := by
  unfold noneB at h
  rw [List.take_length, Bool.or_eq_true] at h
  rcases h with h | h
  · have h0 : L = [] := List.eq_nil_of_length_eq_zero (by have := eq_of_beq h; omega)
    subst h0
    decide +kernel
  · rw [List.any_eq_true] at h
    obtain ⟨b, hb, hn⟩ := h
    rw [fsum_none hb (by simpa using hn)]
    rfl
set_option maxRecDepth 100000 in
set_option maxHeartbeats 4000000 in
theorem shares_any {w : World} {v : Value} {a b : Int} {L : List Nat} (h : Rd w 1 v L.length (vu64 L)) (hb : ∀ m ∈ L, m < 18446744073709551616) (ha : a.natAbs < 18446744073709551616) (hb2 : b.natAbs < 18446744073709551616) :
    Calls Try.prog 8 #[.int .i64 a, .int .i64 b, v] w fun e w' => e = .returned (.bool true) ∧ Mod [] w w' := by
  obtain ⟨a1, c1, rfl⟩ := h.val
  have hm1 := h.le
  have h' := Lib.hid h
  have hbd := Lib.hid hb
  clear h hb
  by_cases hlen : 100 < L.length
  · have hlen' : (100 : Int) < L.length := by omega
    go_enter Try.func8, Try.ntmps8
    go_wp2_with fail
    refine (awake44 _).mono ?_
    rintro e w' ⟨rfl, hm⟩
    try dsimp only
    go_wp2_with fail
    go_ret
    exact ⟨rfl, hm⟩
  · have hlen1 : (L.length : Int) ≤ 100 := by omega
    have hlen2 : L.length ≤ 100 := by omega
    clear hlen
    have hsl := share_law ha hb2
    have hsz := Lib.hid (share_zero b hb2)
    clear ha hb2
    go_enter Try.func8, Try.ntmps8
    go_wp2_with fail
    refine (of_any _ _).mono ?_
    rintro e w1 ⟨rfl, rfl⟩
    try dsimp only
    have hzz : Int.toNat 0 = 0 := rfl
    rw [hzz]
    clear hzz
    have hA : Hid (a ≠ 0 ∨ b = 0 → ∀ (w0 : World), ∃ (q : Nat) (w1 : World), (binOp .quo 81 (.float .f64 (cv a)) (.float .f64 (cv b))).run Try.prog w0 = .ok (.float .f64 q) w1 ∧ fplain (fquo (some (cv a)) (some (cv b))) = fl q ∧ Mod [] w0 w1) := Lib.hid (fun hc w0 => by
      obtain ⟨q, w1, hrun, hq, _, hw⟩ := run_quo (P := Try.prog) w0 81 (cv a) (cv b)
      rw [fl_cv, fl_cv] at hq
      refine ⟨q, w1, hrun, by rw [hsl, if_pos hc, hq], ?_⟩
      rcases hw with rfl | rfl
      · exact Mod.refl _ _
      · exact (Mod.refl _ _).drew)
    have hB : Hid (¬ (a ≠ 0 ∨ b = 0) → fplain (fquo (some (cv a)) (some (cv b))) = fl 0) := Lib.hid (fun hc => by
      rw [hsl, if_neg hc]; decide +kernel)
    clear hsl
    have hways : (a = 0 ∧ b = 0) ∨ (a != 0) = true ∨ (a = 0 ∧ (b == 0) = false) := by
      by_cases h1 : a = 0
      · by_cases h2 : b = 0
        · exact .inl ⟨h1, h2⟩
        · exact .inr (.inr ⟨h1, by simpa using h2⟩)
      · exact .inr (.inl (by simpa using h1))
    rcases hways with hw | hw | hw
    case' inl =>
      obtain ⟨qw, w2, hrun, hq, hm⟩ := hA.out (.inr hw.2) w1
      obtain ⟨rfl, rfl⟩ := hw
    case' inr.inl =>
      obtain ⟨qw, w2, hrun, hq, hm⟩ := hA.out (.inl (by simpa using hw)) w1
    case' inr.inr =>
      have hq := hB.out (by have := hw.2; simp at this; simp [hw.1, this])
      have hm := Mod.refl [] w1
      have hrun : True := trivial
      obtain ⟨rfl, hb0⟩ := hw
    all_goals
      have hq' := Lib.hid hq
      have hm' := Lib.hid hm
      clear hq hm hA hB
      try unfold cv at hrun
      go_upto_region 6 with fail
      go_wp2_with fail
      try clear hrun
      go_loopw [8, 9, 10, 11] (fun f s z i wr => ∃ (k sb : Nat) (av : Option Addr) (cv0 : Nat) (nb : Bool), k ≤ L.length ∧ f = .slice av k cv0 ∧ s = .float .f64 sb ∧ z = .bool nb ∧ i = .int .i64 k ∧ Hid (nb = noneB L k) ∧ Hid (fl sb = fsum (L.take k)) ∧ Hid (Made w1 wr 81 1 av k cv0 (vf64 (L.take k)))) (fun _ _ _ i _ => L.length - (intOf i).toNat)
      case atStart => exact ⟨0, 0, none, 0, _, Nat.zero_le _, rfl, rfl, rfl, rfl, Lib.hid (by simp [noneB]), Lib.hid (by rw [List.take_zero]; decide +kernel), Lib.hid ⟨World.ownsRow_nil _ _ _ _, hm'.out, by simp [Value.ownBlock]⟩⟩
      case round =>
        obtain ⟨k, sb, av, cv0, nb, hk, rfl, rfl, rfl, rfl, hnb, hsb, hmd⟩ := hrel
        by_cases hlt : k < L.length
        · obtain ⟨g1, o1, rfl, hc1⟩ := rd_u64 (h'.out.still hmd.out.mod) hlt
          have hlt1 : (k : Int) < L.length := by omega
          have hmem : L.getD k 0 ∈ L := by rw [List.getD_eq_getElem?_getD, List.getElem?_eq_getElem hlt]; exact List.getElem_mem _
          have hmb := hbd.out _ hmem
          have hns := Lib.hid (noneB_succ hlt)
          have hvs := Lib.hid (vf64_snoc hlt)
          have hfs := Lib.hid (fsum_take hlt)
          have hgt : (vu64 L)[k]? = some (.int .u64 (L.getD k 0 : Nat)) := by simp [vu64, List.getElem?_eq_getElem hlt, List.getD_eq_getElem?_getD]
          clear hmem
          generalize L.getD k 0 = m at *
          go_upto_region 13 with fail
          refine (of_any _ _).mono ?_
          rintro e w3 ⟨rfl, rfl⟩
          try dsimp only
          rw [Int.toNat_natCast]
          go_upto_region 13 with (at_builtin; refine app_own rfl (.tmp 39) (.tmp 45) 83 81 _ 1 8 rfl Try.underlying83 infoF rfl (by omega) (by omega) (.slice av k cv0) k 1 (vf64 (L.take k)) [.float .f64 m] rfl rfl rfl rfl (by simp [Value.oneCell']) hmd.out.own (by omega) ?_; intro aA cA wA hownA hmA hvA)
          rw [← hvs.out] at hownA
          have hmd2 : Made w1 wA 81 1 aA (k + 1) cA (vf64 (L.take (k + 1))) := hmd.out.push hownA hmA hvA
          obtain ⟨gA, rfl⟩ := hmd2.form (by omega)
          have hcA := hmd2.cell k (u := .float .f64 m) (by
            rw [hvs.out, List.getElem?_append_right (by rw [vf64_len, List.length_take]; omega), vf64_len, List.length_take, show k - min k L.length = 0 by omega]
            rfl)
          obtain ⟨qs, w4, hrun2, hqs, _, hw4⟩ := run_add (P := Try.prog) wA 81 sb m
          have hm4 : Mod [] wA w4 := by
            rcases hw4 with rfl | rfl
            · exact Mod.refl _ _
            · exact (Mod.refl _ _).drew
          have hmd4 := Lib.hid (hmd2.still hm4)
          have hqs' := Lib.hid (show fl qs = fsum (L.take (k + 1)) by rw [hfs.out, hqs, hsb.out])
          have hrd4 := Rd.cellAt (h'.out.still hmd4.out.mod) k (u := .int .u64 m) hgt
          clear hmd2 hownA hmA hvA hm4 hw4 hqs hsb hmd
          have hcA4 := hcA
          go_upto_region 14 with fail
          clear hrun2 hcA hcA4
          cases nb
          case' true =>
            have hnb' := Lib.hid (show true = noneB L (k + 1) by rw [hns.out, ← hnb.out]; rfl)
            clear hnb
            go_wp2_with fail
          case' false =>
            go_wp2_with fail
            refine (kind02 _ m hmb).mono ?_
            rintro e w5 ⟨kk, rfl, hkk, rfl⟩
            try dsimp only
            have hnb' := Lib.hid (show (kk == 0) = noneB L (k + 1) by rw [hns.out, ← hnb.out, hkk]; rfl)
            generalize hkb : (kk == 0) = kb at *
            clear hkk hnb
            go_wp2_with fail
          all_goals
            go_roundw
            case rel => exact ⟨k + 1, qs, _, cA, _, by omega, rfl, rfl, rfl, by go_num, hnb', hqs', hmd4⟩
            case measure => simp [intOf]; omega
        · have hk' : k = L.length := by omega
          subst hk'
          rw [List.take_length] at hsb hmd
          have hrd := Lib.hid (Rd.own hmd.out.own)
          have hmw := Lib.hid hmd.out.mod
          have hnl := Lib.hid (noneB_law L)
          have hzl := Lib.hid (show L.length = 0 → fquo (fsum L) (some (cv L.length)) = none from fun h => noneB_law L (by unfold noneB; rw [h]; rfl))
          rw [← hnb.out] at hnl
          clear hmd hnb
          go_wp2_with fail
          refine (nan44 _).mono ?_
          rintro e w4 ⟨rfl, rfl⟩
          try dsimp only
          by_cases h0 : L.length = 0
          case' pos =>
            have hme := Lib.hid (show fl 9221120237041090560 = fquo (fsum L) (some (cv L.length)) by rw [hzl.out h0]; decide +kernel)
            have hm5 := hmw
            have hrd5 := hrd
            have hg : ¬ ((L.length : Int) > 0) := by omega
            have hrun : True := trivial
          case' neg =>
            obtain ⟨q, w5, hrun, hq, _, hw⟩ := run_quo (P := Try.prog) w4 81 sb (cv L.length)
            have hm45 : Mod [] w4 w5 := by
              rcases hw with rfl | rfl
              · exact Mod.refl _ _
              · exact (Mod.refl _ _).drew
            have hme := Lib.hid (show fl q = fquo (fsum L) (some (cv L.length)) by rw [hq, hsb.out, fl_cv])
            have hm5 := Lib.hid (hmw.out.trans hm45 (by simp))
            have hrd5 := Lib.hid (hrd.out.still hm45)
            have hg : (L.length : Int) > 0 := by omega
            unfold cv at hrun
            clear hm45 hq hw
          all_goals
            clear hmw hrd hzl h0 hsb h' hbd
            go_upto_region 18 with fail
            try clear hrun
            clear hg
            go_wp2_with fail
            refine (mean_any hrd5.out).mono ?_
            rintro e w6 ⟨rm, rfl, hrm, hm6⟩
            try dsimp only
            have hm7 := Lib.hid (hm5.out.trans hm6 (by simp))
            have hrm' := Lib.hid hrm
            clear hrm hm6 hm5 hrd5
            go_wp2_with fail
            refine (share_any _ _ _).mono ?_
            rintro e w8 ⟨rs, rfl, hrs, hm8⟩
            try dsimp only
            have hm9 := Lib.hid (hm7.out.trans hm8 (by simp))
            have hrs' := Lib.hid hrs
            clear hrs hm8 hm7
            go_wp2_with fail
            refine (same44 _ _ _).mono ?_
            rintro e w10 ⟨rfl, rfl⟩
            try dsimp only
            rw [show decide (bitsF (fl rs) = _) = true from decide_eq_true (by rw [hrs'.out, hq'.out])]
            clear hrs' hq'
            go_wp2_with fail
            refine (same44 _ _ _).mono ?_
            rintro e w11 ⟨rfl, rfl⟩
            try dsimp only
            rw [show decide (bitsF (fl rm) = _) = true from decide_eq_true (by rw [hrm'.out, hme.out])]
            cases nb
            case' true =>
              have hrn := (show fl rm = none by rw [hrm'.out, hnl.out rfl])
              clear hrm' hme hnl
              go_wp2_with fail
              refine (kind_nan _ _ hrn).mono ?_
              rintro e w12 ⟨rfl, rfl⟩
              try dsimp only
              clear hrn
              go_wp2_with fail
            case' false =>
              clear hrm' hme hnl
              go_wp2_with fail
            all_goals
              refine (share_any _ _ _).mono ?_
              rintro e w13 ⟨rz, rfl, hrz, hm13⟩
              try dsimp only
              have hm14 := Lib.hid (hm9.out.trans hm13 (by simp))
              have hneg : fl rz = none ∨ rz = 0 := by
                rcases hsz.out with h | h
                · exact .inl (hrz.trans h)
                · have := fl_some (hrz.trans h)
                  exact .inr this.1.symm
              clear hrz hm13 hm9 hsz
              go_wp2_with fail
              refine (neg_no _ _ hneg).mono ?_
              rintro e w15 ⟨rfl, rfl⟩
              try dsimp only
              clear hneg
              go_wp2_with fail
              refine (awake44 _).mono ?_
              rintro e w16 ⟨rfl, hm16⟩
              try dsimp only
              have hm17 := Lib.hid (hm14.out.trans hm16 (by simp))
              clear hm14 hm16
              go_wp2_with fail
              go_ret
              exact ⟨rfl, hm17.out⟩
theorem wfu64 {x : Int} (h : (Lit.int .u64 x).wf = true) : 0 ≤ x ∧ x < 18446744073709551616 := by
  simp only [Lit.wf, Bool.and_eq_true, decide_eq_true_eq] at h
  have h1 : IntKind.u64.min = 0 := by decide +kernel
  have h2 : IntKind.u64.max = 18446744073709551615 := by decide +kernel
  rw [h1, h2] at h
  omega
theorem wfi64 {x : Int} (h : (Lit.int .i64 x).wf = true) : x.natAbs < 18446744073709551616 := by
  simp only [Lit.wf, Bool.and_eq_true, decide_eq_true_eq] at h
  have h1 : IntKind.i64.min = -9223372036854775808 := by decide +kernel
  have h2 : IntKind.i64.max = 9223372036854775807 := by decide +kernel
  rw [h1, h2] at h
  omega
theorem shares_all {w : World} {v : Value} (a b : Int) (l : List Int) (h : Rd w 1 v l.length (l.map fun x => .int .u64 x)) (hl : ∀ x ∈ l, (Lit.int .u64 x).wf = true) (ha : (Lit.int .i64 a).wf = true) (hb : (Lit.int .i64 b).wf = true) :
    Calls Try.prog 8 #[.int .i64 a, .int .i64 b, v] w fun e w' => e = .returned (.bool true) ∧ Mod [] w w' := by
  have e : vu64 (l.map Int.toNat) = l.map fun x => .int .u64 x := by
    unfold vu64
    rw [List.map_map]
    refine List.map_congr_left fun x hx => ?_
    have := wfu64 (hl x hx)
    simp only [Function.comp]
    rw [Int.toNat_of_nonneg this.1]
  refine shares_any (L := l.map Int.toNat) (by rw [e, List.length_map]; exact h) (fun m hm => ?_) (wfi64 ha) (wfi64 hb)
  obtain ⟨x, hx, rfl⟩ := List.mem_map.1 hm
  have := wfu64 (hl x hx)
  omega
end Ratio
end Go.Proofs.Ytmkbinbggiocaaa
