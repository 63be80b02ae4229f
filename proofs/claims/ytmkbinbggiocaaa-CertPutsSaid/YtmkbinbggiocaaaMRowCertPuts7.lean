/- Same of certificates, by the program and by the reference; wide. wide: is a certificate too great for a statement? Certificates that are being read: the box of four rows that grow. Certificates that are being read: how each part of a vertex is read. Certificates that are being read: the sets and the flows of a vertex. Certificates that are being read: the flows of a vertex. -/
import Derived.Deep.RegionLaw
import Derived.Test.YtmkbinbggiocaaaMRowCertPuts6
set_option linter.unusedVariables false
set_option linter.unusedSimpArgs false
namespace Go.Proofs.Ytmkbinbggiocaaa
open Go.RowKit
namespace Code.Cert
def sameC (c d : CertV) : Bool := (eqI c.up d.up && eqI c.ws d.ws) && eqR c.sides d.sides && eqR c.flows d.flows
theorem old_cell {w w' : World} (m : Mod [] w w') {p : Addr} {v : Value} (h : w.cell? p = some v) : w'.cell? p = some v := (World.cell?_of_block (m.block _ (World.block_lt_of_cell? w _ h) (by simp))).trans h
set_option maxRecDepth 100000 in
set_option maxHeartbeats 8000000 in
theorem same_prog {w : World} {vu vw vs vf xu xw xs xf : Value} (c d : CertV) (h : CRep w vu vw vs vf c) (k : CRep w xu xw xs xf d) :
    Calls Try.prog 91 #[.agg #[vu, vw, vs, vf], .agg #[xu, xw, xs, xf]] w (BoolM (sameC c d) w) := by
  obtain ⟨wb, hwb⟩ : ∃ wb, wb = (w.alloc (.cells #[vu, vw, vs, vf] 128)).alloc (.cells #[xu, xw, xs, xf] 128) := ⟨_, rfl⟩
  obtain ⟨B, hB⟩ : ∃ B, B = w.heap.size := ⟨_, rfl⟩
  have hm0 : Mod [] w wb := by rw [hwb]; exact ((Mod.refl [] w).alloc _).alloc _
  have h1 : Has wb B [vu, vw, vs, vf] 128 := by rw [hwb, hB]; exact (Has.new w _ _).alloc _
  have h2 : Has wb (B + 1) [xu, xw, xs, xf] 128 := by
    have := Has.new (w.alloc (.cells #[vu, vw, vs, vf] 128)) [xu, xw, xs, xf] 128
    rw [World.size_alloc] at this
    rw [hwb, hB]; exact this
  obtain ⟨au, cu, aw, cw, sa, cs, af, cf, rfl, rfl, rfl, rfl⟩ := h.vals
  obtain ⟨bu, du, bw, dw, sb, ds, bf, df, rfl, rfl, rfl, rfl⟩ := k.vals
  have hc := Lib.hid (h.still hm0)
  have hk := Lib.hid (k.still hm0)
  have h1' := Lib.hid h1
  have h2' := Lib.hid h2
  have hm0' := Lib.hid hm0
  have hwb' := Lib.hid hwb
  have hB' := Lib.hid hB
  clear h k h1 h2 hm0 hwb hB
  have kT := Lib.hid (tree_same hc.out.up hc.out.ws hk.out.up hk.out.ws)
  have kS := Lib.hid (fun W (m : Mod [] wb W) => equalf_int (hc.out.sides.still m) (hk.out.sides.still m))
  have kF := Lib.hid (fun W (m : Mod [] wb W) => equalf_i64 (hc.out.flows.still m) (hk.out.flows.still m))
  go_enter Try.func91, Try.ntmps91
  go_wp2_with fail
  rw [← hB'.out, ← hwb'.out]
  refine kT.out.mono ?_
  rintro e w1 ⟨rfl, m1⟩
  try dsimp only
  have d0 := (h1'.out.keep m1 (by simp)).cell 0 rfl
  have d1 := (h1'.out.keep m1 (by simp)).cell 1 rfl
  have d2 := (h1'.out.keep m1 (by simp)).cell 2 rfl
  have d3 := (h1'.out.keep m1 (by simp)).cell 3 rfl
  have dl := (h1'.out.keep m1 (by simp)).lt
  have g0 := (h2'.out.keep m1 (by simp)).cell 0 rfl
  have g1 := (h2'.out.keep m1 (by simp)).cell 1 rfl
  have g2 := (h2'.out.keep m1 (by simp)).cell 2 rfl
  have g3 := (h2'.out.keep m1 (by simp)).cell 3 rfl
  have gl := (h2'.out.keep m1 (by simp)).lt
  have m1' := Lib.hid m1
  have mw1 := Lib.hid (hm0'.out.trans m1 (by simp))
  clear m1
  cases hq : (eqI c.up d.up && eqI c.ws d.ws) with
  | false =>
    have hf : Hid (sameC c d = false) := by show _ = _; unfold sameC; rw [hq]; rfl
    clear hq
    go_wp2_with fail
    go_ret
    exact ⟨by rw [hf.out]; rfl, mw1.out⟩
  | true =>
    have hq' := Lib.hid hq
    clear hq
    go_wp2_with fail
    refine (kS.out _ m1'.out).mono ?_
    rintro e w2 ⟨rfl, hd2⟩
    try dsimp only
    have m2 := m1'.out.trans hd2.mod (by simp)
    clear hd2
    clear d0 d1 d2 d3 dl g0 g1 g2 g3 gl
    have d0 := (h1'.out.keep m2 (by simp)).cell 0 rfl
    have d1 := (h1'.out.keep m2 (by simp)).cell 1 rfl
    have d2 := (h1'.out.keep m2 (by simp)).cell 2 rfl
    have d3 := (h1'.out.keep m2 (by simp)).cell 3 rfl
    have dl := (h1'.out.keep m2 (by simp)).lt
    have g0 := (h2'.out.keep m2 (by simp)).cell 0 rfl
    have g1 := (h2'.out.keep m2 (by simp)).cell 1 rfl
    have g2 := (h2'.out.keep m2 (by simp)).cell 2 rfl
    have g3 := (h2'.out.keep m2 (by simp)).cell 3 rfl
    have gl := (h2'.out.keep m2 (by simp)).lt
    have m2' := Lib.hid m2
    have mw2 := Lib.hid (hm0'.out.trans m2 (by simp))
    clear m2
    cases hq2 : eqR c.sides d.sides with
    | false =>
      have hf : Hid (sameC c d = false) := by show _ = _; unfold sameC; rw [hq2]; simp
      clear hq2
      go_wp2_with fail
      go_ret
      exact ⟨by rw [hf.out]; rfl, mw2.out⟩
    | true =>
      have hf : Hid (sameC c d = eqR c.flows d.flows) := by show _ = _; unfold sameC; rw [hq'.out, hq2]; simp
      clear hq2
      go_wp2_with fail
      refine (kF.out _ m2'.out).mono ?_
      rintro e w3 ⟨rfl, hd3⟩
      try dsimp only
      have m3 := Lib.hid (mw2.out.trans hd3.mod (by simp))
      clear hd3
      clear d0 d1 d2 d3 dl g0 g1 g2 g3 gl
      go_wp2_with fail
      go_ret
      exact ⟨by rw [hf.out]; rfl, m3.out⟩
set_option maxRecDepth 100000 in
set_option maxHeartbeats 8000000 in
theorem same_ref {w : World} {vu vw vs vf xu xw xs xf : Value} (c d : CertV) (h : CRep w vu vw vs vf c) (k : CRep w xu xw xs xf d) :
    Calls Try.prog 92 #[.agg #[vu, vw, vs, vf], .agg #[xu, xw, xs, xf]] w (BoolM (sameC c d) w) := by
  obtain ⟨wb, hwb⟩ : ∃ wb, wb = (w.alloc (.cells #[vu, vw, vs, vf] 130)).alloc (.cells #[xu, xw, xs, xf] 130) := ⟨_, rfl⟩
  obtain ⟨B, hB⟩ : ∃ B, B = w.heap.size := ⟨_, rfl⟩
  have hm0 : Mod [] w wb := by rw [hwb]; exact ((Mod.refl [] w).alloc _).alloc _
  have h1 : Has wb B [vu, vw, vs, vf] 130 := by rw [hwb, hB]; exact (Has.new w _ _).alloc _
  have h2 : Has wb (B + 1) [xu, xw, xs, xf] 130 := by
    have := Has.new (w.alloc (.cells #[vu, vw, vs, vf] 130)) [xu, xw, xs, xf] 130
    rw [World.size_alloc] at this
    rw [hwb, hB]; exact this
  obtain ⟨au, cu, aw, cw, sa, cs, af, cf, rfl, rfl, rfl, rfl⟩ := h.vals
  obtain ⟨bu, du, bw, dw, sb, ds, bf, df, rfl, rfl, rfl, rfl⟩ := k.vals
  have hc := Lib.hid (h.still hm0)
  have hk := Lib.hid (k.still hm0)
  have h1' := Lib.hid h1
  have h2' := Lib.hid h2
  have hm0' := Lib.hid hm0
  have hwb' := Lib.hid hwb
  have hB' := Lib.hid hB
  clear h k h1 h2 hm0 hwb hB
  have kT := Lib.hid (tree29 hc.out.up hc.out.ws hk.out.up hk.out.ws)
  have kl1 := hc.out.sides.le
  have kl2 := hc.out.flows.le
  go_enter Try.func92, Try.ntmps92
  go_wp2_with fail
  rw [← hB'.out, ← hwb'.out]
  refine kT.out.mono ?_
  rintro e w1 ⟨rfl, m1⟩
  try dsimp only
  have d0 := (h1'.out.keep m1 (by simp)).cell 0 rfl
  have d1 := (h1'.out.keep m1 (by simp)).cell 1 rfl
  have d2 := (h1'.out.keep m1 (by simp)).cell 2 rfl
  have d3 := (h1'.out.keep m1 (by simp)).cell 3 rfl
  have dl := (h1'.out.keep m1 (by simp)).lt
  have g0 := (h2'.out.keep m1 (by simp)).cell 0 rfl
  have g1 := (h2'.out.keep m1 (by simp)).cell 1 rfl
  have g2 := (h2'.out.keep m1 (by simp)).cell 2 rfl
  have g3 := (h2'.out.keep m1 (by simp)).cell 3 rfl
  have gl := (h2'.out.keep m1 (by simp)).lt
  have m1' := Lib.hid m1
  have mw1 := Lib.hid (hm0'.out.trans m1 (by simp))
  clear m1
  cases hq : (eqI c.up d.up && eqI c.ws d.ws) with
  | false =>
    have hf : Hid (sameC c d = false) := by show _ = _; unfold sameC; rw [hq]; rfl
    clear hq
    go_wp2_with fail
    go_ret
    exact ⟨by rw [hf.out]; rfl, mw1.out⟩
  | true =>
    have hq' := Lib.hid hq
    clear hq
    by_cases hls : c.sides.length ≠ d.sides.length
    · have t1 : ((c.sides.length : Int) != (d.sides.length : Int)) = true := by simp; omega
      have hf : Hid (sameC c d = false) := by show _ = _; unfold sameC; rw [eqR_len hls]; simp
      clear hls
      go_wp2_with fail
      go_ret
      exact ⟨by rw [hf.out]; rfl, mw1.out⟩
    have t1 : ((c.sides.length : Int) != (d.sides.length : Int)) = false := by simp; omega
    by_cases hlf : c.flows.length ≠ d.flows.length
    · have t2 : ((c.flows.length : Int) != (d.flows.length : Int)) = true := by simp; omega
      have hf : Hid (sameC c d = false) := by show _ = _; unfold sameC; rw [eqR_len hlf]; simp
      clear hls hlf
      go_wp2_with fail
      go_ret
      exact ⟨by rw [hf.out]; rfl, mw1.out⟩
    have t2 : ((c.flows.length : Int) != (d.flows.length : Int)) = false := by simp; omega
    have hls' : Hid (c.sides.length = d.sides.length) := by show _ = _; omega
    have hlf' : Hid (c.flows.length = d.flows.length) := by show _ = _; omega
    clear hls hlf
    go_wp2_with fail
    clear d0 d1 d2 d3 dl g0 g1 g2 g3 gl
    go_loopw [5] (fun iv wr => ∃ i : Nat, i ≤ c.sides.length ∧ iv = .int .i64 i ∧ Mod [] wb wr ∧ ∀ j, j < i → c.sides.getD j [] = d.sides.getD j []) (fun iv _ => c.sides.length - (intOf iv).toNat)
    case atStart => exact ⟨0, Nat.zero_le _, rfl, m1'.out, fun j hj => absurd hj (by omega)⟩
    case round =>
      obtain ⟨i, hi, rfl, hm, heq⟩ := hrel
      obtain ⟨wo, hwo⟩ : ∃ wo : World, wo = wr := ⟨_, rfl⟩
      clear hwo
      have hm' := Lib.hid hm
      have heq' := Lib.hid heq
      clear hm heq
      have d0 := (h1'.out.keep hm'.out (by simp)).cell 0 rfl
      have d1 := (h1'.out.keep hm'.out (by simp)).cell 1 rfl
      have d2 := (h1'.out.keep hm'.out (by simp)).cell 2 rfl
      have d3 := (h1'.out.keep hm'.out (by simp)).cell 3 rfl
      have dl := (h1'.out.keep hm'.out (by simp)).lt
      have g0 := (h2'.out.keep hm'.out (by simp)).cell 0 rfl
      have g1 := (h2'.out.keep hm'.out (by simp)).cell 1 rfl
      have g2 := (h2'.out.keep hm'.out (by simp)).cell 2 rfl
      have g3 := (h2'.out.keep hm'.out (by simp)).cell 3 rfl
      have gl := (h2'.out.keep hm'.out (by simp)).lt
      by_cases hlt : i < c.sides.length
      · have hlt1 : (i : Int) < c.sides.length := by omega
        have hlt2 : (i : Int) < d.sides.length := by rw [← hls'.out]; exact hlt1
        have q1 : decide ((i : Int) < (c.sides.length : Int)) = true := by simp; omega
        have q1' : decide (i < c.sides.length) = true := by simpa using hlt
        obtain ⟨gx, ox, ax, cx, rfl, hcx, hrx⟩ := RdR.get (k := i) (hc.out.sides.still hm'.out) hlt
        obtain ⟨gy, oy, ay, cy, rfl, hcy, hry⟩ := RdR.get (k := i) (hk.out.sides.still hm'.out) (by rw [← hls'.out]; exact hlt)
        have hcall := Lib.hid (ints_rd (hrx.still (Mod.refl [] wr).drew) (hry.still (Mod.refl [] wr).drew))
        have f1 : ∀ m : FutM wr.drew, m.v.cell? ⟨B, 2, none⟩ = some (.slice (some ⟨gx, ox, none⟩) c.sides.length cs) := fun m => old_cell ((Mod.refl [] wr).drew.trans m.of (by simp)) d2
        have f2 : ∀ m : FutM wr.drew, m.v.cell? ⟨B + 1, 2, none⟩ = some (.slice (some ⟨gy, oy, none⟩) d.sides.length ds) := fun m => old_cell ((Mod.refl [] wr).drew.trans m.of (by simp)) g2
        have f3 : ∀ m : FutM wr.drew, m.v.cell? ⟨gx, ox + i, none⟩ = some (.slice ax (c.sides.getD i []).length cx) := fun m => old_cell ((Mod.refl [] wr).drew.trans m.of (by simp)) hcx
        have f4 : ∀ m : FutM wr.drew, m.v.cell? ⟨gy, oy + i, none⟩ = some (.slice ay (d.sides.getD i []).length cy) := fun m => old_cell ((Mod.refl [] wr).drew.trans m.of (by simp)) hcy
        have hno' := Lib.hid (eqR_no (xs := c.sides) (ys := d.sides) (k := i))
        clear hrx hry hcx hcy
        generalize hX : c.sides.getD i [] = X at *
        generalize hY : d.sides.getD i [] = Y at *
        have hX' := Lib.hid hX
        have hY' := Lib.hid hY
        clear hX hY
        go_wp2_with fail
        refine region_sched (G := Mod []) [([0,1,2,3,4,5,6,7,8,9],10)] [11] (by kernel_rfl) (by kernel_rfl) (by kernel_rfl) rfl (Mod.refl []) (fun _ _ _ h1 h2 => h1.trans h2 (by simp)) ?_
        simp only [stages, pickO, nthO, headO, List.cons_append, List.nil_append]
        refine sched_step ?_
        repeat (go_big_quiet_step (fail))
        refine wpQuiet_nil ?_
        intro K' hK
        rw [if_pos (by rfl)]
        go_simp
        refine hcall.out.mono ?_
        rintro e w2 ⟨rfl, hd2⟩
        try dsimp only
        refine hK.out _ _ hd2.mod ?_
        clear hK K'
        have m2 := Lib.hid ((hm'.out.trans (Mod.refl [] wr).drew (by simp)).trans hd2.mod (by simp))
        clear hd2 f1 f2 f3 f4
        refine sched_last ?_
        repeat (go_big_quiet_step (fail))
        refine wpQuiet_nil ?_
        by_cases hxy : X = Y
        · have e1 : eqI X Y = true := by rw [hxy]; simp [eqI]
          rw [e1]
          have hxy' := Lib.hid hxy
          clear hxy e1 hcall hno'
          go_wp2_with fail
          go_roundw
          case rel =>
            refine ⟨i + 1, by omega, by go_num, m2.out, fun j hj => ?_⟩
            rcases Nat.lt_or_ge j i with h | h
            · exact heq'.out j h
            · rw [show j = i from by omega, hX'.out, hY'.out]; exact hxy'.out
          case measure => simp [intOf]; omega
        · have e1 : eqI X Y = false := by unfold eqI; exact decide_eq_false hxy
          rw [e1]
          have hf : Hid (sameC c d = false) := by show _ = _; unfold sameC; rw [hno'.out hxy]; simp
          have mw2 := Lib.hid (hm0'.out.trans m2.out (by simp))
          clear hxy e1 hcall
          go_wp2_with fail
          go_ret
          exact ⟨by rw [hf.out]; rfl, mw2.out⟩
      · have hil : c.sides.length = i := by omega
        have q1 : decide ((i : Int) < (c.sides.length : Int)) = false := by simp; omega
        have q1' : decide (i < c.sides.length) = false := by simpa using hlt
        have hEsides : Hid (eqR c.sides d.sides = true) := eqR_yes hls'.out (by rw [hil]; exact heq'.out)
        clear hil hlt
        go_wp2_with fail
        clear d0 d1 d2 d3 dl g0 g1 g2 g3 gl q1 q1' heq'
        go_loopw [6] (fun iv wr => ∃ i : Nat, i ≤ c.flows.length ∧ iv = .int .i64 i ∧ Mod [] wb wr ∧ ∀ j, j < i → c.flows.getD j [] = d.flows.getD j []) (fun iv _ => c.flows.length - (intOf iv).toNat)
        case atStart => exact ⟨0, Nat.zero_le _, rfl, hm'.out, fun j hj => absurd hj (by omega)⟩
        case round =>
          obtain ⟨i, hi, rfl, hm, heq⟩ := hrel
          obtain ⟨wo, hwo⟩ : ∃ wo : World, wo = wr := ⟨_, rfl⟩
          clear hwo
          have hm' := Lib.hid hm
          have heq' := Lib.hid heq
          clear hm heq
          have d0 := (h1'.out.keep hm'.out (by simp)).cell 0 rfl
          have d1 := (h1'.out.keep hm'.out (by simp)).cell 1 rfl
          have d2 := (h1'.out.keep hm'.out (by simp)).cell 2 rfl
          have d3 := (h1'.out.keep hm'.out (by simp)).cell 3 rfl
          have dl := (h1'.out.keep hm'.out (by simp)).lt
          have g0 := (h2'.out.keep hm'.out (by simp)).cell 0 rfl
          have g1 := (h2'.out.keep hm'.out (by simp)).cell 1 rfl
          have g2 := (h2'.out.keep hm'.out (by simp)).cell 2 rfl
          have g3 := (h2'.out.keep hm'.out (by simp)).cell 3 rfl
          have gl := (h2'.out.keep hm'.out (by simp)).lt
          by_cases hlt : i < c.flows.length
          · have hlt1 : (i : Int) < c.flows.length := by omega
            have hlt2 : (i : Int) < d.flows.length := by rw [← hlf'.out]; exact hlt1
            have q1 : decide ((i : Int) < (c.flows.length : Int)) = true := by simp; omega
            have q1' : decide (i < c.flows.length) = true := by simpa using hlt
            obtain ⟨gx, ox, ax, cx, rfl, hcx, hrx⟩ := RdR.get (k := i) (hc.out.flows.still hm'.out) hlt
            obtain ⟨gy, oy, ay, cy, rfl, hcy, hry⟩ := RdR.get (k := i) (hk.out.flows.still hm'.out) (by rw [← hlf'.out]; exact hlt)
            have hcall := Lib.hid (same04 (hrx.still (Mod.refl [] wr).drew) (hry.still (Mod.refl [] wr).drew))
            have f1 : ∀ m : FutM wr.drew, m.v.cell? ⟨B, 3, none⟩ = some (.slice (some ⟨gx, ox, none⟩) c.flows.length cf) := fun m => old_cell ((Mod.refl [] wr).drew.trans m.of (by simp)) d3
            have f2 : ∀ m : FutM wr.drew, m.v.cell? ⟨B + 1, 3, none⟩ = some (.slice (some ⟨gy, oy, none⟩) d.flows.length df) := fun m => old_cell ((Mod.refl [] wr).drew.trans m.of (by simp)) g3
            have f3 : ∀ m : FutM wr.drew, m.v.cell? ⟨gx, ox + i, none⟩ = some (.slice ax (c.flows.getD i []).length cx) := fun m => old_cell ((Mod.refl [] wr).drew.trans m.of (by simp)) hcx
            have f4 : ∀ m : FutM wr.drew, m.v.cell? ⟨gy, oy + i, none⟩ = some (.slice ay (d.flows.getD i []).length cy) := fun m => old_cell ((Mod.refl [] wr).drew.trans m.of (by simp)) hcy
            have hno' := Lib.hid (eqR_no (xs := c.flows) (ys := d.flows) (k := i))
            clear hrx hry hcx hcy
            generalize hX : c.flows.getD i [] = X at *
            generalize hY : d.flows.getD i [] = Y at *
            have hX' := Lib.hid hX
            have hY' := Lib.hid hY
            clear hX hY
            go_wp2_with fail
            refine region_sched (G := Mod []) [([0,1,2,3,4,5,6,7,8,9],10)] [11] (by kernel_rfl) (by kernel_rfl) (by kernel_rfl) rfl (Mod.refl []) (fun _ _ _ h1 h2 => h1.trans h2 (by simp)) ?_
            simp only [stages, pickO, nthO, headO, List.cons_append, List.nil_append]
            refine sched_step ?_
            repeat (go_big_quiet_step (fail))
            refine wpQuiet_nil ?_
            intro K' hK
            rw [if_pos (by rfl)]
            go_simp
            refine hcall.out.mono ?_
            rintro e w2 ⟨rfl, hd2⟩
            try dsimp only
            refine hK.out _ _ hd2.mod ?_
            clear hK K'
            have m2 := Lib.hid ((hm'.out.trans (Mod.refl [] wr).drew (by simp)).trans hd2.mod (by simp))
            clear hd2 f1 f2 f3 f4
            refine sched_last ?_
            repeat (go_big_quiet_step (fail))
            refine wpQuiet_nil ?_
            by_cases hxy : X = Y
            · have e1 : eqI X Y = true := by rw [hxy]; simp [eqI]
              rw [e1]
              have hxy' := Lib.hid hxy
              clear hxy e1 hcall hno'
              go_wp2_with fail
              go_roundw
              case rel =>
                refine ⟨i + 1, by omega, by go_num, m2.out, fun j hj => ?_⟩
                rcases Nat.lt_or_ge j i with h | h
                · exact heq'.out j h
                · rw [show j = i from by omega, hX'.out, hY'.out]; exact hxy'.out
              case measure => simp [intOf]; omega
            · have e1 : eqI X Y = false := by unfold eqI; exact decide_eq_false hxy
              rw [e1]
              have hf : Hid (sameC c d = false) := by show _ = _; unfold sameC; rw [hno'.out hxy]; simp
              have mw2 := Lib.hid (hm0'.out.trans m2.out (by simp))
              clear hxy e1 hcall
              go_wp2_with fail
              go_ret
              exact ⟨by rw [hf.out]; rfl, mw2.out⟩
          · have hil : c.flows.length = i := by omega
            have q1 : decide ((i : Int) < (c.flows.length : Int)) = false := by simp; omega
            have q1' : decide (i < c.flows.length) = false := by simpa using hlt
            have hEflows : Hid (eqR c.flows d.flows = true) := eqR_yes hlf'.out (by rw [hil]; exact heq'.out)
            clear hil hlt
            go_wp2_with fail
            have hf : Hid (sameC c d = true) := by show _ = _; unfold sameC; rw [hq'.out, hEsides.out, hEflows.out]; rfl
            have mw3 := Lib.hid (hm0'.out.trans hm'.out (by simp))
            go_ret
            exact ⟨by rw [hf.out]; rfl, mw3.out⟩
end Code.Cert
end Go.Proofs.Ytmkbinbggiocaaa

set_option linter.unusedVariables false
set_option linter.unusedSimpArgs false
namespace Go.Proofs.Ytmkbinbggiocaaa
open Go.RowKit
namespace Code.Cert
def wideB (c : CertV) : Bool := decide (40 < c.up.length) || decide (5000 < c.ws.length) || decide (40 < c.sides.length) || decide (40 < c.flows.length) || c.sides.any (fun l => decide (100 < l.length)) || c.flows.any (fun l => decide (100 < l.length))
theorem wide_no {c : CertV} (h : wideB c = false) : c.up.length ≤ 40 ∧ c.ws.length ≤ 5000 ∧ c.sides.length ≤ 40 ∧ c.flows.length ≤ 40 ∧ (∀ l ∈ c.sides, l.length ≤ 100) ∧ ∀ l ∈ c.flows, l.length ≤ 100 := by
  simp only [wideB, Bool.or_eq_false_iff, decide_eq_false_iff_not, List.any_eq_false, decide_eq_true_eq] at h
  obtain ⟨⟨⟨⟨⟨h1, h2⟩, h3⟩, h4⟩, h5⟩, h6⟩ := h
  exact ⟨by omega, by omega, by omega, by omega, fun l hl => by have := h5 l hl; omega, fun l hl => by have := h6 l hl; omega⟩
theorem any_get {ls : List (List Int)} {k : Nat} (h : k < ls.length) (hl : 100 < (ls.getD k []).length) : ls.any (fun l => decide (100 < l.length)) = true := by
  rw [List.any_eq_true]
  exact ⟨_, getD_mem [] h, by simpa using hl⟩
theorem any_none {ls : List (List Int)} (h : ∀ k, k < ls.length → (ls.getD k []).length ≤ 100) : ls.any (fun l => decide (100 < l.length)) = false := by
  rw [List.any_eq_false]
  intro l hl
  obtain ⟨i, hi, rfl⟩ := List.getElem_of_mem hl
  have := h i hi
  rw [List.getD_eq_getElem?_getD, List.getElem?_eq_getElem hi] at this
  simp only [Option.getD_some] at this
  simp only [decide_eq_true_eq]
  omega
set_option maxRecDepth 100000 in
set_option maxHeartbeats 8000000 in
theorem wide_any {w : World} {vu vw vs vf : Value} (c : CertV) (h : CRep w vu vw vs vf c) :
    Calls Try.prog 85 #[.agg #[vu, vw, vs, vf]] w (BoolM (wideB c) w) := by
  obtain ⟨au, cu, aw, cw, sa, cs, af, cf, rfl, rfl, rfl, rfl⟩ := h.vals
  obtain ⟨wb, hwb⟩ : ∃ wb, wb = w.alloc (.cells #[.slice au c.up.length cu, .slice aw c.ws.length cw, .slice sa c.sides.length cs, .slice af c.flows.length cf] 128) := ⟨_, rfl⟩
  obtain ⟨B, hB⟩ : ∃ B, B = w.heap.size := ⟨_, rfl⟩
  have hbox : Has wb B [.slice au c.up.length cu, .slice aw c.ws.length cw, .slice sa c.sides.length cs, .slice af c.flows.length cf] 128 := by rw [hwb, hB]; exact Has.new w _ _
  have hmw : Mod [] w wb := by rw [hwb]; exact (Mod.refl [] w).alloc _
  have hc := Lib.hid (h.still hmw)
  have hmw' := Lib.hid hmw
  have hbox' := Lib.hid hbox
  have hwb' := Lib.hid hwb
  have hB' := Lib.hid hB
  have hul := h.up.le
  have hwl := h.ws.le
  have hsl := h.sides.le
  have hfl := h.flows.le
  have hm1 := Lib.hid (fun o => (Mod.refl [] w).alloc o)
  have d0 := hbox.cell 0 rfl
  have d1 := hbox.cell 1 rfl
  have d2 := hbox.cell 2 rfl
  have d3 := hbox.cell 3 rfl
  have dl := hbox.lt
  clear h hmw hwb hB hbox
  by_cases q0 : 40 < c.up.length
  · have t0 : decide (40 < (c.up.length : Int)) = true := by simp; omega
    have t0' : decide (40 < c.up.length) = true := by simpa using q0
    have e1 : wideB c = true := by unfold wideB; simp [t0']
    rw [e1]
    clear q0 e1
    go_enter Try.func85, Try.ntmps85
    go_wp2_with fail
    go_ret
    exact ⟨rfl, hm1.out _⟩
  have t0 : decide (40 < (c.up.length : Int)) = false := by simp; omega
  have t0' : decide (40 < c.up.length) = false := by simpa using q0
  by_cases q1 : 5000 < c.ws.length
  · have t1 : decide (5000 < (c.ws.length : Int)) = true := by simp; omega
    have t1' : decide (5000 < c.ws.length) = true := by simpa using q1
    have e1 : wideB c = true := by unfold wideB; simp [t1']
    rw [e1]
    clear q1 e1
    go_enter Try.func85, Try.ntmps85
    go_wp2_with fail
    go_ret
    exact ⟨rfl, hm1.out _⟩
  have t1 : decide (5000 < (c.ws.length : Int)) = false := by simp; omega
  have t1' : decide (5000 < c.ws.length) = false := by simpa using q1
  by_cases q2 : 40 < c.sides.length
  · have t2 : decide (40 < (c.sides.length : Int)) = true := by simp; omega
    have t2' : decide (40 < c.sides.length) = true := by simpa using q2
    have e1 : wideB c = true := by unfold wideB; simp [t2']
    rw [e1]
    clear q2 e1
    go_enter Try.func85, Try.ntmps85
    go_wp2_with fail
    go_ret
    exact ⟨rfl, hm1.out _⟩
  have t2 : decide (40 < (c.sides.length : Int)) = false := by simp; omega
  have t2' : decide (40 < c.sides.length) = false := by simpa using q2
  by_cases q3 : 40 < c.flows.length
  · have t3 : decide (40 < (c.flows.length : Int)) = true := by simp; omega
    have t3' : decide (40 < c.flows.length) = true := by simpa using q3
    have e1 : wideB c = true := by unfold wideB; simp [t3']
    rw [e1]
    clear q3 e1
    go_enter Try.func85, Try.ntmps85
    go_wp2_with fail
    go_ret
    exact ⟨rfl, hm1.out _⟩
  have t3 : decide (40 < (c.flows.length : Int)) = false := by simp; omega
  have t3' : decide (40 < c.flows.length) = false := by simpa using q3
  have hdef : Hid (∀ x y, c.sides.any (fun l => decide (100 < l.length)) = x → c.flows.any (fun l => decide (100 < l.length)) = y → wideB c = (x || y)) := fun x y hx hy => by
    unfold wideB; rw [hx, hy, t0', t1', t2', t3']; rfl
  go_enter Try.func85, Try.ntmps85
  go_wp2_with fail
  rw [← hB'.out, ← hwb'.out]
  clear t0 t1 t2 t3 t0' t1' t2' t3' q0 q1 q2 q3
  go_loopw [3] (fun iv wr => ∃ i : Nat, i ≤ c.sides.length ∧ iv = .int .i64 i ∧ wb = wr ∧ ∀ j, j < i → (c.sides.getD j []).length ≤ 100) (fun iv _ => c.sides.length - (intOf iv).toNat)
  case atStart => exact ⟨0, Nat.zero_le _, rfl, (by first | rfl | trivial), fun j hj => absurd hj (by omega)⟩
  case round =>
    obtain ⟨i, hi, rfl, rfl, heq⟩ := hrel
    have heq' := Lib.hid heq
    clear heq
    by_cases hlt : i < c.sides.length
    · have hlt1 : (i : Int) < c.sides.length := by omega
      have q1 : decide ((i : Int) < (c.sides.length : Int)) = true := by simp; omega
      have q1' : decide (i < c.sides.length) = true := by simpa using hlt
      obtain ⟨gx, ox, ax, cx, rfl, hcx, hrx⟩ := RdR.get (k := i) hc.out.sides hlt
      have hxl := hrx.le
      have hyes' := Lib.hid (any_get hlt)
      clear hrx
      generalize hX : c.sides.getD i [] = X at *
      have hX' := Lib.hid hX
      clear hX
      by_cases hb : 100 < X.length
      · have q2 : decide (100 < (X.length : Int)) = true := by simp; omega
        have q2' : decide (100 < X.length) = true := by simpa using hb
        have hf : Hid (wideB c = true) := by
          have ha := hyes'.out hb
          have e := hdef.out _ _ ha rfl
          show _ = _
          rw [e]; simp
        clear hb
        go_wp2_with fail
        go_ret
        exact ⟨by rw [hf.out]; rfl, hmw'.out⟩
      · have q2 : decide (100 < (X.length : Int)) = false := by simp; omega
        have q2' : decide (100 < X.length) = false := by simpa using hb
        go_wp2_with fail
        go_roundw
        case rel =>
          refine ⟨i + 1, by omega, by go_num, (by first | rfl | trivial), fun j hj => ?_⟩
          rcases Nat.lt_or_ge j i with h | h
          · exact heq'.out j h
          · rw [show j = i from by omega, hX'.out]; omega
        case measure => simp [intOf]; omega
    · have hil : c.sides.length = i := by omega
      have q1 : decide ((i : Int) < (c.sides.length : Int)) = false := by simp; omega
      have q1' : decide (i < c.sides.length) = false := by simpa using hlt
      have hnsides : Hid (c.sides.any (fun l => decide (100 < l.length)) = false) := any_none (by rw [hil]; exact heq'.out)
      clear hil hlt
      go_wp2_with fail
      clear q1 q1' heq'
      go_loopw [4] (fun iv wr => ∃ i : Nat, i ≤ c.flows.length ∧ iv = .int .i64 i ∧ wb = wr ∧ ∀ j, j < i → (c.flows.getD j []).length ≤ 100) (fun iv _ => c.flows.length - (intOf iv).toNat)
      case atStart => exact ⟨0, Nat.zero_le _, rfl, (by first | rfl | trivial), fun j hj => absurd hj (by omega)⟩
      case round =>
        obtain ⟨i, hi, rfl, rfl, heq⟩ := hrel
        have heq' := Lib.hid heq
        clear heq
        by_cases hlt : i < c.flows.length
        · have hlt1 : (i : Int) < c.flows.length := by omega
          have q1 : decide ((i : Int) < (c.flows.length : Int)) = true := by simp; omega
          have q1' : decide (i < c.flows.length) = true := by simpa using hlt
          obtain ⟨gx, ox, ax, cx, rfl, hcx, hrx⟩ := RdR.get (k := i) hc.out.flows hlt
          have hxl := hrx.le
          have hyes' := Lib.hid (any_get hlt)
          clear hrx
          generalize hX : c.flows.getD i [] = X at *
          have hX' := Lib.hid hX
          clear hX
          by_cases hb : 100 < X.length
          · have q2 : decide (100 < (X.length : Int)) = true := by simp; omega
            have q2' : decide (100 < X.length) = true := by simpa using hb
            have hf : Hid (wideB c = true) := by
              have ha := hyes'.out hb
              have e := hdef.out _ _ hnsides.out ha
              show _ = _
              rw [e]; simp
            clear hb
            go_wp2_with fail
            go_ret
            exact ⟨by rw [hf.out]; rfl, hmw'.out⟩
          · have q2 : decide (100 < (X.length : Int)) = false := by simp; omega
            have q2' : decide (100 < X.length) = false := by simpa using hb
            go_wp2_with fail
            go_roundw
            case rel =>
              refine ⟨i + 1, by omega, by go_num, (by first | rfl | trivial), fun j hj => ?_⟩
              rcases Nat.lt_or_ge j i with h | h
              · exact heq'.out j h
              · rw [show j = i from by omega, hX'.out]; omega
            case measure => simp [intOf]; omega
        · have hil : c.flows.length = i := by omega
          have q1 : decide ((i : Int) < (c.flows.length : Int)) = false := by simp; omega
          have q1' : decide (i < c.flows.length) = false := by simpa using hlt
          have hnflows : Hid (c.flows.any (fun l => decide (100 < l.length)) = false) := any_none (by rw [hil]; exact heq'.out)
          clear hil hlt
          go_wp2_with fail
          have hf : Hid (wideB c = false) := by show _ = _; rw [hdef.out _ _ hnsides.out hnflows.out]; rfl
          go_ret
          exact ⟨by rw [hf.out]; rfl, hmw'.out⟩
end Code.Cert
end Go.Proofs.Ytmkbinbggiocaaa

set_option linter.unusedVariables false
set_option linter.unusedSimpArgs false
namespace Go.Proofs.Ytmkbinbggiocaaa
open Go.RowKit
namespace Code.Cert
def tyI : Nat → TypeId
  | 0 => 3
  | 1 => 2
  | 2 => 36
  | _ => 46
def upd {α : Type} (f : Nat → α) (i : Nat) (x : α) : Nat → α := fun j => if j = i then x else f j
/-- The block that a slice reads, if it has an element. -/
def live (x : Value) (g : Nat) : Prop := ∃ a n c, x = .slice (some a) n c ∧ 0 < n ∧ a.block = g
theorem rd_keep_live {F : List Nat} {w w' : World} {x : Value} {l : List Int} (h : Rd w 1 x l.length (vi64 l)) (m : Mod F w w') (hl : ∀ g, live x g → g ∉ F) : Rd w' 1 x l.length (vi64 l) := by
  by_cases h0 : l = []
  · subst h0
    refine ⟨h.1, ?_⟩
    rcases h.2 with h2 | ⟨ad, c, h2, h3, h4, _⟩
    · exact .inl h2
    · exact .inr ⟨ad, c, h2, h3, h4, fun j u hu => by simp [vi64] at hu⟩
  · refine h.keep m fun g hg => hl g ?_
    obtain ⟨a, c, rfl⟩ := h.val
    cases a with
    | none => simp [Value.ownBlock] at hg
    | some ad => exact ⟨ad, _, _, rfl, List.length_pos_iff.2 h0, by simpa [Value.ownBlock] using hg⟩
/-- Block B holds four rows of the call's own; none of them lies in R; the slices that are elements lie elsewhere. -/
structure BxT (T : TypeId) (w : World) (B : Nat) (R : List Nat) (vs : Nat → Value) (rows : Nat → List Value) : Prop where
  has : Has w B [vs 0, vs 1, vs 2, vs 3] T
  own : ∀ i, i < 4 → w.ownsRow 0 (tyI i) 1 (vs i) (rows i).length (rows i)
  dist : ∀ i j g, i < 4 → j < 4 → (vs i).ownBlock = some g → (vs j).ownBlock = some g → i = j
  res : ∀ i g, i < 4 → (vs i).ownBlock = some g → g ∉ R
  el : ∀ i x, i < 4 → x ∈ rows i → ∀ g, live x g → g < w.heap.size ∧ g ∉ R ∧ ∀ j, j < 4 → (vs j).ownBlock ≠ some g
  lt : ∀ b ∈ R, b < w.heap.size
  memB : B ∈ R
abbrev Bx := BxT 128
theorem BxT.keep {T : TypeId} {F : List Nat} {w w' : World} {B : Nat} {R : List Nat} {vs : Nat → Value} {rows : Nat → List Value} (h : BxT T w B R vs rows) (m : Mod F w w') (hF : ∀ b ∈ F, b < w.heap.size → b ∈ R ∧ b ≠ B) : BxT T w' B R vs rows := by
  have hs := m.size
  refine ⟨h.has.keep m (fun hb => (hF B hb (h.lt B h.memB)).2 rfl), fun i hi => own_keep (h.own i hi) m (fun g hg hm => h.res i g hi hg (hF g hm (own_lt (h.own i hi) hg)).1), h.dist, h.res, fun i x hi hx g hg => ?_, fun b hb => Nat.lt_of_lt_of_le (h.lt b hb) hs, h.memB⟩
  obtain ⟨h1, h2, h3⟩ := h.el i x hi hx g hg
  exact ⟨Nat.lt_of_lt_of_le h1 hs, h2, h3⟩
/-- What the elements are. -/
structure Cn (w : World) (rows : Nat → List Value) (c : CertV) : Prop where
  up : rows 0 = vi64 c.up
  ws : rows 1 = vi64 c.ws
  sl : (rows 2).length = c.sides.length
  fl : (rows 3).length = c.flows.length
  sides : ∀ (i : Nat) (x : Value) (l : List Int), (rows 2)[i]? = some x → c.sides[i]? = some l → Rd w 1 x l.length (vi64 l)
  flows : ∀ (i : Nat) (x : Value) (l : List Int), (rows 3)[i]? = some x → c.flows[i]? = some l → Rd w 1 x l.length (vi64 l)
theorem Cn.keep {T : TypeId} {F : List Nat} {w w' : World} {B : Nat} {R : List Nat} {vs : Nat → Value} {rows : Nat → List Value} {c : CertV} (h : BxT T w B R vs rows) (k : Cn w rows c) (m : Mod F w w') (hF : ∀ b ∈ F, b < w.heap.size → b ∈ R ∨ ∃ j, j < 4 ∧ (vs j).ownBlock = some b) : Cn w' rows c := by
  have go : ∀ i, i < 4 → ∀ (x : Value) (l : List Int), x ∈ rows i → Rd w 1 x l.length (vi64 l) → Rd w' 1 x l.length (vi64 l) := fun i hi x l hx hr => rd_keep_live hr m fun g hg hm => by
    obtain ⟨h1, h2, h3⟩ := h.el i x hi hx g hg
    rcases hF g hm h1 with hb | ⟨j, hj, hb⟩
    · exact h2 hb
    · exact h3 j hj hb
  exact ⟨k.up, k.ws, k.sl, k.fl, fun i x l hx hl => go 2 (by omega) x l (List.mem_of_getElem? hx) (k.sides i x l hx hl), fun i x l hx hl => go 3 (by omega) x l (List.mem_of_getElem? hx) (k.flows i x l hx hl)⟩
/-- One element more in row i: the append, and the store into the box. -/
theorem BxT.push {T : TypeId} {w w1 : World} {B : Nat} {R : List Nat} {vs : Nat → Value} {rows : Nat → List Value} (h : BxT T w B R vs rows) {i : Nat} (hi : i < 4) {x v' : Value} (ho : w1.ownsRow 0 (tyI i) 1 v' ((rows i).length + 1) (rows i ++ [x])) (m : Mod (vs i).ownBlock.toList w w1)
    (hn : v'.ownBlock = (vs i).ownBlock ∨ ∃ b, v'.ownBlock = some b ∧ w.heap.size ≤ b) (hx : ∀ g, live x g → g < w.heap.size ∧ g ∉ R ∧ ∀ j, j < 4 → (vs j).ownBlock ≠ some g) :
    BxT T (w1.setCell ⟨B, i, none⟩ v') B R (upd vs i v') (upd rows i (rows i ++ [x])) := by
  have hs := m.size
  have hBR := h.lt B h.memB
  have hBi : B ∉ (vs i).ownBlock.toList := fun hb => h.res i B hi (by simpa using hb) h.memB
  have hh := (h.has.keep m hBi).set i v'
  have hvB : ∀ j, j < 4 → (upd vs i v' j).ownBlock ≠ some B := fun j hj e => by
    unfold upd at e
    split at e
    · rcases hn with h1 | ⟨b, h1, h2⟩
      · rw [h1] at e; exact h.res i B hi e h.memB
      · rw [h1] at e; simp only [Option.some.injEq] at e; omega
    · exact h.res j B hj e h.memB
  have hnew : ∀ g, v'.ownBlock = some g → (vs i).ownBlock = some g ∨ w.heap.size ≤ g := fun g hg => by
    rcases hn with h1 | ⟨b, h1, h2⟩
    · exact .inl (h1 ▸ hg)
    · rw [h1] at hg; simp only [Option.some.injEq] at hg; exact .inr (hg ▸ h2)
  have hold : ∀ j g, j < 4 → (vs j).ownBlock = some g → g < w.heap.size := fun j g hj hg => own_lt (h.own j hj) hg
  refine ⟨?_, fun j hj => ?_, fun a b g ha hb h1 h2 => ?_, fun j g hj hg => ?_, fun j y hj hy g hg => ?_, fun b hb => ?_, h.memB⟩
  · have e : [vs 0, vs 1, vs 2, vs 3].set i v' = [upd vs i v' 0, upd vs i v' 1, upd vs i v' 2, upd vs i v' 3] := by
      rcases i with _ | _ | _ | _ | i
      · rfl
      · rfl
      · rfl
      · rfl
      · omega
    rw [← e]; exact hh
  · refine own_other ?_ _ _ (hvB j hj)
    unfold upd
    by_cases e : j = i
    · subst e
      simp only [if_true]
      rw [List.length_append, List.length_singleton]; exact ho
    · simp only [if_neg e]
      exact own_keep (h.own j hj) m fun g hg hm => e (h.dist j i g hj hi hg (by simpa using hm))
  · unfold upd at h1 h2
    split at h1 <;> split at h2
    · omega
    · rename_i e1 e2
      rcases hnew g h1 with h3 | h3
      · exact absurd (h.dist b i g hb hi h2 h3) e2
      · have := hold b g hb h2; omega
    · rename_i e1 e2
      rcases hnew g h2 with h3 | h3
      · exact absurd (h.dist a i g ha hi h1 h3) e1
      · have := hold a g ha h1; omega
    · exact h.dist a b g ha hb h1 h2
  · unfold upd at hg
    split at hg
    · rcases hnew g hg with h3 | h3
      · exact h.res i g hi h3
      · intro hR; have := h.lt g hR; omega
    · exact h.res j g hj hg
  · have hcase : g < w.heap.size ∧ g ∉ R ∧ ∀ j, j < 4 → (vs j).ownBlock ≠ some g := by
      unfold upd at hy
      split at hy
      · rcases List.mem_append.1 hy with h1 | h1
        · exact h.el i y hi h1 g hg
        · rw [List.mem_singleton] at h1
          subst h1
          exact hx g hg
      · exact h.el j y hj hy g hg
    refine ⟨?_, hcase.2.1, fun k hk e => ?_⟩
    · have : (w1.setCell ⟨B, i, none⟩ v').heap.size = w1.heap.size := by simp [World.setCell]
      omega
    · unfold upd at e
      split at e
      · rcases hnew g e with h3 | h3
        · exact hcase.2.2 i hi h3
        · omega
      · exact hcase.2.2 k hk e
  · have : (w1.setCell ⟨B, i, none⟩ v').heap.size = w1.heap.size := by simp [World.setCell]
    have := h.lt b hb
    omega
theorem Cn.at2 {T : TypeId} {w w1 : World} {B i : Nat} {R : List Nat} {vs : Nat → Value} {rows : Nat → List Value} {c : CertV} {v' : Value} (h : BxT T w B R vs rows) (k : Cn w rows c) (hi : i < 4) (m : Mod (vs i).ownBlock.toList w w1) : Cn (w1.setCell ⟨B, i, none⟩ v') rows c := by
  refine Cn.keep h k (F := B :: (vs i).ownBlock.toList) ((m.mono (fun b hb => by simp [hb])).setCell _ _ (fun _ => by simp)) (fun b hb _ => ?_)
  rcases List.mem_cons.1 hb with rfl | hb
  · exact .inl h.memB
  · exact .inr ⟨i, hi, by simpa using hb⟩
theorem Cn.push0 {w : World} {rows : Nat → List Value} {c : CertV} (k : Cn w rows c) (x : Int) : Cn w (upd rows 0 (rows 0 ++ [.int .i64 x])) { c with up := c.up ++ [x] } :=
  ⟨by simp [upd, k.up, vi64], by simp [upd, k.ws], by simp [upd, k.sl], by simp [upd, k.fl], by simpa [upd] using k.sides, by simpa [upd] using k.flows⟩
theorem Cn.push1 {w : World} {rows : Nat → List Value} {c : CertV} (k : Cn w rows c) (x : Int) : Cn w (upd rows 1 (rows 1 ++ [.int .i64 x])) { c with ws := c.ws ++ [x] } :=
  ⟨by simp [upd, k.up], by simp [upd, k.ws, vi64], by simp [upd, k.sl], by simp [upd, k.fl], by simpa [upd] using k.sides, by simpa [upd] using k.flows⟩
theorem snoc_get {α β : Type} {P : α → β → Prop} {xs : List α} {ls : List β} {x : α} {l : β} (hl : xs.length = ls.length) (h : ∀ (i : Nat) (y : α) (m : β), xs[i]? = some y → ls[i]? = some m → P y m) (hx : P x l) :
    ∀ (i : Nat) (y : α) (m : β), (xs ++ [x])[i]? = some y → (ls ++ [l])[i]? = some m → P y m := by
  intro i y m h1 h2
  rcases Nat.lt_trichotomy i xs.length with h3 | h3 | h3
  · rw [List.getElem?_append_left h3] at h1
    rw [List.getElem?_append_left (by omega)] at h2
    exact h i y m h1 h2
  · subst h3
    rw [List.getElem?_concat_length] at h1
    rw [hl, List.getElem?_concat_length] at h2
    simp only [Option.some.injEq] at h1 h2
    subst h1 h2
    exact hx
  · rw [List.getElem?_eq_none (by simp; omega)] at h1
    cases h1
theorem Cn.push2 {w : World} {rows : Nat → List Value} {c : CertV} (k : Cn w rows c) {x : Value} {l : List Int} (hx : Rd w 1 x l.length (vi64 l)) : Cn w (upd rows 2 (rows 2 ++ [x])) { c with sides := c.sides ++ [l] } :=
  ⟨by simp [upd, k.up], by simp [upd, k.ws], by simp [upd, k.sl], by simp [upd, k.fl], by
    have := snoc_get (P := fun (y : Value) (m : List Int) => Rd w 1 y m.length (vi64 m)) k.sl k.sides hx
    simpa [upd] using this, by simpa [upd] using k.flows⟩
theorem Cn.push3 {w : World} {rows : Nat → List Value} {c : CertV} (k : Cn w rows c) {x : Value} {l : List Int} (hx : Rd w 1 x l.length (vi64 l)) : Cn w (upd rows 3 (rows 3 ++ [x])) { c with flows := c.flows ++ [l] } :=
  ⟨by simp [upd, k.up], by simp [upd, k.ws], by simp [upd, k.sl], by simp [upd, k.fl], by simpa [upd] using k.sides, by
    have := snoc_get (P := fun (y : Value) (m : List Int) => Rd w 1 y m.length (vi64 m)) k.fl k.flows hx
    simpa [upd] using this⟩
/-- What is read out of the box is a certificate by value. -/
theorem BxT.rep {T : TypeId} {w : World} {B : Nat} {R : List Nat} {vs : Nat → Value} {rows : Nat → List Value} {c : CertV} (h : BxT T w B R vs rows) (k : Cn w rows c) : CRep w (vs 0) (vs 1) (vs 2) (vs 3) c := by
  have h0 := Rd.own (h.own 0 (by omega))
  have h1 := Rd.own (h.own 1 (by omega))
  have h2 := Rd.own (h.own 2 (by omega))
  have h3 := Rd.own (h.own 3 (by omega))
  rw [k.up, vi64_len] at h0
  rw [k.ws, vi64_len] at h1
  rw [k.sl] at h2
  rw [k.fl] at h3
  exact ⟨h0, h1, ⟨rows 2, k.sl, h2, k.sides⟩, ⟨rows 3, k.fl, h3, k.flows⟩⟩
theorem BxT.vals {T : TypeId} {w : World} {B : Nat} {R : List Nat} {vs : Nat → Value} {rows : Nat → List Value} {c : CertV} (h : BxT T w B R vs rows) (k : Cn w rows c) : ∃ au cu aw cw sa cs af cf, vs 0 = .slice au c.up.length cu ∧ vs 1 = .slice aw c.ws.length cw ∧ vs 2 = .slice sa c.sides.length cs ∧ vs 3 = .slice af c.flows.length cf := (h.rep k).vals
end Code.Cert
end Go.Proofs.Ytmkbinbggiocaaa

set_option linter.unusedVariables false
set_option linter.unusedSimpArgs false
namespace Go.Proofs.Ytmkbinbggiocaaa
open Go.RowKit
namespace Code.Cert
def Rs (B r : Nat) (a : Option Addr) (bs : List Int) (cc : Nat) : List Nat := B :: r :: (Value.slice a bs.length cc).ownBlock.toList
def RsX (X : List (Nat × List Value × TypeId)) (B r : Nat) (a : Option Addr) (bs : List Int) (cc : Nat) : List Nat := B :: r :: ((Value.slice a bs.length cc).ownBlock.toList ++ X.map (·.1))
/-- Blocks beside, that stay as they are. -/
def Kp (w : World) (X : List (Nat × List Value × TypeId)) (L : List Nat) (vs : Nat → Value) : Prop := ∀ x ∈ X, Has w x.1 x.2.1 x.2.2 ∧ x.1 ∉ L ∧ ∀ i, i < 4 → (vs i).ownBlock ≠ some x.1
theorem Kp.keep {F : List Nat} {w w' : World} {X : List (Nat × List Value × TypeId)} {L : List Nat} {vs : Nat → Value} (h : Kp w X L vs) (m : Mod F w w') (hF : ∀ b ∈ F, b < w.heap.size → b ∈ L ∨ ∃ i, i < 4 ∧ (vs i).ownBlock = some b) : Kp w' X L vs := by
  intro x hx
  obtain ⟨h1, h2, h3⟩ := h x hx
  refine ⟨h1.keep m fun hm => ?_, h2, h3⟩
  rcases hF _ hm h1.lt with e | ⟨i, hi, e⟩
  · exact h2 e
  · exact h3 i hi e
def El (w0 : World) (rows : Nat → List Value) : Prop := ∀ i x g, i < 4 → x ∈ rows i → live x g → w0.heap.size ≤ g
/-- A certificate that is being read, and its reader. -/
structure DS (X : List (Nat × List Value × TypeId)) (w0 w : World) (B r : Nat) (a : Option Addr) (cc : Nat) (bs : List Int) (k : Nat) (st : Bool) (c : CertV) : Prop where
  ex : ∃ vs rows, Bx w B (RsX X B r a bs cc) vs rows ∧ Cn w rows c ∧ (∀ i g, i < 4 → (vs i).ownBlock = some g → w0.heap.size ≤ g) ∧ Kp w X (Rs B r a bs cc) vs ∧ El w0 rows
  rt : RAt w r a cc bs k st
  base : Mod [] w0 w
  low : ∀ b ∈ Rs B r a bs cc, w0.heap.size ≤ b
  ne : r ≠ B
  na : ∀ g, (Value.slice a bs.length cc).ownBlock = some g → g ≠ B
theorem DS.still {X : List (Nat × List Value × TypeId)} {w0 w w' : World} {B r cc k : Nat} {a : Option Addr} {bs : List Int} {st : Bool} {c : CertV} (h : DS X w0 w B r a cc bs k st c) (m : Mod [] w w') : DS X w0 w' B r a cc bs k st c := by
  obtain ⟨vs, rows, h1, h2, h3, h4, h5⟩ := h.ex
  exact ⟨⟨vs, rows, h1.keep m (by simp), Cn.keep h1 h2 m (by simp), h3, h4.keep m (by simp), h5⟩, h.rt.still m, h.base.trans m (by simp), h.low, h.ne, h.na⟩
theorem DS.read {X : List (Nat × List Value × TypeId)} {w0 w w' : World} {B r cc k k' : Nat} {a : Option Addr} {bs : List Int} {st st' : Bool} {c : CertV} (h : DS X w0 w B r a cc bs k st c) (m : Mod [r] w w') (hr : RAt w' r a cc bs k' st') : DS X w0 w' B r a cc bs k' st' c := by
  obtain ⟨vs, rows, h1, h2, h3, h4, h5⟩ := h.ex
  have hne := h.ne
  refine ⟨⟨vs, rows, h1.keep m (fun b hb _ => ?_), Cn.keep h1 h2 m (fun b hb _ => ?_), h3, h4.keep m (fun b hb _ => ?_), h5⟩, hr, h.base.trans m (fun b hb hlt => ?_), h.low, h.ne, h.na⟩
  · rw [List.mem_singleton] at hb; subst hb; exact ⟨by simp [Rs, RsX], hne⟩
  · rw [List.mem_singleton] at hb; subst hb; exact .inl (by simp [Rs, RsX])
  · rw [List.mem_singleton] at hb; subst hb; exact .inl (by simp [Rs, RsX])
  · rw [List.mem_singleton] at hb; subst hb
    have := h.low b (by simp [Rs, RsX])
    omega
/-- One element more. -/
theorem DS.push {X : List (Nat × List Value × TypeId)} {w0 w w1 : World} {B r cc k : Nat} {a : Option Addr} {bs : List Int} {st : Bool} {c c' : CertV} (h : DS X w0 w B r a cc bs k st c) {vs : Nat → Value} {rows : Nat → List Value}
    (h1 : Bx w B (RsX X B r a bs cc) vs rows) (h2 : Cn w rows c) (h3 : ∀ i g, i < 4 → (vs i).ownBlock = some g → w0.heap.size ≤ g) (h4 : Kp w X (Rs B r a bs cc) vs) (h5 : El w0 rows) {i : Nat} (hi : i < 4) {x v' : Value}
    (ho : w1.ownsRow 0 (tyI i) 1 v' ((rows i).length + 1) (rows i ++ [x])) (m : Mod (vs i).ownBlock.toList w w1)
    (hn : v'.ownBlock = (vs i).ownBlock ∨ ∃ b, v'.ownBlock = some b ∧ w.heap.size ≤ b) (hx : ∀ g, live x g → g < w.heap.size ∧ g ∉ RsX X B r a bs cc ∧ ∀ j, j < 4 → (vs j).ownBlock ≠ some g)
    (hxl : ∀ g, live x g → w0.heap.size ≤ g) (hc : ∀ w', Cn w' rows c → Mod ((B :: (vs i).ownBlock.toList)) w w' → Cn w' (upd rows i (rows i ++ [x])) c') : DS X w0 (w1.setCell ⟨B, i, none⟩ v') B r a cc bs k st c' := by
  have mm : Mod (B :: (vs i).ownBlock.toList) w (w1.setCell ⟨B, i, none⟩ v') := (m.mono (fun b hb => by simp [hb])).setCell _ _ (fun _ => by simp)
  have hlt0 := h.base.size
  refine ⟨⟨_, _, h1.push hi ho m hn hx, hc _ (Cn.at2 h1 h2 hi m) mm, fun j g hj hg => ?_, fun x hx => ?_, fun j y g hj hy hg => ?_⟩, h.rt.keep mm ?_ ?_, h.base.trans mm (fun b hb hlt => ?_), h.low, h.ne, h.na⟩
  · unfold upd at hg
    split at hg
    · rcases hn with e | ⟨b, e, hb⟩
      · rw [e] at hg; exact h3 i g hi hg
      · rw [e] at hg; simp only [Option.some.injEq] at hg; omega
    · exact h3 j g hj hg
  · obtain ⟨g1, g2, g3⟩ := h4 x hx
    have hl := g1.lt
    refine ⟨g1.keep mm fun hm => ?_, g2, fun j hj e => ?_⟩
    · rcases List.mem_cons.1 hm with e | hm
      · exact g2 (by simp [Rs, RsX, e])
      · exact g3 i hi (by simpa using hm)
    · unfold upd at e
      split at e
      · rcases hn with e2 | ⟨b, e2, hb⟩
        · rw [e2] at e; exact g3 i hi e
        · rw [e2] at e; simp only [Option.some.injEq] at e; omega
      · exact g3 j hj e
  · unfold upd at hy
    split at hy
    · rcases List.mem_append.1 hy with h6 | h6
      · exact h5 i y g hi h6 hg
      · rw [List.mem_singleton] at h6
        subst h6
        exact hxl g hg
    · exact h5 j y g hj hy hg
  · intro hm
    rcases List.mem_cons.1 hm with e | hm
    · exact h.ne e
    · exact h1.res i r hi (by simpa using hm) (by simp [Rs, RsX])
  · intro g hg hm
    rcases List.mem_cons.1 hm with e | hm
    · exact h.na g hg e
    · exact h1.res i g hi (by simpa using hm) (by simp [Rs, RsX, hg])
  · rcases List.mem_cons.1 hb with rfl | hb
    · have := h.low b (by simp [Rs, RsX]); omega
    · have := h3 i b hi (by simpa using hb); omega
def DOut (X : List (Nat × List Value × TypeId)) (w0 : World) (B r : Nat) (a : Option Addr) (cc : Nat) (bs : List Int) (s : Nat × Bool) (c : CertV) (b : Bool) (e : Ending) (w' : World) : Prop := e = .returned (.bool b) ∧ DS X w0 w' B r a cc bs s.1 s.2 c
theorem infoI64 : (Try.prog.info? 2).map (fun i => (i.zero, i.size, i.bytes)) = some (some (.int .i64 0), 1, 8) := by kernel_rfl
def upOf (n : Nat) : Int := (min n 4097 : Nat) - 1
set_option maxRecDepth 100000 in
set_option maxHeartbeats 4000000 in
theorem read1 {X : List (Nat × List Value × TypeId)} {w0 w : World} {B r cc k : Nat} {a : Option Addr} {bs : List Int} {st : Bool} {c : CertV} (h : DS X w0 w B r a cc bs k st c) (hbb : ∀ x ∈ bs, 0 ≤ x ∧ x < 256) (n : Nat) (hn : n ≤ 4096) (hl : c.up.length ≤ 100000) :
    Calls Try.prog 176 #[.pointer (some ⟨r, 0, none⟩), .pointer (some ⟨B, 0, none⟩), .int .i64 n] w (DOut X w0 B r a cc bs (rNat bs k st).2 { c with up := c.up ++ [upOf (rNat bs k st).1] } (decide ((rNat bs k st).1 ≤ n))) := by
  have hcall := Lib.hid (rdNat h.rt hbb)
  have hlt := rNat_lt (k := k) (stop := st) hbb
  have h' := Lib.hid h
  clear h hbb
  go_enter Try.func176, Try.ntmps176
  go_wp2_with fail
  refine hcall.out.mono ?_
  rintro e w1 ⟨rfl, hR, hm⟩
  dsimp only
  have hd := Lib.hid (h'.out.read hm hR)
  clear hR hm hcall h'
  generalize hu : (rNat bs k st).1 = u at *
  have hu' := Lib.hid hu
  clear hu
  obtain ⟨vs, rows, h1, h2, h3, h4, h5⟩ := hd.out.ex
  obtain ⟨au, cu, aw, cw, sa, cs, af, cf, e0, e1, e2, e3⟩ := h1.vals h2
  have d0 := h1.has.cell 0 rfl
  rw [e0] at d0
  have hl0 := h1.has.lt
  have ho := h1.own 0 (by omega)
  rw [e0, h2.up, vi64_len] at ho
  have ho' := Lib.hid ho
  have h1' := Lib.hid h1
  have h2' := Lib.hid h2
  have h3' := Lib.hid h3
  have h4' := Lib.hid h4
  have h5' := Lib.hid h5
  have e0' := Lib.hid e0
  clear h1 h2 h3 h4 h5 ho e0 e1 e2 e3
  have hnb : Hid (∀ b, (Value.slice au c.up.length cu).ownBlock = some b → b ≠ B) := fun b hb e => by
    rw [← e0'.out] at hb
    exact h1'.out.res 0 b (by omega) hb (by rw [e]; exact h1'.out.memB)
  have hw1 : IntKind.u64.wrap (n : Int) = (n : Int) := by rw [IntKind.wrap_u64]; omega
  have hdn : decide ((u : Int) ≤ (n : Int)) = decide (u ≤ n) := by simp
  go_wp2_with (at_builtin; refine app_own rfl (.tmp 15) (.tmp 20) 36 3 _ 1 8 rfl Try.underlying36 infoInt rfl (by omega) (by omega) (.slice au c.up.length cu) c.up.length 1 (vi64 c.up) [.int .i64 ((if 4097 < (u : Int) then 4097 else (u : Int)) - 1)] rfl rfl rfl rfl (by simp [Value.oneCell']) ho'.out (by omega) ?_; intro aA cA wA hA mA vA; have hb0 : B < wA.heap.size := Nat.lt_of_lt_of_le hl0 mA.size; have hbB : ∀ b, (Value.slice au c.up.length cu).ownBlock = some b → b ≠ B := hnb.out; have fz := (h1'.out.has.keep mA (fun hm => hbB B (by simpa using hm) rfl)).free 0; have dz := (h1'.out.has.keep mA (fun hm => hbB B (by simpa using hm) rfl)).cell 0 rfl)
  all_goals
    have hup : upOf u = (if 4097 < (u : Int) then 4097 else (u : Int)) - 1 := by unfold upOf; split <;> omega
    have hfin : DS X w0 (wA.setCell ⟨B, 0, none⟩ (.slice aA (c.up.length + 1) cA)) B r a cc bs (rNat bs k st).2.1 (rNat bs k st).2.2 { c with up := c.up ++ [upOf u] } := by
      rw [hup]
      have e := e0'.out
      have ek : vi64 c.up ++ [Value.int .i64 ((if 4097 < (u : Int) then 4097 else (u : Int)) - 1)] = rows 0 ++ [.int .i64 ((if 4097 < (u : Int) then 4097 else (u : Int)) - 1)] := by rw [h2'.out.up]
      refine hd.out.push h1'.out h2'.out h3'.out h4'.out h5'.out (i := 0) (by omega) (x := .int .i64 ((if 4097 < (u : Int) then 4097 else (u : Int)) - 1)) (v' := .slice aA (c.up.length + 1) cA) ?_ (by rw [e]; exact mA) (by rw [e]; exact vA) (by simp [live]) (by simp [live]) (fun w' hc _ => hc.push0 _)
      rw [← ek, h2'.out.up, vi64_len]
      exact hA
    have hfin' := Lib.hid hfin
    clear hfin hA mA vA hup
    go_wp2_with fail
    go_ret
    exact ⟨rfl, hfin'.out⟩
set_option maxRecDepth 100000 in
set_option maxHeartbeats 4000000 in
theorem read2 {X : List (Nat × List Value × TypeId)} {w0 w : World} {B r cc k : Nat} {a : Option Addr} {bs : List Int} {st : Bool} {c : CertV} (h : DS X w0 w B r a cc bs k st c) (hbb : ∀ x ∈ bs, 0 ≤ x ∧ x < 256) (n : Int) (hl : c.ws.length ≤ 100000) :
    Calls Try.prog 178 #[.pointer (some ⟨r, 0, none⟩), .pointer (some ⟨B, 0, none⟩), .int .i64 n] w (DOut X w0 B r a cc bs (rNat bs k st).2 { c with ws := c.ws ++ [wrap64 (rNat bs k st).1] } (decide (0 ≤ wrap64 (rNat bs k st).1))) := by
  have hcall := Lib.hid (rdNat h.rt hbb)
  have h' := Lib.hid h
  clear h hbb
  go_enter Try.func178, Try.ntmps178
  go_wp2_with fail
  refine hcall.out.mono ?_
  rintro e w1 ⟨rfl, hR, hm⟩
  dsimp only
  have hd := Lib.hid (h'.out.read hm hR)
  clear hR hm hcall h'
  generalize hu : (rNat bs k st).1 = u at *
  have hu' := Lib.hid hu
  clear hu
  obtain ⟨vs, rows, h1, h2, h3, h4, h5⟩ := hd.out.ex
  obtain ⟨au, cu, aw, cw, sa, cs, af, cf, e0, e1, e2, e3⟩ := h1.vals h2
  have d0 := h1.has.cell 1 rfl
  rw [e1] at d0
  have hl0 := h1.has.lt
  have ho := h1.own 1 (by omega)
  rw [e1, h2.ws, vi64_len] at ho
  have ho' := Lib.hid ho
  have h1' := Lib.hid h1
  have h2' := Lib.hid h2
  have h3' := Lib.hid h3
  have h4' := Lib.hid h4
  have h5' := Lib.hid h5
  have e0' := Lib.hid e1
  clear h1 h2 h3 h4 h5 ho e0 e1 e2 e3
  have hnb : Hid (∀ b, (Value.slice aw c.ws.length cw).ownBlock = some b → b ≠ B) := fun b hb e => by
    rw [← e0'.out] at hb
    exact h1'.out.res 1 b (by omega) hb (by rw [e]; exact h1'.out.memB)
  go_wp2_with (at_builtin; refine app_own rfl (.tmp 16) (.tmp 18) 46 2 _ 1 8 rfl Try.underlying46 infoI64 rfl (by omega) (by omega) (.slice aw c.ws.length cw) c.ws.length 1 (vi64 c.ws) [.int .i64 (wrap64 (u : Int))] rfl rfl rfl rfl (by simp [Value.oneCell']) ho'.out (by omega) ?_; intro aA cA wA hA mA vA; have hb0 : B < wA.heap.size := Nat.lt_of_lt_of_le hl0 mA.size; have hbB : ∀ b, (Value.slice aw c.ws.length cw).ownBlock = some b → b ≠ B := hnb.out; have fz := (h1'.out.has.keep mA (fun hm => hbB B (by simpa using hm) rfl)).free 1; have dz := (h1'.out.has.keep mA (fun hm => hbB B (by simpa using hm) rfl)).cell 1 rfl)
  have hfin : DS X w0 (wA.setCell ⟨B, 1, none⟩ (.slice aA (c.ws.length + 1) cA)) B r a cc bs (rNat bs k st).2.1 (rNat bs k st).2.2 { c with ws := c.ws ++ [wrap64 (u : Int)] } := by
    have e := e0'.out
    have ek : vi64 c.ws ++ [Value.int .i64 (wrap64 (u : Int))] = rows 1 ++ [.int .i64 (wrap64 (u : Int))] := by rw [h2'.out.ws]
    refine hd.out.push h1'.out h2'.out h3'.out h4'.out h5'.out (i := 1) (by omega) (x := .int .i64 (wrap64 (u : Int))) (v' := .slice aA (c.ws.length + 1) cA) ?_ (by rw [e]; exact mA) (by rw [e]; exact vA) (by simp [live]) (by simp [live]) (fun w' hc _ => hc.push1 _)
    rw [← ek, h2'.out.ws, vi64_len]
    exact hA
  have hfin' := Lib.hid hfin
  clear hfin hA mA vA
  go_wp2_with fail
  all_goals (go_ret; exact ⟨rfl, hfin'.out⟩)
end Code.Cert
end Go.Proofs.Ytmkbinbggiocaaa

set_option linter.unusedVariables false
set_option linter.unusedSimpArgs false
namespace Go.Proofs.Ytmkbinbggiocaaa
open Go.RowKit
namespace Code.Cert
/-- append(v, x..) onto a row that is owned, as one step of a region that draws its order. -/
theorem step_app_own {P : Program} {ops : Array Oper} {o : Oper} {a : Act} {W : World} {K : Act → World → Prop} {Q : Exit → Act → World → Prop} {E : Prop} (hgd : o.guard = none) (s x : Operand) (t e : TypeId) (z : Value) (size bytes : Nat)
    (ho : o.op = .call { callee := .builtin .append, args := #[s, x], argTypes := #[t, t] })
    (ht : P.underlying t = some (.slice e)) (hinfo : (P.info? e).map (fun i => (i.zero, i.size, i.bytes)) = some (some z, size, bytes)) (hz : z.cells.size = size) (hsz : 0 < size) (hb0 : 0 < bytes)
    (v : Value) (n m : Nat) (xs news : List Value) (hs : a.eval s = v) {B : Nat} (hx : a.eval x = .slice (some ⟨B, 0, none⟩) m m) (hB : B = W.heap.size) (hl : news.length = m * size) (h1 : ∀ u ∈ news, u.oneCell' = true)
    (HO : W.ownsRow 0 e size v n xs) (hby : (n + m) * bytes ≤ 140737488355328)
    (h : ∀ a1 c1 w1, w1.ownsRow 0 e size (.slice a1 (n + m) c1) (n + m) (xs ++ news) → Mod v.ownBlock.toList W w1 → ((Value.slice a1 (n + m) c1).ownBlock = v.ownBlock ∨ ∃ b, (Value.slice a1 (n + m) c1).ownBlock = some b ∧ W.heap.size ≤ b) → K (a.put o.dst (.slice a1 (n + m) c1)) w1) :
    if Region.wanted o (yielded ops a.tmps) = true then Oper.wp P o a (W.alloc (.cells news.toArray e)) K Q else E := by
  have hw : Region.wanted o (yielded ops a.tmps) = true := by simp [Region.wanted, hgd]
  rw [if_pos hw]
  subst hB
  obtain ⟨i0, hi, hzz⟩ := Option.map_eq_some_iff.1 hinfo
  simp only [Prod.mk.injEq] at hzz
  obtain ⟨hz0, hz1, hz2⟩ := hzz
  have hlen : n + m ≤ 140737488355328 := Nat.le_trans (Nat.le_mul_of_pos_right _ hb0) hby
  obtain ⟨v1, w1, hr, hown, hg, _, hat⟩ := run_append_own_at (P := P) (W.alloc (.cells news.toArray e)) 0 t o.type e i0 z size bytes ht hi hz0 hz1 hz2 hz hsz v n xs (HO.alloc _) ⟨W.heap.size, 0, none⟩ m m news hl
    (World.news_of_block (cs := news.toArray) (t := e) (fr := (0, 0)) (heap_alloc_new W _)) h1 (by simp only [maxLen]; omega) hby (Nat.zero_le _)
  obtain ⟨a1, c1, rfl⟩ : ∃ a1 c1, v1 = .slice a1 (n + m) c1 := by
    rcases hown.2 with ⟨rfl, h0⟩ | ⟨g, cap, cur, rfl, _⟩
    · exact ⟨none, 0, by rw [h0]⟩
    · exact ⟨_, _, rfl⟩
  unfold Oper.wp execOp
  simp only [ho, resolve, invoke, builtin, Sem.run_bind, Sem.run_pure, Result.andThen_ok, List.map_toArray, List.map_cons, List.map_nil, hs, hx, hr]
  refine h a1 c1 w1 hown (((Mod.refl _ W).alloc _).grown hg fun b hb _ => by simp [hb]) ?_
  rcases hat with hat | hat
  · exact .inl hat
  · exact .inr ⟨_, hat, by simp⟩
theorem infoSI : (Try.prog.info? 36).map (fun i => (i.zero, i.size, i.bytes)) = some (some (.slice none 0 0), 1, 24) := by kernel_rfl
theorem infoSI64 : (Try.prog.info? 46).map (fun i => (i.zero, i.size, i.bytes)) = some (some (.slice none 0 0), 1, 24) := by kernel_rfl
/-- A slice that was made behind w lies nowhere that matters in w. -/
theorem live_new {T : TypeId} {w w1 : World} {x : Value} {l : List Int} {B : Nat} {R : List Nat} {vs : Nat → Value} {rows : Nat → List Value} (hB : BxT T w B R vs rows) (hr : Rd w1 1 x l.length (vi64 l)) (hn : ∀ g, x.ownBlock = some g → w.heap.size ≤ g) :
    ∀ g, live x g → g < w1.heap.size ∧ g ∉ R ∧ ∀ j, j < 4 → (vs j).ownBlock ≠ some g := by
  rintro g ⟨ad, n, c, rfl, hn0, rfl⟩
  have hge := hn ad.block rfl
  obtain ⟨a', c', e⟩ := hr.val
  simp only [Value.slice.injEq] at e
  obtain ⟨rfl, rfl, rfl⟩ := e
  refine ⟨?_, fun hR => ?_, fun j hj e => ?_⟩
  · obtain ⟨g, o, e, _, _, hc⟩ := hr.at (by rw [vi64_len]; exact hn0)
    simp only [Option.some.injEq] at e
    subst e
    obtain ⟨u, hu⟩ : ∃ u, (vi64 l)[0]? = some u := ⟨_, List.getElem?_eq_getElem (by rw [vi64_len]; exact hn0)⟩
    exact World.block_lt_of_cell? w1 ⟨g, o + 0, none⟩ (hc 0 u hu)
  · have := hB.lt _ hR; omega
  · have := own_lt (hB.own j hj) e; omega
set_option maxRecDepth 100000 in
set_option maxHeartbeats 4000000 in
theorem read3 {X : List (Nat × List Value × TypeId)} {w0 w : World} {B r cc k : Nat} {a : Option Addr} {bs : List Int} {st : Bool} {c : CertV} (h : DS X w0 w B r a cc bs k st c) (hbb : ∀ x ∈ bs, 0 ≤ x ∧ x < 256) (n : Int) (hl : c.sides.length ≤ 100000) :
    Calls Try.prog 180 #[.pointer (some ⟨r, 0, none⟩), .pointer (some ⟨B, 0, none⟩), .int .i64 n] w (DOut X w0 B r a cc bs (rBits bs k st n).2 { c with sides := c.sides ++ [(rBits bs k st n).1] } true) := by
  have hd := Lib.hid (h.still (Mod.refl [] w).drew)
  clear h
  obtain ⟨vs, rows, h1, h2, h3, h4, h5⟩ := hd.out.ex
  obtain ⟨au, cu, aw, cw, sa, cs, af, cf, e0, e1, e2, e3⟩ := h1.vals h2
  have hbit := Lib.hid ((rdBits n hd.out.rt hbb).mono fun e w' h => show ∃ v, e = .returned v ∧ Rd w' 1 v (rBits bs k st n).1.length (vi64 (rBits bs k st n).1) ∧ (∀ g, v.ownBlock = some g → w.drew.heap.size ≤ g) ∧ RAt w' r a cc bs (rBits bs k st n).2.1 (rBits bs k st n).2.2 ∧ Mod [r] w.drew w' from h)
  have hs0 := h1.own 2 (by omega)
  rw [e2, h2.sl] at hs0
  have d0 := h1.has.cell 2 rfl
  rw [e2] at d0
  have hl0 := h1.has.lt
  have h1' := Lib.hid h1
  have h2' := Lib.hid h2
  have h3' := Lib.hid h3
  have h4' := Lib.hid h4
  have h5' := Lib.hid h5
  have e2' := Lib.hid e2
  have hs0' := Lib.hid hs0
  have hrB := hd.out.ne
  clear h1 h2 h3 h4 h5 e0 e1 e2 e3 hbb hs0
  have hafter : Hid (∀ w1, Mod [r] w.drew w1 → w1.cell? ⟨B, 2, none⟩ = some (.slice sa c.sides.length cs)) := fun w1 m => by
    have := (h1'.out.has.keep m (by simp; omega)).cell 2 rfl
    rwa [e2'.out] at this
  have hpush : Hid (∀ (w1 : World) (ax : Option Addr) (cx : Nat), Rd w1 1 (.slice ax (rBits bs k st n).1.length cx) (rBits bs k st n).1.length (vi64 (rBits bs k st n).1) → (∀ g, (Value.slice ax (rBits bs k st n).1.length cx).ownBlock = some g → w.drew.heap.size ≤ g) → RAt w1 r a cc bs (rBits bs k st n).2.1 (rBits bs k st n).2.2 → Mod [r] w.drew w1 →
      w1.ownsRow 0 36 1 (.slice sa c.sides.length cs) c.sides.length (rows 2) ∧
      ∀ aA cA wA, wA.ownsRow 0 36 1 (.slice aA (c.sides.length + 1) cA) (c.sides.length + 1) (rows 2 ++ [.slice ax (rBits bs k st n).1.length cx]) → Mod (Value.slice sa c.sides.length cs).ownBlock.toList w1 wA →
        ((Value.slice aA (c.sides.length + 1) cA).ownBlock = (Value.slice sa c.sides.length cs).ownBlock ∨ ∃ b, (Value.slice aA (c.sides.length + 1) cA).ownBlock = some b ∧ w1.heap.size ≤ b) →
        (wA.cell? ⟨B, 2, none⟩ = some (.slice sa c.sides.length cs) ∧ wA.frozen? ⟨B, 2, none⟩ = false ∧ B < wA.heap.size) ∧
        DS X w0 (wA.setCell ⟨B, 2, none⟩ (.slice aA (c.sides.length + 1) cA)) B r a cc bs (rBits bs k st n).2.1 (rBits bs k st n).2.2 { c with sides := c.sides ++ [(rBits bs k st n).1] }) := fun w1 ax cx hv hn hR hm => by
    have hd1 := hd.out.read hm hR
    have hmF : ∀ b ∈ [r], b < w.drew.heap.size → b ∈ RsX X B r a bs cc ∧ b ≠ B := fun b hb _ => by
      rw [List.mem_singleton] at hb; subst hb; exact ⟨by simp [Rs, RsX], hrB⟩
    have k1 := h1'.out.keep hm hmF
    have k2 := Cn.keep h1'.out h2'.out hm (fun b hb hlt => .inl (hmF b hb hlt).1)
    have e := e2'.out
    have hown := k1.own 2 (by omega)
    rw [e, h2'.out.sl] at hown
    refine ⟨hown, fun aA cA wA hA mA vA => ?_⟩
    have hBn : B ∉ (Value.slice sa c.sides.length cs).ownBlock.toList := fun hb => by
      rw [← e] at hb
      exact k1.res 2 B (by omega) (by simpa using hb) k1.memB
    have hh := k1.has.keep mA hBn
    refine ⟨⟨by have := hh.cell 2 rfl; rwa [e] at this, hh.free 2, hh.lt⟩, ?_⟩
    refine hd1.push k1 k2 h3'.out (h4'.out.keep hm (fun b hb hlt => .inl (by rw [List.mem_singleton] at hb; subst hb; simp [Rs]))) h5'.out (i := 2) (by omega) (x := .slice ax (rBits bs k st n).1.length cx) (v' := .slice aA (c.sides.length + 1) cA) ?_ (by rw [e]; exact mA) (by rw [e]; exact vA) (live_new h1'.out hv hn) (fun g hg => ?_) (fun w' hc mm => ?_)
    · rw [h2'.out.sl]; exact hA
    · obtain ⟨ad, n2, c2, e4, _, rfl⟩ := hg
      have h6 := hn ad.block (by rw [e4]; rfl)
      have h7 := hd.out.base.size
      omega
    · refine hc.push2 (rd_keep_live hv mm fun g hg hm2 => ?_)
      obtain ⟨q1, q2, q3⟩ := live_new h1'.out hv hn g hg
      rcases List.mem_cons.1 hm2 with rfl | hm2
      · exact q2 h1'.out.memB
      · exact q3 2 (by omega) (by simpa using hm2)
  generalize hX : (rBits bs k st n).1 = Y at *
  clear hX
  go_enter Try.func180, Try.ntmps180
  go_wp2_with fail
  go_region_law (first
    | (rw [if_pos (by rfl)]; go_simp; go_at_call 46; refine hbit.out.mono ?_; rintro e w1 ⟨v, rfl, hv, hn, hR, hm⟩; obtain ⟨ax, cx, rfl⟩ := hv.val; have dd := hafter.out _ hm; have dl : B < w1.heap.size := Nat.lt_of_lt_of_le hl0 hm.size; have hp := hpush.out _ _ _ hv hn hR hm; obtain ⟨hown, hp⟩ := hp; have hown' := Lib.hid hown; have hp' := Lib.hid hp; clear hown hp hv hn hR; dsimp only)
    | (refine step_app_own rfl (.tmp 11) (.tmp 15) 125 36 _ 1 24 rfl Try.underlying125 infoSI rfl (by omega) (by omega) (.slice sa c.sides.length cs) c.sides.length 1 (rows 2) [.slice ax Y.length cx] rfl rfl rfl rfl (by simp [Value.oneCell']) hown'.out (by omega) ?_; intro aA cA wA hA mA vA; obtain ⟨⟨dz, fz, lz⟩, hfin⟩ := hp'.out _ _ _ hA mA vA; have hfin' := Lib.hid hfin; clear hfin hA mA vA))
  all_goals
    go_wp2_with fail
    go_ret
    exact ⟨rfl, hfin'.out⟩
end Code.Cert
end Go.Proofs.Ytmkbinbggiocaaa

set_option linter.unusedVariables false
set_option linter.unusedSimpArgs false
namespace Go.Proofs.Ytmkbinbggiocaaa
open Go.RowKit
namespace Code.Cert
def rInts (bs : List Int) : Nat → Nat → Bool → List Int × Nat × Bool
  | 0, k, st => ([], k, st)
  | m + 1, k, st => ((rInts bs m k st).1 ++ [unsign (rNat bs (rInts bs m k st).2.1 (rInts bs m k st).2.2).1], (rNat bs (rInts bs m k st).2.1 (rInts bs m k st).2.2).2)
theorem rInts_len (bs : List Int) : ∀ m k st, (rInts bs m k st).1.length = m
  | 0, _, _ => rfl
  | m + 1, k, st => by rw [rInts, List.length_append, rInts_len bs m k st]; rfl
theorem BxT.keep2 {T : TypeId} {F : List Nat} {w w' : World} {B : Nat} {R : List Nat} {vs : Nat → Value} {rows : Nat → List Value} (h : BxT T w B R vs rows) (m : Mod F w w') (hF : ∀ b ∈ F, b ≠ B ∧ ∀ i, i < 4 → (vs i).ownBlock ≠ some b) : BxT T w' B R vs rows := by
  have hs := m.size
  refine ⟨h.has.keep m (fun hb => (hF B hb).1 rfl), fun i hi => own_keep (h.own i hi) m (fun g hg hm => (hF g hm).2 i hi hg), h.dist, h.res, fun i x hi hx g hg => ?_, fun b hb => Nat.lt_of_lt_of_le (h.lt b hb) hs, h.memB⟩
  obtain ⟨h1, h2, h3⟩ := h.el i x hi hx g hg
  exact ⟨Nat.lt_of_lt_of_le h1 hs, h2, h3⟩
theorem Cn.keep2 {F : List Nat} {w w' : World} {rows : Nat → List Value} {c : CertV} (k : Cn w rows c) (m : Mod F w w') (hF : ∀ b ∈ F, ∀ i x, i < 4 → x ∈ rows i → ¬ live x b) : Cn w' rows c := by
  have go : ∀ i, i < 4 → ∀ (x : Value) (l : List Int), x ∈ rows i → Rd w 1 x l.length (vi64 l) → Rd w' 1 x l.length (vi64 l) := fun i hi x l hx hr => rd_keep_live hr m fun g hg hm => hF g hm i x hi hx hg
  exact ⟨k.up, k.ws, k.sl, k.fl, fun i x l hx hl => go 2 (by omega) x l (List.mem_of_getElem? hx) (k.sides i x l hx hl), fun i x l hx hl => go 3 (by omega) x l (List.mem_of_getElem? hx) (k.flows i x l hx hl)⟩
theorem set_mid (d : List Int) (m i : Nat) (x : Int) (hd : d.length = i) (hi : i < m) : (vi64 (d ++ List.replicate (m - i) 0)).set i (.int .i64 x) = vi64 ((d ++ [x]) ++ List.replicate (m - (i + 1)) 0) := by
  obtain ⟨j, hj⟩ : ∃ j, m - i = j + 1 := ⟨m - i - 1, by omega⟩
  rw [hj, show m - (i + 1) = j by omega, List.replicate_succ]
  subst hd
  simp [vi64, List.set_append_right]
set_option maxRecDepth 100000 in
set_option maxHeartbeats 8000000 in
theorem read4 {X : List (Nat × List Value × TypeId)} {w0 w : World} {B r cc k : Nat} {a : Option Addr} {bs : List Int} {st : Bool} {c : CertV} (h : DS X w0 w B r a cc bs k st c) (hbb : ∀ x ∈ bs, 0 ≤ x ∧ x < 256) (n : Int) (hl : c.flows.length ≤ 100000) :
    Calls Try.prog 182 #[.pointer (some ⟨r, 0, none⟩), .pointer (some ⟨B, 0, none⟩), .int .i64 n] w (DOut X w0 B r a cc bs (rInts bs (rCount bs k st).1 (rCount bs k st).2.1 (rCount bs k st).2.2).2 { c with flows := c.flows ++ [(rInts bs (rCount bs k st).1 (rCount bs k st).2.1 (rCount bs k st).2.2).1] } true) := by
  have hcall := Lib.hid (rdCount h.rt hbb)
  have hbb' := Lib.hid hbb
  have h' := Lib.hid h
  have hbig := h.rt.big
  have hcl : (rCount bs k st).1 ≤ bs.length := by
    unfold rCount
    split
    · simp
    · split
      · split
        · simp only; omega
        · simp
      · simp
  clear h hbb
  rcases hrc : rCount bs k st with ⟨m, k1, s1⟩
  rw [hrc] at hcl
  simp only at hcl
  have hrc' := Lib.hid hrc
  have hmk := make_run (P := Try.prog) 46 2 (.int .i64 0) 8 Try.underlying46 infoI64 rfl (by omega) m (by omega)
  clear hrc
  go_enter Try.func182, Try.ntmps182
  go_wp2_with fail
  refine hcall.out.mono ?_
  intro e w1 he
  unfold RCountOut at he
  rw [hrc'.out] at he
  obtain ⟨rfl, hR, hm⟩ := he
  try dsimp only
  have hd := Lib.hid (h'.out.read hm hR)
  clear hR hm hcall h'
  go_wp2_with fail
  obtain ⟨vs, rows, h1, h2, h3, h4, h5⟩ := hd.out.ex
  have hmade := made_made w1 2 (.int .i64 0) m (by omega)
  obtain ⟨wm, hwm⟩ : ∃ wm, wm = w1.alloc (.cells (madeCells #[.int .i64 0] m) 2) := ⟨_, rfl⟩
  rw [← hwm] at hmade ⊢
  have hmw : Mod [] w1 wm := by rw [hwm]; exact (Mod.refl [] w1).alloc _
  obtain ⟨gf, hgf⟩ : ∃ gf, gf = w1.heap.size := ⟨_, rfl⟩
  rw [← hgf] at hmade ⊢
  have hk1 := Lib.hid (h1.keep hmw (by simp))
  have hk2 := Lib.hid (Cn.keep h1 h2 hmw (by simp))
  have hk4 := Lib.hid (h4.keep hmw (by simp))
  have hxg : Hid (∀ x ∈ X, x.1 ≠ gf) := fun x hx e => by have := (h4 x hx).1.lt; omega
  have hrt0 := Lib.hid (hd.out.rt.still hmw)
  have hown0 : wm.ownsRow 0 2 1 (.slice (some ⟨gf, 0, none⟩) m m) m (vi64 ((rInts bs 0 k1 s1).1 ++ List.replicate (m - 0) 0)) := by
    have := hmade.own
    simpa [rInts, vi64] using this
  have hown0' := Lib.hid hown0
  have hbase0 := Lib.hid (hd.out.base.trans hmw (by simp))
  -- what gf is not
  have hgR : Hid (gf ∉ RsX X B r a bs cc) := fun hm => by have := h1.lt gf hm; omega
  have hgv : Hid (∀ i, i < 4 → (vs i).ownBlock ≠ some gf) := fun i hi e => by have := own_lt (h1.own i hi) e; omega
  have hgl : Hid (∀ i x, i < 4 → x ∈ rows i → ¬ live x gf) := fun i x hi hx hl => by have := (h1.el i x hi hx gf hl).1; omega
  have hgs : w0.heap.size ≤ gf := by have := hd.out.base.size; omega
  have h3' := Lib.hid h3
  have h5' := Lib.hid h5
  have hlow := Lib.hid hd.out.low
  have hne := hd.out.ne
  have hna := Lib.hid hd.out.na
  clear h1 h2 h3 h4 h5 hmade hmw hwm hgf hown0 hmk hd
  go_loopw [8, 14] (fun _ iv wr => ∃ i : Nat, i ≤ m ∧ iv = .int .i64 i ∧ Bx wr B (RsX X B r a bs cc) vs rows ∧ Cn wr rows c ∧ RAt wr r a cc bs (rInts bs i k1 s1).2.1 (rInts bs i k1 s1).2.2 ∧ Mod [] w0 wr ∧ Kp wr X (Rs B r a bs cc) vs ∧ wr.ownsRow 0 2 1 (.slice (some ⟨gf, 0, none⟩) m m) m (vi64 ((rInts bs i k1 s1).1 ++ List.replicate (m - i) 0))) (fun _ iv _ => m - (intOf iv).toNat)
  case atStart => exact ⟨0, Nat.zero_le _, rfl, hk1.out, hk2.out, hrt0.out, hbase0.out, hk4.out, hown0'.out⟩
  case round =>
    clear hk1 hk2 hk4 hrt0 hbase0 hown0'
    obtain ⟨i, hi, rfl, h1, h2, hR, hbase, h4, hown⟩ := hrel
    obtain ⟨wo, hwo⟩ : ∃ wo : World, wo = wr := ⟨_, rfl⟩
    clear hwo
    have h1' := Lib.hid h1
    have h2' := Lib.hid h2
    have hR' := Lib.hid hR
    have hbase' := Lib.hid hbase
    have hown' := Lib.hid hown
    have h4' := Lib.hid h4
    clear h1 h2 hR hbase hown h4
    by_cases hlt : i < m
    · have hlt2 : (i : Int) < m := by omega
      have hcall := Lib.hid (rdInt hR'.out hbb'.out)
      go_wp2_with fail
      refine hcall.out.mono ?_
      intro e w2 he
      unfold RNatOut at he
      obtain ⟨rfl, hR2, hm2⟩ := he
      try dsimp only
      have hrF : ∀ b ∈ [r], b < wr.heap.size → b ∈ RsX X B r a bs cc ∧ b ≠ B := fun b hb _ => by rw [List.mem_singleton] at hb; subst hb; exact ⟨by simp [Rs, RsX], hne⟩
      have n1 := h1'.out.keep hm2 hrF
      have n2 := Cn.keep h1'.out h2'.out hm2 (fun b hb hlt => .inl (hrF b hb hlt).1)
      have n5 := h4'.out.keep hm2 (fun b hb hlt => .inl (by rw [List.mem_singleton] at hb; subst hb; simp [Rs, RsX]))
      have hgr : gf ≠ r := fun e => hgR.out (by simp [Rs, RsX, e])
      have n3 := own_keep hown'.out hm2 (fun g hg hm => hgr (by simp [Value.ownBlock] at hg hm; omega))
      have n4 := hbase'.out.trans hm2 (fun b hb hlt => by rw [List.mem_singleton] at hb; subst hb; have := hlow.out b (by simp [Rs, RsX]); omega)
      have hcell : ∃ u, w2.cell? ⟨gf, i, none⟩ = some u := by
        have hll : i < (vi64 ((rInts bs i k1 s1).1 ++ List.replicate (m - i) 0)).length := by rw [n3.1]; omega
        exact ⟨_, by rw [n3.cellAt i (by rw [← n3.1]; exact hll)]; exact List.getElem?_eq_getElem hll⟩
      obtain ⟨u0, hcell⟩ := hcell
      have hfr := n3.frozenAt i
      have hglt := own_lt n3 (g := gf) rfl
      generalize hx : unsign (rNat bs (rInts bs i k1 s1).2.1 (rInts bs i k1 s1).2.2).1 = x at *
      have hfin : Bx (w2.setCell ⟨gf, i, none⟩ (.int .i64 x)) B (RsX X B r a bs cc) vs rows ∧ Cn (w2.setCell ⟨gf, i, none⟩ (.int .i64 x)) rows c ∧ RAt (w2.setCell ⟨gf, i, none⟩ (.int .i64 x)) r a cc bs (rInts bs (i + 1) k1 s1).2.1 (rInts bs (i + 1) k1 s1).2.2 ∧ Mod [] w0 (w2.setCell ⟨gf, i, none⟩ (.int .i64 x)) ∧ Kp (w2.setCell ⟨gf, i, none⟩ (.int .i64 x)) X (Rs B r a bs cc) vs ∧ (w2.setCell ⟨gf, i, none⟩ (.int .i64 x)).ownsRow 0 2 1 (.slice (some ⟨gf, 0, none⟩) m m) m (vi64 ((rInts bs (i + 1) k1 s1).1 ++ List.replicate (m - (i + 1)) 0)) := by
        have mm : Mod [gf] w2 (w2.setCell ⟨gf, i, none⟩ (.int .i64 x)) := (Mod.refl [gf] w2).setCell _ _ (by simp)
        refine ⟨n1.keep2 mm (fun b hb => ?_), n2.keep2 mm (fun b hb => ?_), hR2.keep mm (by simp; omega) (fun g hg hm => ?_), n4.trans mm (fun b hb hlt => ?_), fun x hx => ?_, ?_⟩
        · rw [List.mem_singleton] at hb; subst hb; exact ⟨fun e => hgR.out (by simp [Rs, RsX, e]), hgv.out⟩
        · rw [List.mem_singleton] at hb; subst hb; exact hgl.out
        · rw [List.mem_singleton] at hm; subst hm; exact hgR.out (by simp [Rs, RsX, hg])
        · rw [List.mem_singleton] at hb; omega
        · obtain ⟨g1, g2, g3⟩ := n5 x hx
          exact ⟨g1.keep mm (fun hm => hxg.out x hx (by simpa using hm)), g2, g3⟩
        · have := (n3.stored i (.int .i64 x)).1
          rw [set_mid _ m i x (rInts_len bs i k1 s1) hlt] at this
          rw [rInts, hx]
          exact this
      have hfin' := Lib.hid hfin
      clear hfin n1 n2 n3 n4 n5 hR2 hm2 hrF hx hcall
      go_wp2_with fail
      go_roundw
      case rel => exact ⟨i + 1, by omega, by go_num, hfin'.out⟩
      case measure => simp [intOf]; omega
    · have him : m = i := by omega
      subst him
      obtain ⟨au, cu, aw, cw, sa, cs, af, cf, e0, e1, e2, e3⟩ := h1'.out.vals h2'.out
      have d0 := h1'.out.has.cell 3 rfl
      rw [e3] at d0
      have hl0 := h1'.out.has.lt
      have hfo := h1'.out.own 3 (by omega)
      rw [e3, h2'.out.fl] at hfo
      have hfo' := Lib.hid hfo
      have e3' := Lib.hid e3
      have hrow : vi64 ((rInts bs m k1 s1).1 ++ List.replicate (m - m) 0) = vi64 (rInts bs m k1 s1).1 := by simp
      have hrd := Rd.own hown'.out
      rw [hrow] at hrd
      have hrl := rInts_len bs m k1 s1
      have hlv : Hid (∀ g, live (.slice (some ⟨gf, 0, none⟩) m m) g → g = gf) := fun g hg => by
        obtain ⟨a2, n2, c2, e, _, rfl⟩ := hg
        simp only [Value.slice.injEq, Option.some.injEq] at e
        rw [← e.1]
      have hpush : Hid (∀ aA cA wA, wA.ownsRow 0 46 1 (.slice aA (c.flows.length + 1) cA) (c.flows.length + 1) (rows 3 ++ [.slice (some ⟨gf, 0, none⟩) m m]) → Mod (Value.slice af c.flows.length cf).ownBlock.toList wr wA →
        ((Value.slice aA (c.flows.length + 1) cA).ownBlock = (Value.slice af c.flows.length cf).ownBlock ∨ ∃ b, (Value.slice aA (c.flows.length + 1) cA).ownBlock = some b ∧ wr.heap.size ≤ b) →
        (wA.cell? ⟨B, 3, none⟩ = some (.slice af c.flows.length cf) ∧ wA.frozen? ⟨B, 3, none⟩ = false ∧ B < wA.heap.size) ∧
        DS X w0 (wA.setCell ⟨B, 3, none⟩ (.slice aA (c.flows.length + 1) cA)) B r a cc bs (rInts bs m k1 s1).2.1 (rInts bs m k1 s1).2.2 { c with flows := c.flows ++ [(rInts bs m k1 s1).1] }) := fun aA cA wA hA mA vA => by
        have e := e3'.out
        have hBn : B ∉ (Value.slice af c.flows.length cf).ownBlock.toList := fun hb => by
          rw [← e] at hb
          exact h1'.out.res 3 B (by omega) (by simpa using hb) h1'.out.memB
        have hh := h1'.out.has.keep mA hBn
        refine ⟨⟨by have := hh.cell 3 rfl; rwa [e] at this, hh.free 3, hh.lt⟩, ?_⟩
        have hds : DS X w0 wr B r a cc bs (rInts bs m k1 s1).2.1 (rInts bs m k1 s1).2.2 c := ⟨⟨vs, rows, h1'.out, h2'.out, h3'.out, h4'.out, h5'.out⟩, hR'.out, hbase'.out, hlow.out, hne, hna.out⟩
        refine hds.push h1'.out h2'.out h3'.out h4'.out h5'.out (i := 3) (by omega) (x := .slice (some ⟨gf, 0, none⟩) m m) (v' := .slice aA (c.flows.length + 1) cA) ?_ (by rw [e]; exact mA) (by rw [e]; exact vA) (fun g hg => ?_) (fun g hg => by rw [hlv.out g hg]; exact hgs) (fun w' hc mm => ?_)
        · rw [h2'.out.fl]; exact hA
        · rw [hlv.out g hg]
          exact ⟨own_lt hown'.out rfl, hgR.out, hgv.out⟩
        · have hrd' : Rd wr 1 (.slice (some ⟨gf, 0, none⟩) m m) (rInts bs m k1 s1).1.length (vi64 (rInts bs m k1 s1).1) := by rw [hrl]; exact hrd
          refine hc.push3 (rd_keep_live hrd' mm fun g hg hm2 => ?_)
          rw [hlv.out g hg] at hm2
          rcases List.mem_cons.1 hm2 with e | hm2
          · exact hgR.out (by simp [Rs, RsX, e])
          · exact hgv.out 3 (by omega) (by simpa using hm2)
      clear hrow hrd hrl hfo e0 e1 e2 e3 hlt
      generalize (rInts bs m k1 s1).1 = Y at *
      go_wp2_with (at_builtin; refine app_own rfl (.tmp 27) (.tmp 29) 126 46 _ 1 24 rfl Try.underlying126 infoSI64 rfl (by omega) (by omega) (.slice af c.flows.length cf) c.flows.length 1 (rows 3) [.slice (some ⟨gf, 0, none⟩) m m] rfl rfl rfl rfl (by simp [Value.oneCell']) hfo'.out (by omega) ?_; intro aA cA wA hA mA vA; obtain ⟨⟨dz, fz, lz⟩, hfin⟩ := hpush.out _ _ _ hA mA vA; have hfin' := Lib.hid hfin; clear hfin hA mA vA)
      go_ret
      exact ⟨rfl, hfin'.out⟩
end Code.Cert
end Go.Proofs.Ytmkbinbggiocaaa
