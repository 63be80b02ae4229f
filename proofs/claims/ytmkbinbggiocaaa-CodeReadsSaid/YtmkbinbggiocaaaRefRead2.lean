/- The reference's reader: Nat. -/
import Derived.Test.YtmkbinbggiocaaaRefRead1
import Derived.Test.YtmkbinbggiocaaaPuts45
import Derived.Test.YtmkbinbggiocaaaBackLaw
set_option linter.unusedVariables false
set_option linter.unusedSimpArgs false
namespace Go.Proofs.Ytmkbinbggiocaaa
open Go.RowKit
namespace Code
theorem str_inj : ∀ {a b : List Int}, (∀ x ∈ a, 0 ≤ x ∧ x < 256) → (∀ x ∈ b, 0 ≤ x ∧ x < 256) → (strOfNums a).toList = (strOfNums b).toList → a = b := by
  intro a b ha hb h
  have h1 : a.map (fun n => UInt8.ofNat n.toNat) = b.map (fun n => UInt8.ofNat n.toNat) := by
    rw [ByteArray.toList_eq, ByteArray.toList_eq, strOfNums_data, strOfNums_data] at h
    exact h
  clear h
  induction a generalizing b with
  | nil => cases b <;> simp_all
  | cons x a ih =>
    cases b with
    | nil => simp at h1
    | cons y b =>
      simp only [List.map_cons, List.cons.injEq] at h1
      have hx := ha x (by simp)
      have hy := hb y (by simp)
      have e : x.toNat = y.toNat := by
        have := congrArg UInt8.toNat h1.1
        simp only [UInt8.toNat_ofNat'] at this
        omega
      rw [show x = y by omega, ih (fun z hz => ha z (by simp [hz])) (fun z hz => hb z (by simp [hz])) h1.2]
theorem slice_mid {P : Program} {size : Nat} (t : TypeId) (ht : P.underlying t = some (.slice (P.elem t))) (hs : ∀ w : World, (sizeOf (P.elem t)).run P w = .ok 1 w) (g o n c k i : Nat) (h : k + i < c) :
    ∀ w : World, (Instr.slice t (.slice (some ⟨g, o, none⟩) n c) (some (.int .i64 (k : Int))) (some (.int .i64 ((k : Int) + (i : Int) + 1))) none).run P w = .ok (.slice (some ⟨g, o + k, none⟩) (i + 1) (c - k)) w := by
  intro w
  rw [run_slice_lh w t (some ⟨g, o, none⟩) n c ht .i64 .i64 k ((k : Int) + (i : Int) + 1) (by omega) (by omega) (by omega), hs]
  simp only [Result.andThen, sliced, Int.toNat_natCast]
  rw [if_neg (by omega)]
  simp only [Option.map_some, Addr.add_lit, Nat.mul_one]
  rw [show ((k : Int) + (i : Int) + 1).toNat - k = i + 1 by omega]
theorem Rd_mid {w : World} {g o c k i : Nat} {bs : List Int} (h : Rd w 1 (.slice (some ⟨g, o, none⟩) bs.length c) bs.length (u8s bs)) (hk : k + i < bs.length) (hc : k + i < c) : Rd w 1 (.slice (some ⟨g, o + k, none⟩) (i + 1) (c - k)) (i + 1) (u8s ((bs.drop k).take (i + 1))) := by
  have hle : c ≤ maxLen := by
    rcases h.2 with ⟨he, _⟩ | ⟨ad, c', he, _, h2, _⟩
    · simp at he
    · simp only [Value.slice.injEq, true_and] at he
      obtain ⟨_, rfl⟩ := he
      exact h2
  refine ⟨by simp [u8s]; omega, .inr ⟨_, _, rfl, by omega, by omega, fun j u hu => ?_⟩⟩
  have hj : j < i + 1 := by
    rcases Nat.lt_or_ge j (i + 1) with h' | h'
    · exact h'
    · rw [List.getElem?_eq_none (by simp [u8s]; omega)] at hu; simp at hu
  have hu' : (u8s bs)[k + j]? = some u := by
    rw [← hu]; simp only [u8s, List.map_take, List.map_drop, List.getElem?_take, if_pos hj, List.getElem?_drop]
  rw [Addr.add_lit, Nat.add_assoc]
  exact h.cellAt (k + j) hu'
set_option maxRecDepth 100000 in
set_option maxHeartbeats 8000000 in
theorem xNat {w0 w : World} {r k : Nat} {vb : Value} {bs : List Int} {stop : Bool} (h : XAt w0 w r vb bs k stop) (hbb : ∀ x ∈ bs, 0 ≤ x ∧ x < 256) :
    Calls Try.prog 106 #[.pointer (some ⟨r, 0, none⟩)] w (XNatOut w0 w r vb bs k stop fun n => .int .u64 n) := by
  obtain ⟨ab, cb, rfl⟩ := h.rd.val
  have hxb : Hid (∀ x ∈ bs.drop k, 0 ≤ x ∧ x < 256) := fun x hx => hbb x (List.mem_of_mem_drop hx)
  have hle := h.le
  have hbig := h.big
  have h' := Lib.hid h
  have hout : Hid (∀ w1 (s1 : Bool), XAt w0 w1 r (.slice ab bs.length cb) bs k s1 → Mod [r] w w1 → (stop = true ∨ natP 0 (bs.drop k) = none) → ∀ w2, w2 = w1.setCell ⟨r, 2, none⟩ (.bool true) → XNatOut w0 w r (.slice ab bs.length cb) bs k stop (fun n => .int .u64 n) (.returned (.int .u64 0)) w2) := fun w1 s1 hX hm hno w2 e => by
    subst e
    have e1 : rNat bs k stop = (0, k, true) := by
      unfold rNat
      rcases hno with h | h
      · simp [h]
      · simp [h]
    unfold XNatOut
    rw [e1]
    exact ⟨by simp, hX.halt.1, trM r _ _ _ hm hX.halt.2⟩
  clear h hbb
  go_enter Try.func106, Try.ntmps106
  go_wp2_with fail
  go_loopw [3, 4] (fun nv iv wr => ∃ (i m : Nat) (st : Bool), i ≤ 10 ∧ iv = .int .i64 i ∧ nv = .int .u64 m ∧ XAt w0 wr r (.slice ab bs.length cb) bs k st ∧ Mod [r] w wr ∧ (st = true → stop = true ∨ natP 0 (bs.drop k) = none) ∧
    (st = false → stop = false ∧ k + i ≤ bs.length ∧ m = valN ((bs.drop k).take i) % 18446744073709551616 ∧ ∀ j z, j < i → (bs.drop k)[j]? = some z → 128 ≤ z)) (fun nv iv _ => 10 - (intOf iv).toNat)
  case atStart => exact ⟨0, 0, stop, by omega, rfl, rfl, h'.out, Mod.refl _ _, fun h => .inl h, fun h => ⟨h, by omega, by simp [valN], fun j z hj => by omega⟩⟩
  case round =>
    obtain ⟨i, m, st, hi, rfl, rfl, hX, hm, hst, hrun⟩ := hrel
    obtain ⟨wo, hwo⟩ : ∃ wo : World, wo = wr := ⟨_, rfl⟩
    clear hwo
    have c0 := hX.has.cell 0 rfl
    have c1 := hX.has.cell 1 rfl
    have c2 := hX.has.cell 2 rfl
    have fr2 := hX.has.free 2
    have fr1 := hX.has.free 1
    have hrl := hX.has.lt
    have hX' := Lib.hid hX
    have hm' := Lib.hid hm
    have hst' := Lib.hid hst
    have hrun' := Lib.hid hrun
    clear hX hm hst hrun
    by_cases h10 : i < 10
    · have t1 : decide ((i : Int) < 10) = true := by simp; omega
      have t1' : decide (i < 10) = true := by simpa using h10
      cases st with
      | true =>
        have hno := Lib.hid (hst'.out rfl)
        go_wp2_with fail
        go_quiet (fail)
        have hf := Lib.hid (hout.out _ _ (hX'.out.still ((Mod.refl [] wr).drewN nq)) (trM r _ _ _ hm'.out ((Mod.refl [r] wr).drewN nq)) hno.out)
        go_wp2_with fail
        go_ret
        exact hf.out _ rfl
      | false =>
        obtain ⟨hs0, hki, hmv, hprev⟩ := hrun'.out rfl
        have hmv' := Lib.hid hmv
        have hprev' := Lib.hid hprev
        have hw1 : IntKind.i64.wrap ((k : Int) + (i : Int)) = (k : Int) + (i : Int) := IntWalk.i64_in _ (by omega)
        clear hmv hprev
        by_cases hlt : k + i < bs.length
        · have t2 : decide ((k : Int) + (i : Int) < (bs.length : Int)) = true := by simp; omega
          have t2' : decide (k + i < bs.length) = true := by simpa using hlt
          obtain ⟨x, hx⟩ : ∃ x, bs[k + i]? = some x := ⟨bs[k + i], List.getElem?_eq_getElem hlt⟩
          have hxd : (bs.drop k)[i]? = some x := by rw [List.getElem?_drop]; exact hx
          have hx01 := hxb.out x (List.mem_of_getElem? hxd)
          obtain ⟨g, o, rfl, _, _, hcell⟩ := hX'.out.read.at (by rw [u8s_length]; omega)
          have hc := hcell (k + i) _ (u8s_get hx)
          have hi0 : (0 : Int) ≤ (k : Int) + (i : Int) := by omega
          have hi1 : (k : Int) + (i : Int) < (bs.length : Int) := by omega
          have hi2 : ((k : Int) + (i : Int)).toNat = k + i := by omega
          obtain ⟨mm, hmm⟩ : ∃ mm, mm = valN ((bs.drop k).take (i + 1)) % 18446744073709551616 := ⟨_, rfl⟩
          have hsum : IntKind.u64.wrap ((m : Int) + IntKind.u64.wrap (x % 128 * 2 ^ (7 * i))) = (mm : Int) := by
            have htl : ((bs.drop k).take i).length = i := by rw [List.length_take, List.length_drop]; omega
            have hv : valN ((bs.drop k).take (i + 1)) = valN ((bs.drop k).take i) + 128 ^ i * (x % 128).toNat := by
              rw [List.take_add_one, hxd]; simp only [Option.toList_some]; rw [valN_snoc, htl]
            obtain ⟨q, hq⟩ : ∃ q, q = 128 ^ i * (x % 128).toNat := ⟨_, rfl⟩
            have e1 : x % 128 * 2 ^ (7 * i) = (q : Int) := by
              rw [pow7, hq, Int.natCast_mul, Int.mul_comm]
              congr 1
              omega
            have hm2 := hmv'.out
            rw [e1, IntKind.wrap_u64, IntKind.wrap_u64, hmm, hv, ← hq]
            omega
          have hmm' := Lib.hid hmm
          have hxd' := Lib.hid hxd
          clear hcell hx hmm hxd
          by_cases h128 : x < 128
          · have t3 : decide (x < 128) = true := by simpa using h128
            have hmx : mm < 18446744073709551616 := by rw [hmm'.out]; omega
            obtain ⟨ys, hys⟩ : ∃ ys, ys = (bs.drop k).take (i + 1) := ⟨_, rfl⟩
            have hyl : ys.length = i + 1 := by rw [hys, List.length_take, List.length_drop]; omega
            obtain ⟨sx, hsx⟩ : ∃ q, q = strOfNums ys := ⟨_, rfl⟩
            obtain ⟨zs, hzs⟩ : ∃ zs, zs = natB mm := ⟨_, rfl⟩
            obtain ⟨sz, hsz⟩ : ∃ q, q = strOfNums zs := ⟨_, rfl⟩
            have hkc : k + i < cb := by
              rcases hX'.out.rd.2 with ⟨he, hz⟩ | ⟨ad, c', he, hz, _⟩
              · omega
              · simp only [Value.slice.injEq, true_and] at he
                obtain ⟨_, rfl⟩ := he
                omega
            have hsl := slice_mid (P := Try.prog) (size := 1) 45 (by kernel_rfl) (fun w => by kernel_rfl) g o bs.length cb k i hkc
            have hw2 : IntKind.i64.wrap ((k : Int) + (i : Int) + 1) = (k : Int) + (i : Int) + 1 := IntWalk.i64_in _ (by omega)
            have fc0 : ∀ n (m : FutM (wr.drewN n)), m.v.cell? ⟨r, 0, none⟩ = some (.slice (some ⟨g, o, none⟩) bs.length cb) := fun n m => (hX'.out.has.keep (((Mod.refl [] wr).drewN n).trans m.of (by simp)) (by simp)).cell 0 rfl
            have fc1 : ∀ n (m : FutM (wr.drewN n)), m.v.cell? ⟨r, 1, none⟩ = some (.int .i64 k) := fun n m => (hX'.out.has.keep (((Mod.refl [] wr).drewN n).trans m.of (by simp)) (by simp)).cell 1 rfl
            have fcv : ∀ n (m : FutM (wr.drewN n)), (convert 45 9 (.slice (some ⟨g, o + k, none⟩) (i + 1) (cb - k))).run Try.prog m.v = .ok (.string sx) m.v := fun n m => by
              have hrd := Rd_mid (hX'.out.read.still (((Mod.refl [] wr).drewN n).trans m.of (by simp))) hlt hkc
              rw [← hys] at hrd
              have := conv_rd (bs := ys) (by rw [hyl]; exact hrd)
              rwa [← hsx] at this
            have q1 := Lib.hid (fun W => refNat_any mm W hmx)
            rw [← hzs] at q1
            have hlaw := Lib.hid (refnat_hit hxb.out hxd'.out h128 hprev'.out)
            rw [← hmm'.out, ← hys, ← hzs] at hlaw
            have hsx' := Lib.hid hsx
            have hsz' := Lib.hid hsz
            have hzs' := Lib.hid hzs
            have hys' := Lib.hid hys
            clear hyl hsx hsz hzs hys h128
            go_wp2_with fail
            go_quiet (fail)
            obtain ⟨na, hna⟩ : ∃ na, na = nq := ⟨_, rfl⟩
            subst hna
            go_wp2_with fail
            go_quiet (fail)
            go_wp2_with fail
            refine region_sched (G := Mod []) [([0,3,4,5,6,7,8,9,10,11,12,13,14,15,16,17,18,19],1)] [2,20] (by kernel_rfl) (by kernel_rfl) (by kernel_rfl) rfl (Mod.refl []) (fun _ _ _ h1 h2 => h1.trans h2 (by simp)) ?_
            simp only [stages, pickO, nthO, headO, List.cons_append, List.nil_append]
            refine sched_step ?_
            repeat (go_big_quiet_step (fail))
            refine wpQuiet_nil ?_
            intro K hK
            rw [if_pos (by rfl)]
            go_simp
            refine (q1.out _).mono ?_
            rintro e w1 ⟨az, cz, rfl, hm1⟩
            try dsimp only
            refine hK.out _ _ hm1.mod ?_
            clear hK K
            have fz : ∀ m : FutM w1, (convert 45 9 (.slice az zs.length cz)).run Try.prog m.v = .ok (.string sz) m.v := fun m => by
              have := conv_rd ((Rd.own hm1.own).still m.of)
              rwa [← hsz'.out] at this
            have fcv1 := FutM.conv (w := wr.drewN (na + nq + 1)) hm1.mod (fcv (na + nq + 1))
            have hW1 := Lib.hid (((Mod.refl [] wr).drewN (na + nq + 1)).trans hm1.mod (by simp))
            have hX1 := Lib.hid (hX'.out.still hW1.out)
            have hm1' := Lib.hid (trM r _ _ _ hm'.out hW1.out.of0)
            have k1 := hX1.out.has.cell 1 rfl
            have k2 := hX1.out.has.cell 2 rfl
            have g1 := hX1.out.has.free 1
            have g2 := hX1.out.has.free 2
            have gl := hX1.out.has.lt
            clear fc0 fc1 fcv c0 c1 c2 fr1 fr2 hrl
            by_cases hzy : zs = ys
            · have hse : (sz.toList == sx.toList) = true := by rw [hsz'.out, hsx'.out, hzy]; simp
              have hN := Lib.hid (hlaw.out.1 hzy)
              clear hzy
              refine sched_last ?_
              repeat (go_big_quiet_step (fail))
              refine wpQuiet_nil ?_
              clear fz fcv1
              have hfin : ∀ w2, w2 = w1.setCell ⟨r, 1, none⟩ (.int .i64 ((k + (i + 1) : Nat) : Int)) → XNatOut w0 w r (.slice (some ⟨g, o, none⟩) bs.length cb) bs k stop (fun n => .int .u64 n) (.returned (.int .u64 mm)) w2 := fun w2 e => by
                subst e
                have hgo := hX1.out.go (k + (i + 1)) (by omega)
                have e1 : rNat bs k stop = (mm, k + (i + 1), false) := by
                  unfold rNat; rw [hs0, hN.out]; simp
                unfold XNatOut
                rw [e1]
                exact ⟨rfl, hgo.1, trM r _ _ _ hm1'.out hgo.2⟩
              have hfin' := Lib.hid hfin
              clear hfin
              go_wp2_with fail
              go_ret
              exact hfin'.out _ (by go_num)
            · have hse : (sz.toList == sx.toList) = false := by
                rw [hsz'.out, hsx'.out]
                simp only [beq_eq_false_iff_ne]
                intro h
                exact hzy (str_inj (by rw [hzs'.out]; exact natB_byte mm) (by rw [hys'.out]; exact fun y hy => hxb.out y (List.mem_of_mem_take hy)) h)
              have hN := Lib.hid (hlaw.out.2 hzy)
              clear hzy
              refine sched_last ?_
              repeat (go_big_quiet_step (fail))
              refine wpQuiet_nil ?_
              clear fz fcv1
              go_wp2_with fail
              go_roundw
              case rel => exact ⟨i + 1, mm, true, by omega, by go_num, rfl, hX1.out.halt.1, trM r _ _ _ hm1'.out hX1.out.halt.2, fun _ => .inr hN.out, fun h => absurd h (by simp)⟩
              case measure => simp [intOf]; omega
          · have t3 : decide (x < 128) = false := by simpa using h128
            have h128' := Lib.hid h128
            clear h128
            go_wp2_with fail
            go_quiet (fail)
            go_wp2_with fail
            go_quiet (fail)
            go_wp2_with fail
            go_roundw
            case rel =>
              refine ⟨i + 1, mm, false, by omega, by go_num, rfl, hX'.out.still ((Mod.refl [] wr).drewN _), trM r _ _ _ hm'.out ((Mod.refl [r] wr).drewN _), fun h => absurd h (by simp), fun _ => ⟨hs0, by omega, hmm'.out, fun j z hj hz => ?_⟩⟩
              rcases Nat.lt_or_ge j i with hji | hji
              · exact hprev'.out j z hji hz
              · have : j = i := by omega
                subst this
                rw [hxd'.out] at hz
                simp only [Option.some.injEq] at hz
                have := h128'.out
                omega
            case measure => simp [intOf]; omega
        · have t2 : decide ((k : Int) + (i : Int) < (bs.length : Int)) = false := by simp; omega
          have t2' : decide (k + i < bs.length) = false := by simpa using hlt
          have hno : Hid (stop = true ∨ natP 0 (bs.drop k) = none) := .inr (refnat_miss hxb.out fun j z hj hz => hprev'.out j z (by
            have := (List.getElem?_eq_some_iff.1 hz).1
            rw [List.length_drop] at this; omega) hz)
          clear hlt
          go_wp2_with fail
          go_quiet (fail)
          have hf := Lib.hid (hout.out _ _ (hX'.out.still ((Mod.refl [] wr).drewN nq)) (trM r _ _ _ hm'.out ((Mod.refl [r] wr).drewN nq)) hno.out)
          go_wp2_with fail
          go_ret
          exact hf.out _ rfl
    · have t1 : decide ((i : Int) < 10) = false := by simp; omega
      have t1' : decide (i < 10) = false := by simpa using h10
      have hno : Hid (stop = true ∨ natP 0 (bs.drop k) = none) := by
        show stop = true ∨ natP 0 (bs.drop k) = none
        cases st with
        | true => exact hst'.out rfl
        | false => exact .inr (refnat_miss hxb.out fun j z hj hz => (hrun'.out rfl).2.2.2 j z (by omega) hz)
      clear h10
      go_wp2_with fail
      go_quiet (fail)
      have hf := Lib.hid (hout.out _ _ (hX'.out.still ((Mod.refl [] wr).drewN nq)) (trM r _ _ _ hm'.out ((Mod.refl [r] wr).drewN nq)) hno.out)
      go_wp2_with fail
      go_ret
      exact hf.out _ rfl
end Code
end Go.Proofs.Ytmkbinbggiocaaa
