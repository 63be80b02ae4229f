/- PheapFalls: the walk. -/
import Derived.Test.YtmkbinbggiocaaaDo12
import Derived.Test.YtmkbinbggiocaaaFallsLaw
import Derived.StillTailTactics
set_option linter.unusedVariables false
set_option linter.unusedSimpArgs false
namespace Go.Proofs.Ytmkbinbggiocaaa
open Go.RowKit Arena
namespace Ref12
open Go.Proofs.Ytmkbinbggiocaaa.Code
open Go.Proofs.Ytmkbinbggiocaaa.Hp
def YesF (w : World) (e : Ending) (w' : World) : Prop := e = .returned (.bool true) ∧ Mod [] w w'
theorem vi64_at {l : List Int} {k : Nat} (hk : k < l.length) : (vi64 l)[k]? = some (.int .i64 (l.getD k 0)) := vi64_get (by rw [List.getElem?_eq_getElem hk, List.getD_eq_getElem?_getD, List.getElem?_eq_getElem hk]; rfl)
theorem vi64_set (l : List Int) (k : Nat) (x : Int) : (vi64 l).set k (.int .i64 x) = vi64 (l.set k x) := by simp [vi64, List.map_set]
theorem vi64_one (l : List Int) : ∀ u ∈ vi64 l, u.oneCell' = true := by simp [vi64, Value.oneCell']
set_option maxRecDepth 100000 in
set_option maxHeartbeats 8000000 in
theorem falls_any {va vb : Value} {w : World} (keys raise : List Int) (ha : Rd w 1 va keys.length (vi64 keys)) (hb : Rd w 1 vb raise.length (vi64 raise)) :
    Calls Try.prog 10 #[va, vb] w (YesF w) := by
  obtain ⟨a, c, rfl⟩ := ha.val
  obtain ⟨b, d, rfl⟩ := hb.val
  have ha' := Lib.hid ha
  have hb' := Lib.hid hb
  clear ha hb
  by_cases hl1 : 100 < keys.length
  · have g1 : decide (100 < (keys.length : Int)) = true := by simp; omega
    have g1' : decide (100 < keys.length) = true := by simp; omega
    go_enter Try.func10, Try.ntmps10
    go_wp2_with (go_at_call 70; refine (awake12 _).mono ?_; rintro e w' ⟨rfl, hm⟩)
    go_ret
    exact ⟨rfl, hm⟩
  have g1 : decide (100 < (keys.length : Int)) = false := by simp; omega
  have g1' : decide (100 < keys.length) = false := by simp; omega
  by_cases hl2 : 100 < raise.length
  · have g2 : decide (100 < (raise.length : Int)) = true := by simp; omega
    have g2' : decide (100 < raise.length) = true := by simp; omega
    go_enter Try.func10, Try.ntmps10
    go_wp2_with (go_at_call 70; refine (awake12 _).mono ?_; rintro e w' ⟨rfl, hm⟩)
    go_ret
    exact ⟨rfl, hm⟩
  have g2 : decide (100 < (raise.length : Int)) = false := by simp; omega
  have g2' : decide (100 < raise.length) = false := by simp; omega
  have hn : keys.length ≤ 100 := by omega
  have hnr : raise.length ≤ 100 := by omega
  clear hl1 hl2
  go_enter Try.func10, Try.ntmps10
  go_wp2_with fail
  refine (Hp.new_any keys.length w).mono ?_
  rintro e w1 ⟨bh, F, rfl, h1, m1, hn1⟩
  try dsimp only
  have er : (min (max (keys.length : Int) 0) 4096).toNat = keys.length := by omega
  rw [er] at h1
  have hS1 := Lib.hid ((Sep.empty w).add (P := HpP bh (newH keys.length)) m1 h1 hn1)
  clear h1 m1 hn1 er
  go_wp2_with (at_builtin; refine app_rd rfl (.tmp 30) (.tmp 31) 46 2 _ 1 8 rfl Try.underlying46 Ref12.infoL rfl (by omega) (by omega) (.slice (some ⟨w1.heap.size, 0, none⟩) 0 0) (.slice a keys.length c) 0 keys.length [] (vi64 keys) rfl rfl (vi64_one keys) (World.ownsRow_made w1 #[] 0 (Nat.zero_le _) (Nat.zero_le _) rfl) ((ha'.out.still hS1.out.mod).still ((Mod.refl _ _).alloc _)) (by omega) ?_; intro ai ci w2 hi mi ni)
  rw [Nat.zero_add] at hi ni
  have hmi : Made w1 w2 2 1 ai keys.length ci (vi64 keys) := ⟨by simpa using hi, ((Mod.refl [] w1).alloc _).ge mi (by simp [Value.ownBlock]), ge_of_old _ (by simp [Value.ownBlock]) ni (by simp)⟩
  have hS2 := Lib.hid (hS1.out.made hmi).swap
  clear hi mi ni hmi hS1 g1 g1' g2 g2'
  have hfl := Lib.hid (fill_new (keys := keys) (by omega))
  generalize hn2 : keys.length = n at *
  have hn2' := Lib.hid hn2.symm
  clear hn2
  go_wp2_with fail
  go_loopw [7] (fun i wr => ∃ (k : Nat) (H : Hp) (I : List Bool) (X : List Int), k ≤ n ∧ i = .int .i64 k ∧ Hid (Sep w wr [HpP bh H, Row 2 1 n (.slice ai n ci) (vi64 keys)]) ∧ Hid (Fill H I X keys k)) (fun i _ => n - (intOf i).toNat)
  case atStart => exact ⟨0, _, _, _, Nat.zero_le _, rfl, hS2, hfl⟩
  case round =>
    clear hS2 hfl
    obtain ⟨k, H, I, X, hk, rfl, hS, hF⟩ := hrel
    by_cases hlt : k < n
    · have hlt1 : (k : Int) < n := by omega
      obtain ⟨g, o, rfl, hgl0, hcell⟩ := rd_cell ha'.out hlt
      have hgl : g < wr.heap.size := Nat.lt_of_lt_of_le hgl0 hS.out.mod.size
      have q0 := hcell wr k _ hS.out.mod (vi64_at (by rw [← hn2'.out]; exact hlt))
      obtain ⟨H1, H2, I', X', hT1, hT2, hF2, l1, l2⟩ := hF.out.step (by rw [← hn2'.out]; exact hlt)
      have hp := Lib.hid (push_s hS.out k _ _ hT1 hF.out.lo (by have := hF.out.hi; omega))
      have hp2 := Lib.hid (fun (wx : World) (hS' : Sep w wx [HpP bh H1, Row 2 1 n (.slice ai n ci) (vi64 keys)]) => push_s hS' k _ _ hT2 l1 (by omega))
      have hF2' := Lib.hid hF2
      have hcell' := Lib.hid hcell
      have ek := vi64_at (l := keys) (k := k) (by rw [← hn2'.out]; exact hlt)
      generalize keys.getD k 0 = u at *
      have ek' := Lib.hid ek
      clear hT1 hT2 hF2 hF hS hcell ek l1 l2
      go_wp2_with fail
      refine hp.out.mono ?_
      rintro e w3 ⟨rfl, hS3⟩
      try dsimp only
      have q1 := hcell'.out w3 k _ hS3.mod ek'.out
      have hp3 := Lib.hid (hp2.out w3 hS3)
      clear hp hp2 q0 hS3
      go_wp2_with fail
      refine hp3.out.mono ?_
      rintro e w4 ⟨rfl, hS4⟩
      try dsimp only
      have hS4' := Lib.hid hS4
      clear hS4 hp3 q1
      go_wp2_with fail
      go_roundw
      case rel => exact ⟨k + 1, H2, I', X', by omega, by go_num, hS4', hF2'⟩
      case measure => simp [intOf]; omega
    · have hkn : k = n := by omega
      subst hkn
      rw [hn2'.out] at hF
      have hN := Lib.hid hF.out.now
      have hlen := Lib.hid (show keys.length = k from hn2'.out.symm)
      clear hF hlt hk
      go_wp2_with fail
      go_loopw [8] (fun i wr => ∃ (v : Nat) (H : Hp) (I : List Bool) (X now : List Int), v ≤ k ∧ v ≤ raise.length ∧ i = .int .i64 v ∧ Hid (Sep w wr [HpP bh H, Row 2 1 k (.slice ai k ci) (vi64 now)]) ∧ Hid (Now H I X now (2 * keys.length + v) ∧ now.length = k)) (fun i _ => k - (intOf i).toNat)
      case atStart => exact ⟨0, _, _, _, _, Nat.zero_le _, Nat.zero_le _, rfl, hS, Lib.hid ⟨hN.out, hlen.out⟩⟩
      case round =>
        clear hS hN
        obtain ⟨v, H, I, X, now, hv, hvr, rfl, hS, hN⟩ := hrel
        by_cases hlt : v < k ∧ v < raise.length
        · obtain ⟨hlt, hltr⟩ := hlt
          have hlt1 : (v : Int) < k := by omega
          have hlt2 : (v : Int) < raise.length := by omega
          obtain ⟨hNo, hnl⟩ := hN.out
          obtain ⟨g, o, rfl, hgl0, hcell⟩ := rd_cell hb'.out hltr
          obtain ⟨gn, rfl, hgn, _, hcn⟩ := row_form hS.out.swap.row (by omega)
          have hgl : g < wr.heap.size := Nat.lt_of_lt_of_le hgl0 hS.out.mod.size
          obtain ⟨H', X', hT, hN2⟩ := hNo.step (k := v) (by rw [hnl]; exact hlt) (raise.getD v 0)
          have ek := vi64_at (l := raise) (k := v) hltr
          have en := vi64_at (l := now) (k := v) (by rw [hnl]; exact hlt)
          have q0 := hcell wr v _ hS.out.mod ek
          have q1 := hcn v _ en
          have hp := Lib.hid (raise_s (hS.out.still (Mod.refl [] wr).drew) v _ _ hT hNo.lo (by have := hNo.hi; have := hlen.out; omega))
          have hN2' := Lib.hid (And.intro hN2 (show (now.set v (if now.getD v 0 < raise.getD v 0 then raise.getD v 0 else now.getD v 0)).length = k by rw [List.length_set]; exact hnl))
          generalize now.getD v 0 = nv at *
          generalize raise.getD v 0 = u at *
          have f0 := KC.one (L := [(⟨g, o + v, none⟩, .int .i64 u), (⟨gn, v, none⟩, .int .i64 nv)]) (w := wr.drew) q0 (by simp)
          have f1 := KC.one (L := [(⟨g, o + v, none⟩, .int .i64 u), (⟨gn, v, none⟩, .int .i64 nv)]) (w := wr.drew) q1 (by simp)
          have hcell' := Lib.hid hcell
          have ek' := Lib.hid ek
          have en' := Lib.hid en
          clear hT hN2 hN hNo hcell ek en q0 q1 hcn hnl hS
          cases htb : decide (u < nv)
          all_goals
            rw [htb] at hp
            have htb2 : decide (nv ≤ u) = !decide (u < nv) := by rw [← decide_not, decide_eq_decide]; omega
            rw [htb] at htb2
            go_wp2_with fail
            refine region_sched (G := KC [(⟨g, o + v, none⟩, .int .i64 u), (⟨gn, v, none⟩, .int .i64 nv)]) [([0,1,2,3,4,5,7,8,9,10,11,12,13,14,15],6)] [16] (by kernel_rfl) (by kernel_rfl) (by kernel_rfl) rfl (KC.refl _) (KC.trans _) ?_
            simp only [stages, pickO, nthO, headO, List.cons_append, List.nil_append]
            refine sched_step ?_
            repeat (go_big_quiet_step (fail))
            refine wpQuiet_nil ?_
            intro K hK
            rw [if_pos (by rfl)]
            go_simp
            refine hp.out.mono ?_
            rintro e w3 ⟨rfl, hS3⟩
            try dsimp only
            obtain ⟨gn', egn, hgn3, hz3, hcn3⟩ := row_form hS3.swap.row (by omega)
            simp only [Option.some.injEq, Addr.mk.injEq, and_true] at egn
            subst egn
            have q0 := hcell'.out w3 v _ hS3.mod ek'.out
            have q1 := hcn3 v _ en'.out
            refine hK.out _ _ (fun p hp _ => by
              simp only [List.mem_cons, List.mem_nil_iff, or_false] at hp
              rcases hp with rfl | rfl
              · exact q0
              · exact q1) ?_
            clear hK K f0 f1 hp hcn3
            have hS3' := Lib.hid hS3
            have hgl3 : g < w3.heap.size := Nat.lt_of_lt_of_le hgl0 hS3.mod.size
            clear hS3
            refine sched_last ?_
            repeat (go_big_quiet_step (fail))
            refine wpQuiet_nil ?_
            go_wp2_with fail
            go_still_tail 12, (by kernel_rfl)
            go_wp2_with fail
            have hm := hlt
            go_roundw
            case rel => exact ⟨v + 1, H', I, X', _, by omega, by omega, by go_num, Lib.hid ((by have := (hS3'.out.swap.rowset v (.int .i64 (if nv < u then u else nv))).swap; rwa [vi64_set] at this : Sep w _ _).still (Mod.refl [] _).drew), Lib.hid ⟨hN2'.out.1, hN2'.out.2⟩⟩
            case measure => simp [intOf]; omega
        · obtain ⟨hNo, hnl⟩ := hN.out
          have hL : Hid (∃ c, Hp.Left H I X now k 0 (-1) c ∧ c + 8193 * k ≤ 300 + 8193 * k ∧ now.length = k) := Lib.hid ⟨_, by have := hNo.left 0; rwa [hnl] at this, by have := hlen.out; omega, hnl⟩
          clear hN hNo hnl
          have hv2 : k ≤ v ∨ v < k ∧ raise.length ≤ v := by omega
          clear hlt
          have hv3 : (decide ((v : Int) < (k : Int)) = false ∧ decide (v < k) = false) ∨ (decide ((v : Int) < (k : Int)) = true ∧ decide (v < k) = true ∧ decide ((v : Int) < (raise.length : Int)) = false ∧ decide (v < raise.length) = false) := by
            rcases hv2 with hv2 | ⟨hv2, hv3⟩
            · left; simp; omega
            · right; simp; omega
          clear hv2
          rcases hv3 with ⟨d1, d2⟩ | ⟨d1, d2, d3, d4⟩
          case' inl => have d5 := d1
          case' inr => have d5 := d3
          all_goals
            go_wp2_with fail
            clear hb' hvr
            go_loopw [9, 10, 11] (fun s9 s10 s11 wr => ∃ (m : Nat) (last at_ : Int) (H : Hp) (I : List Bool) (X : List Int), m ≤ k ∧ s9 = .int .i64 last ∧ s10 = .int .i64 at_ ∧ s11 = .int .i64 m ∧ Hid (Sep w wr [HpP bh H, Row 2 1 k (.slice ai k ci) (vi64 now)]) ∧ Hid (∃ c, Hp.Left H I X now m last at_ c ∧ c + 8193 * m ≤ 300 + 8193 * k ∧ now.length = k)) (fun _ _ s11 _ => (intOf s11).toNat)
            case atStart => exact ⟨k, 0, -1, _, _, _, Nat.le_refl _, rfl, rfl, rfl, hS, hL⟩
            case round =>
              clear hS hL hlen
              obtain ⟨m, last, at_, H, I, X, hm, rfl, rfl, rfl, hS, hL⟩ := hrel
              obtain ⟨c, hL1, hL2, hnl⟩ := hL.out
              cases m with
              | zero =>
                obtain ⟨H', hT, hc⟩ := hL1.stop
                have hp := Lib.hid (pop_s 4096 hS.out _ _ _ hT hL1.lo (by have := hL1.hi; omega) (by omega))
                have hc' := Lib.hid hc
                clear hT hL hL1 hL2 hS hc
                go_wp2_with fail
                refine hp.out.mono ?_
                rintro e w3 ⟨rfl, hS3⟩
                try dsimp only
                obtain ⟨F3, hh3, _, _⟩ := hS3.first
                have hlenA := Lib.hid (len_any hh3)
                rw [hc'.out] at hlenA
                have hmm := Lib.hid hS3.mod
                clear hh3 hS3 hp
                go_wp2_with fail
                refine hlenA.out.mono ?_
                rintro e w4 ⟨rfl, rfl⟩
                try dsimp only
                go_wp2_with fail
                refine (awake12 _).mono ?_
                rintro e w5 ⟨rfl, hm5⟩
                try dsimp only
                have hmm2 := Lib.hid (hmm.out.trans hm5 (by simp))
                clear hm5
                go_wp2_with fail
                go_ret
                exact ⟨rfl, hmm2.out⟩
              | succ m =>
                obtain ⟨H', I', X', v, hT, hvn, htop, hL3⟩ := hL1.step
                have hp := Lib.hid (pop_s 4096 hS.out _ _ _ hT hL1.lo (by have := hL1.hi; omega) (by omega))
                have hvk : v < k := by omega
                have en := vi64_at (l := now) (k := v) hvn
                have hL4 := Lib.hid (show ∃ c, Hp.Left H' I' X' now m (now.getD v 0) v c ∧ c + 8193 * m ≤ 300 + 8193 * k ∧ now.length = k from ⟨_, hL3, by omega, hnl⟩)
                generalize now.getD v 0 = nv at *
                have en' := Lib.hid en
                have hm2 : (m : Int) < 100 := by omega
                have s1 : (0 : Int) ≤ v := by omega
                have s2 : (v : Int) < k := by omega
                clear hT hL hL1 hL2 hS hL3 hnl hvn en
                rcases htop with rfl | ⟨h0, h1⟩
                · go_wp2_with fail
                  refine hp.out.mono ?_
                  rintro e w3 ⟨rfl, hS3⟩
                  try dsimp only
                  obtain ⟨gn, egn, hgn3, hz3, hcn3⟩ := row_form hS3.swap.row (by omega)
                  subst egn
                  have q1 := hcn3 v _ en'.out
                  have hS3' := Lib.hid hS3
                  clear hS3 hp hcn3
                  go_wp2_with fail
                  go_roundw
                  case rel => exact ⟨m, nv, v, H', I', X', by omega, rfl, rfl, by go_num, hS3', hL4⟩
                  case measure => simp [intOf] <;> omega
                · have t0 : decide (0 ≤ at_) = true := by simpa using h0
                  have t1 : decide (last < nv) = false := by simp; omega
                  have t2 : (nv == last) = false ∨ ((nv == last) = true ∧ decide ((v : Int) < at_) = false) := by
                    rcases h1 with h1 | ⟨h1, h2⟩
                    · left; simp; omega
                    · right; simp; omega
                  clear h1
                  rcases t2 with t2 | ⟨t2, t3⟩
                  all_goals
                    go_wp2_with fail
                    refine hp.out.mono ?_
                    rintro e w3 ⟨rfl, hS3⟩
                    try dsimp only
                    obtain ⟨gn, egn, hgn3, hz3, hcn3⟩ := row_form hS3.swap.row (by omega)
                    subst egn
                    have q1 := hcn3 v _ en'.out
                    have hS3' := Lib.hid hS3
                    clear hS3 hp hcn3
                    go_wp2_with fail
                    go_roundw
                    case rel => exact ⟨m, nv, v, H', I', X', by omega, rfl, rfl, by go_num, hS3', hL4⟩
                    case measure => simp [intOf] <;> omega
end Ref12
end Go.Proofs.Ytmkbinbggiocaaa
