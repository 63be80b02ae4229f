/- The reference's numbers as bytes: Nat, Sign, Nats, Ints. -/
import Derived.Test.YtmkbinbggiocaaaCode2
set_option linter.unusedVariables false
set_option linter.unusedSimpArgs false
namespace Go.Proofs.Ytmkbinbggiocaaa
open Go.RowKit
namespace Code
theorem made_lit (w : World) (e : Nat) (cs : List Value) (h : cs.length ≤ 1000) : Made w (w.alloc (.cells cs.toArray e)) e 1 (some ⟨w.heap.size, 0, none⟩) cs.length cs.length cs := by
  have h1 := World.ownsRow_lit (base := 0) (e := e) (size := 1) w cs.toArray cs.length (Nat.zero_le _) (by simp only [maxLen]; omega) (by simp)
  exact ⟨by simpa using h1, (Mod.refl _ _).alloc _, by simp [Value.ownBlock]⟩
set_option maxHeartbeats 1000000 in
theorem refNat (k : Nat) : ∀ (n : Nat) (w : World), n < 128 ^ k → 0 < k → k ≤ 11 → n < 18446744073709551616 →
    Calls Try.prog 33 #[.int .u64 n] w (MadeOut 5 1 (natB n).length (u8s (natB n)) w) := by
  induction k with
  | zero => intro n w _ h; omega
  | succ k ih =>
    intro n w hn _ hk hm
    by_cases h : n < 128
    · have hd : decide ((n : Int) < 128) = true := by simp; omega
      have hfin := made_lit w 5 [.int .u8 n] (by simp)
      have hfin' := Lib.hid hfin
      clear hfin ih hn
      go_enter Try.func33, Try.ntmps33
      go_wp2_with fail
      go_ret
      rw [natB_small h]
      exact ⟨_, _, rfl, hfin'.out⟩
    · have hd : decide ((n : Int) < 128) = false := by simp; omega
      have h1 : n / 128 < 128 ^ k := by rw [Nat.div_lt_iff_lt_mul (by omega)]; rw [Nat.pow_succ] at hn; omega
      have hk0 : 0 < k := by
        rcases Nat.eq_zero_or_pos k with rfl | h'
        · simp at h1; omega
        · exact h'
      have hl := natB_len10 (n := n / 128) (by omega)
      have hrec : ∀ w, Calls Try.prog 33 #[.int .u64 ((n : Int) / 128)] w (MadeOut 5 1 (natB (n / 128)).length (u8s (natB (n / 128))) w) := fun w => by
        rw [show ((n : Int) / 128) = ((n / 128 : Nat) : Int) from by simp]
        exact ih (n / 128) w h1 hk0 (by omega) (by omega)
      have hrec' := Lib.hid hrec
      have e : natB n = [(n : Int) % 128 + 128] ++ natB (n / 128) := by rw [natB_big h]; simp
      have e' := Lib.hid e
      have hmade := made_lit w 5 (u8s [(n : Int) % 128 + 128]) (by simp [u8s])
      have hmade' := Lib.hid hmade
      generalize natB (n / 128) = ns at *
      clear ih hrec hn h1 e hmade
      go_enter Try.func33, Try.ntmps33
      go_wp2_with fail
      refine (hrec'.out _).mono ?_
      rintro e w2 ⟨a2, c2, rfl, hm2⟩
      dsimp only
      have hmm := hmade'.out.still hm2.mod
      go_wp2_with (at_builtin; refine app_rd rfl (.tmp 14) (.tmp 17) 45 5 _ 1 1 rfl Try.underlying45 infoU8 rfl (by omega) (by omega) (.slice (some ⟨w.heap.size, 0, none⟩) 1 1) (.slice a2 ns.length c2) 1 ns.length (u8s [(n : Int) % 128 + 128]) (u8s ns) rfl rfl (u8s_one _) hmm.own (Rd.own hm2.own) (by omega) ?_; intro aA cA wA hA mA vA)
      go_ret
      rw [e'.out, List.length_append, u8s_append]
      exact ⟨aA, cA, rfl, hmm.push hA mA vA⟩
theorem refNat_any (n : Nat) (w : World) (h : n < 18446744073709551616) :
    Calls Try.prog 33 #[.int .u64 n] w (MadeOut 5 1 (natB n).length (u8s (natB n)) w) := refNat 10 n w (by omega) (by omega) (by omega) h
set_option maxHeartbeats 1000000 in
theorem refSign (n : Int) (w : World) (h0 : -9223372036854775808 ≤ n) (h1 : n ≤ 9223372036854775807) :
    Calls Try.prog 35 #[.int .i64 n] w fun e w' => e = .returned (.int .u64 (signN n)) ∧ w = w' := by
  by_cases h : n < 0
  · have hd : decide (n < 0) = true := by simpa using h
    have e : ((signN n : Nat) : Int) = -(n + 1) * 2 + 1 := by unfold signN; rw [if_neg (by omega)]; omega
    have e' := Lib.hid e
    clear e
    go_enter Try.func35, Try.ntmps35
    go_wp2
    go_ret
    rw [e'.out]
    exact ⟨rfl, rfl⟩
  · have hd : decide (n < 0) = false := by simp; omega
    have h' : 0 ≤ n := by omega
    have e : ((signN n : Nat) : Int) = n * 2 := by unfold signN; rw [if_pos (by omega)]; omega
    have e' := Lib.hid e
    clear e
    go_enter Try.func35, Try.ntmps35
    go_wp2
    go_ret
    rw [e'.out]
    exact ⟨rfl, rfl⟩
set_option maxHeartbeats 1000000 in
theorem refNats {w : World} {vl : Value} (l : List Nat) (hl : ∀ x ∈ l, x < 18446744073709551616) (hr : Rd w 1 vl l.length (vu64 l)) (hll : l.length ≤ 10000) :
    Calls Try.prog 39 #[vl] w (MadeOut 5 1 (listB id l).length (u8s (listB id l)) w) := by
  obtain ⟨al, cl, rfl⟩ := hr.val
  have htot : ∀ k, (natB l.length ++ (l.take k).flatMap fun x => natB (id x)).length ≤ 200010 := by
    intro k
    have h1 := natB_len10 (n := l.length) (by omega)
    have h2 := flatB_len id (l.take k) (fun x hx => hl x (List.mem_of_mem_take hx))
    have h3 : (l.take k).length ≤ l.length := by rw [List.length_take]; omega
    rw [List.length_append]; omega
  have htot' := Lib.hid htot
  have hr' := Lib.hid hr
  have hl' := Lib.hid hl
  clear htot hr hl
  go_enter Try.func39, Try.ntmps39
  go_wp2_with fail
  refine (refNat_any l.length w (by omega)).mono ?_
  rintro e w1 ⟨a1, c1, rfl, hm⟩
  dsimp only
  generalize hz0 : natB l.length = zs0 at *
  have hz0' := Lib.hid hz0
  clear hz0
  go_wp2_with fail
  go_loopw [3, 4] (fun v i wr => ∃ (k : Nat) (zs : List Int) (av : Option Addr) (cv : Nat), k ≤ l.length ∧ i = .int .i64 k ∧ v = .slice av zs.length cv ∧ zs = zs0 ++ (l.take k).flatMap (fun x => natB (id x)) ∧ Made w wr 5 1 av zs.length cv (u8s zs)) (fun _ i _ => l.length - (intOf i).toNat)
  case atStart => exact ⟨0, _, a1, c1, Nat.zero_le _, rfl, rfl, by simp, hm⟩
  case round =>
    clear hm
    obtain ⟨k, zs, av, cv, hk, rfl, rfl, hzs, hm⟩ := hrel
    obtain ⟨wo, hwo⟩ : ∃ wo : World, wo = wr := ⟨_, rfl⟩
    clear hwo
    have hzs' := Lib.hid hzs
    clear hzs
    by_cases hlt : k < l.length
    · obtain ⟨x, hx⟩ : ∃ x, l[k]? = some x := ⟨l[k], List.getElem?_eq_getElem hlt⟩
      have hxm : x ∈ l := List.mem_of_getElem? hx
      obtain ⟨g, o, rfl, _, _, hcell⟩ := (hr'.out.still hm.mod).at (by rw [vu64_len]; omega)
      have hc := hcell k _ (vu64_get hx)
      have e : zs ++ natB (id x) = zs0 ++ (l.take (k + 1)).flatMap (fun x => natB (id x)) := by rw [flat_take _ l k x hx, hzs'.out]; simp
      have hb2 := htot'.out (k + 1)
      rw [← e] at hb2
      rw [List.length_append] at hb2
      have e' := Lib.hid e
      have hput := refNat_any (id x) wr (hl'.out x hxm)
      clear e hx hcell
      go_wp2_with fail
      refine hput.mono ?_
      rintro e w2 ⟨a2, c2, rfl, hm2⟩
      dsimp only
      clear hput
      have hmm := hm.still hm2.mod
      generalize hN : natB (id x) = ns at *
      have hN' := Lib.hid hN
      clear hN
      go_wp2_with (at_builtin; refine app_rd rfl (.tmp 15) (.tmp 20) 45 5 _ 1 1 rfl Try.underlying45 infoU8 rfl (by omega) (by omega) (.slice av zs.length cv) (.slice a2 ns.length c2) zs.length ns.length (u8s zs) (u8s ns) rfl rfl (u8s_one _) hmm.own (Rd.own hm2.own) (by omega) ?_; intro aA cA wA hA mA vA)
      go_roundw
      case rel => exact ⟨k + 1, zs ++ ns, aA, cA, by omega, by go_num, by rw [List.length_append], by rw [← hN'.out] at e' ⊢; exact e'.out, by rw [List.length_append, u8s_append]; exact hmm.push hA mA vA⟩
      case measure => simp [intOf]; omega
    · have hk' : k = l.length := by omega
      have e : zs = listB id l := by rw [hzs'.out, hk', List.take_length, ← hz0'.out]; simp [listB]
      have e' := Lib.hid e
      clear e hk'
      go_wp2_with fail
      go_ret
      rw [← e'.out]
      exact ⟨av, cv, rfl, hm⟩
theorem infoU64 : (Try.prog.info? 50).map (fun i => (i.zero, i.size, i.bytes)) = some (some (.int .u64 0), 1, 8) := by kernel_rfl
theorem vu64_append (l m : List Nat) : vu64 (l ++ m) = vu64 l ++ vu64 m := by simp [vu64]
theorem listB_map (l : List Int) : listB id (l.map signN) = listB signN l := by simp [listB, List.flatMap_map]
set_option maxHeartbeats 1000000 in
theorem refInts {w : World} {vl : Value} (l : List Int) (hl : ∀ x ∈ l, -9223372036854775808 ≤ x ∧ x ≤ 9223372036854775807) (hr : Rd w 1 vl l.length (vi64 l)) (hll : l.length ≤ 10000) :
    Calls Try.prog 41 #[vl] w (MadeOut 5 1 (listB signN l).length (u8s (listB signN l)) w) := by
  obtain ⟨al, cl, rfl⟩ := hr.val
  have hr' := Lib.hid hr
  have hl' := Lib.hid hl
  clear hr hl
  go_enter Try.func41, Try.ntmps41
  go_wp2_with fail
  go_loopw [3, 4] (fun v i wr => ∃ (k : Nat) (av : Option Addr) (cv : Nat), k ≤ l.length ∧ i = .int .i64 k ∧ v = .slice av k cv ∧ Made w wr 50 1 av k cv (vu64 ((l.take k).map signN))) (fun _ i _ => l.length - (intOf i).toNat)
  case atStart => exact ⟨0, none, 0, Nat.zero_le _, rfl, rfl, World.ownsRow_nil _ _ _ _, Mod.refl _ _, by simp [Value.ownBlock]⟩
  case round =>
    obtain ⟨k, av, cv, hk, rfl, rfl, hm⟩ := hrel
    obtain ⟨wo, hwo⟩ : ∃ wo : World, wo = wr := ⟨_, rfl⟩
    clear hwo
    by_cases hlt : k < l.length
    · obtain ⟨x, hx⟩ : ∃ x, l[k]? = some x := ⟨l[k], List.getElem?_eq_getElem hlt⟩
      have hxm : x ∈ l := List.mem_of_getElem? hx
      obtain ⟨g, o, rfl, _, _, hcell⟩ := (hr'.out.still hm.mod).at (by rw [vi64_len]; omega)
      have hc := hcell k _ (vi64_get hx)
      have e : vu64 ((l.take (k + 1)).map signN) = vu64 ((l.take k).map signN) ++ [.int .u64 (signN x)] := by rw [List.take_add_one, hx]; simp [vu64]
      have e' := Lib.hid e
      have hs := refSign x wr (hl'.out x hxm).1 (hl'.out x hxm).2
      clear e hx hcell
      go_wp2_with fail
      refine hs.mono ?_
      rintro e w2 ⟨rfl, rfl⟩
      dsimp only
      clear hs
      go_wp2_with (at_builtin; refine app_own rfl (.tmp 11) (.tmp 17) 49 50 _ 1 8 rfl Try.underlying49 infoU64 rfl (by omega) (by omega) (.slice av k cv) k 1 (vu64 ((l.take k).map signN)) [.int .u64 (signN x)] rfl rfl (by simp) rfl (by simp [Value.oneCell']) hm.own (by omega) ?_; intro aA cA wA hA mA vA)
      go_roundw
      case rel => exact ⟨k + 1, aA, cA, by omega, by go_num, rfl, by rw [e'.out]; exact hm.push hA mA vA⟩
      case measure => simp [intOf]; omega
    · have hk' : k = l.length := by omega
      have e : (l.take k).map signN = l.map signN := by rw [hk', List.take_length]
      rw [e] at hm
      have hlen : (l.map signN).length = k := by simp [hk']
      have hn := refNats (w := wr) (vl := .slice av k cv) (l.map signN) (fun y hy => by
        obtain ⟨x, hx, rfl⟩ := List.mem_map.1 hy
        exact signN_lt x (hl'.out x hx).1 (hl'.out x hx).2) (by rw [hlen]; exact Rd.own hm.own) (by rw [hlen]; omega)
      rw [listB_map] at hn
      clear e hk' hlen
      go_wp2_with fail
      refine hn.mono ?_
      rintro e w2 ⟨a2, c2, rfl, hm2⟩
      dsimp only
      clear hn
      go_wp2_with fail
      go_ret
      exact ⟨a2, c2, rfl, hm2.before hm.mod⟩
end Code
end Go.Proofs.Ytmkbinbggiocaaa
