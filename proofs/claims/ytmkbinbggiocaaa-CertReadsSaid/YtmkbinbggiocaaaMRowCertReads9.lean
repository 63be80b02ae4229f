/- CertReads: for all bytes and every certificate the law returns true, and its arguments read as before. Conditions: none. (Ahead of it: Certificates: Decode of the reference. CertReads: the walk.) -/
import Derived.Deep.DeepCutAuto
import Derived.Deep.CutBlock
import Derived.Test.YtmkbinbggiocaaaMRowCertReads8
import Derived.Test.YtmkbinbggiocaaaMRowCertReads7
import Derived.Test.YtmkbinbggiocaaaMRowCertReads0
set_option linter.unusedVariables false
set_option linter.unusedSimpArgs false
namespace Go.Proofs.Ytmkbinbggiocaaa
open Go.RowKit
namespace Code.Cert
def toldV : List Value := [.slice none 0 0, .slice none 0 0, .slice none 0 0, .slice none 0 0, .int .i64 0]
def RDecOut (bs : List Int) (w : World) (e : Ending) (w' : World) : Prop :=
  match decR bs with
  | some c => ∃ vu vw vs vf, e = .returned (.agg #[vu, vw, vs, vf, .int .i64 0]) ∧ CRep w' vu vw vs vf c ∧ Mod [] w w'
  | none => e = .returned (.agg #[.slice none 0 0, .slice none 0 0, .slice none 0 0, .slice none 0 0, .int .i64 17]) ∧ Mod [] w w'
theorem xVerts_end (bs : List Int) (n m : Nat) (x : RSt) (h : m = 0 ∨ x.2.2 = true) : xVerts bs n m x = x := by
  cases m with
  | zero => rfl
  | succ m =>
    rcases h with h | h
    · omega
    · simp [xVerts, h]
theorem xVerts_go (bs : List Int) (n m : Nat) (x : RSt) (hm : 0 < m) (h : x.2.2 = false) : xVerts bs n m x = xVerts bs n (m - 1) (xStep bs n x) := by
  obtain ⟨j, rfl⟩ : ∃ j, m = j + 1 := ⟨m - 1, by omega⟩
  rw [xVerts, if_neg (by simp [h])]; rfl
theorem xInts_end (bs : List Int) (m k : Nat) (st : Bool) (h : m = 0 ∨ st = true) : xInts bs m k st = ([], k, st) := by
  cases m with
  | zero => rfl
  | succ m =>
    rcases h with h | h
    · omega
    · simp [xInts, h]
theorem xInts_go (bs : List Int) (m k : Nat) (st : Bool) (hm : 0 < m) (h : st = false) : xInts bs m k st = (unsign (rNat bs k st).1 :: (xInts bs (m - 1) (rNat bs k st).2.1 (rNat bs k st).2.2).1, (xInts bs (m - 1) (rNat bs k st).2.1 (rNat bs k st).2.2).2) := by
  obtain ⟨j, rfl⟩ : ∃ j, m = j + 1 := ⟨m - 1, by omega⟩
  rw [xInts, if_neg (by simp [h])]; rfl
theorem listB_byte (l : List Int) : ∀ b ∈ listB signN l, 0 ≤ b ∧ b < 256 := by
  intro b hb
  unfold listB at hb
  rcases List.mem_append.1 hb with h | h
  · exact natB_byte _ b h
  · rw [List.mem_flatMap] at h
    obtain ⟨y, _, h⟩ := h
    exact natB_byte _ b h
theorem vertB_byte {c : CertV} (hr : rightB c = true) {v : Nat} (hv : v < c.up.length) : ∀ b ∈ vertB c v, 0 ≤ b ∧ b < 256 := by
  intro b hb
  unfold vertB at hb
  simp only [List.mem_append] at hb
  rcases hb with ((h | h) | h) | h
  · exact natB_byte _ b h
  · exact natB_byte _ b h
  · obtain ⟨k1, _⟩ := right_at hr hv
    simp only [bitsOk, Bool.and_eq_true, decide_eq_true_eq] at k1
    obtain ⟨_, hrise⟩ := k1
    rw [rises_iff] at hrise
    exact bitsB_byte hrise.1 (fun y hy => by have := (hrise.2 y hy).1; omega) b h
  · exact listB_byte _ b h
theorem encE_byte (c : CertV) : ∀ b ∈ encE c, 0 ≤ b ∧ b < 256 := by
  intro b hb
  unfold encE at hb
  split at hb
  · rename_i hr
    unfold encB encTo at hb
    simp only [List.mem_append, List.mem_flatMap, List.mem_range] at hb
    rcases hb with (h | h) | ⟨v, hv, h⟩
    · revert b; decide
    · exact natB_byte _ b h
    · exact vertB_byte hr hv b h
  · simp at hb
def lenLe (c : CertV) (i : Nat) : Prop := c.up.length ≤ i ∧ c.ws.length ≤ i ∧ c.sides.length ≤ i ∧ c.flows.length ≤ i
theorem DX.start {w0 w : World} {r k : Nat} {vb : Value} {bs : List Int} {st : Bool} {V : Nat} (hX : XAt w0 w r vb bs k st) (hres : Has w V toldV 142) (hVr : V ≠ r) : ∀ w', w' = w.alloc (.cells #[.slice none 0 0, .slice none 0 0, .slice none 0 0, .slice none 0 0] 130) →
    DX [(V, toldV, 142)] w0 w' w.heap.size r vb bs k st noneC := by
  intro w' e
  have hm : Mod [] w w' := by rw [e]; exact (Mod.refl [] w).alloc _
  have hbox : Has w' w.heap.size nilsV 130 := by rw [e]; exact Has.new w _ _
  have hs : w'.heap.size = w.heap.size + 1 := by rw [e]; simp
  have hrl := hX.has.lt
  have hVl := hres.lt
  have hbs := hX.base.size
  refine ⟨⟨fun _ => .slice none 0 0, fun _ => [], ⟨hbox, fun i _ => World.ownsRow_nil _ _ _ _, by simp [Value.ownBlock], by simp [Value.ownBlock], by simp, fun b hb => ?_, by simp [RsX]⟩, ⟨rfl, rfl, rfl, rfl, by simp, by simp⟩, by simp [Value.ownBlock], fun x hx => ?_, fun i x g hi hx hg => by simp at hx⟩, hX.still hm, hX.base.trans hm (by simp), fun b hb => ?_, by omega⟩
  · simp only [RsX, Value.ownBlock, Option.toList_none, List.nil_append, List.mem_cons, List.map_cons, List.map_nil, List.not_mem_nil, or_false] at hb
    rcases hb with rfl | rfl | rfl <;> omega
  · rw [List.mem_singleton] at hx
    subst hx
    refine ⟨hres.keep hm (by simp), fun hb => ?_, by simp [Value.ownBlock]⟩
    simp only [Rs, Value.ownBlock, Option.toList_none, List.mem_cons, List.not_mem_nil, or_false] at hb
    rcases hb with e | e
    · omega
    · exact hVr e
  · simp only [Rs, Value.ownBlock, Option.toList_none, List.mem_cons, List.not_mem_nil, or_false] at hb
    have := hX.new
    rcases hb with rfl | rfl <;> omega
set_option maxRecDepth 100000 in
set_option maxHeartbeats 8000000 in
theorem rdecode_any {w : World} {vb : Value} {bs : List Int} (hb : Rd w 1 vb bs.length (u8s bs)) (hbb : ∀ x ∈ bs, 0 ≤ x ∧ x < 256) (hlen : bs.length ≤ 10000) :
    Calls Try.prog 94 #[vb] w (RDecOut bs w) := by
  obtain ⟨ab, cb, rfl⟩ := hb.val
  obtain ⟨wb, hwb⟩ : ∃ wb, wb = (w.alloc (.cells #[.slice none 0 0, .slice none 0 0, .slice none 0 0, .slice none 0 0, .int .i64 0] 142)).alloc (.cells #[.slice ab bs.length cb, .int .i64 0, .bool false] 75) := ⟨_, rfl⟩
  obtain ⟨V, hV⟩ : ∃ V, V = w.heap.size := ⟨_, rfl⟩
  have hmw : Mod [] w wb := by rw [hwb]; exact ((Mod.refl [] w).alloc _).alloc _
  have hres : Has wb V toldV 142 := by rw [hwb, hV]; exact (Has.new w _ _).alloc _
  have hrd : Has wb (V + 1) [.slice ab bs.length cb, .int .i64 ((0 : Nat) : Int), .bool false] 75 := by
    have := Has.new (w.alloc (.cells #[.slice none 0 0, .slice none 0 0, .slice none 0 0, .slice none 0 0, .int .i64 0] 142)) [.slice ab bs.length cb, .int .i64 0, .bool false] 75
    rw [World.size_alloc] at this
    rw [hwb, hV]; exact this
  have hX0 : XAt w wb (V + 1) (.slice ab bs.length cb) bs 0 false := ⟨hrd, hb, hmw, by omega, Nat.zero_le _, by omega⟩
  have hmk := Lib.hid (xMark headS (by decide) hX0 hbb)
  have hres' := Lib.hid hres
  have hbb' := Lib.hid hbb
  have hb' := Lib.hid hb
  have hwb' := Lib.hid hwb
  have hV' := Lib.hid hV
  have hmw' := Lib.hid hmw
  have hout : Hid (∀ w', decR bs = none → Mod [] w w' → RDecOut bs w (.returned (.agg #[.slice none 0 0, .slice none 0 0, .slice none 0 0, .slice none 0 0, .int .i64 17])) w') := fun w' h m => by
    unfold RDecOut; rw [h]; exact ⟨rfl, m⟩
  have hdef : Hid (decR bs = if (rNat bs (rMark bs 0 false headB).1 (rMark bs 0 false headB).2).2.2 = true ∨ 4096 < (rNat bs (rMark bs 0 false headB).1 (rMark bs 0 false headB).2).1 then none else
    if rEnd bs (xVerts bs (rNat bs (rMark bs 0 false headB).1 (rMark bs 0 false headB).2).1 (rNat bs (rMark bs 0 false headB).1 (rMark bs 0 false headB).2).1 (noneC, (rNat bs (rMark bs 0 false headB).1 (rMark bs 0 false headB).2).2)).2.1 (xVerts bs (rNat bs (rMark bs 0 false headB).1 (rMark bs 0 false headB).2).1 (rNat bs (rMark bs 0 false headB).1 (rMark bs 0 false headB).2).1 (noneC, (rNat bs (rMark bs 0 false headB).1 (rMark bs 0 false headB).2).2)).2.2 = 0 ∧ rightB (xVerts bs (rNat bs (rMark bs 0 false headB).1 (rMark bs 0 false headB).2).1 (rNat bs (rMark bs 0 false headB).1 (rMark bs 0 false headB).2).1 (noneC, (rNat bs (rMark bs 0 false headB).1 (rMark bs 0 false headB).2).2)).1 = true ∧ encB (xVerts bs (rNat bs (rMark bs 0 false headB).1 (rMark bs 0 false headB).2).1 (rNat bs (rMark bs 0 false headB).1 (rMark bs 0 false headB).2).1 (noneC, (rNat bs (rMark bs 0 false headB).1 (rMark bs 0 false headB).2).2)).1 = bs then some (xVerts bs (rNat bs (rMark bs 0 false headB).1 (rMark bs 0 false headB).2).1 (rNat bs (rMark bs 0 false headB).1 (rMark bs 0 false headB).2).1 (noneC, (rNat bs (rMark bs 0 false headB).1 (rMark bs 0 false headB).2).2)).1 else none) := rfl
  clear hb hbb hwb hV hmw hres hrd hX0
  go_enter Try.func94, Try.ntmps94
  go_wp2_with fail
  rw [← hV'.out]
  have e5 : (w.alloc (.cells #[.slice none 0 0, .slice none 0 0, .slice none 0 0, .slice none 0 0, .int .i64 0] 142)).alloc (.cells #[.slice ab bs.length cb, .int .i64 0, .bool false] 75) = wb := hwb'.out.symm
  rw [e5]
  clear e5
  refine hmk.out.mono ?_
  rintro e w1 ⟨rfl, hX1, hm1⟩
  try dsimp only
  rw [headS_bytes] at hX1
  have hnat := Lib.hid (xNat hX1 hbb'.out)
  have hm1' := Lib.hid hm1
  clear hmk hX1 hm1
  go_wp2_with fail
  refine hnat.out.mono ?_
  rintro e w2 ⟨rfl, hX2, hm2⟩
  try dsimp only
  have hm12 := Lib.hid (trM _ _ _ _ hm1'.out hm2)
  have hlt := rNat_lt (bs := bs) (k := (rMark bs 0 false headB).1) (stop := (rMark bs 0 false headB).2) hbb'.out
  rcases hrn : rNat bs (rMark bs 0 false headB).1 (rMark bs 0 false headB).2 with ⟨n, k2, s2⟩
  rw [hrn] at hX2 hlt hdef
  simp only at hX2 hlt hdef
  have hV2 := hres'.out.keep hm12.out (by simp)
  have x2 := hX2.has.cell 2 rfl
  have xl := hX2.has.lt
  have hbase := Lib.hid hX2.base
  have hX2' := Lib.hid hX2
  have hVw : w.heap.size ≤ V := by have := hV'.out; omega
  clear hrn hnat hm2 hm1' hX2
  by_cases hn : s2 = true ∨ 4096 < n
  · have hno : decR bs = none := by rw [hdef.out, if_pos hn]
    have r0 := hV2.cell 0 rfl
    have r1 := hV2.cell 1 rfl
    have r2 := hV2.cell 2 rfl
    have r3 := hV2.cell 3 rfl
    have r4 := hV2.cell 4 rfl
    have rf := hV2.free
    have rl := hV2.lt
    have hf : Hid (∀ u0 u1 u2 u3 u4, RDecOut bs w (.returned (.agg #[.slice none 0 0, .slice none 0 0, .slice none 0 0, .slice none 0 0, .int .i64 17])) (((((w2.setCell ⟨V, 0, none⟩ u0).setCell ⟨V, 1, none⟩ u1).setCell ⟨V, 2, none⟩ u2).setCell ⟨V, 3, none⟩ u3).setCell ⟨V, 4, none⟩ u4)) := fun u0 u1 u2 u3 u4 =>
      hout.out _ hno (((((hbase.out.setCell _ _ (fun h => by simp only at h; omega)).setCell _ _ (fun h => by simp only at h; omega)).setCell _ _ (fun h => by simp only at h; omega)).setCell _ _ (fun h => by simp only at h; omega)).setCell _ _ (fun h => by simp only at h; omega))
    clear hno hV2 hdef hout
    cases s2 with
    | true =>
      clear hn
      try dsimp only
      go_wp2_with fail
      exact bodyPost_ret (v := .agg #[.slice none 0 0, .slice none 0 0, .slice none 0 0, .slice none 0 0, .int .i64 17]) (by simp [results, Try.results94, go_sem, r0, r1, r2, r3, r4, rl]) rfl (hf.out _ _ _ _ _)
    | false =>
      have hn4 : 4096 < n := by simpa using hn
      have t1 : decide (4096 < (n : Int)) = true := by simp; omega
      have t1' : decide (4096 < n) = true := by simpa using hn4
      clear hn hn4
      try dsimp only
      go_wp2_with fail
      exact bodyPost_ret (v := .agg #[.slice none 0 0, .slice none 0 0, .slice none 0 0, .slice none 0 0, .int .i64 17]) (by simp [results, Try.results94, go_sem, r0, r1, r2, r3, r4, rl]) rfl (hf.out _ _ _ _ _)
  · have hs2 : s2 = false := by cases s2 <;> simp_all
    have hn4 : n ≤ 4096 := by omega
    subst hs2
    have t1 : decide (4096 < (n : Int)) = false := by simp; omega
    have t1' : decide (4096 < n) = false := by simp; omega
    have hds := Lib.hid (DX.start hX2'.out hV2 (by omega))
    obtain ⟨Y, hY⟩ : ∃ Y, Y = xVerts bs n n (noneC, k2, false) := ⟨_, rfl⟩
    have hdef2 : Hid (decR bs = if rEnd bs Y.2.1 Y.2.2 = 0 ∧ rightB Y.1 = true ∧ encB Y.1 = bs then some Y.1 else none) := by show _ = _; rw [hdef.out, if_neg hn, hY]
    have hY' := Lib.hid hY
    obtain ⟨B, hB⟩ : ∃ B, B = w2.heap.size := ⟨_, rfl⟩
    rw [← hB] at hds
    clear hn hdef hV2 hY hX2'
    try dsimp only
    go_wp2_with fail
    have hd0 := Lib.hid (hds.out _ rfl)
    clear hds x2 xl
    rw [← hB]
    clear hB
    go_loopw [6] (fun iv wr => ∃ (i : Nat) (x : RSt), i ≤ n ∧ iv = .int .i64 i ∧ xVerts bs n (n - i) x = Y ∧ Fits x.1 ∧ lenLe x.1 i ∧ DX [(V, toldV, 142)] w wr B (V + 1) (.slice ab bs.length cb) bs x.2.1 x.2.2 x.1) (fun iv _ => n - (intOf iv).toNat)
    case atStart => exact ⟨0, (noneC, k2, false), Nat.zero_le _, rfl, by rw [hY'.out]; rfl, none_fits, by simp [lenLe, noneC], hd0.out⟩
    case round =>
      clear hd0 hY'
      obtain ⟨i, x, hi, rfl, hv, hfx, hlx, hds⟩ := hrel
      obtain ⟨wo, hwo⟩ : ∃ wo : World, wo = wr := ⟨_, rfl⟩
      clear hwo
      have hv' := Lib.hid hv
      have hfx' := Lib.hid hfx
      have hlx' := Lib.hid hlx
      have hds' := Lib.hid hds
      clear hv hfx hlx hds
      have hw1 : IntKind.i64.wrap (n : Int) = (n : Int) := IntWalk.i64_in _ (by omega)
      have x2 := hds'.out.rt.has.cell 2 rfl
      have xl := hds'.out.rt.has.lt
      by_cases hgo : i < n ∧ x.2.2 = false
      · obtain ⟨hlt, hst⟩ := hgo
        have q1 : decide ((i : Int) < (n : Int)) = true := by simp; omega
        have q1' : decide (i < n) = true := by simpa using hlt
        have hnext : Hid (xVerts bs n (n - (i + 1)) (xStep bs n x) = Y) := by
          show _ = _
          rw [← hv'.out, xVerts_go bs n (n - i) x (by omega) hst, show n - i - 1 = n - (i + 1) by omega]
        rw [hst] at x2
        have hst' := Lib.hid hst
        clear hst
        -- the two numbers
        have hc1 := Lib.hid (xNat hds'.out.rt hbb'.out)
        go_wp2_with fail
        refine hc1.out.mono ?_
        rintro e w3 ⟨rfl, hR3, hm3⟩
        try dsimp only
        have hd3 := Lib.hid (hds'.out.read hm3 hR3)
        have hlt1 := rNat_lt (bs := bs) (k := x.2.1) (stop := x.2.2) hbb'.out
        clear hR3 hm3 hc1 hds' x2 xl
        have hc2 := Lib.hid (xNat hd3.out.rt hbb'.out)
        go_wp2_with fail
        refine hc2.out.mono ?_
        rintro e w4 ⟨rfl, hR4, hm4⟩
        try dsimp only
        have hd4 := Lib.hid (hd3.out.read hm4 hR4)
        clear hR4 hm4 hc2 hd3
        have hll := hlx'.out
        obtain ⟨hll0, hll1, hll2, hll3⟩ := hll
        have hstep : Hid (∀ a1, a1 = rNat bs x.2.1 x.2.2 → ∀ a2, a2 = rNat bs a1.2.1 a1.2.2 → ∀ sb, sb = rBits bs a2.2.1 a2.2.2 n → ∀ t, t = rCount bs sb.2.1 sb.2.2 → ∀ q, q = xInts bs t.1 t.2.1 t.2.2 → xStep bs n x = (⟨x.1.up ++ [xUp a1.1], x.1.ws ++ [wrap64 a2.1], x.1.sides ++ [sb.1], x.1.flows ++ [q.1]⟩, q.2)) := fun a1 h1 a2 h2 sb h3 t h4 q h5 => by subst h1 h2 h3 h4 h5; rfl
        have hfit := Lib.hid (fits_step hbb'.out hlen (n := n) hfx'.out)
        generalize hA1 : rNat bs x.2.1 x.2.2 = a1 at *
        have hA1' := Lib.hid hA1
        generalize hA2 : rNat bs a1.2.1 a1.2.2 = a2 at *
        have hA2' := Lib.hid hA2
        clear hA1 hA2
        obtain ⟨u, hu⟩ : ∃ u, u = a1.1 := ⟨_, rfl⟩
        rw [← hu] at hlt1 ⊢
        obtain ⟨y, hyy⟩ : ∃ y, y = a2.1 := ⟨_, rfl⟩
        rw [← hyy]
        have hu' := Lib.hid hu
        have hyy' := Lib.hid hyy
        clear hu hyy
        go_upto_region 11 with fail
        go_cut [53] (fun _ wc => DX [(V, toldV, 142)] w wc B (V + 1) (.slice ab bs.length cb) bs a2.2.1 a2.2.2 { x.1 with up := x.1.up ++ [xUp u] })
        case first =>
          obtain ⟨vs, rows, hy4⟩ := hd4.out.open
          obtain ⟨au, cu, aw, cw, sa, cs, af, cf, e0, e1, e2, e3⟩ := hy4.h1.vals hy4.h2
          have d0 := hy4.h1.has.cell 0 rfl
          rw [e0] at d0
          have dl := hy4.h1.has.lt
          have ho := hy4.h1.own 0 (by omega)
          rw [e0, hy4.h2.up, vi64_len] at ho
          have ho' := Lib.hid ho
          have hy4' := Lib.hid hy4
          have e0' := Lib.hid e0
          have hnb : Hid (∀ b, (Value.slice au x.1.up.length cu).ownBlock = some b → b ≠ B) := fun b hb e => by
            rw [← e0'.out] at hb
            exact hy4'.out.h1.res 0 b (by omega) hb (by rw [e]; exact hy4'.out.h1.memB)
          clear hy4 ho e0 e1 e2 e3
          go_wp2_with (at_builtin; refine app_own rfl (.tmp 48) (.tmp 53) 36 3 _ 1 8 rfl Try.underlying36 infoInt rfl (by omega) (by omega) (.slice au x.1.up.length cu) x.1.up.length 1 (vi64 x.1.up) [.int .i64 ((if 5000 < (u : Int) then 5000 else (u : Int)) - 1)] rfl rfl rfl rfl (by simp [Value.oneCell']) ho'.out (by omega) ?_; intro aA cA wA hA mA vA; have hb0 : B < wA.heap.size := Nat.lt_of_lt_of_le dl mA.size; have hbB : ∀ b, (Value.slice au x.1.up.length cu).ownBlock = some b → b ≠ B := hnb.out; have fz := (hy4'.out.h1.has.keep mA (fun hm => hbB B (by simpa using hm) rfl)).free 0; have dz := (hy4'.out.h1.has.keep mA (fun hm => hbB B (by simpa using hm) rfl)).cell 0 rfl)
          all_goals
            have hfin : DX [(V, toldV, 142)] w (wA.setCell ⟨B, 0, none⟩ (.slice aA (x.1.up.length + 1) cA)) B (V + 1) (.slice ab bs.length cb) bs a2.2.1 a2.2.2 { x.1 with up := x.1.up ++ [xUp u] } := by
              have hup : xUp u = (if 5000 < (u : Int) then 5000 else (u : Int)) - 1 := by unfold xUp; split <;> omega
              rw [hup]
              have e := e0'.out
              have ek : vi64 x.1.up ++ [Value.int .i64 ((if 5000 < (u : Int) then 5000 else (u : Int)) - 1)] = rows 0 ++ [.int .i64 ((if 5000 < (u : Int) then 5000 else (u : Int)) - 1)] := by rw [hy4'.out.h2.up]
              refine hd4.out.push hy4'.out.h1 hy4'.out.h2 hy4'.out.h3 hy4'.out.h4 hy4'.out.h5 (i := 0) (by omega) (x := .int .i64 ((if 5000 < (u : Int) then 5000 else (u : Int)) - 1)) (v' := .slice aA (x.1.up.length + 1) cA) ?_ (by rw [e]; exact mA) (by rw [e]; exact vA) (by simp [live]) (by simp [live]) (fun w' hc _ => hc.push0 _)
              rw [← ek, hy4'.out.h2.up, vi64_len]
              exact hA
            have hfin' := Lib.hid hfin
            clear hfin hA mA vA
            go_wp2_with fail
            go_meet
            exact hfin'.out
        case rest =>
          have hd5 := Lib.hid hcut
          clear hcut hd4
          go_upto_region 12 with fail
          go_cut [62] (fun _ wc => DX [(V, toldV, 142)] w wc B (V + 1) (.slice ab bs.length cb) bs a2.2.1 a2.2.2 { x.1 with up := x.1.up ++ [xUp u], ws := x.1.ws ++ [wrap64 (y : Int)] })
          case first =>
            obtain ⟨vs, rows, hy4⟩ := hd5.out.open
            obtain ⟨au, cu, aw, cw, sa, cs, af, cf, e0, e1, e2, e3⟩ := hy4.h1.vals hy4.h2
            have d0 := hy4.h1.has.cell 1 rfl
            rw [e1] at d0
            have dl := hy4.h1.has.lt
            have ho := hy4.h1.own 1 (by omega)
            rw [e1, hy4.h2.ws, vi64_len] at ho
            have ho' := Lib.hid ho
            have hy4' := Lib.hid hy4
            have e0' := Lib.hid e1
            have hnb : Hid (∀ b, (Value.slice aw x.1.ws.length cw).ownBlock = some b → b ≠ B) := fun b hb e => by
              rw [← e0'.out] at hb
              exact hy4'.out.h1.res 1 b (by omega) hb (by rw [e]; exact hy4'.out.h1.memB)
            clear hy4 ho e0 e1 e2 e3
            go_wp2_with (at_builtin; refine app_own rfl (.tmp 59) (.tmp 62) 46 2 _ 1 8 rfl Try.underlying46 infoI64 rfl (by omega) (by omega) (.slice aw x.1.ws.length cw) x.1.ws.length 1 (vi64 x.1.ws) [.int .i64 (wrap64 (y : Int))] rfl rfl rfl rfl (by simp [Value.oneCell']) ho'.out (by omega) ?_; intro aA cA wA hA mA vA; have hb0 : B < wA.heap.size := Nat.lt_of_lt_of_le dl mA.size; have hbB : ∀ b, (Value.slice aw x.1.ws.length cw).ownBlock = some b → b ≠ B := hnb.out; have fz := (hy4'.out.h1.has.keep mA (fun hm => hbB B (by simpa using hm) rfl)).free 1; have dz := (hy4'.out.h1.has.keep mA (fun hm => hbB B (by simpa using hm) rfl)).cell 1 rfl)
            all_goals
              have hfin : DX [(V, toldV, 142)] w (wA.setCell ⟨B, 1, none⟩ (.slice aA (x.1.ws.length + 1) cA)) B (V + 1) (.slice ab bs.length cb) bs a2.2.1 a2.2.2 { x.1 with up := x.1.up ++ [xUp u], ws := x.1.ws ++ [wrap64 (y : Int)] } := by
                skip
                have e := e0'.out
                have ek : vi64 x.1.ws ++ [Value.int .i64 (wrap64 (y : Int))] = rows 1 ++ [.int .i64 (wrap64 (y : Int))] := by rw [hy4'.out.h2.ws]
                refine hd5.out.push hy4'.out.h1 hy4'.out.h2 hy4'.out.h3 hy4'.out.h4 hy4'.out.h5 (i := 1) (by omega) (x := .int .i64 (wrap64 (y : Int))) (v' := .slice aA (x.1.ws.length + 1) cA) ?_ (by rw [e]; exact mA) (by rw [e]; exact vA) (by simp [live]) (by simp [live]) (fun w' hc _ => hc.push1 _)
                rw [← ek, hy4'.out.h2.ws, vi64_len]
                exact hA
              have hfin' := Lib.hid hfin
              clear hfin hA mA vA
              go_wp2_with fail
              go_meet
              exact hfin'.out
          case rest =>
            have hd6 := Lib.hid hcut
            clear hcut hd5
            generalize hc6 : ({ x.1 with up := x.1.up ++ [xUp u], ws := x.1.ws ++ [wrap64 (y : Int)] } : CertV) = c6 at *
            have hs6 : c6.sides.length ≤ i := by rw [← hc6]; exact hll2
            have hf6 : c6.flows.length ≤ i := by rw [← hc6]; exact hll3
            have hc6' := Lib.hid hc6
            clear hc6
            generalize hA3 : rBits bs a2.2.1 a2.2.2 n = a3 at *
            have hA3' := Lib.hid hA3
            go_upto_region 13 with fail
            go_cut [73] (fun _ wc => DX [(V, toldV, 142)] w wc B (V + 1) (.slice ab bs.length cb) bs a3.2.1 a3.2.2 { c6 with sides := c6.sides ++ [a3.1] })
            case first =>
              have hd := Lib.hid (hd6.out.still (Mod.refl [] wc).drew)
              obtain ⟨vs, rows, hy⟩ := hd.out.open
              obtain ⟨au, cu, aw, cw, sa, cs, af, cf, e0, e1, e2, e3⟩ := hy.h1.vals hy.h2
              have hbit := Lib.hid ((xBits n hd.out.rt hbb'.out).mono fun e w' h => show ∃ v, e = .returned v ∧ Rd w' 1 v (rBits bs a2.2.1 a2.2.2 n).1.length (vi64 (rBits bs a2.2.1 a2.2.2 n).1) ∧ (∀ g, v.ownBlock = some g → wc.drew.heap.size ≤ g) ∧ XAt w w' (V + 1) (.slice ab bs.length cb) bs (rBits bs a2.2.1 a2.2.2 n).2.1 (rBits bs a2.2.1 a2.2.2 n).2.2 ∧ Mod [V + 1] wc.drew w' from h)
              rw [hA3] at hbit
              clear hA3
              have d0 := hy.h1.has.cell 2 rfl
              rw [e2] at d0
              have hl0 := hy.h1.has.lt
              have hy' := Lib.hid hy
              have e2' := Lib.hid e2
              have hrB := hd.out.ne
              clear hy e0 e1 e2 e3
              have hafter : Hid (∀ w1, Mod [V + 1] wc.drew w1 → w1.cell? ⟨B, 2, none⟩ = some (.slice sa c6.sides.length cs)) := fun w1 m => by
                have := (hy'.out.h1.has.keep m (by simp; omega)).cell 2 rfl
                rwa [e2'.out] at this
              have hpush : Hid (∀ (w1 : World) (ax : Option Addr) (cx : Nat), Rd w1 1 (.slice ax a3.1.length cx) a3.1.length (vi64 a3.1) → (∀ g, (Value.slice ax a3.1.length cx).ownBlock = some g → wc.drew.heap.size ≤ g) → XAt w w1 (V + 1) (.slice ab bs.length cb) bs a3.2.1 a3.2.2 → Mod [V + 1] wc.drew w1 →
                  w1.ownsRow 0 36 1 (.slice sa c6.sides.length cs) c6.sides.length (rows 2) ∧
                  ∀ aA cA wA, wA.ownsRow 0 36 1 (.slice aA (c6.sides.length + 1) cA) (c6.sides.length + 1) (rows 2 ++ [.slice ax a3.1.length cx]) → Mod (Value.slice sa c6.sides.length cs).ownBlock.toList w1 wA →
                    ((Value.slice aA (c6.sides.length + 1) cA).ownBlock = (Value.slice sa c6.sides.length cs).ownBlock ∨ ∃ b, (Value.slice aA (c6.sides.length + 1) cA).ownBlock = some b ∧ w1.heap.size ≤ b) →
                    (wA.cell? ⟨B, 2, none⟩ = some (.slice sa c6.sides.length cs) ∧ wA.frozen? ⟨B, 2, none⟩ = false ∧ B < wA.heap.size) ∧
                    DX [(V, toldV, 142)] w (wA.setCell ⟨B, 2, none⟩ (.slice aA (c6.sides.length + 1) cA)) B (V + 1) (.slice ab bs.length cb) bs a3.2.1 a3.2.2 { c6 with sides := c6.sides ++ [a3.1] }) := fun w1 ax cx hv hn hR hm => by
                have k1 := hy'.out.read hm hR
                have e := e2'.out
                have hown := k1.h1.own 2 (by omega)
                rw [e, k1.h2.sl] at hown
                refine ⟨hown, fun aA cA wA hA mA vA => ?_⟩
                have hBn : B ∉ (Value.slice sa c6.sides.length cs).ownBlock.toList := fun hb => by
                  rw [← e] at hb
                  exact k1.h1.res 2 B (by omega) (by simpa using hb) k1.h1.memB
                have hh := k1.h1.has.keep mA hBn
                refine ⟨⟨by have := hh.cell 2 rfl; rwa [e] at this, hh.free 2, hh.lt⟩, ?_⟩
                refine k1.shut.push k1.h1 k1.h2 k1.h3 k1.h4 k1.h5 (i := 2) (by omega) (x := .slice ax a3.1.length cx) (v' := .slice aA (c6.sides.length + 1) cA) ?_ (by rw [e]; exact mA) (by rw [e]; exact vA) (live_new hy'.out.h1 hv hn) (fun g hg => ?_) (fun w' hc mm => ?_)
                · rw [k1.h2.sl]; exact hA
                · obtain ⟨ad, n2, c2, e4, _, rfl⟩ := hg
                  have h6 := hn ad.block (by rw [e4]; rfl)
                  have h7 := hy'.out.base.size
                  omega
                · refine hc.push2 (rd_keep_live hv mm fun g hg hm2 => ?_)
                  obtain ⟨q1, q2, q3⟩ := live_new hy'.out.h1 hv hn g hg
                  rcases List.mem_cons.1 hm2 with rfl | hm2
                  · exact q2 hy'.out.h1.memB
                  · exact q3 2 (by omega) (by simpa using hm2)
              generalize hX : a3.1 = Y3 at *
              clear hX
              go_region_law (first
                | (rw [if_pos (by rfl)]; go_simp; go_at_call 109; refine hbit.out.mono ?_; rintro e w1 ⟨v, rfl, hv, hn, hR, hm⟩; obtain ⟨ax, cx, rfl⟩ := hv.val; have dd := hafter.out _ hm; have dl : B < w1.heap.size := Nat.lt_of_lt_of_le hl0 hm.size; have hp := hpush.out _ _ _ hv hn hR hm; obtain ⟨hown, hp⟩ := hp; have hown' := Lib.hid hown; have hp' := Lib.hid hp; clear hown hp hv hn hR; dsimp only)
                | (refine step_app_own rfl (.tmp 67) (.tmp 72) 125 36 _ 1 24 rfl Try.underlying125 infoSI rfl (by omega) (by omega) (.slice sa c6.sides.length cs) c6.sides.length 1 (rows 2) [.slice ax Y3.length cx] rfl rfl rfl rfl (by simp [Value.oneCell']) hown'.out (by omega) ?_; intro aA cA wA hA mA vA; obtain ⟨⟨dz, fz, lz⟩, hfin⟩ := hp'.out _ _ _ hA mA vA; have hfin' := Lib.hid hfin; clear hfin hA mA vA))
              all_goals
                go_wp2_with fail
                go_meet
                exact hfin'.out
            case rest =>
              have hd7 := Lib.hid hcut
              clear hcut hd6 hA3
              generalize hc7 : ({ c6 with sides := c6.sides ++ [a3.1] } : CertV) = c7 at *
              have hf7 : c7.flows.length ≤ i := by rw [← hc7]; exact hf6
              have hc7' := Lib.hid hc7
              clear hc7
              have hcc := Lib.hid (xCount hd7.out.rt hbb'.out)
              have hcl := count_le bs a3.2.1 a3.2.2
              go_wp2_with fail
              refine hcc.out.mono ?_
              rintro e w8 ⟨rfl, hR8, hm8⟩
              try dsimp only
              have hd8 := Lib.hid (hd7.out.read hm8 hR8)
              clear hR8 hm8 hcc hd7
              generalize hA4 : rCount bs a3.2.1 a3.2.2 = a4 at *
              have hA4' := Lib.hid hA4
              clear hA4
              obtain ⟨m, hm0⟩ : ∃ m, m = a4.1 := ⟨_, rfl⟩
              rw [← hm0] at hcl ⊢
              obtain ⟨Q, hQ⟩ : ∃ Q, Q = xInts bs m a4.2.1 a4.2.2 := ⟨_, rfl⟩
              have hQ' := Lib.hid hQ
              have hm0' := Lib.hid hm0
              clear hQ hm0
              obtain ⟨vs, rows, hy8⟩ := hd8.out.open
              have hy8' := Lib.hid hy8
              clear hy8
              go_wp2_with fail
              go_loopw [10, 11] (fun ov jv wr' => ∃ (j : Nat) (L : List Int) (k' : Nat) (st' : Bool) (ao : Option Addr) (co : Nat), j ≤ m ∧ jv = .int .i64 j ∧ ov = .slice ao L.length co ∧ L.length ≤ j ∧ L ++ (xInts bs (m - j) k' st').1 = Q.1 ∧ (xInts bs (m - j) k' st').2 = Q.2 ∧ DY [(V, toldV, 142)] w wr' B (V + 1) (.slice ab bs.length cb) bs k' st' c7 vs rows ∧ wr'.ownsRow 0 2 1 (.slice ao L.length co) L.length (vi64 L) ∧ w8.heap.size ≤ wr'.heap.size ∧ ∀ g, (Value.slice ao L.length co).ownBlock = some g → w8.heap.size ≤ g) (fun _ jv _ => m - (intOf jv).toNat)
              case atStart => exact ⟨0, [], a4.2.1, a4.2.2, none, 0, Nat.zero_le _, rfl, rfl, by simp, by rw [hQ'.out]; rfl, by rw [hQ'.out]; rfl, hy8'.out, World.ownsRow_nil _ _ _ _, Nat.le_refl _, by simp [Value.ownBlock]⟩
              case round =>
                obtain ⟨j, L, k', st', ao, co, hj, rfl, rfl, hLj, hQ1, hQ2, hdy, hown, hsz, hnew⟩ := hrel
                obtain ⟨wo, hwo⟩ : ∃ wo : World, wo = wr := ⟨_, rfl⟩
                clear hwo
                have hQ1' := Lib.hid hQ1
                have hQ2' := Lib.hid hQ2
                have hdy' := Lib.hid hdy
                have hown' := Lib.hid hown
                have hnew' := Lib.hid hnew
                clear hQ1 hQ2 hdy hown hnew
                have z2 := hdy'.out.rt.has.cell 2 rfl
                have zl := hdy'.out.rt.has.lt
                by_cases hjg : j < m ∧ st' = false
                · obtain ⟨hjm, hst2⟩ := hjg
                  subst hst2
                  have p1 : decide ((j : Int) < (m : Int)) = true := by simp; omega
                  have p1' : decide (j < m) = true := by simpa using hjm
                  have hxg := xInts_go bs (m - j) k' false (by omega) rfl
                  rw [show m - j - 1 = m - (j + 1) by omega] at hxg
                  have hxg' := Lib.hid hxg
                  clear hxg
                  have hci := Lib.hid (xInt hdy'.out.rt hbb'.out)
                  go_wp2_with fail
                  refine hci.out.mono ?_
                  rintro e w9 ⟨rfl, hR9, hm9⟩
                  try dsimp only
                  have hdy9 := Lib.hid (hdy'.out.read hm9 hR9)
                  have hB9 := hy8'.out.h1.lt (V + 1) (by simp [RsX])
                  have hown9 := Lib.hid (own_keep hown'.out hm9 (fun g hg hm => by have := hnew'.out g hg; rw [List.mem_singleton] at hm; omega))
                  have hs9 := hdy9.out.base.size
                  have hw89 : w8.heap.size ≤ w9.heap.size := by
                    have h1 := hm9.size
                    have h2 : w8.heap.size ≤ wr.heap.size := hsz
                    omega
                  clear hR9 hm9 hci z2 zl
                  generalize hG : rNat bs k' false = G at *
                  obtain ⟨v0, hv0⟩ : ∃ v, v = unsign G.1 := ⟨_, rfl⟩
                  rw [← hv0]
                  have hv0' := Lib.hid hv0
                  clear hv0 hG
                  go_wp2_with (at_builtin; refine app_own rfl (.tmp 89) (.tmp 92) 46 2 _ 1 8 rfl Try.underlying46 infoI64 rfl (by omega) (by omega) (.slice ao L.length co) L.length 1 (vi64 L) [.int .i64 v0] rfl rfl rfl rfl (by simp [Value.oneCell']) hown9.out (by omega) ?_; intro aA cA wA hA mA vA)
                  have hfin : DY [(V, toldV, 142)] w wA B (V + 1) (.slice ab bs.length cb) bs G.2.1 G.2.2 c7 vs rows := hy8'.out.young hdy9.out mA (fun b hb => hnew'.out b (by simpa using hb))
                  have hnx : ∀ g, (Value.slice aA (L.length + 1) cA).ownBlock = some g → w8.heap.size ≤ g := fun g hg => by
                    rcases vA with e | ⟨b, e, hb⟩
                    · rw [e] at hg; exact hnew'.out g hg
                    · rw [e] at hg; simp only [Option.some.injEq] at hg; omega
                  have hfin' := Lib.hid hfin
                  have hnx' := Lib.hid hnx
                  have hA' := Lib.hid hA
                  have mA' := Lib.hid mA.size
                  clear hfin hnx hA mA vA
                  go_roundw
                  case rel =>
                    refine ⟨j + 1, L ++ [v0], G.2.1, G.2.2, aA, cA, by omega, by go_num, by simp, by simp; omega, ?_, ?_, hfin'.out, ?_, by have := mA'.out; omega, by simpa using hnx'.out⟩
                    · rw [← hQ1'.out, hxg'.out, hv0'.out]; simp
                    · rw [← hQ2'.out, hxg'.out]
                    · have := hA'.out
                      rw [List.length_append, show vi64 (L ++ [v0]) = vi64 L ++ [.int .i64 v0] from by simp [vi64]]
                      exact this
                  case measure => simp [intOf]; omega
                · have hend : (xInts bs (m - j) k' st') = ([], k', st') := xInts_end bs _ _ _ (by
                    rcases Nat.lt_or_ge j m with h | h
                    · right
                      cases st' with
                      | true => rfl
                      | false => exact absurd ⟨h, rfl⟩ hjg
                    · left; omega)
                  have hL : Hid (L = Q.1) := by show _ = _; rw [← hQ1'.out, hend]; simp
                  have hst : Hid ((k', st') = Q.2) := by show _ = _; rw [← hQ2'.out, hend]
                  have hend' := Lib.hid hend
                  obtain ⟨au, cu, aw, cw, sa, cs, af, cf, e0, e1, e2, e3⟩ := hdy'.out.h1.vals hdy'.out.h2
                  have d3 := hdy'.out.h1.has.cell 3 rfl
                  rw [e3] at d3
                  have dl := hdy'.out.h1.has.lt
                  have hfo := hdy'.out.h1.own 3 (by omega)
                  rw [e3, hdy'.out.h2.fl] at hfo
                  have hfo' := Lib.hid hfo
                  have e3' := Lib.hid e3
                  have hlv : Hid (∀ g, live (.slice ao L.length co) g → g < wr.heap.size ∧ w8.heap.size ≤ g) := fun g hg => by
                    obtain ⟨ad, n2, c2, e, _, rfl⟩ := hg
                    have ho : (Value.slice ao L.length co).ownBlock = some ad.block := by rw [e]; rfl
                    exact ⟨own_lt hown'.out ho, hnew'.out _ ho⟩
                  have hpush : Hid (∀ aA cA wA, wA.ownsRow 0 46 1 (.slice aA (c7.flows.length + 1) cA) (c7.flows.length + 1) (rows 3 ++ [.slice ao L.length co]) → Mod (Value.slice af c7.flows.length cf).ownBlock.toList wr wA →
                    ((Value.slice aA (c7.flows.length + 1) cA).ownBlock = (Value.slice af c7.flows.length cf).ownBlock ∨ ∃ b, (Value.slice aA (c7.flows.length + 1) cA).ownBlock = some b ∧ wr.heap.size ≤ b) →
                    (wA.cell? ⟨B, 3, none⟩ = some (.slice af c7.flows.length cf) ∧ wA.frozen? ⟨B, 3, none⟩ = false ∧ B < wA.heap.size) ∧
                    DX [(V, toldV, 142)] w (wA.setCell ⟨B, 3, none⟩ (.slice aA (c7.flows.length + 1) cA)) B (V + 1) (.slice ab bs.length cb) bs k' st' { c7 with flows := c7.flows ++ [L] }) := fun aA cA wA hA mA vA => by
                    have e := e3'.out
                    have hBn : B ∉ (Value.slice af c7.flows.length cf).ownBlock.toList := fun hb => by
                      rw [← e] at hb
                      exact hdy'.out.h1.res 3 B (by omega) (by simpa using hb) hdy'.out.h1.memB
                    have hh := hdy'.out.h1.has.keep mA hBn
                    have hout3 : ∀ g, live (.slice ao L.length co) g → g < wr.heap.size ∧ g ∉ RsX [(V, toldV, 142)] B (V + 1) none bs 0 ∧ ∀ j, j < 4 → (vs j).ownBlock ≠ some g := fun g hg => by
                      obtain ⟨g1, g2⟩ := hlv.out g hg
                      exact ⟨g1, fun hR => by have := hy8'.out.h1.lt g hR; omega, fun j hj e => by have := own_lt (hy8'.out.h1.own j hj) e; omega⟩
                    refine ⟨⟨by have := hh.cell 3 rfl; rwa [e] at this, hh.free 3, hh.lt⟩, ?_⟩
                    refine hdy'.out.shut.push hdy'.out.h1 hdy'.out.h2 hdy'.out.h3 hdy'.out.h4 hdy'.out.h5 (i := 3) (by omega) (x := .slice ao L.length co) (v' := .slice aA (c7.flows.length + 1) cA) ?_ (by rw [e]; exact mA) (by rw [e]; exact vA) hout3 (fun g hg => ?_) (fun w' hc mm => ?_)
                    · rw [hdy'.out.h2.fl]; exact hA
                    · have := (hlv.out g hg).2; have := hy8'.out.base.size; omega
                    · refine hc.push3 (rd_keep_live (Rd.own hown'.out) mm fun g hg hm2 => ?_)
                      obtain ⟨q1, q2, q3⟩ := hout3 g hg
                      rcases List.mem_cons.1 hm2 with rfl | hm2
                      · exact q2 hdy'.out.h1.memB
                      · exact q3 3 (by omega) (by simpa using hm2)
                  have hfinal : Hid (∀ wZ, DX [(V, toldV, 142)] w wZ B (V + 1) (.slice ab bs.length cb) bs k' st' { c7 with flows := c7.flows ++ [L] } → ∃ z : RSt, xVerts bs n (n - (i + 1)) z = Y ∧ Fits z.1 ∧ lenLe z.1 (i + 1) ∧ DX [(V, toldV, 142)] w wZ B (V + 1) (.slice ab bs.length cb) bs z.2.1 z.2.2 z.1) := fun wZ hz => by
                    have hx := hstep.out a1 (by first | rfl | exact hA1'.out.symm) a2 (by first | rfl | exact hA2'.out.symm) a3 (by first | rfl | exact hA3'.out.symm) a4 (by first | rfl | exact hA4'.out.symm) Q (by rw [hQ'.out, hm0'.out])
                    have hcz : ({ c7 with flows := c7.flows ++ [L] } : CertV) = (xStep bs n x).1 := by
                      rw [hx, hL.out, ← hc7'.out, ← hc6'.out, hu'.out, hyy'.out]
                    have hkz : (xStep bs n x).2 = (k', st') := by rw [hx]; exact hst.out.symm
                    rw [hcz] at hz
                    refine ⟨xStep bs n x, hnext.out, hfit.out, ?_, by rw [hkz]; exact hz⟩
                    unfold lenLe
                    rw [hx]
                    simp only [List.length_append, List.length_singleton]
                    omega
                  have hone : Hid (c7.flows.length ≤ 100000) := by show _ ≤ _; omega
                  cases st' with
                  | true =>
                    clear hjg e0 e1 e2 e3 hfo hend
                    go_upto_region 20 with fail
                    all_goals
                      go_wp2_with (at_builtin; refine app_own rfl (.tmp 95) (.tmp 97) 126 46 _ 1 24 rfl Try.underlying126 infoSI64 rfl (by omega) (by omega) (.slice af c7.flows.length cf) c7.flows.length 1 (rows 3) [.slice ao L.length co] rfl rfl rfl rfl (by simp [Value.oneCell']) hfo'.out (by omega) ?_; intro aA cA wA hA mA vA; obtain ⟨⟨dz, fz, lz⟩, hfin⟩ := hpush.out _ _ _ hA mA vA; have hfin' := Lib.hid (hfinal.out _ hfin); clear hfin hA mA vA)
                      obtain ⟨z, z1, z2, z3, z4⟩ := hfin'.out
                      go_roundw
                      case rel => exact ⟨i + 1, z, by omega, by go_num, z1, z2, z3, z4⟩
                      case measure => simp [intOf]; omega
                  | false =>
                    have hjm : ¬ j < m := fun h => hjg ⟨h, rfl⟩
                    have p1 : decide ((j : Int) < (m : Int)) = false := by simp; omega
                    have p1' : decide (j < m) = false := by simpa using hjm
                    clear hjg e0 e1 e2 e3 hfo hend
                    go_upto_region 20 with fail
                    all_goals
                      go_wp2_with (at_builtin; refine app_own rfl (.tmp 95) (.tmp 97) 126 46 _ 1 24 rfl Try.underlying126 infoSI64 rfl (by omega) (by omega) (.slice af c7.flows.length cf) c7.flows.length 1 (rows 3) [.slice ao L.length co] rfl rfl rfl rfl (by simp [Value.oneCell']) hfo'.out (by omega) ?_; intro aA cA wA hA mA vA; obtain ⟨⟨dz, fz, lz⟩, hfin⟩ := hpush.out _ _ _ hA mA vA; have hfin' := Lib.hid (hfinal.out _ hfin); clear hfin hA mA vA)
                      obtain ⟨z, z1, z2, z3, z4⟩ := hfin'.out
                      go_roundw
                      case rel => exact ⟨i + 1, z, by omega, by go_num, z1, z2, z3, z4⟩
                      case measure => simp [intOf]; omega
      · have hend : xVerts bs n (n - i) x = x := xVerts_end bs n _ x (by
          rcases Nat.lt_or_ge i n with h | h
          · right
            cases hx : x.2.2 with
            | true => rfl
            | false => exact absurd ⟨h, hx⟩ hgo
          · left; omega)
        have hxY : Hid (x = Y) := by show _ = _; rw [← hv'.out, hend]
        obtain ⟨vs, rows, hy⟩ := hds'.out.open
        obtain ⟨au, cu, aw, cw, sa, cs, af, cf, e0, e1, e2, e3⟩ := hy.h1.vals hy.h2
        have hb1 := hy.h1.has
        rw [e0, e1, e2, e3] at hb1
        have hrep := hy.h1.rep hy.h2
        rw [e0, e1, e2, e3] at hrep
        have hrepF : Hid (∀ W F, Mod F wr W → (∀ b ∈ F, b = V) → CRep W (.slice au x.1.up.length cu) (.slice aw x.1.ws.length cw) (.slice sa x.1.sides.length cs) (.slice af x.1.flows.length cf) x.1) := fun W F m hF => by
          have := BxT.repF hy.h1 hy.h2 (fun i g hi hg hm => hy.h1.res i g hi hg (by rw [hF g hm]; simp [RsX])) (fun i y g hi hy2 hg hm => (hy.h1.el i y hi hy2 g hg).2.1 (by rw [hF g hm]; simp [RsX])) m
          rwa [e0, e1, e2, e3] at this
        obtain ⟨hV0, _, _⟩ := hy.h4 (V, toldV, 142) (by simp)
        have d0 := hb1.cell 0 rfl
        have d1 := hb1.cell 1 rfl
        have d2 := hb1.cell 2 rfl
        have d3 := hb1.cell 3 rfl
        have dl := hb1.lt
        have hb1' := Lib.hid hb1
        have hV0' := Lib.hid hV0
        have hgo' := Lib.hid hgo
        have hec := Lib.hid (rencode_one x.1 hrep hfx'.out)
        clear hy hrep hb1 hV0 e0 e1 e2 e3 hend hgo
        by_cases hin : i < n
        · have hst : x.2.2 = true := by
            cases hx : x.2.2 with
            | true => rfl
            | false => exact absurd ⟨hin, hx⟩ hgo'.out
          have q1 : decide ((i : Int) < (n : Int)) = true := by simp; omega
          have q1' : decide (i < n) = true := by simpa using hin
          rw [hst] at x2
          have hst' := Lib.hid hst
          clear hst hin
          go_wp2_with fail
          refine hec.out.mono ?_
          rintro e w8 ⟨aE, cE, rfl, hm8, hrE⟩
          try dsimp only
          have hm8' := Lib.hid hm8
          have hrE' := Lib.hid hrE
          have hend2 := Lib.hid (xEnd (hds'.out.rt.still (hm8.trans ((Mod.refl [] w8).alloc (.cells #[.slice aE (encE x.1).length cE, .int .i64 (encC x.1)] 134)) (by simp))))
          have hgot := Lib.hid (Has.new w8 [.slice aE (encE x.1).length cE, .int .i64 (encC x.1)] 134)
          clear hm8 hrE hec d0 d1 d2 d3 dl x2 xl
          have hEc : Hid (encC x.1 = 0 → rightB x.1 = true ∧ encE x.1 = encB x.1) := fun h => by
            unfold encC at h
            unfold encE
            cases hr : rightB x.1 with
            | true => exact ⟨rfl, rfl⟩
            | false => rw [hr] at h; simp at h
          have hEn : Hid (encC x.1 ≠ 0 → rightB x.1 = false) := fun h => by
            unfold encC at h
            cases hr : rightB x.1 with
            | true => rw [hr] at h; simp at h
            | false => rfl
          have hEy : Hid (rightB x.1 = true → encC x.1 = 0) := fun h => by unfold encC; rw [h]; rfl
          have hEb : Hid (∀ b ∈ encE x.1, 0 ≤ b ∧ b < 256) := encE_byte x.1
          generalize hEE : encE x.1 = E at *
          generalize hEC : encC x.1 = ec at *
          have hEE' := Lib.hid hEE
          clear hEE hEC
          go_wp2_with fail
          refine hend2.out.mono ?_
          rintro e w9 ⟨rfl, hm9⟩
          try dsimp only
          have hg9 := hgot.out.keep hm9 (by simp)
          have g0 := hg9.cell 0 rfl
          have g1 := hg9.cell 1 rfl
          have gl := hg9.lt
          have hm89 : Mod [] wr w9 := (hm8'.out.trans ((Mod.refl [] w8).alloc _) (by simp)).trans hm9 (by simp)
          have hV9 := hV0'.out.keep hm89 (by simp)
          have r0 := hV9.cell 0 rfl
          have r1 := hV9.cell 1 rfl
          have r2 := hV9.cell 2 rfl
          have r3 := hV9.cell 3 rfl
          have r4 := hV9.cell 4 rfl
          have rf := hV9.free
          have rl := hV9.lt
          have hbB9 := hb1'.out.keep hm89 (by simp)
          have d0 := hbB9.cell 0 rfl
          have d1 := hbB9.cell 1 rfl
          have d2 := hbB9.cell 2 rfl
          have d3 := hbB9.cell 3 rfl
          have dl := hbB9.lt
          have hbase9 : Mod [] w w9 := hds'.out.base.trans hm89 (by simp)
          have cv1 := conv_rd ((hrE'.out.still ((Mod.refl [] w8).alloc (.cells #[.slice aE E.length cE, .int .i64 ec] 134))).still hm9)
          have cv2 := conv_rd (hb'.out.still hbase9)
          have hsb := Lib.hid (str_beq hEb.out hbb'.out)
          generalize strOfNums E = sE at *
          generalize strOfNums bs = sB at *
          have hm89' := Lib.hid hm89
          have hbase9' := Lib.hid hbase9
          have hfno : Hid (decR bs = none → ∀ u0 u1 u2 u3 u4, RDecOut bs w (.returned (.agg #[.slice none 0 0, .slice none 0 0, .slice none 0 0, .slice none 0 0, .int .i64 17])) (((((w9.setCell ⟨V, 0, none⟩ u0).setCell ⟨V, 1, none⟩ u1).setCell ⟨V, 2, none⟩ u2).setCell ⟨V, 3, none⟩ u3).setCell ⟨V, 4, none⟩ u4)) := fun hno u0 u1 u2 u3 u4 =>
            hout.out _ hno (((((hbase9'.out.setCell _ _ (fun h => by simp only at h; omega)).setCell _ _ (fun h => by simp only at h; omega)).setCell _ _ (fun h => by simp only at h; omega)).setCell _ _ (fun h => by simp only at h; omega)).setCell _ _ (fun h => by simp only at h; omega))
          have hfyes : Hid (decR bs = some x.1 → ∀ u0 u1 u2 u3 u4, RDecOut bs w (.returned (.agg #[.slice au x.1.up.length cu, .slice aw x.1.ws.length cw, .slice sa x.1.sides.length cs, .slice af x.1.flows.length cf, .int .i64 0])) (((((w9.setCell ⟨V, 0, none⟩ u0).setCell ⟨V, 1, none⟩ u1).setCell ⟨V, 2, none⟩ u2).setCell ⟨V, 3, none⟩ u3).setCell ⟨V, 4, none⟩ u4)) := fun hye u0 u1 u2 u3 u4 => by
            have mV : Mod [V] wr (((((w9.setCell ⟨V, 0, none⟩ u0).setCell ⟨V, 1, none⟩ u1).setCell ⟨V, 2, none⟩ u2).setCell ⟨V, 3, none⟩ u3).setCell ⟨V, 4, none⟩ u4) := (((((hm89'.out.of0 (F := [V])).setCell _ _ (by simp)).setCell _ _ (by simp)).setCell _ _ (by simp)).setCell _ _ (by simp)).setCell _ _ (by simp)
            unfold RDecOut
            rw [hye]
            exact ⟨_, _, _, _, rfl, hrepF.out _ _ mV (by simp), (((((hbase9'.out.setCell _ _ (fun h => by simp only at h; omega)).setCell _ _ (fun h => by simp only at h; omega)).setCell _ _ (fun h => by simp only at h; omega)).setCell _ _ (fun h => by simp only at h; omega)).setCell _ _ (fun h => by simp only at h; omega))⟩
          have hdx : Hid (decR bs = if rEnd bs x.2.1 x.2.2 = 0 ∧ rightB x.1 = true ∧ encB x.1 = bs then some x.1 else none) := by show _ = _; rw [hxY.out]; exact hdef2.out
          clear hm89 hbase9 hm9 hend2 hgot hg9 hV9 hbB9
          generalize hz : rEnd bs x.2.1 x.2.2 = z at *
          have hz' := Lib.hid hz
          clear hz
          by_cases hz0 : z = 0
          · have s1 : (z != 0) = false := by simp [hz0]
            by_cases he0 : ec = 0
            · have s2 : (ec != 0) = false := by simp [he0]
              by_cases heq : E = bs
              · have s3 : (sE.toList != sB.toList) = false := by rw [bne, hsb.out]; simp [heq]
                have s3' : (sE.toList == sB.toList) = true := by rw [hsb.out]; simp [heq]
                have hye : decR bs = some x.1 := by
                  obtain ⟨h1, h2⟩ := hEc.out he0
                  rw [hdx.out, if_pos ⟨hz0, h1, by rw [← h2]; exact heq⟩]
                have hf := Lib.hid (hfyes.out hye)
                clear hz0 he0 heq hye
                go_wp2_with fail
                exact bodyPost_ret (v := .agg #[.slice au x.1.up.length cu, .slice aw x.1.ws.length cw, .slice sa x.1.sides.length cs, .slice af x.1.flows.length cf, .int .i64 0]) (by simp [results, Try.results94, go_sem, r0, r1, r2, r3, r4, rl]) rfl (hf.out _ _ _ _ _)
              · have s3 : (sE.toList != sB.toList) = true := by rw [bne, hsb.out]; simp [heq]
                have s3' : (sE.toList == sB.toList) = false := by rw [hsb.out]; simp [heq]
                have hno : decR bs = none := by
                  obtain ⟨h1, h2⟩ := hEc.out he0
                  rw [hdx.out, if_neg (fun h => heq (by rw [h2]; exact h.2.2))]
                have hf := Lib.hid (hfno.out hno)
                clear hz0 he0 heq hno
                go_wp2_with fail
                exact bodyPost_ret (v := .agg #[.slice none 0 0, .slice none 0 0, .slice none 0 0, .slice none 0 0, .int .i64 17]) (by simp [results, Try.results94, go_sem, r0, r1, r2, r3, r4, rl]) rfl (hf.out _ _ _ _ _)
            · have s2 : (ec != 0) = true := by simpa using he0
              have hno : decR bs = none := by
                have h1 := hEn.out he0
                rw [hdx.out, if_neg (fun h => by rw [h1] at h; exact absurd h.2.1 (by simp))]
              have hf := Lib.hid (hfno.out hno)
              clear hz0 he0 hno
              go_wp2_with fail
              exact bodyPost_ret (v := .agg #[.slice none 0 0, .slice none 0 0, .slice none 0 0, .slice none 0 0, .int .i64 17]) (by simp [results, Try.results94, go_sem, r0, r1, r2, r3, r4, rl]) rfl (hf.out _ _ _ _ _)
          · have s1 : (z != 0) = true := by simpa using hz0
            have hno : decR bs = none := by rw [hdx.out, if_neg (fun h => hz0 h.1)]
            have hf := Lib.hid (hfno.out hno)
            clear hz0 hno
            go_wp2_with fail
            exact bodyPost_ret (v := .agg #[.slice none 0 0, .slice none 0 0, .slice none 0 0, .slice none 0 0, .int .i64 17]) (by simp [results, Try.results94, go_sem, r0, r1, r2, r3, r4, rl]) rfl (hf.out _ _ _ _ _)
        · have q1 : decide ((i : Int) < (n : Int)) = false := by simp; omega
          have q1' : decide (i < n) = false := by simpa using hin
          clear hin
          go_wp2_with fail
          refine hec.out.mono ?_
          rintro e w8 ⟨aE, cE, rfl, hm8, hrE⟩
          try dsimp only
          have hm8' := Lib.hid hm8
          have hrE' := Lib.hid hrE
          have hend2 := Lib.hid (xEnd (hds'.out.rt.still (hm8.trans ((Mod.refl [] w8).alloc (.cells #[.slice aE (encE x.1).length cE, .int .i64 (encC x.1)] 134)) (by simp))))
          have hgot := Lib.hid (Has.new w8 [.slice aE (encE x.1).length cE, .int .i64 (encC x.1)] 134)
          clear hm8 hrE hec d0 d1 d2 d3 dl x2 xl
          have hEc : Hid (encC x.1 = 0 → rightB x.1 = true ∧ encE x.1 = encB x.1) := fun h => by
            unfold encC at h
            unfold encE
            cases hr : rightB x.1 with
            | true => exact ⟨rfl, rfl⟩
            | false => rw [hr] at h; simp at h
          have hEn : Hid (encC x.1 ≠ 0 → rightB x.1 = false) := fun h => by
            unfold encC at h
            cases hr : rightB x.1 with
            | true => rw [hr] at h; simp at h
            | false => rfl
          have hEy : Hid (rightB x.1 = true → encC x.1 = 0) := fun h => by unfold encC; rw [h]; rfl
          have hEb : Hid (∀ b ∈ encE x.1, 0 ≤ b ∧ b < 256) := encE_byte x.1
          generalize hEE : encE x.1 = E at *
          generalize hEC : encC x.1 = ec at *
          have hEE' := Lib.hid hEE
          clear hEE hEC
          go_wp2_with fail
          refine hend2.out.mono ?_
          rintro e w9 ⟨rfl, hm9⟩
          try dsimp only
          have hg9 := hgot.out.keep hm9 (by simp)
          have g0 := hg9.cell 0 rfl
          have g1 := hg9.cell 1 rfl
          have gl := hg9.lt
          have hm89 : Mod [] wr w9 := (hm8'.out.trans ((Mod.refl [] w8).alloc _) (by simp)).trans hm9 (by simp)
          have hV9 := hV0'.out.keep hm89 (by simp)
          have r0 := hV9.cell 0 rfl
          have r1 := hV9.cell 1 rfl
          have r2 := hV9.cell 2 rfl
          have r3 := hV9.cell 3 rfl
          have r4 := hV9.cell 4 rfl
          have rf := hV9.free
          have rl := hV9.lt
          have hbB9 := hb1'.out.keep hm89 (by simp)
          have d0 := hbB9.cell 0 rfl
          have d1 := hbB9.cell 1 rfl
          have d2 := hbB9.cell 2 rfl
          have d3 := hbB9.cell 3 rfl
          have dl := hbB9.lt
          have hbase9 : Mod [] w w9 := hds'.out.base.trans hm89 (by simp)
          have cv1 := conv_rd ((hrE'.out.still ((Mod.refl [] w8).alloc (.cells #[.slice aE E.length cE, .int .i64 ec] 134))).still hm9)
          have cv2 := conv_rd (hb'.out.still hbase9)
          have hsb := Lib.hid (str_beq hEb.out hbb'.out)
          generalize strOfNums E = sE at *
          generalize strOfNums bs = sB at *
          have hm89' := Lib.hid hm89
          have hbase9' := Lib.hid hbase9
          have hfno : Hid (decR bs = none → ∀ u0 u1 u2 u3 u4, RDecOut bs w (.returned (.agg #[.slice none 0 0, .slice none 0 0, .slice none 0 0, .slice none 0 0, .int .i64 17])) (((((w9.setCell ⟨V, 0, none⟩ u0).setCell ⟨V, 1, none⟩ u1).setCell ⟨V, 2, none⟩ u2).setCell ⟨V, 3, none⟩ u3).setCell ⟨V, 4, none⟩ u4)) := fun hno u0 u1 u2 u3 u4 =>
            hout.out _ hno (((((hbase9'.out.setCell _ _ (fun h => by simp only at h; omega)).setCell _ _ (fun h => by simp only at h; omega)).setCell _ _ (fun h => by simp only at h; omega)).setCell _ _ (fun h => by simp only at h; omega)).setCell _ _ (fun h => by simp only at h; omega))
          have hfyes : Hid (decR bs = some x.1 → ∀ u0 u1 u2 u3 u4, RDecOut bs w (.returned (.agg #[.slice au x.1.up.length cu, .slice aw x.1.ws.length cw, .slice sa x.1.sides.length cs, .slice af x.1.flows.length cf, .int .i64 0])) (((((w9.setCell ⟨V, 0, none⟩ u0).setCell ⟨V, 1, none⟩ u1).setCell ⟨V, 2, none⟩ u2).setCell ⟨V, 3, none⟩ u3).setCell ⟨V, 4, none⟩ u4)) := fun hye u0 u1 u2 u3 u4 => by
            have mV : Mod [V] wr (((((w9.setCell ⟨V, 0, none⟩ u0).setCell ⟨V, 1, none⟩ u1).setCell ⟨V, 2, none⟩ u2).setCell ⟨V, 3, none⟩ u3).setCell ⟨V, 4, none⟩ u4) := (((((hm89'.out.of0 (F := [V])).setCell _ _ (by simp)).setCell _ _ (by simp)).setCell _ _ (by simp)).setCell _ _ (by simp)).setCell _ _ (by simp)
            unfold RDecOut
            rw [hye]
            exact ⟨_, _, _, _, rfl, hrepF.out _ _ mV (by simp), (((((hbase9'.out.setCell _ _ (fun h => by simp only at h; omega)).setCell _ _ (fun h => by simp only at h; omega)).setCell _ _ (fun h => by simp only at h; omega)).setCell _ _ (fun h => by simp only at h; omega)).setCell _ _ (fun h => by simp only at h; omega))⟩
          have hdx : Hid (decR bs = if rEnd bs x.2.1 x.2.2 = 0 ∧ rightB x.1 = true ∧ encB x.1 = bs then some x.1 else none) := by show _ = _; rw [hxY.out]; exact hdef2.out
          clear hm89 hbase9 hm9 hend2 hgot hg9 hV9 hbB9
          generalize hz : rEnd bs x.2.1 x.2.2 = z at *
          have hz' := Lib.hid hz
          clear hz
          by_cases hz0 : z = 0
          · have s1 : (z != 0) = false := by simp [hz0]
            by_cases he0 : ec = 0
            · have s2 : (ec != 0) = false := by simp [he0]
              by_cases heq : E = bs
              · have s3 : (sE.toList != sB.toList) = false := by rw [bne, hsb.out]; simp [heq]
                have s3' : (sE.toList == sB.toList) = true := by rw [hsb.out]; simp [heq]
                have hye : decR bs = some x.1 := by
                  obtain ⟨h1, h2⟩ := hEc.out he0
                  rw [hdx.out, if_pos ⟨hz0, h1, by rw [← h2]; exact heq⟩]
                have hf := Lib.hid (hfyes.out hye)
                clear hz0 he0 heq hye
                go_wp2_with fail
                exact bodyPost_ret (v := .agg #[.slice au x.1.up.length cu, .slice aw x.1.ws.length cw, .slice sa x.1.sides.length cs, .slice af x.1.flows.length cf, .int .i64 0]) (by simp [results, Try.results94, go_sem, r0, r1, r2, r3, r4, rl]) rfl (hf.out _ _ _ _ _)
              · have s3 : (sE.toList != sB.toList) = true := by rw [bne, hsb.out]; simp [heq]
                have s3' : (sE.toList == sB.toList) = false := by rw [hsb.out]; simp [heq]
                have hno : decR bs = none := by
                  obtain ⟨h1, h2⟩ := hEc.out he0
                  rw [hdx.out, if_neg (fun h => heq (by rw [h2]; exact h.2.2))]
                have hf := Lib.hid (hfno.out hno)
                clear hz0 he0 heq hno
                go_wp2_with fail
                exact bodyPost_ret (v := .agg #[.slice none 0 0, .slice none 0 0, .slice none 0 0, .slice none 0 0, .int .i64 17]) (by simp [results, Try.results94, go_sem, r0, r1, r2, r3, r4, rl]) rfl (hf.out _ _ _ _ _)
            · have s2 : (ec != 0) = true := by simpa using he0
              have hno : decR bs = none := by
                have h1 := hEn.out he0
                rw [hdx.out, if_neg (fun h => by rw [h1] at h; exact absurd h.2.1 (by simp))]
              have hf := Lib.hid (hfno.out hno)
              clear hz0 he0 hno
              go_wp2_with fail
              exact bodyPost_ret (v := .agg #[.slice none 0 0, .slice none 0 0, .slice none 0 0, .slice none 0 0, .int .i64 17]) (by simp [results, Try.results94, go_sem, r0, r1, r2, r3, r4, rl]) rfl (hf.out _ _ _ _ _)
          · have s1 : (z != 0) = true := by simpa using hz0
            have hno : decR bs = none := by rw [hdx.out, if_neg (fun h => hz0 h.1)]
            have hf := Lib.hid (hfno.out hno)
            clear hz0 hno
            go_wp2_with fail
            exact bodyPost_ret (v := .agg #[.slice none 0 0, .slice none 0 0, .slice none 0 0, .slice none 0 0, .int .i64 17]) (by simp [results, Try.results94, go_sem, r0, r1, r2, r3, r4, rl]) rfl (hf.out _ _ _ _ _)
end Code.Cert
end Go.Proofs.Ytmkbinbggiocaaa

set_option linter.unusedVariables false
set_option linter.unusedSimpArgs false
namespace Go.Proofs.Ytmkbinbggiocaaa
open Go.RowKit
namespace Code.Cert
/-- What Decode answers, in one form. -/
def dK (bs : List Int) : CertV := (decP bs).getD noneC
def dC (bs : List Int) : Int := if (decP bs).isSome then 0 else 17
theorem decode_one {w : World} {vb : Value} {bs : List Int} (hb : Rd w 1 vb bs.length (u8s bs)) (hbb : ∀ x ∈ bs, 0 ≤ x ∧ x < 256) (hlen : bs.length ≤ 1000000) :
    Calls Try.prog 93 #[vb] w fun e w' => ∃ vu vw vs vf, e = .returned (.tuple #[.agg #[vu, vw, vs, vf], .int .i64 (dC bs)]) ∧ CRep w' vu vw vs vf (dK bs) ∧ Mod [] w w' := by
  refine (decode_any hb hbb hlen).mono fun e w' he => ?_
  unfold DecOut at he
  unfold dK dC
  cases hd : decP bs with
  | none =>
    rw [hd] at he
    obtain ⟨rfl, hm⟩ := he
    exact ⟨_, _, _, _, rfl, none_rep _, hm⟩
  | some c => rw [hd] at he; exact he
theorem rdecode_one {w : World} {vb : Value} {bs : List Int} (hb : Rd w 1 vb bs.length (u8s bs)) (hbb : ∀ x ∈ bs, 0 ≤ x ∧ x < 256) (hlen : bs.length ≤ 10000) :
    Calls Try.prog 94 #[vb] w fun e w' => ∃ vu vw vs vf, e = .returned (.agg #[vu, vw, vs, vf, .int .i64 (dC bs)]) ∧ CRep w' vu vw vs vf (dK bs) ∧ Mod [] w w' := by
  refine (rdecode_any hb hbb hlen).mono fun e w' he => ?_
  unfold RDecOut at he
  rw [dec_same hbb] at he
  unfold dK dC
  cases hd : decP bs with
  | none =>
    rw [hd] at he
    obtain ⟨rfl, hm⟩ := he
    exact ⟨_, _, _, _, rfl, none_rep _, hm⟩
  | some c => rw [hd] at he; exact he
set_option maxRecDepth 100000 in
set_option maxHeartbeats 8000000 in
theorem creads_any {w : World} {vb vu vw vs vf : Value} (bs : List Int) (c : CertV) (hb : Rd w 1 vb bs.length (u8s bs)) (hbb : ∀ x ∈ bs, 0 ≤ x ∧ x < 256) (h : CRep w vu vw vs vf c) (hbn : Bnd c) :
    Calls Try.prog 14 #[vb, .agg #[vu, vw, vs, vf]] w (BoolM true w) := by
  obtain ⟨wb, hwb⟩ : ∃ wb, wb = w.alloc (.cells #[vu, vw, vs, vf] 128) := ⟨_, rfl⟩
  obtain ⟨B, hB⟩ : ∃ B, B = w.heap.size := ⟨_, rfl⟩
  have hm0 : Mod [] w wb := by rw [hwb]; exact (Mod.refl [] w).alloc _
  have h1 : Has wb B [vu, vw, vs, vf] 128 := by rw [hwb, hB]; exact Has.new w _ _
  obtain ⟨ab, cb, rfl⟩ := hb.val
  obtain ⟨au, cu, aw, cw, sa, cs, af, cf, rfl, rfl, rfl, rfl⟩ := h.vals
  have hc := Lib.hid (h.still hm0)
  have hk := Lib.hid (hb.still hm0)
  have h1' := Lib.hid h1
  have hm0' := Lib.hid hm0
  have hwb' := Lib.hid hwb
  have hB' := Lib.hid hB
  have hbn' := Lib.hid hbn
  have hbb' := Lib.hid hbb
  have haw := Lib.hid awake_cert
  clear h hb h1 hm0 hwb hB hbn hbb
  have hwc := Lib.hid (wide_any c hc.out)
  by_cases hlen : bs.length ≤ 2000
  case neg =>
    go_enter Try.func14, Try.ntmps14
    go_wp2_with fail
    refine (haw.out _).mono ?_
    rintro e w2 ⟨rfl, hm2⟩
    try dsimp only
    rw [← hwb'.out] at hm2
    have hf := Lib.hid (hm0'.out.trans hm2 (by simp))
    clear hm2
    go_wp2_with fail
    go_ret
    exact ⟨rfl, hf.out⟩
  case pos =>
    go_enter Try.func14, Try.ntmps14
    have hlen' := Lib.hid hlen
    go_wp2_with fail
    rw [← hB'.out, ← hwb'.out]
    refine hwc.out.mono ?_
    rintro e w1 ⟨rfl, hm1⟩
    try dsimp only
    have hm1' := Lib.hid hm1
    clear hm1 hwc
    cases hwcb : wideB c with
    | true =>
      clear hwcb
      go_wp2_with fail
      refine (haw.out _).mono ?_
      rintro e w2 ⟨rfl, hm2⟩
      try dsimp only
      have hf := Lib.hid ((hm0'.out.trans hm1'.out (by simp)).trans hm2 (by simp))
      clear hm2
      go_wp2_with fail
      go_ret
      exact ⟨rfl, hf.out⟩
    | false =>
      have hf' := Lib.hid (hbn'.out.fits hwcb)
      have hwide := Lib.hid hwcb
      clear hwcb
      have hD := Lib.hid (decode_one (hk.out.still hm1'.out) hbb'.out (by have := hlen'.out; omega))
      go_wp2_with fail
      refine hD.out.mono ?_
      rintro e w2 ⟨vu, vw, vs, vf, rfl, hx2, hm2⟩
      obtain ⟨xu, du, xw, dw, xs, ds, xf, df, rfl, rfl, rfl, rfl⟩ := hx2.vals
      try dsimp only
      have hx2' := Lib.hid hx2
      have hm2' := Lib.hid (hm1'.out.trans hm2 (by simp))
      clear hx2 hm2 hD
      obtain ⟨x, hK⟩ : ∃ x, x = dK bs := ⟨_, rfl⟩
      obtain ⟨ec, hC⟩ : ∃ ec, ec = dC bs := ⟨_, rfl⟩
      rw [← hK] at hx2'
      rw [← hK, ← hC]
      have hK' := Lib.hid hK
      have hC' := Lib.hid hC
      clear hK hC
      obtain ⟨wc, hwc⟩ : ∃ wc, wc = w2.alloc (.cells #[.slice xu x.up.length du, .slice xw x.ws.length dw, .slice xs x.sides.length ds, .slice xf x.flows.length df] 128) := ⟨_, rfl⟩
      obtain ⟨X, hX⟩ : ∃ X, X = w2.heap.size := ⟨_, rfl⟩
      have hmc : Mod [] w2 wc := by rw [hwc]; exact (Mod.refl [] w2).alloc _
      have hbx : Has wc X [.slice xu x.up.length du, .slice xw x.ws.length dw, .slice xs x.sides.length ds, .slice xf x.flows.length df] 128 := by rw [hwc, hX]; exact Has.new w2 _ _
      have hbx' := Lib.hid hbx
      have hX' := Lib.hid hX
      have hwc' := Lib.hid hwc
      have hmc' := Lib.hid (hm2'.out.trans hmc (by simp))
      have hxc' := Lib.hid (hx2'.out.still hmc)
      clear hbx hX hwc hmc hx2' hm2'
      have hD := Lib.hid (rdecode_one (hk.out.still hmc'.out) hbb'.out (by have := hlen'.out; omega))
      rw [← hK'.out, ← hC'.out] at hD
      go_wp2_with fail
      rw [← hX'.out, ← hwc'.out]
      refine hD.out.mono ?_
      rintro e w3 ⟨vu, vw, vs, vf, rfl, hy3, hm3⟩
      obtain ⟨yu, eu, yw, ew, ys, es, yf, ef, rfl, rfl, rfl, rfl⟩ := hy3.vals
      try dsimp only
      obtain ⟨wt, hwt⟩ : ∃ wt, wt = w3.alloc (.cells #[.slice yu x.up.length eu, .slice yw x.ws.length ew, .slice ys x.sides.length es, .slice yf x.flows.length ef, .int .i64 ec] 142) := ⟨_, rfl⟩
      obtain ⟨T, hT⟩ : ∃ T, T = w3.heap.size := ⟨_, rfl⟩
      have hmt : Mod [] w3 wt := by rw [hwt]; exact (Mod.refl [] w3).alloc _
      have hbt : Has wt T [.slice yu x.up.length eu, .slice yw x.ws.length ew, .slice ys x.sides.length es, .slice yf x.flows.length ef, .int .i64 ec] 142 := by rw [hwt, hT]; exact Has.new w3 _ _
      have hbx := hbx'.out.keep (hm3.trans hmt (by simp)) (by simp)
      have b0 := hbx.cell 0 rfl
      have b1 := hbx.cell 1 rfl
      have b2 := hbx.cell 2 rfl
      have b3 := hbx.cell 3 rfl
      have bl := hbx.lt
      have d0 := hbt.cell 0 rfl
      have d1 := hbt.cell 1 rfl
      have d2 := hbt.cell 2 rfl
      have d3 := hbt.cell 3 rfl
      have d4 := hbt.cell 4 rfl
      have dl := hbt.lt
      have hm4' := Lib.hid ((hmc'.out.trans hm3 (by simp)).trans hmt (by simp))
      have hx4' := Lib.hid (hxc'.out.still (hm3.trans hmt (by simp)))
      have hy4' := Lib.hid (hy3.still hmt)
      have hbx4 := Lib.hid hbx
      have hwt' := Lib.hid hwt
      have hT' := Lib.hid hT
      clear hbx hm3 hy3 hD hbx' hX' hwc' hmc' hxc' hmt hbt
      have hS := Lib.hid (same_ref x x hx4'.out hy4'.out)
      rw [same_refl] at hS
      rw [hwt] at b0 b1 b2 b3 bl d0 d1 d2 d3 d4 dl
      rw [hT] at d0 d1 d2 d3 d4 dl
      clear hwt hT
      go_wp2_with fail
      rw [← hwt'.out]
      refine hS.out.mono ?_
      rintro e w5 ⟨rfl, hm5⟩
      try dsimp only
      have hm5' := Lib.hid (hm4'.out.trans hm5 (by simp))
      have hbx5 := Lib.hid (hbx4.out.keep hm5 (by simp))
      have hx5' := Lib.hid (hx4'.out.still hm5)
      clear hm5 hS hbx4 hx4' hy4' hm4' hwt' hT' b0 b1 b2 b3 bl d0 d1 d2 d3 d4 dl
      have hd := h1'.out.keep hm5'.out (by simp)
      have d0 := hd.cell 0 rfl
      have d1 := hd.cell 1 rfl
      have d2 := hd.cell 2 rfl
      have d3 := hd.cell 3 rfl
      have dl := hd.lt
      clear hd
      have hE := Lib.hid (encode_one c (hc.out.still hm5'.out) hf'.out)
      go_wp2_with fail
      refine hE.out.mono ?_
      rintro e w6 ⟨ap, cp, rfl, hm6, hp6⟩
      try dsimp only
      have hp6' := Lib.hid hp6
      have hm6' := Lib.hid (hm5'.out.trans hm6 (by simp))
      have hbx6 := Lib.hid (hbx5.out.keep hm6 (by simp))
      have hx6' := Lib.hid (hx5'.out.still hm6)
      clear hm6 hp6 hE hm5' hbx5 hx5' d0 d1 d2 d3 dl
      cases hr : rightB c
      case' false =>
        have e1 : encC c = 1 := by unfold encC; rw [hr]; rfl
        rw [e1]
        clear e1 hr
        go_upto_region 12 with fail
        have hm7' := hm6'
        have hbx7 := hbx6
        have hx7' := hx6'
        clear hm6' hbx6 hx6' hp6'
      case' true =>
        have e1 : encC c = 0 := by unfold encC; rw [hr]; rfl
        have e2 : encE c = encB c := by unfold encE; rw [hr]; rfl
        have hD := decode_one (vb := .slice ap (encE c).length cp) (by have := hp6'.out; exact this) (by rw [e2]; exact enc_byte hr) (by rw [e2]; exact enc_len hr hf'.out hwide.out)
        have e3 : dK (encE c) = c := by unfold dK; rw [e2, dec_enc hr hf'.out]; rfl
        have e4 : dC (encE c) = 0 := by unfold dC; rw [e2, dec_enc hr hf'.out]; rfl
        rw [e3, e4] at hD
        have hD' := Lib.hid hD
        rw [e1]
        clear hD e1 e2 e3 e4 hr
        go_wp2_with fail
        refine hD'.out.mono ?_
        rintro e w7 ⟨vu, vw, vs, vf, rfl, hy7, hm7⟩
        obtain ⟨yu, eu, yw, ew, ys, es, yf, ef, rfl, rfl, rfl, rfl⟩ := hy7.vals
        try dsimp only
        obtain ⟨wt, hwt⟩ : ∃ wt, wt = w7.alloc (.cells #[.slice yu c.up.length eu, .slice yw c.ws.length ew, .slice ys c.sides.length es, .slice yf c.flows.length ef] 128) := ⟨_, rfl⟩
        obtain ⟨T, hT⟩ : ∃ T, T = w7.heap.size := ⟨_, rfl⟩
        have hmt : Mod [] w7 wt := by rw [hwt]; exact (Mod.refl [] w7).alloc _
        have hbt : Has wt T [.slice yu c.up.length eu, .slice yw c.ws.length ew, .slice ys c.sides.length es, .slice yf c.flows.length ef] 128 := by rw [hwt, hT]; exact Has.new w7 _ _
        have hm8' := Lib.hid ((hm6'.out.trans hm7 (by simp)).trans hmt (by simp))
        have hbx8 := Lib.hid (hbx6.out.keep (hm7.trans hmt (by simp)) (by simp))
        have hx8' := Lib.hid (hx6'.out.still (hm7.trans hmt (by simp)))
        have hb := h1'.out.keep hm8'.out (by simp)
        have b0 := hb.cell 0 rfl
        have b1 := hb.cell 1 rfl
        have b2 := hb.cell 2 rfl
        have b3 := hb.cell 3 rfl
        have bl := hb.lt
        have d0 := hbt.cell 0 rfl
        have d1 := hbt.cell 1 rfl
        have d2 := hbt.cell 2 rfl
        have d3 := hbt.cell 3 rfl
        have dl := hbt.lt
        have hS := Lib.hid (same_prog c c (hy7.still hmt) (hc.out.still hm8'.out))
        rw [same_refl] at hS
        have hwt' := Lib.hid hwt
        rw [hwt] at b0 b1 b2 b3 bl d0 d1 d2 d3 dl
        rw [hT] at d0 d1 d2 d3 dl
        clear hwt hT hb hbt hm7 hy7 hmt hm6' hbx6 hx6' hp6' hD'
        go_wp2_with fail
        rw [← hwt'.out]
        refine hS.out.mono ?_
        rintro e w9 ⟨rfl, hm9⟩
        try dsimp only
        have hm7' := Lib.hid (hm8'.out.trans hm9 (by simp))
        have hbx7 := Lib.hid (hbx8.out.keep hm9 (by simp))
        have hx7' := Lib.hid (hx8'.out.still hm9)
        clear hm8' hbx8 hx8' hm9 hwt' hS b0 b1 b2 b3 bl d0 d1 d2 d3 dl
        go_upto_region 12 with fail
      all_goals
        have hd := hbx7.out
        have d0 := hd.cell 0 rfl
        have d1 := hd.cell 1 rfl
        have d2 := hd.cell 2 rfl
        have d3 := hd.cell 3 rfl
        have dl := hd.lt
        clear hd hbx7
        cases hp : decP bs with
        | none =>
          have e1 : ec = 17 := by rw [hC'.out]; unfold dC; rw [hp]; rfl
          clear hC' hK' hp
          subst e1
          go_wp2_with fail
          refine (haw.out _).mono ?_
          rintro e w2 ⟨rfl, hm2⟩
          try dsimp only
          have hf := Lib.hid ((hm0'.out.trans hm7'.out (by simp)).trans hm2 (by simp))
          clear hm2
          go_wp2_with fail
          go_ret
          exact ⟨rfl, hf.out⟩
        | some y =>
          have e1 : ec = 0 := by rw [hC'.out]; unfold dC; rw [hp]; rfl
          have e2 : x = y := by rw [hK'.out]; unfold dK; rw [hp]; rfl
          clear hC' hK'
          subst e1
          rw [← e2] at hp
          clear e2
          obtain ⟨q1, q2, _⟩ := dec_sound hbb'.out hp
          have hE := encode_one x hx7'.out (dec_fits hbb'.out (by have := hlen'.out; omega) hp)
          have e3 : encE x = bs := by unfold encE; rw [q1, if_pos rfl, q2]
          have e4 : encC x = 0 := by unfold encC; rw [q1]; rfl
          rw [e3, e4] at hE
          have hE' := Lib.hid hE
          clear hE q1 q2 e3 e4 hp
          go_wp2_with fail
          refine hE'.out.mono ?_
          rintro e w8 ⟨a8, c8, rfl, hm8, hp8⟩
          try dsimp only
          have hm8' := Lib.hid (hm7'.out.trans hm8 (by simp))
          have g1 : (convert 45 9 (.slice a8 bs.length c8)).run Try.prog w8 = .ok (.string (strOfNums bs)) w8 := conv_rd hp8
          have g2 : (convert 45 9 (.slice ab bs.length cb)).run Try.prog w8 = .ok (.string (strOfNums bs)) w8 := conv_rd (hk.out.still hm8'.out)
          clear hm8 hp8 hE' d0 d1 d2 d3 dl
          go_wp2_with fail
          refine (haw.out _).mono ?_
          rintro e w9 ⟨rfl, hm9⟩
          try dsimp only
          have hf := Lib.hid ((hm0'.out.trans hm8'.out (by simp)).trans hm9 (by simp))
          clear hm9 g1 g2
          go_wp2_with fail
          go_ret
          exact ⟨rfl, hf.out⟩
end Code.Cert
end Go.Proofs.Ytmkbinbggiocaaa

set_option linter.unusedVariables false
set_option linter.unusedSimpArgs false
namespace Go.Proofs.Ytmkbinbggiocaaa
open Go.ChangeShapes Go.WideShapes Go.ChangeAt Go.RowKit Go.Deep
open Go.ChangeMaps (open_string shut_string)

namespace CertReads
set_option maxRecDepth 100000 in
theorem lifted (os : Os) (started : os.Started) (H : Type) (enc : TypeId × Value → H) :
    ReturnsInHanded {} Try.checked os 14 .any (Rows.certReadsSpec.pre6 enc Try.prog Try.f14 Rows.certReadsRow.domain false) (Rows.certReadsSpec.post enc Try.prog Try.f14 false true false false) := by
  refine returnsInHanded_of_change (C := Try.checked) own started (by kernel_rfl) Try.func14
    (ChangeSpec.witness6 (enc := enc) (C := Try.checked) false ⟨#[], #[.slice none 0 0, .agg #[.slice none 0 0, .slice none 0 0, .slice none 0 0, .slice none 0 0]], []⟩ 8 (by kernel_rfl) (by kernel_rfl) (by kernel_rfl) (by kernel_rfl)) ?_
  intro W base args ds gs before hval0 hW hcnd _
  have hval : ∀ (j : Nat) t v, Try.f14.params[j]? = some t → args[j]? = some v → Value.okWide Try.prog W .any base t v := hval0
  have hW' := hW
  obtain ⟨p, q, hA0, hV, rfl, hfz, hnd⟩ := hW
  have hA : DataW.TrodAll enc Try.prog W 0 (fun _ => true) true Try.f14.params.toList args.toList ds p := hA0
  rw [Try.params14] at hA hval
  obtain ⟨v0, vs0, d0, ds0, p0, q0, hargs, rfl, rfl, h0, r0⟩ := trodAll_cons hA
  obtain ⟨v1, vs1, d1, ds1, p1, q1, rfl, rfl, rfl, h1, r1⟩ := trodAll_cons r0
  obtain ⟨rfl, rfl, rfl⟩ := trodAll_nil r1
  obtain rfl : args = #[v0, v1] := by cases args; simp_all
  obtain ⟨rfl, rfl⟩ := trodVars_none hV
  have k0 := h0
  have lt0 : ∀ x ∈ p0, x.block < W.heap.size := by obtain ⟨m, hm⟩ := k0; exact DataW.trod_lt m _ _ _ hm
  have k1 := h1
  have lt1 : ∀ x ∈ p1, x.block < W.heap.size := by obtain ⟨m, hm⟩ := k1; exact DataW.trod_lt m _ _ _ hm
  obtain ⟨l0, hrd0, hw0⟩ : ∃ l : List Int, Rd W 1 v0 l.length (l.map fun x => .int .u8 x) ∧ ∀ x ∈ l, (Lit.int .u8 x).wf = true := by
    obtain ⟨a, len, cap, rfl⟩ := okWide_slice Try.underlying45 (hval 0 45 v0 rfl rfl)
    obtain ⟨fuel, hf⟩ := h0
    exact open_nums Try.underlying45 Try.underlying5 (by kernel_rfl) hf
  obtain ⟨vu1, vw1, vs41, vf1, c1, rfl, rep1, bnd1⟩ := open_cert (by obtain ⟨cs, hcs, _⟩ := okWide_struct Try.underlying128 (hval 1 128 v1 rfl rfl); exact ⟨cs, hcs⟩) h1
  clear hA0 hval0
  refine (Code.Cert.creads_any l0 c1 hrd0 (fun x hx => wf8 (hw0 x hx)) rep1 bnd1).mono fun e W' ⟨he, hm⟩ => ?_
  have bel := hm.below
  subst he
  exact ⟨_, rfl, _, _, _, [], _, [], hW', trodAll_mk1 (shut_bool Try.underlying4 _), (trodAll_cons_mk (Below.trod laidOut (by kernel_rfl) (of_decide_eq_true (by kernel_rfl)) k0 bel lt0) (trodAll_cons_mk (Below.trod laidOut (by kernel_rfl) (of_decide_eq_true (by kernel_rfl)) k1 bel lt1) trodAll_mk0)), rfl, bel.frame _, fun h => by cases h⟩
theorem proved : Rows.CertReadsSaid :=
  OpenClaim.holds_of_wide 14 Try.f14 rfl rfl rfl rfl rfl rfl rfl ⟨rfl, rfl, rfl, rfl, rfl⟩ rfl rfl rfl rfl rfl (by kernel_rfl) Try.func14 (by kernel_rfl)
    (of_decide_eq_true (by kernel_rfl)) (by unfold Func.isWrapper; first | (rw [if_pos (by decide +kernel)]; kernel_rfl) | (rw [if_neg (by decide +kernel)]; exact ⟨rfl, rfl⟩))
    (fun os started H enc _ => lifted os started H enc)
end CertReads
end Go.Proofs.Ytmkbinbggiocaaa
