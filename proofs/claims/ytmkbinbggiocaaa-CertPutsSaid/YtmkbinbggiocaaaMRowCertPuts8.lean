/- CertPuts: for every two certificates the law returns true, and its arguments read as before. Conditions: none. (Ahead of it: Certificates that are being read: all vertices. Certificates: Decode of the program. Certificates: the program is awake. A certificate as an argument. CertPuts: the walk.) -/
import Derived.Deep.DeepCutAuto
import Derived.Deep.CutBlock
import Derived.Test.YtmkbinbggiocaaaMRowCertPuts7
import Derived.Test.YtmkbinbggiocaaaMRowCertPuts0
set_option linter.unusedVariables false
set_option linter.unusedSimpArgs false
namespace Go.Proofs.Ytmkbinbggiocaaa
open Go.RowKit
namespace Code.Cert
abbrev RSt := CertV × Nat × Bool
def partStep (bs : List Int) (n : Nat) : Nat → RSt → RSt × Bool
  | 0, x => (({ x.1 with up := x.1.up ++ [upOf (rNat bs x.2.1 x.2.2).1] }, (rNat bs x.2.1 x.2.2).2), decide ((rNat bs x.2.1 x.2.2).1 ≤ n))
  | 1, x => (({ x.1 with ws := x.1.ws ++ [wrap64 (rNat bs x.2.1 x.2.2).1] }, (rNat bs x.2.1 x.2.2).2), decide (0 ≤ wrap64 (rNat bs x.2.1 x.2.2).1))
  | 2, x => (({ x.1 with sides := x.1.sides ++ [(rBits bs x.2.1 x.2.2 n).1] }, (rBits bs x.2.1 x.2.2 n).2), true)
  | _, x => (({ x.1 with flows := x.1.flows ++ [(rInts bs (rCount bs x.2.1 x.2.2).1 (rCount bs x.2.1 x.2.2).2.1 (rCount bs x.2.1 x.2.2).2.2).1] }, (rInts bs (rCount bs x.2.1 x.2.2).1 (rCount bs x.2.1 x.2.2).2.1 (rCount bs x.2.1 x.2.2).2.2).2), true)
def partRun (bs : List Int) (n : Nat) : Nat → RSt → Option RSt
  | 0, x => some x
  | j + 1, x => (partRun bs n j x).bind fun y => if (partStep bs n j y).2 then some (partStep bs n j y).1 else none
def verts (bs : List Int) (n : Nat) : Nat → RSt → Option RSt
  | 0, x => some x
  | i + 1, x => (verts bs n i x).bind (partRun bs n 4)
def noneC : CertV := ⟨[], [], [], []⟩
def decP (bs : List Int) : Option CertV :=
  let s := rMark bs 0 false headB
  let a := rNat bs s.1 s.2
  if a.1 ≤ 4096 then (verts bs a.1 a.1 (noneC, a.2)).bind fun y => if rEnd bs y.2.1 y.2.2 = 0 then some y.1 else none else none
/-- Lengths that go up by one with each vertex. -/
def lenOk (c : CertV) (i j : Nat) : Prop := c.up.length = (if 0 < j then i + 1 else i) ∧ c.ws.length = (if 1 < j then i + 1 else i) ∧ c.sides.length = (if 2 < j then i + 1 else i) ∧ c.flows.length = (if 3 < j then i + 1 else i)
theorem partRun_stop {bs : List Int} {n j : Nat} {x : RSt} (h : partRun bs n j x = none) : ∀ d, partRun bs n (j + d) x = none
  | 0 => h
  | d + 1 => by rw [← Nat.add_assoc, partRun, partRun_stop h d]; rfl
theorem partRun_no {bs : List Int} {n j : Nat} {x y : RSt} (h : partRun bs n j x = some y) (hs : (partStep bs n j y).2 = false) (hj : j < 4) : partRun bs n 4 x = none := by
  have h1 : partRun bs n (j + 1) x = none := by rw [partRun, h]; simp [hs]
  have := partRun_stop h1 (4 - (j + 1))
  rwa [show j + 1 + (4 - (j + 1)) = 4 by omega] at this
theorem partRun_yes {bs : List Int} {n j : Nat} {x y : RSt} (h : partRun bs n j x = some y) (hs : (partStep bs n j y).2 = true) : partRun bs n (j + 1) x = some (partStep bs n j y).1 := by
  rw [partRun, h]; simp [hs]
theorem verts_stop {bs : List Int} {n j : Nat} {x : RSt} (h : verts bs n j x = none) : ∀ d, verts bs n (j + d) x = none
  | 0 => h
  | d + 1 => by rw [← Nat.add_assoc, verts, verts_stop h d]; rfl
theorem verts_no {bs : List Int} {n i m : Nat} {x y : RSt} (h : verts bs n i x = some y) (hs : partRun bs n 4 y = none) (hi : i < m) : verts bs n m x = none := by
  have h1 : verts bs n (i + 1) x = none := by rw [verts, h]; exact hs
  have := verts_stop h1 (m - (i + 1))
  rwa [show i + 1 + (m - (i + 1)) = m by omega] at this
theorem verts_yes {bs : List Int} {n i : Nat} {x y z : RSt} (h : verts bs n i x = some y) (hs : partRun bs n 4 y = some z) : verts bs n (i + 1) x = some z := by
  rw [verts, h]; exact hs
theorem DS.addX {X : List (Nat × List Value × TypeId)} {w0 w w' : World} {B r cc k : Nat} {a : Option Addr} {bs : List Int} {st : Bool} {c : CertV} (h : DS X w0 w B r a cc bs k st c) (m : Mod [] w w') {b : Nat} {cs : List Value} {t : TypeId} (hb : Has w' b cs t) (hn : w.heap.size ≤ b) : DS ((b, cs, t) :: X) w0 w' B r a cc bs k st c := by
  have h' := h.still m
  obtain ⟨vs, rows, h1, h2, h3, h4, h5⟩ := h.ex
  have hbs := hb.lt
  have hws := m.size
  have hk := h1.keep m (by simp)
  refine ⟨⟨vs, rows, ⟨hk.has, hk.own, hk.dist, fun i g hi hg hR => ?_, fun i x hi hx g hg => ?_, fun y hy => ?_, by simp [RsX]⟩, Cn.keep h1 h2 m (by simp), h3, fun x hx => ?_, h5⟩, h'.rt, h'.base, h'.low, h'.ne, h'.na⟩
  · have := own_lt (h1.own i hi) hg
    have h5 := h1.res i g hi hg
    simp only [RsX, List.map_cons, List.mem_cons, List.mem_append] at hR h5
    rcases hR with e | e | e | e | e
    · exact h5 (.inl e)
    · exact h5 (.inr (.inl e))
    · exact h5 (.inr (.inr (.inl e)))
    · omega
    · exact h5 (.inr (.inr (.inr e)))
  · obtain ⟨g1, g2, g3⟩ := h1.el i x hi hx g hg
    refine ⟨by omega, fun hR => ?_, g3⟩
    simp only [RsX, List.map_cons, List.mem_cons, List.mem_append] at hR g2
    rcases hR with e | e | e | e | e
    · exact g2 (.inl e)
    · exact g2 (.inr (.inl e))
    · exact g2 (.inr (.inr (.inl e)))
    · omega
    · exact g2 (.inr (.inr (.inr e)))
  · have h5 := h1.lt y
    simp only [RsX, List.map_cons, List.mem_cons, List.mem_append] at hy h5
    rcases hy with e | e | e | e | e
    · have := h5 (.inl e); omega
    · have := h5 (.inr (.inl e)); omega
    · have := h5 (.inr (.inr (.inl e))); omega
    · omega
    · have := h5 (.inr (.inr (.inr e))); omega
  rcases List.mem_cons.1 hx with rfl | hx
  · refine ⟨hb, fun hm => ?_, fun i hi e => ?_⟩
    · have : b ∈ RsX X B r a bs cc := by
        simp only [Rs, List.mem_cons] at hm
        simp only [RsX, List.mem_cons, List.mem_append]
        rcases hm with e | e | e
        · exact .inl e
        · exact .inr (.inl e)
        · exact .inr (.inr (.inl e))
      have := h1.lt _ this
      omega
    · have := own_lt (h1.own i hi) e; omega
  · exact (h4.keep m (by simp)) x hx
/-- The certificate, behind whatever stores into blocks that it does not lie in. -/
theorem BxT.repF {T : TypeId} {F : List Nat} {w w' : World} {B : Nat} {R : List Nat} {vs : Nat → Value} {rows : Nat → List Value} {c : CertV} (h : BxT T w B R vs rows) (k : Cn w rows c) (hv : ∀ i g, i < 4 → (vs i).ownBlock = some g → g ∉ F) (he : ∀ i x g, i < 4 → x ∈ rows i → live x g → g ∉ F) (m : Mod F w w') : CRep w' (vs 0) (vs 1) (vs 2) (vs 3) c := by
  have ho : ∀ i, i < 4 → w'.ownsRow 0 (tyI i) 1 (vs i) (rows i).length (rows i) := fun i hi => own_keep (h.own i hi) m (fun g hg => hv i g hi hg)
  have k' : Cn w' rows c := k.keep2 m (fun b hb i x hi hx hl => he i x b hi hx hl hb)
  have h0 := Rd.own (ho 0 (by omega))
  have h1 := Rd.own (ho 1 (by omega))
  have h2 := Rd.own (ho 2 (by omega))
  have h3 := Rd.own (ho 3 (by omega))
  rw [k'.up, vi64_len] at h0
  rw [k'.ws, vi64_len] at h1
  rw [k'.sl] at h2
  rw [k'.fl] at h3
  exact ⟨h0, h1, ⟨rows 2, k'.sl, h2, k'.sides⟩, ⟨rows 3, k'.fl, h3, k'.flows⟩⟩
def nilsV : List Value := [.slice none 0 0, .slice none 0 0, .slice none 0 0, .slice none 0 0]
theorem DS.start {w0 w : World} {B r cc k : Nat} {a : Option Addr} {bs : List Int} {st : Bool} {V : Nat} (hR : RAt w r a cc bs k st) (hm : Mod [] w0 w) (hbox : Has w B nilsV 128) (hres : Has w V nilsV 128) (hrV : r < V) (hVB : V < B) (haV : ∀ g, (Value.slice a bs.length cc).ownBlock = some g → g < V) (hr : w0.heap.size ≤ r) (ha : ∀ g, (Value.slice a bs.length cc).ownBlock = some g → w0.heap.size ≤ g) :
    DS [(V, nilsV, 128)] w0 w B r a cc bs k st noneC := by
  have hVl := hres.lt
  have hBl := hbox.lt
  refine ⟨⟨fun _ => .slice none 0 0, fun _ => [], ⟨hbox, fun i _ => World.ownsRow_nil _ _ _ _, by simp [Value.ownBlock], by simp [Value.ownBlock], by simp, fun b hb => ?_, by simp [RsX]⟩, ⟨rfl, rfl, rfl, rfl, by simp, by simp⟩, by simp [Value.ownBlock], fun x hx => ?_, fun i x g hi hx hg => by simp at hx⟩, hR, hm, fun b hb => ?_, by omega, fun g hg => by have := haV g hg; omega⟩
  · simp only [RsX, List.mem_cons, List.mem_append, Option.mem_toList, List.map_cons, List.map_nil, List.not_mem_nil, or_false] at hb
    rcases hb with rfl | rfl | hb | rfl
    · omega
    · omega
    · have := haV b hb; omega
    · omega
  · rw [List.mem_singleton] at hx
    subst hx
    refine ⟨hres, fun hm => ?_, by simp [Value.ownBlock]⟩
    simp only [Rs, List.mem_cons, Option.mem_toList] at hm
    rcases hm with e | e | e
    · omega
    · omega
    · have := haV V e; omega
  · simp only [Rs, List.mem_cons, Option.mem_toList] at hb
    rcases hb with rfl | rfl | hb
    · omega
    · omega
    · exact ha b hb
def isC (v : Value) : Prop := ∃ a1 n1 c1 a2 n2 c2 a3 n3 c3 a4 n4 c4, v = .agg #[.slice a1 n1 c1, .slice a2 n2 c2, .slice a3 n3 c3, .slice a4 n4 c4]
def ReadNo (w0 : World) (e : Ending) (w' : World) : Prop := ∃ v, isC v ∧ e = .returned (.tuple #[v, .bool false]) ∧ Mod [] w0 w'
def ReadOut (bs : List Int) (w0 : World) (e : Ending) (w' : World) : Prop :=
  match decP bs with
  | some c => ∃ vu vw vs vf, e = .returned (.tuple #[.agg #[vu, vw, vs, vf], .bool true]) ∧ (∀ W F, Mod F w' W → (∀ b ∈ F, b < w0.heap.size) → CRep W vu vw vs vf c) ∧ Mod [] w0 w'
  | none => ReadNo w0 e w'
def headS : ByteArray := ⟨#[71, 72, 67, 49]⟩
theorem headS_bytes : bytesI headS = headB := by decide
set_option maxRecDepth 100000 in
set_option maxHeartbeats 8000000 in
theorem read_any {w0 w : World} {r cc : Nat} {a : Option Addr} {bs : List Int} (hR : RAt w r a cc bs 0 false) (hm : Mod [] w0 w) (hr : w0.heap.size ≤ r) (ha : ∀ g, (Value.slice a bs.length cc).ownBlock = some g → w0.heap.size ≤ g) (hbb : ∀ x ∈ bs, 0 ≤ x ∧ x < 256) :
    Calls Try.prog 156 #[.pointer (some ⟨r, 0, none⟩)] w (ReadOut bs w0) := by
  obtain ⟨wb, hwb⟩ : ∃ wb, wb = (w.alloc (.cells #[.slice none 0 0, .slice none 0 0, .slice none 0 0, .slice none 0 0] 128)).alloc (.cells #[.slice none 0 0, .slice none 0 0, .slice none 0 0, .slice none 0 0] 128) := ⟨_, rfl⟩
  obtain ⟨V, hV⟩ : ∃ V, V = w.heap.size := ⟨_, rfl⟩
  have hmw : Mod [] w wb := by rw [hwb]; exact ((Mod.refl [] w).alloc _).alloc _
  have hres : Has wb V [.slice none 0 0, .slice none 0 0, .slice none 0 0, .slice none 0 0] 128 := by rw [hwb, hV]; exact (Has.new w _ _).alloc _
  have hbox : Has wb (V + 1) [.slice none 0 0, .slice none 0 0, .slice none 0 0, .slice none 0 0] 128 := by
    have := Has.new (w.alloc (.cells #[.slice none 0 0, .slice none 0 0, .slice none 0 0, .slice none 0 0] 128)) [.slice none 0 0, .slice none 0 0, .slice none 0 0, .slice none 0 0] 128
    rw [World.size_alloc] at this
    rw [hwb, hV]; exact this
  have hVr : r < V := by rw [hV]; exact hR.has.lt
  have hVa : ∀ g, (Value.slice a bs.length cc).ownBlock = some g → g < V := fun g hg => by rw [hV]; exact own_lt hR.own hg
  have hmk := Lib.hid (rdMark (w := wb) headS (by decide) (hR.still hmw) hbb)
  have hbb' := Lib.hid hbb
  have hds0 := Lib.hid (fun k st (w1 : World) (hR1 : RAt w1 r a cc bs k st) (m : Mod [r] wb w1) => DS.start (B := V + 1) (V := V) hR1 ((hm.trans hmw (by simp)).trans m (fun b hb hlt => by rw [List.mem_singleton] at hb; omega)) (hbox.keep m (by simp; omega)) (hres.keep m (by simp; omega)) hVr (by omega) hVa hr ha)
  have hwb' := Lib.hid hwb
  have hV' := Lib.hid hV
  clear hR hm hr ha hbb hbox hres hwb hmw hVa hV
  go_enter Try.func156, Try.ntmps156
  go_wp2_with fail
  rw [← hV'.out]
  have e5 : (w.alloc (.cells #[.slice none 0 0, .slice none 0 0, .slice none 0 0, .slice none 0 0] 128)).alloc (.cells #[.slice none 0 0, .slice none 0 0, .slice none 0 0, .slice none 0 0] 128) = wb := hwb'.out.symm
  rw [e5]
  clear e5
  refine hmk.out.mono ?_
  rintro e w1 ⟨rfl, hR1, hm1⟩
  try dsimp only
  rw [headS_bytes] at hR1
  have hnat := Lib.hid (rdNat hR1 hbb'.out)
  have hm1' := Lib.hid hm1
  clear hmk hR1 hm1
  go_wp2_with fail
  refine hnat.out.mono ?_
  rintro e w2 ⟨rfl, hR2, hm2⟩
  try dsimp only
  have hd := Lib.hid (hds0.out _ _ w2 hR2 (trM r _ _ _ hm1'.out hm2))
  have hlt := rNat_lt (bs := bs) (k := (rMark bs 0 false headB).1) (stop := (rMark bs 0 false headB).2) hbb'.out
  clear hds0 hnat hR2 hm2 hm1'
  have hout : Hid (∀ w', decP bs = none → ∀ v, isC v → Mod [] w0 w' → ReadOut bs w0 (.returned (.tuple #[v, .bool false])) w') := fun w' h v hv m => by
    unfold ReadOut; rw [h]; exact ⟨_, hv, rfl, m⟩
  have hdef : Hid (decP bs = if (rNat bs (rMark bs 0 false headB).1 (rMark bs 0 false headB).2).1 ≤ 4096 then (verts bs (rNat bs (rMark bs 0 false headB).1 (rMark bs 0 false headB).2).1 (rNat bs (rMark bs 0 false headB).1 (rMark bs 0 false headB).2).1 (noneC, (rNat bs (rMark bs 0 false headB).1 (rMark bs 0 false headB).2).2)).bind fun y => if rEnd bs y.2.1 y.2.2 = 0 then some y.1 else none else none) := rfl
  rcases hrn : rNat bs (rMark bs 0 false headB).1 (rMark bs 0 false headB).2 with ⟨n, k2, s2⟩
  rw [hrn] at hd hlt hdef
  simp only at hd hlt hdef
  clear hrn
  by_cases hn : 4096 < n
  · have t1 : decide (4096 < (n : Int)) = true := by simp; omega
    have t1' : decide (4096 < n) = true := by simpa using hn
    have hno : decP bs = none := by rw [hdef.out, if_neg (by omega)]
    obtain ⟨vs, rows, h1, h2, h3, h4, h5⟩ := hd.out.ex
    obtain ⟨au, cu, aw, cw, sa, cs, af, cf, e0, e1, e2, e3⟩ := h1.vals h2
    have hb := h1.has
    rw [e0, e1, e2, e3] at hb
    have d0 := hb.cell 0 rfl
    have d1 := hb.cell 1 rfl
    have d2 := hb.cell 2 rfl
    have d3 := hb.cell 3 rfl
    have dl := hb.lt
    obtain ⟨hV0, _, _⟩ := h4 _ (List.mem_singleton.2 rfl)
    have r0 := hV0.cell 0 rfl
    have r1 := hV0.cell 1 rfl
    have r2 := hV0.cell 2 rfl
    have r3 := hV0.cell 3 rfl
    have rf := hV0.free
    have rl := hV0.lt
    simp only at r0 r1 r2 r3 rf rl
    have hVw : w0.heap.size ≤ V := by have := hd.out.low r (by simp [Rs]); omega
    have hf : Hid (∀ u0 u1 u2 u3 v, isC v → ReadOut bs w0 (.returned (.tuple #[v, .bool false])) ((((w2.setCell ⟨V, 0, none⟩ u0).setCell ⟨V, 1, none⟩ u1).setCell ⟨V, 2, none⟩ u2).setCell ⟨V, 3, none⟩ u3)) := fun u0 u1 u2 u3 v hv =>
      hout.out _ hno v hv ((((hd.out.base.setCell _ _ (fun h => by simp only at h; omega)).setCell _ _ (fun h => by simp only at h; omega)).setCell _ _ (fun h => by simp only at h; omega)).setCell _ _ (fun h => by simp only at h; omega))
    clear hno hd h1 h2 h3 h4 h5 e0 e1 e2 e3 hb hV0 hout hdef
    dsimp only
    go_wp2_with fail
    refine bodyPost_ret (v := .tuple #[.agg #[.slice au noneC.up.length cu, .slice aw noneC.ws.length cw, .slice sa noneC.sides.length cs, .slice af noneC.flows.length cf], .bool false]) (by simp [results, Try.results156, go_sem, r0, r1, r2, r3, rl]) rfl (hf.out _ _ _ _ _ ⟨_, _, _, _, _, _, _, _, _, _, _, _, rfl⟩)
  · have t1 : decide (4096 < (n : Int)) = false := by simp; omega
    have t1' : decide (4096 < n) = false := by simpa using hn
    have hn4 : n ≤ 4096 := by omega
    have hdef2 : Hid (∀ y, verts bs n n (noneC, k2, s2) = some y → decP bs = if rEnd bs y.2.1 y.2.2 = 0 then some y.1 else none) := fun y hy => by rw [hdef.out, if_pos hn4, hy]; rfl
    have hdefn : Hid (verts bs n n (noneC, k2, s2) = none → decP bs = none) := fun hy => by rw [hdef.out, if_pos hn4, hy]; rfl
    have hVw : w0.heap.size ≤ V := by have := hd.out.low r (by simp [Rs]); omega
    have hparts := Lib.hid (parts_any w2)
    clear hdef hn
    try dsimp only
    go_wp2_with fail
    refine hparts.out.mono ?_
    rintro e w3 ⟨gp, rfl, hp, hm3, hgp⟩
    try dsimp only
    have hd3 := Lib.hid (hd.out.addX hm3 hp hgp)
    clear hd hparts hp hm3 hgp
    go_wp2_with fail
    go_loopw [18] (fun iv wr => ∃ (i : Nat) (x : RSt), i ≤ n ∧ iv = .int .u64 i ∧ verts bs n i (noneC, k2, s2) = some x ∧ lenOk x.1 i 0 ∧ DS [(gp, partsV, 206), (V, nilsV, 128)] w0 wr (V + 1) r a cc bs x.2.1 x.2.2 x.1) (fun iv _ => n - (intOf iv).toNat)
    case atStart => exact ⟨0, _, Nat.zero_le _, rfl, rfl, by simp [lenOk, noneC], hd3.out⟩
    case round =>
      clear hd3
      obtain ⟨i, x, hi, rfl, hv, hlx, hds⟩ := hrel
      obtain ⟨wo, hwo⟩ : ∃ wo : World, wo = wr := ⟨_, rfl⟩
      clear hwo
      have hv' := Lib.hid hv
      have hlx' := Lib.hid hlx
      have hds' := Lib.hid hds
      clear hv hlx hds
      by_cases hlt : i < n
      · have q1 : decide ((i : Int) < (n : Int)) = true := by simp; omega
        have q1' : decide (i < n) = true := by simpa using hlt
        go_wp2_with fail
        go_loopw [22] (fun jv wr' => ∃ (j : Nat) (y : RSt), j ≤ 4 ∧ jv = .int .i64 j ∧ partRun bs n j x = some y ∧ lenOk y.1 i j ∧ DS [(gp, partsV, 206), (V, nilsV, 128)] w0 wr' (V + 1) r a cc bs y.2.1 y.2.2 y.1) (fun jv _ => 4 - (intOf jv).toNat)
        case atStart => exact ⟨0, x, by omega, rfl, rfl, hlx'.out, hds'.out⟩
        case round =>
          clear hds'
          obtain ⟨j, y, hj, rfl, hy, hly, hdy⟩ := hrel
          obtain ⟨wo, hwo⟩ : ∃ wo : World, wo = wr := ⟨_, rfl⟩
          clear hwo
          have hy' := Lib.hid hy
          have hly' := Lib.hid hly
          have hdy' := Lib.hid hdy
          clear hy hly hdy
          by_cases hj0 : j = 0
          · subst hj0
            obtain ⟨vs, rows, _, _, _, h4, _⟩ := hdy'.out.ex
            have hpr := (h4 (gp, partsV, 206) (by simp)).1
            have p0 := hpr.cell 0 rfl
            have p1 := hpr.cell 1 rfl
            have hjlt := hpr.lt
            simp only at p0 p1 hjlt
            have hcall : Hid (∀ W, Mod [] wr W → Calls Try.prog 176 #[.pointer (some ⟨r, 0, none⟩), .pointer (some ⟨V + 1, 0, none⟩), .int .i64 n] W (DOut [(gp, partsV, 206), (V, nilsV, 128)] w0 (V + 1) r a cc bs (partStep bs n 0 y).1.2 (partStep bs n 0 y).1.1 (partStep bs n 0 y).2)) := fun W m => read1 (hdy'.out.still m) hbb'.out n hn4 (by have := hly'.out; unfold lenOk at this; simp at this; omega)
            have hw1 : IntKind.i64.wrap (n : Int) = (n : Int) := IntWalk.i64_in _ (by omega)
            clear hpr h4
            go_wp2_with fail
            refine (hcall.out _ ((Mod.refl [] wr).alloc _)).mono ?_
            rintro e w5 ⟨rfl, hd5⟩
            try dsimp only
            have hd5' := Lib.hid hd5
            clear hd5 hcall p0 p1
            cases hok : (partStep bs n 0 y).2 with
            | false =>
              have hno : decP bs = none := hdefn.out (verts_no hv'.out (partRun_no hy'.out hok (by omega)) hlt)
              obtain ⟨vs, rows, h1, h2, h3, h4, h5⟩ := hd5'.out.ex
              obtain ⟨au, cu, aw, cw, sa, cs, af, cf, e0, e1, e2, e3⟩ := h1.vals h2
              have hb := h1.has
              rw [e0, e1, e2, e3] at hb
              have d0 := hb.cell 0 rfl
              have d1 := hb.cell 1 rfl
              have d2 := hb.cell 2 rfl
              have d3 := hb.cell 3 rfl
              have dl := hb.lt
              obtain ⟨hV0, _, _⟩ := h4 (V, nilsV, 128) (by simp)
              have r0 := hV0.cell 0 rfl
              have r1 := hV0.cell 1 rfl
              have r2 := hV0.cell 2 rfl
              have r3 := hV0.cell 3 rfl
              have rf := hV0.free
              have rl := hV0.lt
              simp only at r0 r1 r2 r3 rf rl
              have hf : Hid (∀ u0 u1 u2 u3 v, isC v → ReadOut bs w0 (.returned (.tuple #[v, .bool false])) ((((w5.setCell ⟨V, 0, none⟩ u0).setCell ⟨V, 1, none⟩ u1).setCell ⟨V, 2, none⟩ u2).setCell ⟨V, 3, none⟩ u3)) := fun u0 u1 u2 u3 v hv =>
                hout.out _ hno v hv (((((hd5'.out).base.setCell _ _ (fun h => by simp only at h; omega)).setCell _ _ (fun h => by simp only at h; omega)).setCell _ _ (fun h => by simp only at h; omega)).setCell _ _ (fun h => by simp only at h; omega))
              clear hno hok h1 h2 h3 h4 h5 e0 e1 e2 e3 hb hV0
              try dsimp only
              go_wp2_with fail
              refine bodyPost_ret (v := .tuple #[.agg #[.slice au (partStep bs n 0 y).1.1.up.length cu, .slice aw (partStep bs n 0 y).1.1.ws.length cw, .slice sa (partStep bs n 0 y).1.1.sides.length cs, .slice af (partStep bs n 0 y).1.1.flows.length cf], .bool false]) (by simp [results, Try.results156, go_sem, r0, r1, r2, r3, rl]) rfl (hf.out _ _ _ _ _ ⟨_, _, _, _, _, _, _, _, _, _, _, _, rfl⟩)
            | true =>
              have hn1 := Lib.hid (partRun_yes hy'.out hok)
              have hl1 : Hid (lenOk (partStep bs n 0 y).1.1 i (0 + 1)) := by
                have := hly'.out
                unfold lenOk at this
                show lenOk _ _ _
                unfold lenOk
                simp [partStep] at this ⊢
                omega
              clear hok
              generalize (partStep bs n 0 y).1 = z at *
              go_wp2_with fail
              go_roundw
              case rel => exact ⟨0 + 1, z, by omega, by rfl, hn1.out, hl1.out, hd5'.out⟩
              case measure => simp [intOf]
          by_cases hj1 : j = 1
          · subst hj1
            obtain ⟨vs, rows, _, _, _, h4, _⟩ := hdy'.out.ex
            have hpr := (h4 (gp, partsV, 206) (by simp)).1
            have p0 := hpr.cell 2 rfl
            have p1 := hpr.cell 3 rfl
            have hjlt := hpr.lt
            simp only at p0 p1 hjlt
            have hcall : Hid (∀ W, Mod [] wr W → Calls Try.prog 178 #[.pointer (some ⟨r, 0, none⟩), .pointer (some ⟨V + 1, 0, none⟩), .int .i64 n] W (DOut [(gp, partsV, 206), (V, nilsV, 128)] w0 (V + 1) r a cc bs (partStep bs n 1 y).1.2 (partStep bs n 1 y).1.1 (partStep bs n 1 y).2)) := fun W m => read2 (hdy'.out.still m) hbb'.out n (by have := hly'.out; unfold lenOk at this; simp at this; omega)
            have hw1 : IntKind.i64.wrap (n : Int) = (n : Int) := IntWalk.i64_in _ (by omega)
            clear hpr h4
            go_wp2_with fail
            refine (hcall.out _ ((Mod.refl [] wr).alloc _)).mono ?_
            rintro e w5 ⟨rfl, hd5⟩
            try dsimp only
            have hd5' := Lib.hid hd5
            clear hd5 hcall p0 p1
            cases hok : (partStep bs n 1 y).2 with
            | false =>
              have hno : decP bs = none := hdefn.out (verts_no hv'.out (partRun_no hy'.out hok (by omega)) hlt)
              obtain ⟨vs, rows, h1, h2, h3, h4, h5⟩ := hd5'.out.ex
              obtain ⟨au, cu, aw, cw, sa, cs, af, cf, e0, e1, e2, e3⟩ := h1.vals h2
              have hb := h1.has
              rw [e0, e1, e2, e3] at hb
              have d0 := hb.cell 0 rfl
              have d1 := hb.cell 1 rfl
              have d2 := hb.cell 2 rfl
              have d3 := hb.cell 3 rfl
              have dl := hb.lt
              obtain ⟨hV0, _, _⟩ := h4 (V, nilsV, 128) (by simp)
              have r0 := hV0.cell 0 rfl
              have r1 := hV0.cell 1 rfl
              have r2 := hV0.cell 2 rfl
              have r3 := hV0.cell 3 rfl
              have rf := hV0.free
              have rl := hV0.lt
              simp only at r0 r1 r2 r3 rf rl
              have hf : Hid (∀ u0 u1 u2 u3 v, isC v → ReadOut bs w0 (.returned (.tuple #[v, .bool false])) ((((w5.setCell ⟨V, 0, none⟩ u0).setCell ⟨V, 1, none⟩ u1).setCell ⟨V, 2, none⟩ u2).setCell ⟨V, 3, none⟩ u3)) := fun u0 u1 u2 u3 v hv =>
                hout.out _ hno v hv (((((hd5'.out).base.setCell _ _ (fun h => by simp only at h; omega)).setCell _ _ (fun h => by simp only at h; omega)).setCell _ _ (fun h => by simp only at h; omega)).setCell _ _ (fun h => by simp only at h; omega))
              clear hno hok h1 h2 h3 h4 h5 e0 e1 e2 e3 hb hV0
              try dsimp only
              go_wp2_with fail
              refine bodyPost_ret (v := .tuple #[.agg #[.slice au (partStep bs n 1 y).1.1.up.length cu, .slice aw (partStep bs n 1 y).1.1.ws.length cw, .slice sa (partStep bs n 1 y).1.1.sides.length cs, .slice af (partStep bs n 1 y).1.1.flows.length cf], .bool false]) (by simp [results, Try.results156, go_sem, r0, r1, r2, r3, rl]) rfl (hf.out _ _ _ _ _ ⟨_, _, _, _, _, _, _, _, _, _, _, _, rfl⟩)
            | true =>
              have hn1 := Lib.hid (partRun_yes hy'.out hok)
              have hl1 : Hid (lenOk (partStep bs n 1 y).1.1 i (1 + 1)) := by
                have := hly'.out
                unfold lenOk at this
                show lenOk _ _ _
                unfold lenOk
                simp [partStep] at this ⊢
                omega
              clear hok
              generalize (partStep bs n 1 y).1 = z at *
              go_wp2_with fail
              go_roundw
              case rel => exact ⟨1 + 1, z, by omega, by rfl, hn1.out, hl1.out, hd5'.out⟩
              case measure => simp [intOf]
          by_cases hj2 : j = 2
          · subst hj2
            obtain ⟨vs, rows, _, _, _, h4, _⟩ := hdy'.out.ex
            have hpr := (h4 (gp, partsV, 206) (by simp)).1
            have p0 := hpr.cell 4 rfl
            have p1 := hpr.cell 5 rfl
            have hjlt := hpr.lt
            simp only at p0 p1 hjlt
            have hcall : Hid (∀ W, Mod [] wr W → Calls Try.prog 180 #[.pointer (some ⟨r, 0, none⟩), .pointer (some ⟨V + 1, 0, none⟩), .int .i64 n] W (DOut [(gp, partsV, 206), (V, nilsV, 128)] w0 (V + 1) r a cc bs (partStep bs n 2 y).1.2 (partStep bs n 2 y).1.1 (partStep bs n 2 y).2)) := fun W m => read3 (hdy'.out.still m) hbb'.out n (by have := hly'.out; unfold lenOk at this; simp at this; omega)
            have hw1 : IntKind.i64.wrap (n : Int) = (n : Int) := IntWalk.i64_in _ (by omega)
            clear hpr h4
            go_wp2_with fail
            refine (hcall.out _ ((Mod.refl [] wr).alloc _)).mono ?_
            rintro e w5 ⟨rfl, hd5⟩
            try dsimp only
            have hd5' := Lib.hid hd5
            clear hd5 hcall p0 p1
            have hok : (partStep bs n 2 y).2 = true := rfl
            have hn1 := Lib.hid (partRun_yes hy'.out hok)
            have hl1 : Hid (lenOk (partStep bs n 2 y).1.1 i (2 + 1)) := by
              have := hly'.out
              unfold lenOk at this
              show lenOk _ _ _
              unfold lenOk
              simp [partStep] at this ⊢
              omega
            rw [hok]
            clear hok
            generalize (partStep bs n 2 y).1 = z at *
            go_wp2_with fail
            go_roundw
            case rel => exact ⟨2 + 1, z, by omega, by rfl, hn1.out, hl1.out, hd5'.out⟩
            case measure => simp [intOf]
          by_cases hj3 : j = 3
          · subst hj3
            obtain ⟨vs, rows, _, _, _, h4, _⟩ := hdy'.out.ex
            have hpr := (h4 (gp, partsV, 206) (by simp)).1
            have p0 := hpr.cell 6 rfl
            have p1 := hpr.cell 7 rfl
            have hjlt := hpr.lt
            simp only at p0 p1 hjlt
            have hcall : Hid (∀ W, Mod [] wr W → Calls Try.prog 182 #[.pointer (some ⟨r, 0, none⟩), .pointer (some ⟨V + 1, 0, none⟩), .int .i64 n] W (DOut [(gp, partsV, 206), (V, nilsV, 128)] w0 (V + 1) r a cc bs (partStep bs n 3 y).1.2 (partStep bs n 3 y).1.1 (partStep bs n 3 y).2)) := fun W m => read4 (hdy'.out.still m) hbb'.out n (by have := hly'.out; unfold lenOk at this; simp at this; omega)
            have hw1 : IntKind.i64.wrap (n : Int) = (n : Int) := IntWalk.i64_in _ (by omega)
            clear hpr h4
            go_wp2_with fail
            refine (hcall.out _ ((Mod.refl [] wr).alloc _)).mono ?_
            rintro e w5 ⟨rfl, hd5⟩
            try dsimp only
            have hd5' := Lib.hid hd5
            clear hd5 hcall p0 p1
            have hok : (partStep bs n 3 y).2 = true := rfl
            have hn1 := Lib.hid (partRun_yes hy'.out hok)
            have hl1 : Hid (lenOk (partStep bs n 3 y).1.1 i (3 + 1)) := by
              have := hly'.out
              unfold lenOk at this
              show lenOk _ _ _
              unfold lenOk
              simp [partStep] at this ⊢
              omega
            rw [hok]
            clear hok
            generalize (partStep bs n 3 y).1 = z at *
            go_wp2_with fail
            go_roundw
            case rel => exact ⟨3 + 1, z, by omega, by rfl, hn1.out, hl1.out, hd5'.out⟩
            case measure => simp [intOf]
          have hj4 : j = 4 := by omega
          subst hj4
          have hl1 : Hid (lenOk y.1 (i + 1) 0) := by
            have := hly'.out
            unfold lenOk at this
            show lenOk _ _ _
            unfold lenOk
            simp at this ⊢
            exact this
          have hn1 := Lib.hid (verts_yes hv'.out hy'.out)
          go_wp2_with fail
          go_roundw
          case rel => exact ⟨i + 1, y, by omega, by go_num, hn1.out, hl1.out, hdy'.out⟩
          case measure => simp [intOf]; omega
      · have hin : n = i := by omega
        subst hin
        have q1 : decide ((n : Int) < (n : Int)) = false := by simp
        have q1' : decide (n < n) = false := by simp
        have hfe := hdef2.out x hv'.out
        have hfe' := Lib.hid hfe
        clear hfe hlt
        obtain ⟨vs, rows, h1, h2, h3, h4, h5⟩ := hds'.out.ex
        obtain ⟨au, cu, aw, cw, sa, cs, af, cf, e0, e1, e2, e3⟩ := h1.vals h2
        have hb := h1.has
        rw [e0, e1, e2, e3] at hb
        have d0 := hb.cell 0 rfl
        have d1 := hb.cell 1 rfl
        have d2 := hb.cell 2 rfl
        have d3 := hb.cell 3 rfl
        have dl := hb.lt
        obtain ⟨hV0, _, _⟩ := h4 (V, nilsV, 128) (by simp)
        have r0 := hV0.cell 0 rfl
        have r1 := hV0.cell 1 rfl
        have r2 := hV0.cell 2 rfl
        have r3 := hV0.cell 3 rfl
        have rf := hV0.free
        have rl := hV0.lt
        simp only at r0 r1 r2 r3 rf rl
        have hkV := Lib.hid (fun W F (m : Mod (V :: F) wr W) (hF : ∀ b ∈ F, b < w0.heap.size) => BxT.repF h1 h2 (fun i g hi hg hm => by
          rcases List.mem_cons.1 hm with e | hm
          · exact h1.res i g hi hg (by rw [e]; simp [RsX])
          · have := h3 i g hi hg; have := hF g hm; omega) (fun i x g hi hx hg hm => by
          rcases List.mem_cons.1 hm with e | hm
          · exact (h1.el i x hi hx g hg).2.1 (by rw [e]; simp [RsX])
          · have := h5 i x g hi hx hg; have := hF g hm; omega) m)
        rw [e0, e1, e2, e3] at hkV
        have hVB : V ≠ V + 1 := by omega
        have hmr : Hid (∀ W, Mod [V] wr.drew W → Mod [] w0 W) := fun W m => (hds'.out.base.trans (Mod.refl [] wr).drew (by simp)).trans m (fun b hb hlt => by rw [List.mem_singleton] at hb; omega)
        have f0 : ∀ m : Fut (Mod [V]) wr.drew, m.v.cell? ⟨V + 1, 0, none⟩ = some (.slice au x.1.up.length cu) := fun m => (hb.keep ((Mod.refl [] wr).drew.of0.trans m.of (fun b hb _ => hb)) (by simp)).cell 0 rfl
        have f1 : ∀ m : Fut (Mod [V]) wr.drew, m.v.cell? ⟨V + 1, 1, none⟩ = some (.slice aw x.1.ws.length cw) := fun m => (hb.keep ((Mod.refl [] wr).drew.of0.trans m.of (fun b hb _ => hb)) (by simp)).cell 1 rfl
        have f2 : ∀ m : Fut (Mod [V]) wr.drew, m.v.cell? ⟨V + 1, 2, none⟩ = some (.slice sa x.1.sides.length cs) := fun m => (hb.keep ((Mod.refl [] wr).drew.of0.trans m.of (fun b hb _ => hb)) (by simp)).cell 2 rfl
        have f3 : ∀ m : Fut (Mod [V]) wr.drew, m.v.cell? ⟨V + 1, 3, none⟩ = some (.slice af x.1.flows.length cf) := fun m => (hb.keep ((Mod.refl [] wr).drew.of0.trans m.of (fun b hb _ => hb)) (by simp)).cell 3 rfl
        have hV0' := Lib.hid hV0
        clear h1 h2 h3 h4 h5 e0 e1 e2 e3 hb hV0 d0 d1 d2 d3 dl r0 r1 r2 r3 rf rl
        go_wp2_with fail
        refine region_sched (G := Mod [V]) [([0,1],2), ([3],4)] [5] (by kernel_rfl) (by kernel_rfl) (by kernel_rfl) rfl (Mod.refl [V]) (trM V) ?_
        simp only [stages, pickO, nthO, headO, List.cons_append, List.nil_append]
        refine sched_step ?_
        repeat (go_big_quiet_step (fail))
        refine wpQuiet_nil ?_
        intro K' hK
        rw [if_pos (by rfl)]
        go_simp
        refine (rdEnd (hds'.out.rt.still (Mod.refl [] wr).drew)).mono ?_
        rintro e w6 ⟨rfl, hm6⟩
        try dsimp only
        refine hK.out _ _ hm6.of0 ?_
        clear hK K'
        have hV6 := hV0'.out.keep ((Mod.refl [] wr).drew.trans hm6 (by simp)) (by simp)
        have r0 := hV6.cell 0 rfl
        have r1 := hV6.cell 1 rfl
        have r2 := hV6.cell 2 rfl
        have r3 := hV6.cell 3 rfl
        have rf := hV6.free
        have rl := hV6.lt
        have hd6 : Hid (Mod [V] wr w6) := ((Mod.refl [V] wr).drew.trans hm6.of0 (fun b hb _ => hb))
        have hm6' := Lib.hid hm6
        have hm60 := Lib.hid (hmr.out w6 hm6.of0)
        clear hm6 f0 f1 f2 f3 hV6
        generalize hz : rEnd bs x.2.1 x.2.2 = z at *
        have hfin : Hid (∀ u0 u1 u2 u3, ReadOut bs w0 (.returned (.tuple #[.agg #[.slice au x.1.up.length cu, .slice aw x.1.ws.length cw, .slice sa x.1.sides.length cs, .slice af x.1.flows.length cf], .bool (z == 0)])) ((((w6.setCell ⟨V, 0, none⟩ u0).setCell ⟨V, 1, none⟩ u1).setCell ⟨V, 2, none⟩ u2).setCell ⟨V, 3, none⟩ u3)) := fun u0 u1 u2 u3 => by
          have mm : Mod [] w0 ((((w6.setCell ⟨V, 0, none⟩ u0).setCell ⟨V, 1, none⟩ u1).setCell ⟨V, 2, none⟩ u2).setCell ⟨V, 3, none⟩ u3) := (((hm60.out.setCell _ _ (fun h => by simp only at h; omega)).setCell _ _ (fun h => by simp only at h; omega)).setCell _ _ (fun h => by simp only at h; omega)).setCell _ _ (fun h => by simp only at h; omega)
          by_cases hz0 : z = 0
          · have e : decP bs = some x.1 := by rw [hfe'.out, if_pos hz0]
            unfold ReadOut
            rw [e]
            have ez : (z == 0) = true := by simp [hz0]
            rw [ez]
            exact ⟨_, _, _, _, rfl, fun W F m hF => hkV.out W F ((((((hd6.out.setCell _ _ (by simp)).setCell _ _ (by simp)).setCell _ _ (by simp)).setCell _ _ (by simp)).mono (by simp)).trans (m.mono (fun b hb => List.mem_cons_of_mem _ hb)) (fun b hb _ => hb)) hF, mm⟩
          · have e : decP bs = none := by rw [hfe'.out, if_neg hz0]
            have ez : (z == 0) = false := by simpa using hz0
            rw [ez]
            exact hout.out _ e _ ⟨_, _, _, _, _, _, _, _, _, _, _, _, rfl⟩ mm
        clear hz
        refine sched_step ?_
        repeat (go_big_quiet_step (fail))
        refine wpQuiet_nil ?_
        intro K' hK
        rw [if_pos (by rfl)]
        go_simp
        refine hK.out _ _ (((((Mod.refl [V] w6).setCell _ _ (by simp)).setCell _ _ (by simp)).setCell _ _ (by simp)).setCell _ _ (by simp)) ?_
        clear hK K'
        refine sched_last ?_
        repeat (go_big_quiet_step (fail))
        refine wpQuiet_nil ?_
        go_wp2_with fail
        refine bodyPost_ret (v := .tuple #[.agg #[.slice au x.1.up.length cu, .slice aw x.1.ws.length cw, .slice sa x.1.sides.length cs, .slice af x.1.flows.length cf], .bool (z == 0)]) (by simp [results, Try.results156, go_sem, r0, r1, r2, r3, rl]) rfl (hfin.out _ _ _ _)
end Code.Cert
end Go.Proofs.Ytmkbinbggiocaaa

set_option linter.unusedVariables false
set_option linter.unusedSimpArgs false
namespace Go.Proofs.Ytmkbinbggiocaaa
open Go.RowKit
namespace Code.Cert
def nilA : Value := .agg #[.slice none 0 0, .slice none 0 0, .slice none 0 0, .slice none 0 0]
def DecOut (bs : List Int) (w : World) (e : Ending) (w' : World) : Prop :=
  match decP bs with
  | some c => ∃ vu vw vs vf, e = .returned (.tuple #[.agg #[vu, vw, vs, vf], .int .i64 0]) ∧ CRep w' vu vw vs vf c ∧ Mod [] w w'
  | none => e = .returned (.tuple #[nilA, .int .i64 17]) ∧ Mod [] w w'
set_option maxRecDepth 100000 in
set_option maxHeartbeats 8000000 in
theorem decode_any {w : World} {vb : Value} {bs : List Int} (hb : Rd w 1 vb bs.length (u8s bs)) (hbb : ∀ x ∈ bs, 0 ≤ x ∧ x < 256) (hlen : bs.length ≤ 1000000) :
    Calls Try.prog 93 #[vb] w (DecOut bs w) := by
  obtain ⟨wb, hwb⟩ : ∃ wb, wb = w.alloc (.cells #[.slice none 0 0, .slice none 0 0, .slice none 0 0, .slice none 0 0] 128) := ⟨_, rfl⟩
  obtain ⟨V, hV⟩ : ∃ V, V = w.heap.size := ⟨_, rfl⟩
  have hmw : Mod [] w wb := by rw [hwb]; exact (Mod.refl [] w).alloc _
  have hres : Has wb V nilsV 128 := by rw [hwb, hV]; exact Has.new w _ _
  have hnew := Lib.hid (new_any (hb.still hmw) hlen)
  have hmw' := Lib.hid hmw
  have hres' := Lib.hid hres
  have hwb' := Lib.hid hwb
  have hV' := Lib.hid hV
  have hbb' := Lib.hid hbb
  clear hb hbb hmw hres hwb hV
  go_enter Try.func93, Try.ntmps93
  go_wp2_with fail
  rw [← hV'.out, ← hwb'.out]
  refine hnew.out.mono ?_
  rintro e w1 ⟨r, a, cc, rfl, hR, hm, hr, ha⟩
  try dsimp only
  have hread := Lib.hid (read_any (w0 := wb) hR hm hr ha hbb'.out)
  clear hR hm hr ha hnew
  go_wp2_with fail
  refine hread.out.mono ?_
  intro e w2 he
  unfold ReadOut at he
  cases hdp : decP bs with
  | none =>
    rw [hdp] at he
    obtain ⟨v, ⟨a1, n1, c1, a2, n2, c2, a3, n3, c3, a4, n4, c4, rfl⟩, rfl, hm2⟩ := he
    have mm := hmw'.out.trans hm2 (by simp)
    have hV2 := hres'.out.keep hm2 (by simp)
    have r0 := hV2.cell 0 rfl
    have r1 := hV2.cell 1 rfl
    have r2 := hV2.cell 2 rfl
    have r3 := hV2.cell 3 rfl
    have rf := hV2.free
    have rl := hV2.lt
    have hf : Hid (∀ o u0 u1 u2 u3, DecOut bs w (.returned (.tuple #[nilA, .int .i64 17])) (((((w2.setCell ⟨V, 0, none⟩ u0).setCell ⟨V, 1, none⟩ u1).setCell ⟨V, 2, none⟩ u2).setCell ⟨V, 3, none⟩ u3).alloc o)) := fun o u0 u1 u2 u3 => by
      have hv := hV'.out
      unfold DecOut
      rw [hdp]
      exact ⟨rfl, ((((mm.setCell _ _ (fun h => by simp only at h; omega)).setCell _ _ (fun h => by simp only at h; omega)).setCell _ _ (fun h => by simp only at h; omega)).setCell _ _ (fun h => by simp only at h; omega)).alloc o⟩
    clear hdp hm2 mm hV2 hread
    try dsimp only
    go_wp2_with fail
    exact bodyPost_ret (v := .tuple #[nilA, .int .i64 17]) (by simp [results, Try.results93, go_sem, r0, r1, r2, r3, rl, nilA]) rfl (hf.out _ _ _ _ _)
  | some c =>
    rw [hdp] at he
    obtain ⟨vu, vw, vs, vf, rfl, hrep, hm2⟩ := he
    have hr0 := hrep w2 [] (Mod.refl _ _) (by simp)
    obtain ⟨au, cu, aw, cw, sa, cs, af, cf, rfl, rfl, rfl, rfl⟩ := hr0.vals
    have mm := hmw'.out.trans hm2 (by simp)
    have hV2 := hres'.out.keep hm2 (by simp)
    have r0 := hV2.cell 0 rfl
    have r1 := hV2.cell 1 rfl
    have r2 := hV2.cell 2 rfl
    have r3 := hV2.cell 3 rfl
    have rf := hV2.free
    have rl := hV2.lt
    have hf : Hid (∀ o u0 u1 u2 u3, DecOut bs w (.returned (.tuple #[.agg #[.slice au c.up.length cu, .slice aw c.ws.length cw, .slice sa c.sides.length cs, .slice af c.flows.length cf], .int .i64 0])) (((((w2.setCell ⟨V, 0, none⟩ u0).setCell ⟨V, 1, none⟩ u1).setCell ⟨V, 2, none⟩ u2).setCell ⟨V, 3, none⟩ u3).alloc o)) := fun o u0 u1 u2 u3 => by
      have hv := hV'.out
      unfold DecOut
      rw [hdp]
      have mV : Mod [V] w2 (((((w2.setCell ⟨V, 0, none⟩ u0).setCell ⟨V, 1, none⟩ u1).setCell ⟨V, 2, none⟩ u2).setCell ⟨V, 3, none⟩ u3).alloc o) := (((((Mod.refl [V] w2).setCell _ _ (by simp)).setCell _ _ (by simp)).setCell _ _ (by simp)).setCell _ _ (by simp)).alloc o
      exact ⟨_, _, _, _, rfl, hrep _ [V] mV (fun b hb => by rw [List.mem_singleton] at hb; subst hb; exact hres'.out.lt), ((((mm.setCell _ _ (fun h => by simp only at h; omega)).setCell _ _ (fun h => by simp only at h; omega)).setCell _ _ (fun h => by simp only at h; omega)).setCell _ _ (fun h => by simp only at h; omega)).alloc o⟩
    clear hdp hm2 mm hV2 hread hrep hr0
    try dsimp only
    go_wp2_with fail
    exact bodyPost_ret (v := .tuple #[.agg #[.slice au c.up.length cu, .slice aw c.ws.length cw, .slice sa c.sides.length cs, .slice af c.flows.length cf], .int .i64 0]) (by simp [results, Try.results93, go_sem, r0, r1, r2, r3, rl]) rfl (hf.out _ _ _ _ _)
end Code.Cert
end Go.Proofs.Ytmkbinbggiocaaa

set_option linter.unusedVariables false
set_option linter.unusedSimpArgs false
namespace Go.Proofs.Ytmkbinbggiocaaa
open Go.RowKit
namespace Code.Cert
theorem none_right : rightB noneC = true := by decide
theorem none_enc : encB noneC = [71, 72, 67, 49, 0] := by
  simp [encB, encTo, noneC, headB, natB_small]
theorem head_dec : decP headB = none := by decide
theorem none_rep (w : World) : CRep w (.slice none 0 0) (.slice none 0 0) (.slice none 0 0) (.slice none 0 0) noneC := ⟨Rd.nil w 1, Rd.nil w 1, RdR.nil w, RdR.nil w⟩
theorem none_fits : Fits noneC := ⟨by simp [noneC], by simp [noneC]⟩
set_option maxRecDepth 100000 in
set_option maxHeartbeats 4000000 in
theorem awake_cert (w : World) : Calls Try.prog 86 #[] w (BoolM true w) := by
  have h1 := (encode_any noneC (none_rep w) none_fits).mono fun e w' h => show ∃ a cp, e = .returned (.tuple #[.slice a 5 cp, .int .i64 0]) ∧ Made w w' 5 1 a 5 cp (u8s [71, 72, 67, 49, 0]) by
    unfold EncOut at h
    rw [none_right, none_enc] at h
    simpa using h
  have h1' := Lib.hid h1
  clear h1
  have kc := fun (w : World) (C : Array Value) (n c : Nat) => Lib.run_convert_bytes_const (P := Try.prog) w 45 5 C n c Try.underlying45 Try.underlying5
  go_enter Try.func86, Try.ntmps86
  go_wp2_with fail
  refine h1'.out.mono ?_
  rintro e w1 ⟨a1, c1, rfl, hm1⟩
  try dsimp only
  have hm1' := Lib.hid hm1
  clear hm1 h1'
  go_wp2_with fail
  have hrc := rd_const w1 headB (4, 5) (by decide)
  have hdec := (decode_any (bs := headB) hrc (by decide) (by decide)).mono fun e w' h => show e = .returned (.tuple #[nilA, .int .i64 17]) ∧ Mod [] (w1.alloc (.cells (u8s headB).toArray 5 (4, 5))) w' by
    unfold DecOut at h
    rw [head_dec] at h
    exact h
  refine hdec.mono ?_
  rintro e w2 ⟨rfl, hm2⟩
  try dsimp only
  have hm2' := Lib.hid (((Mod.refl [] w1).alloc (.cells (u8s headB).toArray 5 (4, 5))).trans hm2 (by simp))
  clear hm2 hdec hrc kc
  have hcv : ∀ m : World, Mod [] w2 m → (convert 45 9 (.slice a1 5 c1)).run Try.prog m = .ok (.string (strOfNums [71, 72, 67, 49, 0])) m := fun m hm => conv_rd (bs := [71, 72, 67, 49, 0]) ((Rd.own hm1'.out.own).still (hm2'.out.trans hm (by simp)))
  have hcv' := Lib.hid hcv
  clear hcv
  have hstr : strOfNums [71, 72, 67, 49, 0] = ⟨#[71, 72, 67, 49, 0]⟩ := by decide
  rw [hstr] at hcv'
  clear hstr
  unfold nilA
  have hc2 := fun o => hcv'.out (w2.alloc o) ((Mod.refl [] w2).alloc o)
  go_wp2_with fail
  have hr := (right_prog noneC (none_rep (w2.alloc (.cells #[.slice none 0 0, .slice none 0 0, .slice none 0 0, .slice none 0 0] 128)))).mono fun e w' h => show e = .returned (.bool true) ∧ Mod [] (w2.alloc (.cells #[.slice none 0 0, .slice none 0 0, .slice none 0 0, .slice none 0 0] 128)) w' by rw [none_right] at h; exact h
  refine hr.mono ?_
  rintro e w3 ⟨rfl, hm3⟩
  try dsimp only
  have hf := Lib.hid ((hm1'.out.mod.trans hm2'.out (by simp)).trans (((Mod.refl [] w2).alloc (.cells #[.slice none 0 0, .slice none 0 0, .slice none 0 0, .slice none 0 0] 128)).trans hm3 (by simp)) (by simp))
  clear hc2 hm3 hr
  go_wp2_with fail
  go_ret
  exact ⟨rfl, hf.out⟩
/-- What Encode answers, in one form. -/
def encE (c : CertV) : List Int := if rightB c then encB c else []
def encC (c : CertV) : Int := if rightB c then 0 else 1
theorem encode_one {w : World} {vu vw vs vf : Value} (c : CertV) (h : CRep w vu vw vs vf c) (hf : Fits c) :
    Calls Try.prog 87 #[.agg #[vu, vw, vs, vf]] w fun e w' => ∃ a cp, e = .returned (.tuple #[.slice a (encE c).length cp, .int .i64 (encC c)]) ∧ Mod [] w w' ∧ Rd w' 1 (.slice a (encE c).length cp) (encE c).length (u8s (encE c)) := by
  refine (encode_any c h hf).mono fun e w' he => ?_
  unfold EncOut at he
  unfold encE encC
  cases hr : rightB c with
  | true =>
    rw [hr] at he
    obtain ⟨a, cp, he, hm⟩ := he
    exact ⟨a, cp, he, hm.mod, Rd.own hm.own⟩
  | false =>
    rw [hr] at he
    obtain ⟨he, hm⟩ := he
    exact ⟨none, 0, he, hm, Rd.nil _ _⟩
theorem rencode_one {w : World} {vu vw vs vf : Value} (c : CertV) (h : CRep w vu vw vs vf c) (hf : Fits c) :
    Calls Try.prog 88 #[.agg #[vu, vw, vs, vf]] w fun e w' => ∃ a cp, e = .returned (.agg #[.slice a (encE c).length cp, .int .i64 (encC c)]) ∧ Mod [] w w' ∧ Rd w' 1 (.slice a (encE c).length cp) (encE c).length (u8s (encE c)) := by
  refine (rencode_any c h hf).mono fun e w' he => ?_
  unfold REncOut at he
  unfold encE encC
  cases hr : rightB c with
  | true =>
    rw [hr] at he
    obtain ⟨a, cp, he, hm⟩ := he
    exact ⟨a, cp, he, hm.mod, Rd.own hm.own⟩
  | false =>
    rw [hr] at he
    obtain ⟨he, hm⟩ := he
    exact ⟨none, 0, he, hm, Rd.nil _ _⟩
/-- All numbers go into 64 bits. -/
structure Bnd (c : CertV) : Prop where
  fl : ∀ l ∈ c.flows, ∀ x ∈ l, -9223372036854775808 ≤ x ∧ x ≤ 9223372036854775807
  ws : ∀ x ∈ c.ws, -9223372036854775808 ≤ x ∧ x ≤ 9223372036854775807
theorem Bnd.fits {c : CertV} (h : Bnd c) (hw : wideB c = false) : Fits c :=
  ⟨fun l hl => ⟨by have := (wide_no hw).2.2.2.2.2 l hl; omega, h.fl l hl⟩, h.ws⟩
theorem same_refl (c : CertV) : sameC c c = true := by simp [sameC, eqI, eqR]
end Code.Cert
end Go.Proofs.Ytmkbinbggiocaaa

set_option linter.unusedVariables false
set_option linter.unusedSimpArgs false
namespace Go.Proofs.Ytmkbinbggiocaaa
open Go.ChangeShapes Go.WideShapes Go.ChangeAt Go.RowKit Go.Deep
section
variable {H : Type} {enc : TypeId × Value → H} {w : World} {spare : Nat → Bool} {held : Bool}
theorem slice_form {t e : Nat} (ht : Try.prog.underlying t = some (.slice e)) {fuel : Nat} {cs : List Value} {x : DataW H × List MemPlace} (h : DataW.trod enc Try.prog w 0 spare held fuel t cs = some x) : ∃ a n c, cs = [.slice a n c] := by
  rcases DataW.trod_slice ht h with ⟨h0, _⟩ | ⟨a, len, cap, _, _, _, _, hcs, _⟩
  · exact ⟨none, 0, 0, h0⟩
  · exact ⟨some a, len, cap, hcs⟩
theorem elem_nums {t e : Nat} (ht : Try.prog.underlying t = some (.slice e)) (he : Try.prog.underlying e = some (.int .i64)) (hC : Try.prog.cellsOf e = 1) :
    ∀ n cs (d : DataW H) p, DataW.trod enc Try.prog w 0 spare held n t cs = some (d, p) → ∃ x : Value × List Int, cs = [x.1] ∧ (Rd w 1 x.1 x.2.length (x.2.map fun y => .int .i64 y) ∧ ∀ y ∈ x.2, (Lit.int .i64 y).wf = true) := by
  intro n cs d p h
  obtain ⟨a, m, c, rfl⟩ := slice_form ht h
  obtain ⟨l, h1, h2⟩ := open_nums ht he hC h
  exact ⟨(_, l), rfl, h1, h2⟩
theorem flat_fst (l : List (Value × List Int)) : flat (fun x : Value × List Int => [x.1]) l = l.map (·.1) := by
  induction l with
  | nil => rfl
  | cons y l ih => simp only [flat, List.flatMap_cons, List.map_cons] at ih ⊢; rw [ih]; rfl
theorem open_rows {tt t e : Nat} (htt : Try.prog.underlying tt = some (.slice t)) (ht : Try.prog.underlying t = some (.slice e)) (he : Try.prog.underlying e = some (.int .i64)) (hC : Try.prog.cellsOf e = 1) (hCt : Try.prog.cellsOf t = 1) {fuel : Nat} {v : Value} {x : DataW H × List MemPlace}
    (h : DataW.trod enc Try.prog w 0 spare held fuel tt [v] = some x) : ∃ ls : List (List Int), Code.Cert.RdR w v ls ∧ ∀ l ∈ ls, ∀ y ∈ l, (Lit.int .i64 y).wf = true := by
  obtain ⟨a, n, c, hv⟩ := slice_form htt h
  simp only [List.cons.injEq, and_true] at hv
  subst hv
  obtain ⟨l, hl, hr, hp⟩ := open_rd (α := Value × List Int) (encE := fun x => [x.1]) (size := 1) (fun _ => rfl) (by omega) htt hCt (elem_nums ht he hC) h
  rw [flat_fst] at hr
  refine ⟨l.map (·.2), ⟨l.map (·.1), by simp, ?_, fun i x m hx hm => ?_⟩, fun m hm y hy => ?_⟩
  · rw [List.length_map, hl]; exact hr
  · rw [List.getElem?_map] at hx hm
    cases hi : l[i]? with
    | none => rw [hi] at hx; simp at hx
    | some q =>
      rw [hi] at hx hm
      simp only [Option.map_some, Option.some.injEq] at hx hm
      subst hx hm
      exact (hp q (List.mem_of_getElem? hi)).1
  · rw [List.mem_map] at hm
    obtain ⟨q, hq, rfl⟩ := hm
    exact (hp q hq).2 y hy
theorem list4 {l : List Value} (h : l.length = 4) : ∃ a b c d, l = [a, b, c, d] := by
  match l, h with
  | [a, b, c, d], _ => exact ⟨a, b, c, d, rfl⟩
theorem open_cert {v : Value} (hval : ∃ cs, v = .agg cs) {d : DataW H} {p : List MemPlace} (h : DataW.Trod enc Try.prog w 0 spare held 128 v d p) :
    ∃ (vu vw vs vf : Value) (c : Code.Cert.CertV), v = .agg #[vu, vw, vs, vf] ∧ Code.Cert.CRep w vu vw vs vf c ∧ Code.Cert.Bnd c := by
  obtain ⟨cs, rfl, fuel, hf⟩ := open_agg Try.underlying128 hval h
  have e4 : Try.prog.cellsOf 128 = 4 := by kernel_rfl
  have e2 : Try.prog.cellsOf 124 = 2 := by kernel_rfl
  have e1 : Try.prog.cellsOf 125 = 1 := by kernel_rfl
  have e1' : Try.prog.cellsOf 126 = 1 := by kernel_rfl
  obtain ⟨xs, n, _, _, hlen, hxl, hfs⟩ := DataW.trod_struct Try.underlying128 hf
  rw [e4] at hlen
  obtain ⟨vu, vw, vs, vf, rfl⟩ := list4 hlen
  have f0 := hfs 0 _ rfl
  have f1 := hfs 1 _ rfl
  have f2 := hfs 2 _ rfl
  change DataW.trod enc Try.prog w 0 spare held n 124 (([vu, vw, vs, vf].drop 0).take (Try.prog.cellsOf 124)) = _ at f0
  change DataW.trod enc Try.prog w 0 spare held n 125 (([vu, vw, vs, vf].drop 2).take (Try.prog.cellsOf 125)) = _ at f1
  change DataW.trod enc Try.prog w 0 spare held n 126 (([vu, vw, vs, vf].drop 3).take (Try.prog.cellsOf 126)) = _ at f2
  rw [e2] at f0
  rw [e1] at f1
  rw [e1'] at f2
  simp only [List.drop_zero, List.take_succ_cons, List.take_zero, List.drop_succ_cons] at f0 f1 f2
  have g0 : ∃ y, xs[0]? = some y := ⟨_, List.getElem?_eq_getElem (by rw [hxl]; decide)⟩
  have g1 : ∃ y, xs[1]? = some y := ⟨_, List.getElem?_eq_getElem (by rw [hxl]; decide)⟩
  have g2 : ∃ y, xs[2]? = some y := ⟨_, List.getElem?_eq_getElem (by rw [hxl]; decide)⟩
  obtain ⟨y0, g0⟩ := g0
  obtain ⟨y1, g1⟩ := g1
  obtain ⟨y2, g2⟩ := g2
  rw [g0] at f0
  rw [g1] at f1
  rw [g2] at f2
  obtain ⟨_, ft⟩ := fields_of Try.underlying124 (by kernel_rfl) (by kernel_rfl) f0
  obtain ⟨t0, z0, m0, q0, p0⟩ := ft 0 _ rfl
  obtain ⟨t1, z1, m1, q1, p1⟩ := ft 1 _ rfl
  simp only [List.getElem?_cons_zero, List.getElem?_cons_succ, Option.some.injEq] at q0 q1
  subst q0 q1
  obtain ⟨up, u1, u2⟩ := open_nums Try.underlying36 Try.underlying3 (by kernel_rfl) p0
  obtain ⟨ws, w1, w2⟩ := open_nums Try.underlying46 Try.underlying2 (by kernel_rfl) p1
  obtain ⟨sides, s1, s2⟩ := open_rows Try.underlying125 Try.underlying36 Try.underlying3 (by kernel_rfl) (by kernel_rfl) f1
  obtain ⟨flows, l1, l2⟩ := open_rows Try.underlying126 Try.underlying46 Try.underlying2 (by kernel_rfl) (by kernel_rfl) f2
  exact ⟨vu, vw, vs, vf, ⟨up, ws, sides, flows⟩, rfl, ⟨u1, w1, s1, l1⟩, ⟨fun l hl x hx => wf64 (l2 l hl x hx), fun x hx => wf64 (w2 x hx)⟩⟩
end
end Go.Proofs.Ytmkbinbggiocaaa

set_option linter.unusedVariables false
set_option linter.unusedSimpArgs false
namespace Go.Proofs.Ytmkbinbggiocaaa
open Go.RowKit
namespace Code.Cert
/-- Two blocks that are laid one behind the other. -/
theorem two_new (w : World) (x y : List Value) (t : TypeId) : Has ((w.alloc (.cells x.toArray t)).alloc (.cells y.toArray t)).drew w.heap.size x t ∧ Has ((w.alloc (.cells x.toArray t)).alloc (.cells y.toArray t)).drew (w.heap.size + 1) y t ∧ Mod [] w ((w.alloc (.cells x.toArray t)).alloc (.cells y.toArray t)).drew := by
  have h2 := Has.new (w.alloc (.cells x.toArray t)) y t
  rw [World.size_alloc] at h2
  exact ⟨((Has.new w x t).alloc _).drew, h2.drew, (((Mod.refl [] w).alloc _).alloc _).drew⟩
set_option maxRecDepth 100000 in
set_option maxHeartbeats 8000000 in
theorem cputs_any {w : World} {vu vw vs vf xu xw xs xf : Value} (c d : CertV) (h : CRep w vu vw vs vf c) (k : CRep w xu xw xs xf d) (hbn : Bnd c) :
    Calls Try.prog 13 #[.agg #[vu, vw, vs, vf], .agg #[xu, xw, xs, xf]] w (BoolM true w) := by
  obtain ⟨wb, hwb⟩ : ∃ wb, wb = (w.alloc (.cells #[vu, vw, vs, vf] 128)).alloc (.cells #[xu, xw, xs, xf] 128) := ⟨_, rfl⟩
  obtain ⟨B, hB⟩ : ∃ B, B = w.heap.size := ⟨_, rfl⟩
  have hm0 : Mod [] w wb := by rw [hwb]; exact ((Mod.refl [] w).alloc _).alloc _
  have h1 : Has wb B [vu, vw, vs, vf] 128 := by rw [hwb, hB]; exact (Has.new w _ _).alloc _
  have h2 : Has wb (B + 1) [xu, xw, xs, xf] 128 := by
    have := Has.new (w.alloc (.cells #[vu, vw, vs, vf] 128)) [xu, xw, xs, xf] 128
    rw [World.size_alloc] at this
    rw [hwb, hB]; exact this
  obtain ⟨au, cu, aw, cw, sa, cs, af, cf, rfl, rfl, rfl, rfl⟩ := h.vals
  obtain ⟨bu, du, bw, dw, sb, ds, bf, df, rfl, rfl, rfl, rfl⟩ := k.vals
  have hc := Lib.hid (h.still hm0)
  have hk := Lib.hid (k.still hm0)
  have h1' := Lib.hid h1
  have h2' := Lib.hid h2
  have hm0' := Lib.hid hm0
  have hwb' := Lib.hid hwb
  have hB' := Lib.hid hB
  have hbn' := Lib.hid hbn
  have haw := Lib.hid awake_cert
  clear h k h1 h2 hm0 hwb hB hbn
  have hwc := Lib.hid (wide_any c hc.out)
  go_enter Try.func13, Try.ntmps13
  go_wp2_with fail
  rw [← hB'.out, ← hwb'.out]
  refine hwc.out.mono ?_
  rintro e w1 ⟨rfl, hm1⟩
  try dsimp only
  have hm1' := Lib.hid hm1
  have hd1 := (h2'.out.keep hm1 (by simp))
  have d0 := hd1.cell 0 rfl
  have d1 := hd1.cell 1 rfl
  have d2 := hd1.cell 2 rfl
  have d3 := hd1.cell 3 rfl
  have dl := hd1.lt
  clear hm1 hd1 hwc
  cases hwcb : wideB c with
  | true =>
    clear hwcb
    go_wp2_with fail
    refine (haw.out _).mono ?_
    rintro e w2 ⟨rfl, hm2⟩
    try dsimp only
    have hf := Lib.hid ((hm0'.out.trans hm1'.out (by simp)).trans hm2 (by simp))
    clear hm2
    go_wp2_with fail
    go_ret
    exact ⟨rfl, hf.out⟩
  | false =>
    have hf' := Lib.hid (hbn'.out.fits hwcb)
    clear hwcb
    go_wp2_with fail
    refine (wide_any d (hk.out.still hm1'.out)).mono ?_
    rintro e w2 ⟨rfl, hm2⟩
    try dsimp only
    have hm2' := Lib.hid (hm1'.out.trans hm2 (by simp))
    clear hm2 d0 d1 d2 d3 dl
    cases wideB d with
    | true =>
      go_wp2_with fail
      refine (haw.out _).mono ?_
      rintro e w3 ⟨rfl, hm3⟩
      try dsimp only
      have hf := Lib.hid ((hm0'.out.trans hm2'.out (by simp)).trans hm3 (by simp))
      clear hm3
      go_wp2_with fail
      go_ret
      exact ⟨rfl, hf.out⟩
    | false =>
      have hx := h1'.out.keep hm2'.out (by simp)
      have hy := h2'.out.keep hm2'.out (by simp)
      have d0 := hx.cell 0 rfl
      have d1 := hx.cell 1 rfl
      have d2 := hx.cell 2 rfl
      have d3 := hx.cell 3 rfl
      have dl := hx.lt
      have g0 := hy.cell 0 rfl
      have g1 := hy.cell 1 rfl
      have g2 := hy.cell 2 rfl
      have g3 := hy.cell 3 rfl
      have gl := hy.lt
      clear hx hy
      go_wp2_with fail
      go_upto_region 4 with fail
      go_cut [5, 6, 17, 18] (fun s5 s6 s17 s18 wc => ∃ bx byy, s5 = .pointer (some ⟨bx, 0, none⟩) ∧ s6 = .pointer (some ⟨byy, 0, none⟩) ∧ Has wc bx [.slice au c.up.length cu, .slice aw c.ws.length cw, .slice sa c.sides.length cs, .slice af c.flows.length cf] 130 ∧ Has wc byy [.slice bu d.up.length du, .slice bw d.ws.length dw, .slice sb d.sides.length ds, .slice bf d.flows.length df] 130 ∧ Mod [] w2 wc)
      case first =>
        go_region
        all_goals
          go_wp2_with fail
          go_meet
        · obtain ⟨k1, k2, k3⟩ := two_new w2 [.slice au c.up.length cu, .slice aw c.ws.length cw, .slice sa c.sides.length cs, .slice af c.flows.length cf] [.slice bu d.up.length du, .slice bw d.ws.length dw, .slice sb d.sides.length ds, .slice bf d.flows.length df] 130
          exact ⟨_, _, rfl, rfl, k1, k2, k3⟩
        · obtain ⟨k1, k2, k3⟩ := two_new w2 [.slice bu d.up.length du, .slice bw d.ws.length dw, .slice sb d.sides.length ds, .slice bf d.flows.length df] [.slice au c.up.length cu, .slice aw c.ws.length cw, .slice sa c.sides.length cs, .slice af c.flows.length cf] 130
          exact ⟨_, _, rfl, rfl, k2, k1, k3⟩
      case rest =>
        obtain ⟨bx, byy, rfl, rfl, hbx, hby, hm3⟩ := hcut
        clear d0 d1 d2 d3 dl g0 g1 g2 g3 gl
        have hbx' := Lib.hid hbx
        have hby' := Lib.hid hby
        have hm3' := Lib.hid (hm2'.out.trans hm3 (by simp))
        clear hbx hby hm3
        have hx := h1'.out.keep hm3'.out (by simp)
        have d0 := hx.cell 0 rfl
        have d1 := hx.cell 1 rfl
        have d2 := hx.cell 2 rfl
        have d3 := hx.cell 3 rfl
        have dl := hx.lt
        clear hx
        have hE := Lib.hid (encode_one c (hc.out.still hm3'.out) hf'.out)
        go_wp2_with fail
        refine hE.out.mono ?_
        rintro e w4 ⟨a4, c4, rfl, hm4, hr4⟩
        try dsimp only
        have hr4' := Lib.hid hr4
        have hm4' := Lib.hid (hm3'.out.trans hm4 (by simp))
        have hm34 := Lib.hid hm4
        clear hE hr4 hm4 d0 d1 d2 d3 dl
        have hx := hbx'.out.keep hm34.out (by simp)
        have d0 := hx.cell 0 rfl
        have d1 := hx.cell 1 rfl
        have d2 := hx.cell 2 rfl
        have d3 := hx.cell 3 rfl
        have dl := hx.lt
        clear hx
        have hE := Lib.hid (rencode_one c (hc.out.still hm4'.out) hf'.out)
        go_wp2_with fail
        refine hE.out.mono ?_
        rintro e w5 ⟨a5, c5, rfl, hm5, hr5⟩
        try dsimp only
        have hr5' := Lib.hid hr5
        have hm45 := Lib.hid hm5
        clear hE hr5 hm5 d0 d1 d2 d3 dl
        have hmW : Hid (∀ o, Mod [] wb (w5.alloc o)) := fun o => (hm4'.out.trans hm45.out (by simp)).alloc o
        generalize hEE : encE c = E at *
        generalize hEC : encC c = ec at *
        clear hEE hEC
        go_wp2_with fail
        have hgot : Has (w5.alloc (.cells #[.slice a5 E.length c5, .int .i64 ec] 134)) w5.heap.size [.slice a5 E.length c5, .int .i64 ec] 134 := Has.new w5 _ _
        have hm56 : Mod [] w5 (w5.alloc (.cells #[.slice a5 E.length c5, .int .i64 ec] 134)) := (Mod.refl [] w5).alloc _
        generalize hw6 : w5.alloc (.cells #[.slice a5 E.length c5, .int .i64 ec] 134) = w6 at *
        generalize hb6 : w5.heap.size = bw6 at *
        have hwt := Lib.hid hgot
        have hm6 := Lib.hid ((hm4'.out.trans hm45.out (by simp)).trans hm56 (by simp))
        have hbx6 := Lib.hid (hbx'.out.keep ((hm34.out.trans hm45.out (by simp)).trans hm56 (by simp)) (by simp))
        have hby6 := Lib.hid (hby'.out.keep ((hm34.out.trans hm45.out (by simp)).trans hm56 (by simp)) (by simp))
        have hp6 := Lib.hid (hr4'.out.still (hm45.out.trans hm56 (by simp)))
        have hq6 := Lib.hid (hr5'.out.still hm56)
        clear hw6 hb6 hgot hm56 hmW
        have m0 : Hid (Mod [] w6 w6.drew) := (Mod.refl [] w6).drew
        obtain ⟨sE, hsE⟩ : ∃ q, q = strOfNums E := ⟨_, rfl⟩
        have fc0 : ∀ m : FutM w6.drew, m.v.cell? ⟨B, 0, none⟩ = some (.slice au c.up.length cu) := fun m => (h1'.out.keep (hm6.out.trans (m0.out.trans m.of (by simp)) (by simp)) (by simp)).cell 0 rfl
        have fd0 : ∀ m : FutM w6.drew, m.v.cell? ⟨B + 1, 0, none⟩ = some (.slice bu d.up.length du) := fun m => (h2'.out.keep (hm6.out.trans (m0.out.trans m.of (by simp)) (by simp)) (by simp)).cell 0 rfl
        have fx0 : ∀ m : FutM w6.drew, m.v.cell? ⟨bx, 0, none⟩ = some (.slice au c.up.length cu) := fun m => (hbx6.out.keep (m0.out.trans m.of (by simp)) (by simp)).cell 0 rfl
        have fy0 : ∀ m : FutM w6.drew, m.v.cell? ⟨byy, 0, none⟩ = some (.slice bu d.up.length du) := fun m => (hby6.out.keep (m0.out.trans m.of (by simp)) (by simp)).cell 0 rfl
        have fc1 : ∀ m : FutM w6.drew, m.v.cell? ⟨B, 1, none⟩ = some (.slice aw c.ws.length cw) := fun m => (h1'.out.keep (hm6.out.trans (m0.out.trans m.of (by simp)) (by simp)) (by simp)).cell 1 rfl
        have fd1 : ∀ m : FutM w6.drew, m.v.cell? ⟨B + 1, 1, none⟩ = some (.slice bw d.ws.length dw) := fun m => (h2'.out.keep (hm6.out.trans (m0.out.trans m.of (by simp)) (by simp)) (by simp)).cell 1 rfl
        have fx1 : ∀ m : FutM w6.drew, m.v.cell? ⟨bx, 1, none⟩ = some (.slice aw c.ws.length cw) := fun m => (hbx6.out.keep (m0.out.trans m.of (by simp)) (by simp)).cell 1 rfl
        have fy1 : ∀ m : FutM w6.drew, m.v.cell? ⟨byy, 1, none⟩ = some (.slice bw d.ws.length dw) := fun m => (hby6.out.keep (m0.out.trans m.of (by simp)) (by simp)).cell 1 rfl
        have fc2 : ∀ m : FutM w6.drew, m.v.cell? ⟨B, 2, none⟩ = some (.slice sa c.sides.length cs) := fun m => (h1'.out.keep (hm6.out.trans (m0.out.trans m.of (by simp)) (by simp)) (by simp)).cell 2 rfl
        have fd2 : ∀ m : FutM w6.drew, m.v.cell? ⟨B + 1, 2, none⟩ = some (.slice sb d.sides.length ds) := fun m => (h2'.out.keep (hm6.out.trans (m0.out.trans m.of (by simp)) (by simp)) (by simp)).cell 2 rfl
        have fx2 : ∀ m : FutM w6.drew, m.v.cell? ⟨bx, 2, none⟩ = some (.slice sa c.sides.length cs) := fun m => (hbx6.out.keep (m0.out.trans m.of (by simp)) (by simp)).cell 2 rfl
        have fy2 : ∀ m : FutM w6.drew, m.v.cell? ⟨byy, 2, none⟩ = some (.slice sb d.sides.length ds) := fun m => (hby6.out.keep (m0.out.trans m.of (by simp)) (by simp)).cell 2 rfl
        have fc3 : ∀ m : FutM w6.drew, m.v.cell? ⟨B, 3, none⟩ = some (.slice af c.flows.length cf) := fun m => (h1'.out.keep (hm6.out.trans (m0.out.trans m.of (by simp)) (by simp)) (by simp)).cell 3 rfl
        have fd3 : ∀ m : FutM w6.drew, m.v.cell? ⟨B + 1, 3, none⟩ = some (.slice bf d.flows.length df) := fun m => (h2'.out.keep (hm6.out.trans (m0.out.trans m.of (by simp)) (by simp)) (by simp)).cell 3 rfl
        have fx3 : ∀ m : FutM w6.drew, m.v.cell? ⟨bx, 3, none⟩ = some (.slice af c.flows.length cf) := fun m => (hbx6.out.keep (m0.out.trans m.of (by simp)) (by simp)).cell 3 rfl
        have fy3 : ∀ m : FutM w6.drew, m.v.cell? ⟨byy, 3, none⟩ = some (.slice bf d.flows.length df) := fun m => (hby6.out.keep (m0.out.trans m.of (by simp)) (by simp)).cell 3 rfl
        have fw0 : ∀ m : FutM w6.drew, m.v.cell? ⟨bw6, 0, none⟩ = some (.slice a5 E.length c5) := fun m => (hwt.out.keep (m0.out.trans m.of (by simp)) (by simp)).cell 0 rfl
        have fw1 : ∀ m : FutM w6.drew, m.v.cell? ⟨bw6, 1, none⟩ = some (.int .i64 ec) := fun m => (hwt.out.keep (m0.out.trans m.of (by simp)) (by simp)).cell 1 rfl
        have g1 : ∀ m : FutM w6.drew, (convert 45 9 (.slice a4 E.length c4)).run Try.prog m.v = .ok (.string sE) m.v := fun m => by rw [hsE]; exact conv_rd (hp6.out.still (m0.out.trans m.of (by simp)))
        have g2 : ∀ m : FutM w6.drew, (convert 45 9 (.slice a5 E.length c5)).run Try.prog m.v = .ok (.string sE) m.v := fun m => by rw [hsE]; exact conv_rd (hq6.out.still (m0.out.trans m.of (by simp)))
        clear hsE hp6 hq6 hwt hbx6 hby6
        refine region_sched (G := Mod []) [([0,2],1), ([],3), ([4,5,6,7,8,9,10,11,12,13,14,15,16,17,18,19,20,21,23,24],22), ([],25), ([26,27,28,29,30],31), ([32,33],34)] [35,36] (by kernel_rfl) (by kernel_rfl) (by kernel_rfl) rfl (Mod.refl []) (fun _ _ _ h1 h2 => h1.trans h2 (by simp)) ?_
        simp only [stages, pickO, nthO, headO, List.cons_append, List.nil_append]
        have hM0 := Lib.hid (hm6.out.trans m0.out (by simp))
        refine sched_step ?_
        repeat (go_big_quiet_step (fail))
        refine wpQuiet_nil ?_
        intro K' hK
        rw [if_pos (by rfl)]
        go_simp
        have hcc := right_prog c (hc.out.still hM0.out)
        refine hcc.mono ?_
        rintro e v0 ⟨rfl, hv0⟩
        try dsimp only
        refine hK.out _ _ hv0 ?_
        clear hK K' hcc
        have hM1 := Lib.hid (hM0.out.trans hv0 (by simp))
        replace fc0 := FutM.cell hv0 fc0
        replace fd0 := FutM.cell hv0 fd0
        replace fx0 := FutM.cell hv0 fx0
        replace fy0 := FutM.cell hv0 fy0
        replace fc1 := FutM.cell hv0 fc1
        replace fd1 := FutM.cell hv0 fd1
        replace fx1 := FutM.cell hv0 fx1
        replace fy1 := FutM.cell hv0 fy1
        replace fc2 := FutM.cell hv0 fc2
        replace fd2 := FutM.cell hv0 fd2
        replace fx2 := FutM.cell hv0 fx2
        replace fy2 := FutM.cell hv0 fy2
        replace fc3 := FutM.cell hv0 fc3
        replace fd3 := FutM.cell hv0 fd3
        replace fx3 := FutM.cell hv0 fx3
        replace fy3 := FutM.cell hv0 fy3
        replace fw0 := FutM.cell hv0 fw0
        replace fw1 := FutM.cell hv0 fw1
        replace g1 := FutM.conv hv0 g1
        replace g2 := FutM.conv hv0 g2
        clear hv0
        refine sched_step ?_
        repeat (go_big_quiet_step (fail))
        refine wpQuiet_nil ?_
        intro K' hK
        rw [if_pos (by rfl)]
        go_simp
        have hcc := right_ref c (hc.out.still hM1.out)
        refine hcc.mono ?_
        rintro e v1 ⟨rfl, hv1⟩
        try dsimp only
        refine hK.out _ _ hv1 ?_
        clear hK K' hcc
        have hM2 := Lib.hid (hM1.out.trans hv1 (by simp))
        replace fc0 := FutM.cell hv1 fc0
        replace fd0 := FutM.cell hv1 fd0
        replace fx0 := FutM.cell hv1 fx0
        replace fy0 := FutM.cell hv1 fy0
        replace fc1 := FutM.cell hv1 fc1
        replace fd1 := FutM.cell hv1 fd1
        replace fx1 := FutM.cell hv1 fx1
        replace fy1 := FutM.cell hv1 fy1
        replace fc2 := FutM.cell hv1 fc2
        replace fd2 := FutM.cell hv1 fd2
        replace fx2 := FutM.cell hv1 fx2
        replace fy2 := FutM.cell hv1 fy2
        replace fc3 := FutM.cell hv1 fc3
        replace fd3 := FutM.cell hv1 fd3
        replace fx3 := FutM.cell hv1 fx3
        replace fy3 := FutM.cell hv1 fy3
        replace fw0 := FutM.cell hv1 fw0
        replace fw1 := FutM.cell hv1 fw1
        replace g1 := FutM.conv hv1 g1
        replace g2 := FutM.conv hv1 g2
        clear hv1
        generalize rightB c = rb at *
        refine sched_step ?_
        repeat (go_big_quiet_step (fail))
        refine wpQuiet_nil ?_
        intro K' hK
        rw [if_pos (by rfl)]
        go_simp
        have hcc := same_prog c d (hc.out.still hM2.out) (hk.out.still hM2.out)
        refine hcc.mono ?_
        rintro e v2 ⟨rfl, hv2⟩
        try dsimp only
        refine hK.out _ _ hv2 ?_
        clear hK K' hcc
        have hM3 := Lib.hid (hM2.out.trans hv2 (by simp))
        replace fc0 := FutM.cell hv2 fc0
        replace fd0 := FutM.cell hv2 fd0
        replace fx0 := FutM.cell hv2 fx0
        replace fy0 := FutM.cell hv2 fy0
        replace fc1 := FutM.cell hv2 fc1
        replace fd1 := FutM.cell hv2 fd1
        replace fx1 := FutM.cell hv2 fx1
        replace fy1 := FutM.cell hv2 fy1
        replace fc2 := FutM.cell hv2 fc2
        replace fd2 := FutM.cell hv2 fd2
        replace fx2 := FutM.cell hv2 fx2
        replace fy2 := FutM.cell hv2 fy2
        replace fc3 := FutM.cell hv2 fc3
        replace fd3 := FutM.cell hv2 fd3
        replace fx3 := FutM.cell hv2 fx3
        replace fy3 := FutM.cell hv2 fy3
        replace fw0 := FutM.cell hv2 fw0
        replace fw1 := FutM.cell hv2 fw1
        replace g1 := FutM.conv hv2 g1
        replace g2 := FutM.conv hv2 g2
        clear hv2
        refine sched_step ?_
        repeat (go_big_quiet_step (fail))
        refine wpQuiet_nil ?_
        intro K' hK
        rw [if_pos (by rfl)]
        go_simp
        have hcc := same_ref c d (hc.out.still hM3.out) (hk.out.still hM3.out)
        refine hcc.mono ?_
        rintro e v3 ⟨rfl, hv3⟩
        try dsimp only
        refine hK.out _ _ hv3 ?_
        clear hK K' hcc
        have hM4 := Lib.hid (hM3.out.trans hv3 (by simp))
        replace fc0 := FutM.cell hv3 fc0
        replace fd0 := FutM.cell hv3 fd0
        replace fx0 := FutM.cell hv3 fx0
        replace fy0 := FutM.cell hv3 fy0
        replace fc1 := FutM.cell hv3 fc1
        replace fd1 := FutM.cell hv3 fd1
        replace fx1 := FutM.cell hv3 fx1
        replace fy1 := FutM.cell hv3 fy1
        replace fc2 := FutM.cell hv3 fc2
        replace fd2 := FutM.cell hv3 fd2
        replace fx2 := FutM.cell hv3 fx2
        replace fy2 := FutM.cell hv3 fy2
        replace fc3 := FutM.cell hv3 fc3
        replace fd3 := FutM.cell hv3 fd3
        replace fx3 := FutM.cell hv3 fx3
        replace fy3 := FutM.cell hv3 fy3
        replace fw0 := FutM.cell hv3 fw0
        replace fw1 := FutM.cell hv3 fw1
        replace g1 := FutM.conv hv3 g1
        replace g2 := FutM.conv hv3 g2
        clear hv3
        generalize sameC c d = sm at *
        refine sched_step ?_
        repeat (go_big_quiet_step (fail))
        refine wpQuiet_nil ?_
        intro K' hK
        rw [if_pos (by rfl)]
        go_simp
        have hcc := same_prog c c (hc.out.still hM4.out) (hc.out.still hM4.out)
        rw [same_refl] at hcc
        refine hcc.mono ?_
        rintro e v4 ⟨rfl, hv4⟩
        try dsimp only
        refine hK.out _ _ hv4 ?_
        clear hK K' hcc
        have hM5 := Lib.hid (hM4.out.trans hv4 (by simp))
        replace fc0 := FutM.cell hv4 fc0
        replace fd0 := FutM.cell hv4 fd0
        replace fx0 := FutM.cell hv4 fx0
        replace fy0 := FutM.cell hv4 fy0
        replace fc1 := FutM.cell hv4 fc1
        replace fd1 := FutM.cell hv4 fd1
        replace fx1 := FutM.cell hv4 fx1
        replace fy1 := FutM.cell hv4 fy1
        replace fc2 := FutM.cell hv4 fc2
        replace fd2 := FutM.cell hv4 fd2
        replace fx2 := FutM.cell hv4 fx2
        replace fy2 := FutM.cell hv4 fy2
        replace fc3 := FutM.cell hv4 fc3
        replace fd3 := FutM.cell hv4 fd3
        replace fx3 := FutM.cell hv4 fx3
        replace fy3 := FutM.cell hv4 fy3
        replace fw0 := FutM.cell hv4 fw0
        replace fw1 := FutM.cell hv4 fw1
        replace g1 := FutM.conv hv4 g1
        replace g2 := FutM.conv hv4 g2
        clear hv4
        refine sched_step ?_
        repeat (go_big_quiet_step (fail))
        refine wpQuiet_nil ?_
        intro K' hK
        rw [if_pos (by rfl)]
        go_simp
        refine (haw.out _).mono ?_
        rintro e v5 ⟨rfl, hv5⟩
        try dsimp only
        refine hK.out _ _ hv5 ?_
        clear hK K'
        have hM6 := Lib.hid (hM5.out.trans hv5 (by simp))
        clear hv5
        refine sched_last ?_
        repeat (go_big_quiet_step (fail))
        refine wpQuiet_nil ?_
        have hfin := Lib.hid (hm0'.out.trans hM6.out (by simp))
        clear fc0 fd0 fx0 fy0 fc1 fd1 fx1 fy1 fc2 fd2 fx2 fy2 fc3 fd3 fx3 fy3 fw0 fw1 g1 g2
        go_wp2_with fail
        go_ret
        exact ⟨rfl, hfin.out⟩
end Code.Cert
end Go.Proofs.Ytmkbinbggiocaaa

set_option linter.unusedVariables false
set_option linter.unusedSimpArgs false
namespace Go.Proofs.Ytmkbinbggiocaaa
open Go.ChangeShapes Go.WideShapes Go.ChangeAt Go.RowKit Go.Deep
open Go.ChangeMaps (open_string shut_string)

namespace CertPuts
set_option maxRecDepth 100000 in
theorem lifted (os : Os) (started : os.Started) (H : Type) (enc : TypeId × Value → H) :
    ReturnsInHanded {} Try.checked os 13 .any (Rows.certPutsSpec.pre6 enc Try.prog Try.f13 Rows.certPutsRow.domain false) (Rows.certPutsSpec.post enc Try.prog Try.f13 false true false false) := by
  refine returnsInHanded_of_change (C := Try.checked) own started (by kernel_rfl) Try.func13
    (ChangeSpec.witness6 (enc := enc) (C := Try.checked) false ⟨#[], #[.agg #[.slice none 0 0, .slice none 0 0, .slice none 0 0, .slice none 0 0], .agg #[.slice none 0 0, .slice none 0 0, .slice none 0 0, .slice none 0 0]], []⟩ 8 (by kernel_rfl) (by kernel_rfl) (by kernel_rfl) (by kernel_rfl)) ?_
  intro W base args ds gs before hval0 hW hcnd _
  have hval : ∀ (j : Nat) t v, Try.f13.params[j]? = some t → args[j]? = some v → Value.okWide Try.prog W .any base t v := hval0
  have hW' := hW
  obtain ⟨p, q, hA0, hV, rfl, hfz, hnd⟩ := hW
  have hA : DataW.TrodAll enc Try.prog W 0 (fun _ => true) true Try.f13.params.toList args.toList ds p := hA0
  rw [Try.params13] at hA hval
  obtain ⟨v0, vs0, d0, ds0, p0, q0, hargs, rfl, rfl, h0, r0⟩ := trodAll_cons hA
  obtain ⟨v1, vs1, d1, ds1, p1, q1, rfl, rfl, rfl, h1, r1⟩ := trodAll_cons r0
  obtain ⟨rfl, rfl, rfl⟩ := trodAll_nil r1
  obtain rfl : args = #[v0, v1] := by cases args; simp_all
  obtain ⟨rfl, rfl⟩ := trodVars_none hV
  have k0 := h0
  have lt0 : ∀ x ∈ p0, x.block < W.heap.size := by obtain ⟨m, hm⟩ := k0; exact DataW.trod_lt m _ _ _ hm
  have k1 := h1
  have lt1 : ∀ x ∈ p1, x.block < W.heap.size := by obtain ⟨m, hm⟩ := k1; exact DataW.trod_lt m _ _ _ hm
  obtain ⟨vu0, vw0, vs40, vf0, c0, rfl, rep0, bnd0⟩ := open_cert (by obtain ⟨cs, hcs, _⟩ := okWide_struct Try.underlying128 (hval 0 128 v0 rfl rfl); exact ⟨cs, hcs⟩) h0
  obtain ⟨vu1, vw1, vs41, vf1, c1, rfl, rep1, bnd1⟩ := open_cert (by obtain ⟨cs, hcs, _⟩ := okWide_struct Try.underlying128 (hval 1 128 v1 rfl rfl); exact ⟨cs, hcs⟩) h1
  clear hA0 hval0
  refine (Code.Cert.cputs_any c0 c1 rep0 rep1 bnd0).mono fun e W' ⟨he, hm⟩ => ?_
  have bel := hm.below
  subst he
  exact ⟨_, rfl, _, _, _, [], _, [], hW', trodAll_mk1 (shut_bool Try.underlying4 _), (trodAll_cons_mk (Below.trod laidOut (by kernel_rfl) (of_decide_eq_true (by kernel_rfl)) k0 bel lt0) (trodAll_cons_mk (Below.trod laidOut (by kernel_rfl) (of_decide_eq_true (by kernel_rfl)) k1 bel lt1) trodAll_mk0)), rfl, bel.frame _, fun h => by cases h⟩
theorem proved : Rows.CertPutsSaid :=
  OpenClaim.holds_of_wide 13 Try.f13 rfl rfl rfl rfl rfl rfl rfl ⟨rfl, rfl, rfl, rfl, rfl⟩ rfl rfl rfl rfl rfl (by kernel_rfl) Try.func13 (by kernel_rfl)
    (of_decide_eq_true (by kernel_rfl)) (by unfold Func.isWrapper; first | (rw [if_pos (by decide +kernel)]; kernel_rfl) | (rw [if_neg (by decide +kernel)]; exact ⟨rfl, rfl⟩))
    (fun os started H enc _ => lifted os started H enc)
end CertPuts
end Go.Proofs.Ytmkbinbggiocaaa
