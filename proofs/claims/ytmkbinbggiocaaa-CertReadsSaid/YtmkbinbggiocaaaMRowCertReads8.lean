/- Certificates: what the reference is reading, and its reader. Certificates: the reference's reading; what it comes to. Certificates: what is read has just these bytes; the plain law. Certificates: the program's reading and the reference's come to the same; the plain law. Certificates: what is read is right, and has just these bytes; the reference reads the same. Certificates: what is put is read; the plain law. -/
import Derived.Test.YtmkbinbggiocaaaMRowCertReads7
import Derived.Test.YtmkbinbggiocaaaMRowCertReads4
set_option linter.unusedVariables false
set_option linter.unusedSimpArgs false
namespace Go.Proofs.Ytmkbinbggiocaaa
open Go.RowKit
namespace Code.Cert
/-- A certificate that is being read, and its reader. -/
structure DX (X : List (Nat × List Value × TypeId)) (w0 w : World) (B r : Nat) (vb : Value) (bs : List Int) (k : Nat) (st : Bool) (c : CertV) : Prop where
  ex : ∃ vs rows, BxT 130 w B (RsX X B r none bs 0) vs rows ∧ Cn w rows c ∧ (∀ i g, i < 4 → (vs i).ownBlock = some g → w0.heap.size ≤ g) ∧ Kp w X (Rs B r none bs 0) vs ∧ El w0 rows
  rt : XAt w0 w r vb bs k st
  base : Mod [] w0 w
  low : ∀ b ∈ Rs B r none bs 0, w0.heap.size ≤ b
  ne : r ≠ B
theorem DX.still {X : List (Nat × List Value × TypeId)} {w0 w w' : World} {B r k : Nat} {vb : Value} {bs : List Int} {st : Bool} {c : CertV} (h : DX X w0 w B r vb bs k st c) (m : Mod [] w w') : DX X w0 w' B r vb bs k st c := by
  obtain ⟨vs, rows, h1, h2, h3, h4, h5⟩ := h.ex
  exact ⟨⟨vs, rows, h1.keep m (by simp), Cn.keep h1 h2 m (by simp), h3, h4.keep m (by simp), h5⟩, h.rt.still m, h.base.trans m (by simp), h.low, h.ne⟩
theorem DX.read {X : List (Nat × List Value × TypeId)} {w0 w w' : World} {B r k k' : Nat} {vb : Value} {bs : List Int} {st st' : Bool} {c : CertV} (h : DX X w0 w B r vb bs k st c) (m : Mod [r] w w') (hr : XAt w0 w' r vb bs k' st') : DX X w0 w' B r vb bs k' st' c := by
  obtain ⟨vs, rows, h1, h2, h3, h4, h5⟩ := h.ex
  have hne := h.ne
  refine ⟨⟨vs, rows, h1.keep m (fun b hb _ => ?_), Cn.keep h1 h2 m (fun b hb _ => ?_), h3, h4.keep m (fun b hb _ => ?_), h5⟩, hr, h.base.trans m (fun b hb hlt => ?_), h.low, h.ne⟩
  · rw [List.mem_singleton] at hb; subst hb; exact ⟨by simp [Rs, RsX], hne⟩
  · rw [List.mem_singleton] at hb; subst hb; exact .inl (by simp [Rs, RsX])
  · rw [List.mem_singleton] at hb; subst hb; exact .inl (by simp [Rs, RsX])
  · rw [List.mem_singleton] at hb; subst hb
    have := h.low b (by simp [Rs, RsX])
    omega
/-- One element more. -/
theorem DX.push {X : List (Nat × List Value × TypeId)} {w0 w w1 : World} {B r k : Nat} {vb : Value} {bs : List Int} {st : Bool} {c c' : CertV} (h : DX X w0 w B r vb bs k st c) {vs : Nat → Value} {rows : Nat → List Value}
    (h1 : BxT 130 w B (RsX X B r none bs 0) vs rows) (h2 : Cn w rows c) (h3 : ∀ i g, i < 4 → (vs i).ownBlock = some g → w0.heap.size ≤ g) (h4 : Kp w X (Rs B r none bs 0) vs) (h5 : El w0 rows) {i : Nat} (hi : i < 4) {x v' : Value}
    (ho : w1.ownsRow 0 (tyI i) 1 v' ((rows i).length + 1) (rows i ++ [x])) (m : Mod (vs i).ownBlock.toList w w1)
    (hn : v'.ownBlock = (vs i).ownBlock ∨ ∃ b, v'.ownBlock = some b ∧ w.heap.size ≤ b) (hx : ∀ g, live x g → g < w.heap.size ∧ g ∉ RsX X B r none bs 0 ∧ ∀ j, j < 4 → (vs j).ownBlock ≠ some g)
    (hxl : ∀ g, live x g → w0.heap.size ≤ g) (hc : ∀ w', Cn w' rows c → Mod ((B :: (vs i).ownBlock.toList)) w w' → Cn w' (upd rows i (rows i ++ [x])) c') : DX X w0 (w1.setCell ⟨B, i, none⟩ v') B r vb bs k st c' := by
  have mm : Mod (B :: (vs i).ownBlock.toList) w (w1.setCell ⟨B, i, none⟩ v') := (m.mono (fun b hb => by simp [hb])).setCell _ _ (fun _ => by simp)
  have hlt0 := h.base.size
  refine ⟨⟨_, _, h1.push hi ho m hn hx, hc _ (Cn.at2 h1 h2 hi m) mm, fun j g hj hg => ?_, fun x hx => ?_, fun j y g hj hy hg => ?_⟩, h.rt.keep mm ?_ ?_, h.base.trans mm (fun b hb hlt => ?_), h.low, h.ne⟩
  · unfold upd at hg
    split at hg
    · rcases hn with e | ⟨b, e, hb⟩
      · rw [e] at hg; exact h3 i g hi hg
      · rw [e] at hg; simp only [Option.some.injEq] at hg; omega
    · exact h3 j g hj hg
  · obtain ⟨g1, g2, g3⟩ := h4 x hx
    have hl := g1.lt
    refine ⟨g1.keep mm fun hm => ?_, g2, fun j hj e => ?_⟩
    · rcases List.mem_cons.1 hm with e | hm
      · exact g2 (by simp [Rs, RsX, e])
      · exact g3 i hi (by simpa using hm)
    · unfold upd at e
      split at e
      · rcases hn with e2 | ⟨b, e2, hb⟩
        · rw [e2] at e; exact g3 i hi e
        · rw [e2] at e; simp only [Option.some.injEq] at e; omega
      · exact g3 j hj e
  · unfold upd at hy
    split at hy
    · rcases List.mem_append.1 hy with h6 | h6
      · exact h5 i y g hi h6 hg
      · rw [List.mem_singleton] at h6
        subst h6
        exact hxl g hg
    · exact h5 j y g hj hy hg
  · intro hm
    rcases List.mem_cons.1 hm with e | hm
    · exact h.ne e
    · exact h1.res i r hi (by simpa using hm) (by simp [Rs, RsX])
  · intro b hb
    rcases List.mem_cons.1 hb with rfl | hb
    · exact h.low b (by simp [Rs, RsX])
    · exact h3 i b hi (by simpa using hb)
  · rcases List.mem_cons.1 hb with rfl | hb
    · have := h.low b (by simp [Rs, RsX]); omega
    · have := h3 i b hi (by simpa using hb); omega
end Code.Cert
end Go.Proofs.Ytmkbinbggiocaaa

set_option linter.unusedVariables false
set_option linter.unusedSimpArgs false
namespace Go.Proofs.Ytmkbinbggiocaaa
open Go.RowKit
namespace Code.Cert
structure DY (X : List (Nat × List Value × TypeId)) (w0 w : World) (B r : Nat) (vb : Value) (bs : List Int) (k : Nat) (st : Bool) (c : CertV) (vs : Nat → Value) (rows : Nat → List Value) : Prop where
  h1 : BxT 130 w B (RsX X B r none bs 0) vs rows
  h2 : Cn w rows c
  h3 : ∀ i g, i < 4 → (vs i).ownBlock = some g → w0.heap.size ≤ g
  h4 : Kp w X (Rs B r none bs 0) vs
  h5 : El w0 rows
  rt : XAt w0 w r vb bs k st
  base : Mod [] w0 w
  low : ∀ b ∈ Rs B r none bs 0, w0.heap.size ≤ b
  ne : r ≠ B
theorem DX.open {X : List (Nat × List Value × TypeId)} {w0 w : World} {B r k : Nat} {vb : Value} {bs : List Int} {st : Bool} {c : CertV} (h : DX X w0 w B r vb bs k st c) : ∃ vs rows, DY X w0 w B r vb bs k st c vs rows := by
  obtain ⟨vs, rows, h1, h2, h3, h4, h5⟩ := h.ex
  exact ⟨vs, rows, h1, h2, h3, h4, h5, h.rt, h.base, h.low, h.ne⟩
theorem DY.shut {X : List (Nat × List Value × TypeId)} {w0 w : World} {B r k : Nat} {vb : Value} {bs : List Int} {st : Bool} {c : CertV} {vs : Nat → Value} {rows : Nat → List Value} (h : DY X w0 w B r vb bs k st c vs rows) : DX X w0 w B r vb bs k st c :=
  ⟨⟨vs, rows, h.h1, h.h2, h.h3, h.h4, h.h5⟩, h.rt, h.base, h.low, h.ne⟩
theorem DY.still {X : List (Nat × List Value × TypeId)} {w0 w w' : World} {B r k : Nat} {vb : Value} {bs : List Int} {st : Bool} {c : CertV} {vs : Nat → Value} {rows : Nat → List Value} (h : DY X w0 w B r vb bs k st c vs rows) (m : Mod [] w w') : DY X w0 w' B r vb bs k st c vs rows :=
  ⟨h.h1.keep m (by simp), Cn.keep h.h1 h.h2 m (by simp), h.h3, h.h4.keep m (by simp), h.h5, h.rt.still m, h.base.trans m (by simp), h.low, h.ne⟩
theorem DY.read {X : List (Nat × List Value × TypeId)} {w0 w w' : World} {B r k k' : Nat} {vb : Value} {bs : List Int} {st st' : Bool} {c : CertV} {vs : Nat → Value} {rows : Nat → List Value} (h : DY X w0 w B r vb bs k st c vs rows) (m : Mod [r] w w') (hr : XAt w0 w' r vb bs k' st') : DY X w0 w' B r vb bs k' st' c vs rows := by
  have hne := h.ne
  refine ⟨h.h1.keep m (fun b hb _ => ?_), Cn.keep h.h1 h.h2 m (fun b hb _ => ?_), h.h3, h.h4.keep m (fun b hb _ => ?_), h.h5, hr, h.base.trans m (fun b hb hlt => ?_), h.low, h.ne⟩
  · rw [List.mem_singleton] at hb; subst hb; exact ⟨by simp [RsX], hne⟩
  · rw [List.mem_singleton] at hb; subst hb; exact .inl (by simp [RsX])
  · rw [List.mem_singleton] at hb; subst hb; exact .inl (by simp [Rs])
  · rw [List.mem_singleton] at hb; subst hb
    have := h.low b (by simp [Rs])
    omega
/-- Stores into blocks that are younger than all of it. -/
theorem DY.young {F : List Nat} {X : List (Nat × List Value × TypeId)} {w0 wf w w' : World} {B r k k0 : Nat} {vb : Value} {bs : List Int} {st st0 : Bool} {c : CertV} {vs : Nat → Value} {rows : Nat → List Value} (h0 : DY X w0 wf B r vb bs k0 st0 c vs rows) (h : DY X w0 w B r vb bs k st c vs rows) (m : Mod F w w') (hF : ∀ b ∈ F, wf.heap.size ≤ b) : DY X w0 w' B r vb bs k st c vs rows := by
  have hB := h0.h1.lt B h0.h1.memB
  have hr := h0.h1.lt r (by simp [RsX])
  refine ⟨h.h1.keep2 m (fun b hb => ?_), h.h2.keep2 m (fun b hb i x hi hx hl => ?_), h.h3, fun x hx => ?_, h.h5, h.rt.keep m (fun hm => ?_) (fun b hb => ?_), h.base.trans m (fun b hb hlt => ?_), h.low, h.ne⟩
  · have := hF b hb
    exact ⟨by omega, fun i hi e => by have := own_lt (h0.h1.own i hi) e; omega⟩
  · have := hF b hb; have := (h0.h1.el i x hi hx b hl).1; omega
  · obtain ⟨g1, g2, g3⟩ := h.h4 x hx
    exact ⟨g1.keep m (fun hm => by have := hF _ hm; have := (h0.h4 x hx).1.lt; omega), g2, g3⟩
  · have := hF r hm; omega
  · have := hF b hb; have := h0.base.size; omega
  · have := hF b hb; have := h0.base.size; omega
/-- The integers that the reference reads: till it stops. -/
def xInts (bs : List Int) : Nat → Nat → Bool → List Int × Nat × Bool
  | 0, k, st => ([], k, st)
  | m + 1, k, st => if st then ([], k, st) else (unsign (rNat bs k st).1 :: (xInts bs m (rNat bs k st).2.1 (rNat bs k st).2.2).1, (xInts bs m (rNat bs k st).2.1 (rNat bs k st).2.2).2)
def xUp (n : Nat) : Int := (min n 5000 : Nat) - 1
def xStep (bs : List Int) (n : Nat) (x : RSt) : RSt :=
  let a := rNat bs x.2.1 x.2.2
  let b := rNat bs a.2.1 a.2.2
  let s := rBits bs b.2.1 b.2.2 n
  let t := rCount bs s.2.1 s.2.2
  let f := xInts bs t.1 t.2.1 t.2.2
  (⟨x.1.up ++ [xUp a.1], x.1.ws ++ [wrap64 b.1], x.1.sides ++ [s.1], x.1.flows ++ [f.1]⟩, f.2)
def xVerts (bs : List Int) (n : Nat) : Nat → RSt → RSt
  | 0, x => x
  | m + 1, x => if x.2.2 then x else xVerts bs n m (xStep bs n x)
def decR (bs : List Int) : Option CertV :=
  let s := rMark bs 0 false headB
  let a := rNat bs s.1 s.2
  if a.2.2 = true ∨ 4096 < a.1 then none else
    let y := xVerts bs a.1 a.1 (noneC, a.2)
    if rEnd bs y.2.1 y.2.2 = 0 ∧ rightB y.1 = true ∧ encB y.1 = bs then some y.1 else none
theorem xInts_len (bs : List Int) : ∀ m k st, (xInts bs m k st).1.length ≤ m
  | 0, _, _ => by simp [xInts]
  | m + 1, k, st => by
    unfold xInts
    split
    · simp
    · simp only [List.length_cons]
      have := xInts_len bs m (rNat bs k st).2.1 (rNat bs k st).2.2
      omega
theorem unsign_bd (n : Nat) (h : n < 18446744073709551616) : -9223372036854775808 ≤ unsign n ∧ unsign n ≤ 9223372036854775807 := by
  unfold unsign; split <;> omega
theorem xInts_bd {bs : List Int} (hbb : ∀ x ∈ bs, 0 ≤ x ∧ x < 256) : ∀ m k st, ∀ x ∈ (xInts bs m k st).1, -9223372036854775808 ≤ x ∧ x ≤ 9223372036854775807
  | 0, _, _ => by simp [xInts]
  | m + 1, k, st => by
    unfold xInts
    split
    · simp
    · intro x hx
      rcases List.mem_cons.1 hx with rfl | hx
      · exact unsign_bd _ (rNat_lt hbb)
      · exact xInts_bd hbb m _ _ x hx
theorem count_le (bs : List Int) (k : Nat) (st : Bool) : (rCount bs k st).1 ≤ bs.length := by
  unfold rCount
  split
  · simp
  · split
    · split
      · simp only; omega
      · simp
    · simp
theorem wrap64_bd (x : Int) : -9223372036854775808 ≤ wrap64 x ∧ wrap64 x ≤ 9223372036854775807 := by unfold wrap64; omega
/-- What is read goes into 64 bits. -/
theorem fits_step {bs : List Int} (hbb : ∀ x ∈ bs, 0 ≤ x ∧ x < 256) (hlen : bs.length ≤ 10000) {n : Nat} {x : RSt} (h : Fits x.1) : Fits (xStep bs n x).1 := by
  refine ⟨fun l hl => ?_, fun y hy => ?_⟩
  · simp only [xStep, List.mem_append, List.mem_singleton] at hl
    rcases hl with hl | rfl
    · exact h.fl l hl
    · refine ⟨?_, xInts_bd hbb _ _ _⟩
      refine Nat.le_trans (xInts_len bs _ _ _) (Nat.le_trans (count_le bs _ _) hlen)
  · simp only [xStep, List.mem_append, List.mem_singleton] at hy
    rcases hy with hy | rfl
    · exact h.ws y hy
    · exact wrap64_bd _
theorem fits_verts {bs : List Int} (hbb : ∀ x ∈ bs, 0 ≤ x ∧ x < 256) (hlen : bs.length ≤ 10000) {n : Nat} : ∀ m (x : RSt), Fits x.1 → Fits (xVerts bs n m x).1
  | 0, _, h => h
  | m + 1, x, h => by
    unfold xVerts
    split
    · exact h
    · exact fits_verts hbb hlen m _ (fits_step hbb hlen h)
end Code.Cert
end Go.Proofs.Ytmkbinbggiocaaa

set_option linter.unusedVariables false
set_option linter.unusedSimpArgs false
namespace Go.Proofs.Ytmkbinbggiocaaa
open Go.RowKit
namespace Code.Cert
/-- From k to k' the bytes are zs. -/
def At (bs : List Int) (k : Nat) (zs : List Int) (k' : Nat) : Prop := k' = k + zs.length ∧ bs.take k' = bs.take k ++ zs ∧ k' ≤ bs.length
theorem At.of_take {bs : List Int} {k j : Nat} {zs : List Int} (h : zs = (bs.drop k).take j) (hj : j ≤ bs.length - k) (hk : k ≤ bs.length) : At bs k zs (k + j) := by
  have hl : zs.length = j := by rw [h, List.length_take, List.length_drop]; omega
  exact ⟨by omega, by rw [List.take_add, h], by omega⟩
theorem At.trans {bs ys zs : List Int} {k k1 k2 : Nat} (h : At bs k ys k1) (g : At bs k1 zs k2) : At bs k (ys ++ zs) k2 := by
  obtain ⟨a1, a2, a3⟩ := h
  obtain ⟨b1, b2, b3⟩ := g
  exact ⟨by rw [List.length_append]; omega, by rw [b2, a2, List.append_assoc], b3⟩
theorem At.nil {bs : List Int} {k : Nat} (h : k ≤ bs.length) : At bs k [] k := ⟨by simp, by simp, h⟩
theorem rNat_at {bs : List Int} (hbb : ∀ x ∈ bs, 0 ≤ x ∧ x < 256) {k n k' : Nat} {st : Bool} (hk : k ≤ bs.length) (h : rNat bs k st = (n, k', false)) : st = false ∧ At bs k (natB n) k' ∧ n < 18446744073709551616 := by
  unfold rNat at h
  by_cases hs : st = true
  · rw [if_pos hs] at h
    simp at h
  · rw [if_neg hs] at h
    cases hp : natP 0 (bs.drop k) with
    | none => rw [hp] at h; simp at h
    | some p =>
      obtain ⟨m, j⟩ := p
      rw [hp] at h
      simp only [Prod.mk.injEq, and_true] at h
      obtain ⟨rfl, rfl⟩ := h
      obtain ⟨h1, h2, h3, h4⟩ := natP_len (fun x hx => hbb x (List.mem_of_mem_drop hx)) hp
      rw [List.length_drop] at h1
      exact ⟨by simpa using hs, At.of_take h3 h1 hk, h2⟩
theorem rCount_at {bs : List Int} (hbb : ∀ x ∈ bs, 0 ≤ x ∧ x < 256) {k n k' : Nat} {st : Bool} (hk : k ≤ bs.length) (h : rCount bs k st = (n, k', false)) : st = false ∧ At bs k (natB n) k' ∧ n < 18446744073709551616 := by
  refine rNat_at hbb hk (st := st) ?_
  unfold rCount at h
  unfold rNat
  by_cases hs : st = true
  · rw [if_pos hs] at h
    simp at h
  · rw [if_neg hs] at h ⊢
    cases hp : natP 0 (bs.drop k) with
    | none => rw [hp] at h; simp at h
    | some p =>
      obtain ⟨m, j⟩ := p
      rw [hp] at h
      simp only at h ⊢
      split at h
      · exact h
      · simp at h
theorem signN_unsign (n : Nat) : signN (unsign n) = n := by
  unfold signN unsign
  split <;> split <;> omega
theorem rInts_at {bs : List Int} (hbb : ∀ x ∈ bs, 0 ≤ x ∧ x < 256) : ∀ (m k : Nat) (st : Bool), k ≤ bs.length → (rInts bs m k st).2.2 = false → (0 < m → st = false) ∧ At bs k ((rInts bs m k st).1.flatMap fun x => natB (signN x)) (rInts bs m k st).2.1
  | 0, k, st, hk, _ => ⟨fun h => by omega, by simpa [rInts] using At.nil hk⟩
  | m + 1, k, st, hk, h => by
    rw [rInts] at h ⊢
    simp only at h ⊢
    rcases hr : rInts bs m k st with ⟨l, k1, s1⟩
    rw [hr] at h
    simp only at h ⊢
    rcases hn : rNat bs k1 s1 with ⟨n, k2, s2⟩
    rw [hn] at h
    simp only at h ⊢
    subst h
    have ih := rInts_at hbb m k st hk
    rw [hr] at ih
    simp only at ih
    have hk1 : s1 = false → k1 ≤ bs.length := fun hs => (ih hs).2.2.2
    cases s1 with
    | true => unfold rNat at hn; simp at hn
    | false =>
      obtain ⟨i1, i2⟩ := ih rfl
      obtain ⟨_, n1, _⟩ := rNat_at hbb i2.2.2 hn
      refine ⟨fun _ => ?_, ?_⟩
      · rcases Nat.eq_zero_or_pos m with h0 | h0
        · subst h0; simp [rInts] at hr; exact hr.2.2
        · exact i1 h0
      · rw [List.flatMap_append]
        refine i2.trans ?_
        simpa [signN_unsign] using n1
/-- Bits out of bytes, and back. -/
theorem low_sum : ∀ b : Fin 256, ((low b.val).map fun k => 2 ^ k).sum = b.val := by decide +kernel
theorem low_lt (b k : Nat) (h : k ∈ low b) : k < 8 := by
  unfold low at h
  simp only [List.mem_filter, List.mem_range] at h
  exact h.1
theorem byteAt_append (l m : List Int) (j : Nat) : byteAt (l ++ m) j = byteAt l j + byteAt m j := by simp [byteAt, List.filter_append]
theorem byteAt_same (i b : Nat) (hb : b < 256) : byteAt ((low b).map fun k => ((8 * i + k : Nat) : Int)) i = b := by
  have h := low_sum ⟨b, hb⟩
  simp only at h
  unfold byteAt
  rw [List.filter_eq_self.2 (fun v hv => by
    rw [List.mem_map] at hv
    obtain ⟨k, hk, rfl⟩ := hv
    have := low_lt b k hk
    simp only [decide_eq_true_eq]
    omega)]
  rw [List.map_map]
  conv => rhs; rw [← h]
  congr 1
  apply List.map_congr_left
  intro k hk
  have := low_lt b k hk
  simp only [Function.comp, bit]
  congr 1
  omega
theorem byteAt_other (i j b : Nat) (hij : i ≠ j) : byteAt ((low b).map fun k => ((8 * i + k : Nat) : Int)) j = 0 := by
  unfold byteAt
  rw [List.filter_eq_nil_iff.2 (fun v hv => by
    rw [List.mem_map] at hv
    obtain ⟨k, hk, rfl⟩ := hv
    have := low_lt b k hk
    simp only [decide_eq_true_eq]
    omega)]
  rfl
theorem byteAt_from : ∀ (xs : List Int) (i j : Nat), (∀ x ∈ xs, 0 ≤ x ∧ x < 256) → byteAt (setFrom i xs) (i + j) = (xs.getD j 0).toNat ∧ ∀ q, q < i → byteAt (setFrom i xs) q = 0
  | [], i, j, _ => by simp [setFrom, byteAt]
  | x :: xs, i, j, h => by
    have hx := h x (by simp)
    have hxs : ∀ y ∈ xs, 0 ≤ y ∧ y < 256 := fun y hy => h y (by simp [hy])
    simp only [setFrom]
    refine ⟨?_, fun q hq => ?_⟩
    · rw [byteAt_append]
      rcases j with _ | j
      · have h2 := (byteAt_from xs (i + 1) 0 hxs).2 i (by omega)
        rw [Nat.add_zero, h2, byteAt_same i x.toNat (by omega)]
        simp
      · have h2 := (byteAt_from xs (i + 1) j hxs).1
        rw [show i + (j + 1) = i + 1 + j by omega, h2, byteAt_other i (i + 1 + j) x.toNat (by omega)]
        simp
    · rw [byteAt_append, byteAt_other i q x.toNat (by omega), (byteAt_from xs (i + 1) 0 hxs).2 q (by omega)]
theorem bits_back (xs : List Int) (h : ∀ x ∈ xs, 0 ≤ x ∧ x < 256) : bitsB xs.length (setFrom 0 xs) = xs := by
  apply List.ext_getElem
  · rw [bitsB_len]
  · intro j h1 h2
    have hb := (byteAt_from xs 0 j h).1
    rw [Nat.zero_add] at hb
    have hx := h xs[j] (List.getElem_mem h2)
    simp only [bitsB, List.getElem_map, List.getElem_range, hb]
    rw [List.getD_eq_getElem?_getD, List.getElem?_eq_getElem h2]
    simp only [Option.getD_some]
    omega
theorem rBits_at {bs : List Int} (hbb : ∀ x ∈ bs, 0 ≤ x ∧ x < 256) {k k' : Nat} {n : Int} {l : List Int} {st : Bool} (hk : k ≤ bs.length) (h : rBits bs k st n = (l, k', false)) : st = false ∧ At bs k (bitsB (wideN n) l) k' ∧ bitsOk n l = true := by
  unfold rBits at h
  split at h
  · simp at h
  · rename_i h1
    split at h
    · simp at h
    · rename_i h2
      simp only [Prod.mk.injEq, and_true] at h
      obtain ⟨rfl, rfl⟩ := h
      simp only [Bool.or_eq_true, Bool.not_eq_true', not_or, Bool.not_eq_true, Bool.not_eq_false] at h2
      have hl : ((bs.drop k).take (wideN n)).length = wideN n := by rw [List.length_take, List.length_drop]; omega
      have hb := bits_back ((bs.drop k).take (wideN n)) (fun x hx => hbb x (List.mem_of_mem_drop (List.mem_of_mem_take hx)))
      rw [hl] at hb
      have hlast := setTo_last n (by omega) (by omega) ((bs.drop k).take (wideN n))
      have hset := setTo_bytes ((bs.drop k).take (wideN n)) _ (Nat.le_refl _)
      rw [List.take_length] at hset
      rw [hset] at hlast
      refine ⟨h2.1, At.of_take ?_ (by omega) hk, by rw [hlast]; exact h2.2⟩
      rw [hb]
end Code.Cert
end Go.Proofs.Ytmkbinbggiocaaa

set_option linter.unusedVariables false
set_option linter.unusedSimpArgs false
namespace Go.Proofs.Ytmkbinbggiocaaa
open Go.RowKit
namespace Code.Cert
theorem rNat_stop (bs : List Int) (k : Nat) : rNat bs k true = (0, k, true) := by unfold rNat; simp
theorem rCount_stop (bs : List Int) (k : Nat) : rCount bs k true = (0, k, true) := by unfold rCount; simp
theorem rBits_stop (bs : List Int) (k : Nat) (n : Int) : rBits bs k true n = ([], k, true) := by unfold rBits; split <;> simp
theorem rInts_stop (bs : List Int) (k : Nat) : ∀ m, (rInts bs m k true).2 = (k, true)
  | 0 => rfl
  | m + 1 => by rw [rInts]; simp only [rInts_stop bs k m, rNat_stop]
theorem rInts_front (bs : List Int) : ∀ m k st, rInts bs (m + 1) k st = (unsign (rNat bs k st).1 :: (rInts bs m (rNat bs k st).2.1 (rNat bs k st).2.2).1, (rInts bs m (rNat bs k st).2.1 (rNat bs k st).2.2).2)
  | 0, k, st => by simp [rInts]
  | m + 1, k, st => by
    rw [rInts, rInts_front bs m k st]
    simp only [rInts, List.cons_append]
theorem ints_same_r {bs : List Int} : ∀ (m k : Nat) (st : Bool), (rInts bs m k st).2.2 = false → xInts bs m k st = rInts bs m k st
  | 0, k, st, _ => rfl
  | m + 1, k, st, h => by
    cases st with
    | true => rw [rInts_stop] at h; cases h
    | false =>
      rw [rInts_front] at h ⊢
      rw [xInts, if_neg (by simp), ints_same_r m _ _ h]
theorem ints_same_x {bs : List Int} : ∀ (m k : Nat) (st : Bool), (xInts bs m k st).2.2 = false → rInts bs m k st = xInts bs m k st
  | 0, k, st, _ => rfl
  | m + 1, k, st, h => by
    cases st with
    | true => simp [xInts] at h
    | false =>
      rw [xInts, if_neg (by simp)] at h ⊢
      rw [rInts_front, ints_same_x m _ _ h]
theorem partRun_val {bs : List Int} {n : Nat} {x : RSt} {a k1 b k2 k3 t k4 k5 : Nat} {s1 s2 s3 s4 s5 : Bool} {s f : List Int} (ha : rNat bs x.2.1 x.2.2 = (a, k1, s1)) (hb : rNat bs k1 s1 = (b, k2, s2)) (hs : rBits bs k2 s2 n = (s, k3, s3)) (ht : rCount bs k3 s3 = (t, k4, s4)) (hf : rInts bs t k4 s4 = (f, k5, s5)) :
    partRun bs n 4 x = if a ≤ n then if 0 ≤ wrap64 (b : Int) then some (⟨x.1.up ++ [upOf a], x.1.ws ++ [wrap64 b], x.1.sides ++ [s], x.1.flows ++ [f]⟩, k5, s5) else none else none := by
  have q1 : partStep bs n 0 x = (({ x.1 with up := x.1.up ++ [upOf a] }, k1, s1), decide (a ≤ n)) := by simp only [partStep, ha]
  have q2 : partStep bs n 1 ({ x.1 with up := x.1.up ++ [upOf a] }, k1, s1) = ((⟨x.1.up ++ [upOf a], x.1.ws ++ [wrap64 b], x.1.sides, x.1.flows⟩, k2, s2), decide (0 ≤ wrap64 (b : Int))) := by simp only [partStep, hb]
  have q3 : partStep bs n 2 (⟨x.1.up ++ [upOf a], x.1.ws ++ [wrap64 b], x.1.sides, x.1.flows⟩, k2, s2) = ((⟨x.1.up ++ [upOf a], x.1.ws ++ [wrap64 b], x.1.sides ++ [s], x.1.flows⟩, k3, s3), true) := by simp only [partStep, hs]
  have q4 : partStep bs n 3 (⟨x.1.up ++ [upOf a], x.1.ws ++ [wrap64 b], x.1.sides ++ [s], x.1.flows⟩, k3, s3) = ((⟨x.1.up ++ [upOf a], x.1.ws ++ [wrap64 b], x.1.sides ++ [s], x.1.flows ++ [f]⟩, k5, s5), true) := by simp only [partStep, ht, hf]
  have h0 : partRun bs n 0 x = some x := rfl
  by_cases h1 : a ≤ n
  · rw [if_pos h1]
    have p1 := partRun_yes h0 (by rw [q1]; simpa using h1)
    rw [q1] at p1
    by_cases h2 : 0 ≤ wrap64 (b : Int)
    · rw [if_pos h2]
      have p2 := partRun_yes p1 (by rw [q2]; simpa using h2)
      rw [q2] at p2
      have p3 := partRun_yes p2 (by rw [q3])
      rw [q3] at p3
      have p4 := partRun_yes p3 (by rw [q4])
      rw [q4] at p4
      exact p4
    · rw [if_neg h2]
      exact partRun_no p1 (by rw [q2]; simpa using h2) (by omega)
  · rw [if_neg h1]
    exact partRun_no h0 (by rw [q1]; simpa using h1) (by omega)
theorem xStep_val {bs : List Int} {n : Nat} {x : RSt} {a k1 b k2 k3 t k4 k5 : Nat} {s1 s2 s3 s4 s5 : Bool} {s f : List Int} (ha : rNat bs x.2.1 x.2.2 = (a, k1, s1)) (hb : rNat bs k1 s1 = (b, k2, s2)) (hs : rBits bs k2 s2 n = (s, k3, s3)) (ht : rCount bs k3 s3 = (t, k4, s4)) (hf : xInts bs t k4 s4 = (f, k5, s5)) :
    xStep bs n x = (⟨x.1.up ++ [xUp a], x.1.ws ++ [wrap64 b], x.1.sides ++ [s], x.1.flows ++ [f]⟩, k5, s5) := by
  unfold xStep
  simp only [ha, hb, hs, ht, hf]
def vertN (n : Nat) (c : CertV) (v : Nat) : List Int := natB (c.up.getD v 0 + 1).toNat ++ natB (c.ws.getD v 0).toNat ++ bitsB (wideN n) (c.sides.getD v []) ++ listB signN (c.flows.getD v [])
/-- What one vertex is. -/
structure One (bs : List Int) (n : Nat) (x z : RSt) (u w : Int) (s f : List Int) : Prop where
  eq : z.1 = ⟨x.1.up ++ [u], x.1.ws ++ [w], x.1.sides ++ [s], x.1.flows ++ [f]⟩
  go : x.2.2 = false
  u0 : -1 ≤ u
  u1 : u < n
  w0 : 0 ≤ w
  ok : bitsOk n s = true
  at_ : At bs x.2.1 (natB (u + 1).toNat ++ natB w.toNat ++ bitsB (wideN n) s ++ listB signN f) z.2.1
theorem prog_one {bs : List Int} (hbb : ∀ x ∈ bs, 0 ≤ x ∧ x < 256) {n : Nat} (hn : n ≤ 4096) {x z : RSt} (hk : x.2.1 ≤ bs.length) (h : partRun bs n 4 x = some z) (hz : z.2.2 = false) : (∃ u w s f, One bs n x z u w s f) ∧ xStep bs n x = z := by
  rcases ha : rNat bs x.2.1 x.2.2 with ⟨a, k1, s1⟩
  rcases hb : rNat bs k1 s1 with ⟨b, k2, s2⟩
  rcases hs : rBits bs k2 s2 n with ⟨s, k3, s3⟩
  rcases ht : rCount bs k3 s3 with ⟨t, k4, s4⟩
  rcases hr : rInts bs t k4 s4 with ⟨f, k5, s5⟩
  rw [partRun_val ha hb hs ht hr] at h
  split at h
  case isFalse => cases h
  rename_i h1
  split at h
  case isFalse => cases h
  rename_i h2
  simp only [Option.some.injEq] at h
  subst h
  simp only at hz
  subst hz
  have hf := rInts_at hbb t k4 s4
  rw [hr] at hf
  simp only at hf
  have e4 : s4 = false := by
    cases s4 with
    | false => rfl
    | true => have := rInts_stop bs k4 t; rw [hr] at this; simp at this
  subst e4
  have e3 : s3 = false := by
    cases s3 with
    | false => rfl
    | true => rw [rCount_stop] at ht; simp at ht
  subst e3
  have e2 : s2 = false := by
    cases s2 with
    | false => rfl
    | true => rw [rBits_stop] at hs; simp at hs
  subst e2
  have e1 : s1 = false := by
    cases s1 with
    | false => rfl
    | true => rw [rNat_stop] at hb; simp at hb
  subst e1
  obtain ⟨g0, g1, g2⟩ := rNat_at hbb hk ha
  obtain ⟨_, b1, b2⟩ := rNat_at hbb g1.2.2 hb
  obtain ⟨_, c1, c2⟩ := rBits_at hbb b1.2.2 hs
  obtain ⟨_, d1, d2⟩ := rCount_at hbb c1.2.2 ht
  obtain ⟨_, f1⟩ := hf d1.2.2 trivial
  have hlen := rInts_len bs t k4 false
  rw [hr] at hlen
  simp only at hlen
  have ew : wrap64 (b : Int) = (b : Int) := by unfold wrap64 at h2 ⊢; omega
  refine ⟨⟨upOf a, wrap64 b, s, f, rfl, g0, by unfold upOf; omega, by unfold upOf; omega, h2, c2, ?_⟩, ?_⟩
  · have e5 : (upOf a + 1).toNat = a := by unfold upOf; omega
    have e6 : (wrap64 (b : Int)).toNat = b := by rw [ew]; omega
    rw [e5, e6]
    refine ((g1.trans b1).trans c1).trans ?_
    unfold listB
    rw [hlen]
    exact d1.trans f1
  · have hx := ints_same_r t k4 false (by rw [hr])
    rw [hr] at hx
    rw [xStep_val ha hb hs ht hx]
    have : xUp a = upOf a := by unfold xUp upOf; omega
    rw [this]
theorem ref_one {bs : List Int} {n : Nat} (hn : n ≤ 4096) {x : RSt} (hz : (xStep bs n x).2.2 = false) (hu : ∀ u ∈ (xStep bs n x).1.up, u < n) (hw : ∀ w ∈ (xStep bs n x).1.ws, 0 ≤ w) : partRun bs n 4 x = some (xStep bs n x) := by
  rcases ha : rNat bs x.2.1 x.2.2 with ⟨a, k1, s1⟩
  rcases hb : rNat bs k1 s1 with ⟨b, k2, s2⟩
  rcases hs : rBits bs k2 s2 n with ⟨s, k3, s3⟩
  rcases ht : rCount bs k3 s3 with ⟨t, k4, s4⟩
  rcases hr : xInts bs t k4 s4 with ⟨f, k5, s5⟩
  rw [xStep_val ha hb hs ht hr] at hz hu hw ⊢
  simp only at hz hu hw
  subst hz
  have h1 := hu (xUp a) (by simp)
  have h2 := hw (wrap64 b) (by simp)
  have h3 : a ≤ n := by unfold xUp at h1; omega
  have hx := ints_same_x t k4 s4 (by rw [hr])
  rw [hr] at hx
  rw [partRun_val ha hb hs ht hx, if_pos h3, if_pos h2]
  have : xUp a = upOf a := by unfold xUp upOf; omega
  rw [this]
theorem verts_front (bs : List Int) (n : Nat) : ∀ m x, verts bs n (m + 1) x = (partRun bs n 4 x).bind (verts bs n m)
  | 0, x => by simp only [verts, Option.bind_some]; cases partRun bs n 4 x <;> rfl
  | m + 1, x => by
    rw [verts, verts_front bs n m x]
    cases partRun bs n 4 x with
    | none => rfl
    | some y => simp only [Option.bind_some]; rfl
theorem xStep_stop (bs : List Int) (n : Nat) (x : RSt) (h : x.2.2 = true) : (xStep bs n x).2.2 = true := by
  have ha : rNat bs x.2.1 x.2.2 = (0, x.2.1, true) := by rw [h, rNat_stop]
  rw [xStep_val ha (rNat_stop bs _) (rBits_stop bs _ _) (rCount_stop bs _) (show xInts bs 0 x.2.1 true = _ from rfl)]
theorem xVerts_stopped (bs : List Int) (n m : Nat) (x : RSt) (h : x.2.2 = true) : (xVerts bs n m x).2.2 = true := by
  cases m with
  | zero => exact h
  | succ m => rw [xVerts, if_pos h]; exact h
/-- The reference's certificate as long as it does not stop, and what it began with. -/
theorem xVerts_more (bs : List Int) (n : Nat) : ∀ m (x : RSt), (∀ u ∈ x.1.up, u ∈ (xVerts bs n m x).1.up) ∧ (∀ w ∈ x.1.ws, w ∈ (xVerts bs n m x).1.ws)
  | 0, x => ⟨fun u h => h, fun w h => h⟩
  | m + 1, x => by
    rw [xVerts]
    split
    · exact ⟨fun u h => h, fun w h => h⟩
    · have ih := xVerts_more bs n m (xStep bs n x)
      exact ⟨fun u h => ih.1 u (by simp [xStep, h]), fun w h => ih.2 w (by simp [xStep, h])⟩
theorem ref_verts {bs : List Int} {n : Nat} (hn : n ≤ 4096) : ∀ m (x : RSt), (xVerts bs n m x).2.2 = false → (∀ u ∈ (xVerts bs n m x).1.up, u < n) → (∀ w ∈ (xVerts bs n m x).1.ws, 0 ≤ w) → verts bs n m x = some (xVerts bs n m x) ∧ (xVerts bs n m x).1.up.length = x.1.up.length + m
  | 0, x, _, _, _ => ⟨rfl, rfl⟩
  | m + 1, x, hz, hu, hw => by
    rw [xVerts] at hz hu hw ⊢
    by_cases hx : x.2.2 = true
    · rw [if_pos hx] at hz
      rw [hx] at hz; cases hz
    · rw [if_neg hx] at hz hu hw ⊢
      have hm := xVerts_more bs n m (xStep bs n x)
      have hst : (xStep bs n x).2.2 = false := by
        cases h : (xStep bs n x).2.2 with
        | false => rfl
        | true => rw [xVerts_stopped bs n m _ h] at hz; cases hz
      have h1 := ref_one hn hst (fun u h => hu u (hm.1 u h)) (fun w h => hw w (hm.2 w h))
      obtain ⟨h2, h3⟩ := ref_verts hn m (xStep bs n x) hz hu hw
      refine ⟨by rw [verts_front, h1]; exact h2, ?_⟩
      rw [h3]
      simp [xStep]
      omega
end Code.Cert
end Go.Proofs.Ytmkbinbggiocaaa

set_option linter.unusedVariables false
set_option linter.unusedSimpArgs false
namespace Go.Proofs.Ytmkbinbggiocaaa
open Go.RowKit
namespace Code.Cert
theorem partRun_halt {bs : List Int} {n : Nat} {x z : RSt} (h : partRun bs n 4 x = some z) (hx : x.2.2 = true) : z.2.2 = true := by
  have ha : rNat bs x.2.1 x.2.2 = (0, x.2.1, true) := by rw [hx, rNat_stop]
  rw [partRun_val ha (rNat_stop bs _) (rBits_stop bs _ _) (rCount_stop bs _) (show rInts bs 0 x.2.1 true = _ from rfl)] at h
  split at h
  · split at h
    · simp only [Option.some.injEq] at h
      rw [← h]
    · cases h
  · cases h
theorem verts_halt {bs : List Int} {n : Nat} : ∀ m (x y : RSt), verts bs n m x = some y → x.2.2 = true → y.2.2 = true
  | 0, x, y, h, hx => by simp only [verts, Option.some.injEq] at h; rw [← h]; exact hx
  | m + 1, x, y, h, hx => by
    rw [verts_front] at h
    cases hp : partRun bs n 4 x with
    | none => rw [hp] at h; cases h
    | some z =>
      rw [hp] at h
      exact verts_halt m z y h (partRun_halt hp hx)
theorem prog_verts {bs : List Int} (hbb : ∀ x ∈ bs, 0 ≤ x ∧ x < 256) {n : Nat} (hn : n ≤ 4096) : ∀ m (x y : RSt), x.2.1 ≤ bs.length → verts bs n m x = some y → y.2.2 = false → xVerts bs n m x = y
  | 0, x, y, _, h, _ => by simp only [verts, Option.some.injEq] at h; rw [← h]; rfl
  | m + 1, x, y, hk, h, hy => by
    rw [verts_front] at h
    cases hp : partRun bs n 4 x with
    | none => rw [hp] at h; cases h
    | some z =>
      rw [hp] at h
      have hz : z.2.2 = false := by
        cases hz : z.2.2 with
        | false => rfl
        | true => have := verts_halt m z y h hz; rw [hy] at this; cases this
      obtain ⟨⟨u, w, s, f, ho⟩, hx⟩ := prog_one hbb hn hk hp hz
      rw [xVerts, if_neg (by rw [ho.go]; simp), hx]
      exact prog_verts hbb hn m z y ho.at_.2.2 h hy
structure VInv (bs : List Int) (n k0 i : Nat) (z : RSt) : Prop where
  l0 : z.1.up.length = i
  l1 : z.1.ws.length = i
  l2 : z.1.sides.length = i
  l3 : z.1.flows.length = i
  it : ∀ v, v < i → bitsOk n (z.1.sides.getD v []) = true ∧ -1 ≤ z.1.up.getD v 0 ∧ z.1.up.getD v 0 < n ∧ 0 ≤ z.1.ws.getD v 0
  at_ : At bs k0 ((List.range i).flatMap (vertN n z.1)) z.2.1
theorem getD_left {α : Type} {l : List α} {x d : α} {v : Nat} (h : v < l.length) : (l ++ [x]).getD v d = l.getD v d := by
  rw [List.getD_eq_getElem?_getD, List.getElem?_append_left h, List.getD_eq_getElem?_getD]
theorem getD_last {α : Type} {l : List α} {x d : α} {v : Nat} (h : l.length = v) : (l ++ [x]).getD v d = x := by
  subst h
  rw [List.getD_eq_getElem?_getD, List.getElem?_concat_length]; rfl
theorem flatMap_range {f g : Nat → List Int} : ∀ i, (∀ v, v < i → f v = g v) → (List.range i).flatMap f = (List.range i).flatMap g
  | 0, _ => rfl
  | i + 1, h => by
    rw [List.range_succ, List.flatMap_append, List.flatMap_append, flatMap_range i (fun v hv => h v (by omega))]
    simp [h i (by omega)]
theorem verts_inv {bs : List Int} (hbb : ∀ x ∈ bs, 0 ≤ x ∧ x < 256) {n k0 : Nat} {s0 : Bool} (hn : n ≤ 4096) (hk : k0 ≤ bs.length) : ∀ i (z : RSt), verts bs n i (noneC, k0, s0) = some z → z.2.2 = false → VInv bs n k0 i z
  | 0, z, h, _ => by
    simp only [verts, Option.some.injEq] at h
    subst h
    exact ⟨rfl, rfl, rfl, rfl, fun v hv => by omega, by simpa using At.nil hk⟩
  | i + 1, z, h, hz => by
    rw [verts] at h
    cases hv : verts bs n i (noneC, k0, s0) with
    | none => rw [hv] at h; cases h
    | some y =>
      rw [hv] at h
      simp only [Option.bind_some] at h
      have hy : y.2.2 = false := by
        cases hy : y.2.2 with
        | false => rfl
        | true => have := partRun_halt h hy; rw [hz] at this; cases this
      have ih := verts_inv hbb hn hk i y hv hy
      obtain ⟨⟨u, w, s, f, ho⟩, _⟩ := prog_one hbb hn ih.at_.2.2 h hz
      have e := ho.eq
      refine ⟨by rw [e]; simp [ih.l0], by rw [e]; simp [ih.l1], by rw [e]; simp [ih.l2], by rw [e]; simp [ih.l3], fun v hv2 => ?_, ?_⟩
      · rw [e]
        simp only
        rcases Nat.lt_or_ge v i with h1 | h1
        · have g1 := getD_left (x := s) (d := []) (show v < y.1.sides.length by rw [ih.l2]; exact h1)
          have g2 := getD_left (x := u) (d := 0) (show v < y.1.up.length by rw [ih.l0]; exact h1)
          have g3 := getD_left (x := w) (d := 0) (show v < y.1.ws.length by rw [ih.l1]; exact h1)
          rw [g1, g2, g3]
          exact ih.it v h1
        · have hvi : i = v := by omega
          have g1 := getD_last (x := s) (d := []) (show y.1.sides.length = v by rw [ih.l2]; exact hvi)
          have g2 := getD_last (x := u) (d := 0) (show y.1.up.length = v by rw [ih.l0]; exact hvi)
          have g3 := getD_last (x := w) (d := 0) (show y.1.ws.length = v by rw [ih.l1]; exact hvi)
          rw [g1, g2, g3]
          exact ⟨ho.ok, ho.u0, ho.u1, ho.w0⟩
      · rw [List.range_succ, List.flatMap_append]
        have e1 : (List.range i).flatMap (vertN n z.1) = (List.range i).flatMap (vertN n y.1) := flatMap_range i (fun v h1 => by
          unfold vertN
          rw [e]
          simp only
          have g1 := getD_left (x := s) (d := []) (show v < y.1.sides.length by rw [ih.l2]; exact h1)
          have g2 := getD_left (x := u) (d := 0) (show v < y.1.up.length by rw [ih.l0]; exact h1)
          have g3 := getD_left (x := w) (d := 0) (show v < y.1.ws.length by rw [ih.l1]; exact h1)
          have g4 := getD_left (x := f) (d := []) (show v < y.1.flows.length by rw [ih.l3]; exact h1)
          rw [g1, g2, g3, g4])
        have e2 : vertN n z.1 i = natB (u + 1).toNat ++ natB w.toNat ++ bitsB (wideN n) s ++ listB signN f := by
          unfold vertN
          rw [e]
          simp only
          rw [getD_last ih.l0, getD_last ih.l1, getD_last ih.l2, getD_last ih.l3]
        rw [e1]
        refine ih.at_.trans ?_
        simp only [List.flatMap_cons, List.flatMap_nil, List.append_nil]
        rw [e2]
        exact ho.at_
theorem rMark_ok {bs : List Int} {k : Nat} (h : rMark bs 0 false headB = (k, false)) : k ≤ bs.length ∧ bs.take k = headB := by
  unfold rMark at h
  split at h
  · simp at h
  · rename_i hp
    simp only [Prod.mk.injEq, and_true] at h
    have h2 : isPre (bs.drop 0) headB = true := by simpa using hp
    have hl := isPre_len h2
    rw [List.drop_zero] at hl h2
    simp only [isPre, decide_eq_true_eq] at h2
    have h4 : headB.length = 4 := rfl
    exact ⟨by omega, by rw [← h, Nat.zero_add]; exact h2.symm⟩
theorem dec_sound {bs : List Int} (hbb : ∀ x ∈ bs, 0 ≤ x ∧ x < 256) {c : CertV} (h : decP bs = some c) : rightB c = true ∧ encB c = bs ∧ decR bs = some c := by
  unfold decP at h
  unfold decR
  rcases hm : rMark bs 0 false headB with ⟨k1, s1⟩
  rcases ha : rNat bs k1 s1 with ⟨n, k2, s2⟩
  simp only [hm, ha] at h ⊢
  split at h
  case isFalse => cases h
  rename_i hn
  cases hv : verts bs n n (noneC, k2, s2) with
  | none => rw [hv] at h; cases h
  | some y =>
    rw [hv] at h
    simp only [Option.bind_some] at h
    split at h
    case isFalse => cases h
    rename_i he
    simp only [Option.some.injEq] at h
    have hy : y.2.2 = false ∧ ¬ y.2.1 < bs.length := by
      unfold rEnd at he
      split at he
      · cases he
      · rename_i hc
        simpa using hc
    have e2 : s2 = false := by
      cases s2 with
      | false => rfl
      | true => have := verts_halt n _ y hv rfl; rw [hy.1] at this; cases this
    subst e2
    have e1 : s1 = false := by
      cases s1 with
      | false => rfl
      | true => rw [rNat_stop] at ha; simp at ha
    subst e1
    obtain ⟨m1, m2⟩ := rMark_ok hm
    obtain ⟨_, a1, _⟩ := rNat_at hbb m1 ha
    have hi := verts_inv hbb hn a1.2.2 n y hv hy.1
    have hx := prog_verts hbb hn n (noneC, k2, false) y a1.2.2 hv hy.1
    have hall : y.2.1 = bs.length := by have := hi.at_.2.2; omega
    have hr : rightB y.1 = true := (right_iff y.1).2 ⟨by
      unfold lens
      rw [hi.l0, hi.l1, hi.l2, hi.l3]
      simpa using hn, fun v hv2 => by
      rw [hi.l0] at hv2
      obtain ⟨h1, h2, h3, h4⟩ := hi.it v hv2
      unfold item
      rw [hi.l0, h1, decide_eq_true h2, decide_eq_true h3, decide_eq_true h4]
      rfl⟩
    have hen : encB y.1 = bs := by
      have h1 := hi.at_.2.1
      rw [hall, List.take_length, a1.2.1, m2] at h1
      unfold encB encTo
      rw [hi.l0]
      have : vertB y.1 = vertN n y.1 := by
        funext v
        unfold vertB vertN
        rw [hi.l0]
      rw [this]
      exact h1.symm
    rw [← h]
    refine ⟨hr, hen, ?_⟩
    rw [if_neg (by simp; omega), hx, if_pos ⟨he, hr, hen⟩]
theorem xVerts_len {bs : List Int} {n : Nat} : ∀ m (x : RSt), (xVerts bs n m x).2.2 = false → (xVerts bs n m x).1.up.length = x.1.up.length + m
  | 0, x, _ => rfl
  | m + 1, x, h => by
    rw [xVerts] at h ⊢
    by_cases hx : x.2.2 = true
    · rw [if_pos hx, hx] at h; cases h
    · rw [if_neg hx] at h ⊢
      rw [xVerts_len m _ h]
      simp [xStep]
      omega
theorem dec_same {bs : List Int} (hbb : ∀ x ∈ bs, 0 ≤ x ∧ x < 256) : decR bs = decP bs := by
  cases hp : decP bs with
  | some c => exact (dec_sound hbb hp).2.2
  | none =>
    cases hr : decR bs with
    | none => rfl
    | some c =>
      exfalso
      unfold decR at hr
      unfold decP at hp
      rcases hm : rMark bs 0 false headB with ⟨k1, s1⟩
      rcases ha : rNat bs k1 s1 with ⟨n, k2, s2⟩
      simp only [hm, ha] at hr hp
      split at hr
      case isTrue => cases hr
      rename_i hn
      split at hr
      case isFalse => cases hr
      rename_i hy
      obtain ⟨he, hri, _⟩ := hy
      have hst : (xVerts bs n n (noneC, k2, s2)).2.2 = false := by
        unfold rEnd at he
        split at he
        · cases he
        · rename_i hc
          simp only [Bool.or_eq_true, not_or, Bool.not_eq_true] at hc
          exact hc.1
      have hl := xVerts_len n (noneC, k2, s2) hst
      simp only [noneC, List.length_nil, Nat.zero_add] at hl
      have hri2 := (right_iff _).1 hri
      have hlens := right_lens hri
      have hu : ∀ u ∈ (xVerts bs n n (noneC, k2, s2)).1.up, u < n := fun u hu => by
        obtain ⟨v, hv, rfl⟩ := List.getElem_of_mem hu
        have := (right_at hri (v := v) hv).2.2.1
        rw [List.getD_eq_getElem?_getD, List.getElem?_eq_getElem hv] at this
        simp only [Option.getD_some] at this
        simp only [noneC] at hl this ⊢
        omega
      have hw : ∀ w ∈ (xVerts bs n n (noneC, k2, s2)).1.ws, 0 ≤ w := fun w hw => by
        obtain ⟨v, hv, rfl⟩ := List.getElem_of_mem hw
        have := (right_at hri (v := v) (by omega)).2.2.2
        rw [List.getD_eq_getElem?_getD, List.getElem?_eq_getElem hv] at this
        simpa using this
      have hv := (ref_verts (by omega) n (noneC, k2, s2) hst hu hw).1
      rw [if_pos (by omega), hv] at hp
      simp only [Option.bind_some] at hp
      rw [if_pos he] at hp
      cases hp
end Code.Cert
end Go.Proofs.Ytmkbinbggiocaaa

set_option linter.unusedVariables false
set_option linter.unusedSimpArgs false
namespace Go.Proofs.Ytmkbinbggiocaaa
open Go.RowKit
namespace Code.Cert
theorem At.drop {bs zs : List Int} {k k' : Nat} (h : At bs k zs k') : bs.drop k = zs ++ bs.drop k' := by
  obtain ⟨h1, h2, h3⟩ := h
  have e : bs.take k ++ (zs ++ bs.drop k') = bs := by rw [← List.append_assoc, ← h2, List.take_append_drop]
  have hl : (bs.take k).length = k := by rw [List.length_take]; omega
  have := List.drop_left' (l₂ := zs ++ bs.drop k') hl
  rwa [e] at this
theorem At.split {bs ys zs : List Int} {k k' : Nat} (h : At bs k (ys ++ zs) k') : ∃ k1, At bs k ys k1 ∧ At bs k1 zs k' := by
  obtain ⟨h1, h2, h3⟩ := h
  rw [List.length_append] at h1
  have hl : (bs.take k ++ ys).length = k + ys.length := by rw [List.length_append, List.length_take]; omega
  have e : bs.take (k + ys.length) = bs.take k ++ ys := by
    have h4 : (bs.take k').take (k + ys.length) = bs.take (k + ys.length) := by rw [List.take_take]; congr 1; omega
    rw [← h4, h2, ← List.append_assoc, List.take_left' hl]
  exact ⟨k + ys.length, ⟨rfl, e, by omega⟩, ⟨by omega, by rw [h2, e, List.append_assoc], h3⟩⟩
theorem rNat_fwd {bs : List Int} {k k' n : Nat} (h : At bs k (natB n) k') (hn : n < 18446744073709551616) : rNat bs k false = (n, k', false) := by
  unfold rNat
  rw [if_neg (by simp), h.drop, natP_back n hn, h.1]
theorem rCount_fwd {bs : List Int} {k k' n : Nat} (h : At bs k (natB n) k') (hn : n < 18446744073709551616) (hc : n ≤ bs.length - k') : rCount bs k false = (n, k', false) := by
  unfold rCount
  rw [if_neg (by simp), h.drop, natP_back n hn, h.1]
  simp only
  rw [if_pos (by have := h.1; omega)]
theorem rInts_fwd {bs : List Int} : ∀ (l : List Int) {k k' : Nat}, (∀ x ∈ l, -9223372036854775808 ≤ x ∧ x ≤ 9223372036854775807) → At bs k (l.flatMap fun x => natB (signN x)) k' → rInts bs l.length k false = (l, k', false)
  | [], k, k', _, h => by
    have := h.1
    simp at this
    subst this; rfl
  | x :: l, k, k', hb, h => by
    rw [List.flatMap_cons] at h
    obtain ⟨k1, g1, g2⟩ := h.split
    have hx := hb x (by simp)
    rw [List.length_cons, rInts_front, rNat_fwd g1 (signN_lt x hx.1 hx.2)]
    simp only
    rw [rInts_fwd l (fun y hy => hb y (by simp [hy])) g2, unsign_signN]
theorem rBits_fwd {bs l : List Int} {k k' : Nat} {N : Int} (hok : bitsOk N l = true) (h : At bs k (bitsB (wideN N) l) k') : rBits bs k false N = (l, k', false) := by
  simp only [bitsOk, Bool.and_eq_true, decide_eq_true_eq] at hok
  obtain ⟨⟨h0, h1⟩, hrise⟩ := hok
  rw [rises_iff] at hrise
  obtain ⟨hris, hrng⟩ := hrise
  have hset : setFrom 0 ((bs.drop k).take (wideN N)) = l := by
    rw [h.drop, List.take_left' (bitsB_len _ _)]
    have := setFrom_bitsB (wideN N) l hris (fun x hx => ⟨by have := (hrng x hx).1; omega, by have := (hrng x hx).1; have := (hrng x hx).2; unfold wideN; omega⟩) l.length (Nat.le_refl _)
    rwa [List.take_length] at this
  have hlo : lastOk N l = true := by
    unfold lastOk
    cases hx : l.getLast? with
    | none => rfl
    | some x =>
      simp only [decide_eq_true_eq]
      exact (hrng x (List.mem_of_getLast? hx)).2
  have hl := h.1
  rw [bitsB_len] at hl
  unfold rBits
  rw [hset, hlo, if_neg (by have := h.2.2; omega), ← hl]
  simp
theorem part_fwd {bs : List Int} {n k k' : Nat} {u w : Int} {s f : List Int} (d : CertV) (hn : n ≤ 4096) (u0 : -1 ≤ u) (u1 : u < n) (w0 : 0 ≤ w) (w1 : w ≤ 9223372036854775807) (hok : bitsOk n s = true) (hf : f.length ≤ 10000 ∧ ∀ x ∈ f, -9223372036854775808 ≤ x ∧ x ≤ 9223372036854775807)
    (h : At bs k (natB (u + 1).toNat ++ natB w.toNat ++ bitsB (wideN n) s ++ listB signN f) k') : partRun bs n 4 (d, k, false) = some (⟨d.up ++ [u], d.ws ++ [w], d.sides ++ [s], d.flows ++ [f]⟩, k', false) := by
  obtain ⟨k3, h, g4⟩ := h.split
  obtain ⟨k2, h, g3⟩ := h.split
  obtain ⟨k1, g1, g2⟩ := h.split
  obtain ⟨k4, g4, g5⟩ := (show At bs k3 (natB f.length ++ f.flatMap fun x => natB (signN x)) k' from g4).split
  have hfl := flat_ge f
  have e1 := g5.1
  have e2 := g5.2.2
  rw [partRun_val (rNat_fwd g1 (by omega)) (rNat_fwd g2 (by omega)) (rBits_fwd hok g3) (rCount_fwd g4 (by omega) (by omega)) (rInts_fwd f hf.2 g5)]
  have e3 : wrap64 ((w.toNat : Nat) : Int) = w := by unfold wrap64; omega
  have e4 : upOf (u + 1).toNat = u := by unfold upOf; omega
  rw [e3, e4, if_pos (by omega), if_pos w0]
theorem take_one {α : Type} {l : List α} {i : Nat} (d : α) (h : i < l.length) : l.take i ++ [l.getD i d] = l.take (i + 1) := by
  rw [List.take_add_one, List.getElem?_eq_getElem h, List.getD_eq_getElem?_getD, List.getElem?_eq_getElem h]; rfl
theorem verts_fwd {bs : List Int} {c : CertV} {k0 : Nat} (hr : rightB c = true) (hf : Fits c) : ∀ i k', i ≤ c.up.length → At bs k0 ((List.range i).flatMap (vertB c)) k' → verts bs c.up.length i (noneC, k0, false) = some (⟨c.up.take i, c.ws.take i, c.sides.take i, c.flows.take i⟩, k', false)
  | 0, k', _, h => by
    have := h.1
    simp at this
    subst this; simp [verts, noneC]
  | i + 1, k', hi, h => by
    rw [List.range_succ, List.flatMap_append] at h
    obtain ⟨k1, g1, g2⟩ := h.split
    simp only [List.flatMap_cons, List.flatMap_nil, List.append_nil] at g2
    rw [verts, verts_fwd hr hf i k1 (by omega) g1]
    simp only [Option.bind_some]
    obtain ⟨l1, l2, l3, l4⟩ := right_lens hr
    obtain ⟨q1, q2, q3, q4⟩ := right_at hr (v := i) (by omega)
    rw [part_fwd _ l1 q2 q3 q4 (hf.ws _ (getD_mem 0 (by omega))).2 q1 (hf.fl _ (getD_mem [] (by omega))) g2]
    rw [← take_one 0 (l := c.up) (by omega), ← take_one 0 (l := c.ws) (by omega), ← take_one [] (l := c.sides) (by omega), ← take_one [] (l := c.flows) (by omega)]
theorem dec_enc {c : CertV} (hr : rightB c = true) (hf : Fits c) : decP (encB c) = some c := by
  obtain ⟨l1, l2, l3, l4⟩ := right_lens hr
  have h0 : At (encB c) 0 (encB c) (encB c).length := ⟨by simp, by simp, Nat.le_refl _⟩
  generalize hE : encB c = bs at *
  have h1 : At bs 0 (headB ++ natB c.up.length ++ (List.range c.up.length).flatMap (vertB c)) bs.length := by
    have : headB ++ natB c.up.length ++ (List.range c.up.length).flatMap (vertB c) = bs := by rw [← hE]; rfl
    rw [this]; exact h0
  obtain ⟨k2, h2, g3⟩ := h1.split
  obtain ⟨k1, g1, g2⟩ := h2.split
  have hm : rMark bs 0 false headB = (k1, false) := by
    have e := g1.drop
    unfold rMark
    have hp : isPre (bs.drop 0) headB = true := by
      rw [e]
      unfold isPre
      rw [List.take_left' rfl]
      simp
    rw [hp]
    simp only [Bool.false_or, Bool.not_true, Bool.false_eq_true, if_false]
    rw [g1.1]
  unfold decP
  simp only [hm, rNat_fwd g2 (show c.up.length < 18446744073709551616 by omega)]
  rw [if_pos l1, verts_fwd hr hf _ _ (Nat.le_refl _) g3]
  simp only [Option.bind_some]
  have he : rEnd bs bs.length false = 0 := by unfold rEnd; simp
  rw [if_pos he]
  simp only [Option.some.injEq]
  have t1 : c.up.take c.up.length = c.up := List.take_length
  have t2 : c.ws.take c.up.length = c.ws := by rw [← l2, List.take_length]
  have t3 : c.sides.take c.up.length = c.sides := by rw [← l3, List.take_length]
  have t4 : c.flows.take c.up.length = c.flows := by rw [← l4, List.take_length]
  rw [t1, t2, t3, t4]
/-- The bytes of a certificate that is not wide are few. -/
theorem vertB_len {c : CertV} (hr : rightB c = true) (hf : Fits c) (hw : wideB c = false) {v : Nat} (hv : v < c.up.length) : (vertB c v).length ≤ 1100 := by
  obtain ⟨l1, l2, l3, l4⟩ := right_lens hr
  obtain ⟨q1, q2, q3, q4⟩ := right_at hr hv
  have h40 := (wide_no hw).1
  have hl := (wide_no hw).2.2.2.2.2 _ (getD_mem (l := c.flows) [] (k := v) (by omega))
  have hx := (hf.fl _ (getD_mem (l := c.flows) [] (k := v) (by omega))).2
  have hw1 := (hf.ws _ (getD_mem (l := c.ws) 0 (k := v) (by omega))).2
  have a1 := natB_len10 (n := (c.up.getD v 0 + 1).toNat) (by omega)
  have a2 := natB_len10 (n := (c.ws.getD v 0).toNat) (by omega)
  have a3 := natB_len10 (n := (c.flows.getD v []).length) (by omega)
  have a4 := flatB_len signN (c.flows.getD v []) (fun x h => signN_lt x (hx x h).1 (hx x h).2)
  unfold vertB listB
  simp only [List.length_append, bitsB_len]
  have a5 : wideN (c.up.length : Int) ≤ 6 := by unfold wideN; omega
  omega
theorem flat_len {f : Nat → List Int} {b : Nat} : ∀ i, (∀ v, v < i → (f v).length ≤ b) → ((List.range i).flatMap f).length ≤ b * i
  | 0, _ => by simp
  | i + 1, h => by
    rw [List.range_succ, List.flatMap_append, List.length_append]
    have := flat_len i (fun v hv => h v (by omega))
    have := h i (by omega)
    simp only [List.flatMap_cons, List.flatMap_nil, List.append_nil]
    rw [Nat.mul_add]; omega
theorem enc_len {c : CertV} (hr : rightB c = true) (hf : Fits c) (hw : wideB c = false) : (encB c).length ≤ 1000000 := by
  have h40 := (wide_no hw).1
  have h := flat_len (f := vertB c) (b := 1100) c.up.length (fun v hv => vertB_len hr hf hw hv)
  have a1 := natB_len10 (n := c.up.length) (by omega)
  unfold encB encTo
  have h4 : headB.length = 4 := rfl
  rw [List.length_append, List.length_append, h4]
  omega
theorem enc_byte {c : CertV} (hr : rightB c = true) : ∀ x ∈ encB c, 0 ≤ x ∧ x < 256 := by
  intro x hx
  unfold encB encTo at hx
  simp only [List.mem_append, List.mem_flatMap, List.mem_range] at hx
  rcases hx with (hx | hx) | ⟨v, hv, hx⟩
  · simp only [headB, List.mem_cons, List.not_mem_nil, or_false] at hx; omega
  · exact natB_byte _ x hx
  · have hok := (right_at hr hv).1
    simp only [bitsOk, Bool.and_eq_true, decide_eq_true_eq] at hok
    obtain ⟨⟨h0, h1⟩, hrise⟩ := hok
    rw [rises_iff] at hrise
    unfold vertB listB at hx
    simp only [List.mem_append, List.mem_flatMap] at hx
    rcases hx with ((hx | hx) | hx) | hx | ⟨y, _, hx⟩
    · exact natB_byte _ x hx
    · exact natB_byte _ x hx
    · exact bitsB_byte hrise.1 (fun y hy => by have := (hrise.2 y hy).1; omega) x hx
    · exact natB_byte _ x hx
    · exact natB_byte _ x hx
/-- What is read goes into 64 bits. -/
theorem dec_fits {bs : List Int} (hbb : ∀ x ∈ bs, 0 ≤ x ∧ x < 256) (hlen : bs.length ≤ 10000) {c : CertV} (h : decP bs = some c) : Fits c := by
  rw [← dec_same hbb] at h
  unfold decR at h
  simp only at h
  split at h
  · cases h
  · split at h
    · simp only [Option.some.injEq] at h
      rw [← h]
      exact fits_verts hbb hlen _ _ (show Fits noneC from ⟨by simp [noneC], by simp [noneC]⟩)
    · cases h
end Code.Cert
end Go.Proofs.Ytmkbinbggiocaaa
