/- Certificates: Encode of the program. Certificates: Encode of the reference. Whether two certificates are the same: the program's way and the reference's. Same of certificates, by the program and by the reference; wide. wide: is a certificate too great for a statement? -/
import Derived.Lib.SlBytesConst
import Derived.Lib.SmallJoins
import Derived.Laws.EntriesVeiled
import Derived.ArgAppend
import Derived.Test.YtmkbinbggiocaaaMRowCertReads5
set_option linter.unusedVariables false
set_option linter.unusedSimpArgs false
namespace Go.Proofs.Ytmkbinbggiocaaa
open Go.RowKit
namespace Code.Cert
def partB (c : CertV) (v : Nat) : Nat → List Int
  | 0 => natB (c.up.getD v 0 + 1).toNat
  | 1 => natB (c.ws.getD v 0).toNat
  | 2 => bitsB (wideN c.up.length) (c.sides.getD v [])
  | _ => listB signN (c.flows.getD v [])
def vertTo (c : CertV) (v j : Nat) : List Int := (List.range j).flatMap (partB c v)
theorem vertTo_succ (c : CertV) (v j : Nat) : vertTo c v (j + 1) = vertTo c v j ++ partB c v j := by
  unfold vertTo; rw [List.range_succ, List.flatMap_append]; simp
theorem vertTo_four (c : CertV) (v : Nat) : vertTo c v 4 = vertB c v := by simp [vertTo, vertB, List.range_succ, partB]
theorem partB_len {c : CertV} (hr : rightB c = true) (hf : Fits c) {v : Nat} (hv : v < c.up.length) (j : Nat) : (partB c v j).length ≤ 100010 := by
  obtain ⟨h0, h1, h2, h3⟩ := right_lens hr
  obtain ⟨k1, k2, k3, k4⟩ := right_at hr hv
  have hw := (hf.ws _ (getD_mem 0 (show v < c.ws.length by omega))).2
  have hfl := hf.fl _ (getD_mem [] (show v < c.flows.length by omega))
  unfold partB
  split
  · have := natB_len10 (n := (c.up.getD v 0 + 1).toNat) (by omega); omega
  · have := natB_len10 (n := (c.ws.getD v 0).toNat) (by omega); omega
  · rw [bitsB_len]; unfold wideN; omega
  · have := listB_len signN (c.flows.getD v []) (fun x hx => signN_lt x (hfl.2 x hx).1 (hfl.2 x hx).2) hfl.1
    omega
theorem vertTo_len {c : CertV} (hr : rightB c = true) (hf : Fits c) {v : Nat} (hv : v < c.up.length) : ∀ j, (vertTo c v j).length ≤ 100010 * j
  | 0 => by simp [vertTo]
  | j + 1 => by rw [vertTo_succ, List.length_append]; have := vertTo_len hr hf hv j; have := partB_len hr hf hv j; omega
theorem encTo_len {c : CertV} (hr : rightB c = true) (hf : Fits c) : ∀ k, k ≤ c.up.length → (encTo c k).length ≤ 14 + 400040 * k
  | 0, _ => by
    have := natB_len10 (n := c.up.length) (by have := (right_lens hr).1; omega)
    simp [encTo, headB]; omega
  | k + 1, h => by
    rw [encTo_succ, List.length_append, ← vertTo_four]
    have := encTo_len hr hf k (by omega)
    have := vertTo_len hr hf (v := k) (by omega) 4
    omega
theorem rd_const (w : World) (l : List Int) (fr : Nat × Nat) (hl : l.length ≤ 1000) : Rd (w.alloc (.cells (u8s l).toArray 5 fr)) 1 (.slice (some ⟨w.heap.size, 0, none⟩) l.length l.length) l.length (u8s l) := by
  refine ⟨by rw [u8s_length]; omega, .inr ⟨_, _, rfl, Nat.le_refl _, by simp only [maxLen]; omega, fun j u hu => ?_⟩⟩
  rw [Addr.add_lit, Nat.zero_add, World.cell?_alloc_mark]
  simpa using hu
def EncOut (c : CertV) (w : World) (e : Ending) (w' : World) : Prop :=
  if rightB c then ∃ a cp, e = .returned (.tuple #[.slice a (encB c).length cp, .int .i64 0]) ∧ Made w w' 5 1 a (encB c).length cp (u8s (encB c))
  else e = .returned (.tuple #[.slice none 0 0, .int .i64 1]) ∧ Mod [] w w'
theorem put_any {w : World} {B i j : Nat} {c : CertV} (h : Box w B 128 c) (hr : rightB c = true) (hf : Fits c) (hi : i < c.up.length) (hj : j < 4) :
    ∃ f, partsV[j * 2]? = some (.func (.func f) #[] #[]) ∧ f = 175 + 2 * j ∧ Calls Try.prog f #[.slice none 0 0, .pointer (some ⟨B, 0, none⟩), .int .i64 i] w (MadeOut 5 1 (partB c i j).length (u8s (partB c i j)) w) := by
  rcases j with _ | _ | _ | _ | j
  · exact ⟨_, rfl, rfl, put1 h hr hi⟩
  · exact ⟨_, rfl, rfl, put2 h hr hf hi⟩
  · exact ⟨_, rfl, rfl, put3 h hr hi⟩
  · exact ⟨_, rfl, rfl, put4 h hr hf hi⟩
  · omega
theorem parts_odd {j : Nat} (hj : j < 4) : ∃ f, partsV[j * 2 + 1]? = some (.func (.func f) #[] #[]) := by
  rcases j with _ | _ | _ | _ | j
  · exact ⟨_, rfl⟩
  · exact ⟨_, rfl⟩
  · exact ⟨_, rfl⟩
  · exact ⟨_, rfl⟩
  · omega
/-- A block beside a row that grows. -/
theorem beside {w w5 wA : World} {gp : Nat} {cs : List Value} {t : TypeId} {v v' : Value} (h : Has w gp cs t) (m : Mod [] w w5) (hv : ∀ g, v.ownBlock = some g → g ≠ gp) (mA : Mod v.ownBlock.toList w5 wA)
    (vA : v'.ownBlock = v.ownBlock ∨ ∃ b, v'.ownBlock = some b ∧ w5.heap.size ≤ b) : Has wA gp cs t ∧ ∀ g, v'.ownBlock = some g → g ≠ gp := by
  have hl := h.lt
  have hs := m.size
  refine ⟨(h.keep m (by simp)).keep mA (fun hm => hv gp (by simpa using hm) rfl), fun g hg => ?_⟩
  rcases vA with e | ⟨b, hb, hle⟩
  · rw [e] at hg; exact hv g hg
  · rw [hg] at hb
    simp only [Option.some.injEq] at hb
    omega
set_option maxRecDepth 100000 in
set_option maxHeartbeats 4000000 in
theorem encode_no {w : World} {vu vw vs vf : Value} (c : CertV) (h : CRep w vu vw vs vf c) (hr : rightB c = false) :
    Calls Try.prog 87 #[.agg #[vu, vw, vs, vf]] w (EncOut c w) := by
  have hcall := right_prog c (h.still ((Mod.refl [] w).alloc (.cells #[vu, vw, vs, vf] 128)))
  rw [hr] at hcall
  have hcall' := Lib.hid hcall
  have hm := Lib.hid ((Mod.refl [] w).alloc (.cells #[vu, vw, vs, vf] 128))
  have hout : Hid (∀ w', Mod [] w w' → EncOut c w (.returned (.tuple #[.slice none 0 0, .int .i64 1])) w') := fun w' m => by unfold EncOut; rw [hr]; exact ⟨rfl, m⟩
  clear h hr hcall
  go_enter Try.func87, Try.ntmps87
  go_wp2_with fail
  refine hcall'.out.mono ?_
  rintro e w1 ⟨rfl, hm1⟩
  dsimp only
  have hf := Lib.hid (hout.out _ (hm.out.trans hm1 (by simp)))
  clear hm1 hcall'
  go_wp2_with fail
  go_ret2
  exact hf.out
set_option maxRecDepth 100000 in
set_option maxHeartbeats 8000000 in
theorem encode_yes {w : World} {vu vw vs vf : Value} (c : CertV) (h : CRep w vu vw vs vf c) (hr : rightB c = true) (hf : Fits c) :
    Calls Try.prog 87 #[.agg #[vu, vw, vs, vf]] w (EncOut c w) := by
  obtain ⟨au, cu, aw, cw, sa, cs, af, cf, rfl, rfl, rfl, rfl⟩ := h.vals
  obtain ⟨wb, hwb⟩ : ∃ wb, wb = w.alloc (.cells #[.slice au c.up.length cu, .slice aw c.ws.length cw, .slice sa c.sides.length cs, .slice af c.flows.length cf] 128) := ⟨_, rfl⟩
  obtain ⟨B, hB⟩ : ∃ B, B = w.heap.size := ⟨_, rfl⟩
  have hmw : Mod [] w wb := by rw [hwb]; exact (Mod.refl [] w).alloc _
  have hbox : Box wb B 128 c := ⟨au, cu, aw, cw, sa, cs, af, cf, by rw [hwb, hB]; exact Has.new w _ _, h.still hmw⟩
  have hh : Has wb B [.slice au c.up.length cu, .slice aw c.ws.length cw, .slice sa c.sides.length cs, .slice af c.flows.length cf] 128 := by rw [hwb, hB]; exact Has.new w _ _
  have hcall := right_prog c (h.still hmw)
  rw [hr] at hcall
  have hcall' := Lib.hid hcall
  have hbox' := Lib.hid hbox
  have hh' := Lib.hid hh
  have hmw' := Lib.hid hmw
  have hwb' := Lib.hid hwb
  have hB' := Lib.hid hB
  have hlen := Lib.hid (right_lens hr)
  have hn4 := (right_lens hr).1
  have hout : Hid (∀ w' a cp, Made wb w' 5 1 a (encB c).length cp (u8s (encB c)) → EncOut c w (.returned (.tuple #[.slice a (encB c).length cp, .int .i64 0])) w') := fun w' a cp m => by
    unfold EncOut; rw [hr]; exact ⟨_, _, rfl, m.before hmw⟩
  have hr' := Lib.hid hr
  have hf' := Lib.hid hf
  clear h hr hf hcall hbox hmw hwb hB hh
  go_enter Try.func87, Try.ntmps87
  go_wp2_with fail
  rw [← hB'.out, ← hwb'.out]
  refine hcall'.out.mono ?_
  rintro e w1 ⟨rfl, hm1⟩
  dsimp only
  have hm1' := Lib.hid hm1
  have hh1 := hh'.out.keep hm1 (by simp)
  have d0 := hh1.cell 0 rfl
  have d1 := hh1.cell 1 rfl
  have d2 := hh1.cell 2 rfl
  have hBl := hh1.lt
  have hsl : c.sides.length ≤ 4096 := by have := hlen.out; omega
  have hw1 : IntKind.u64.wrap (c.sides.length : Int) = (c.sides.length : Int) := by rw [IntKind.wrap_u64]; omega
  have kc := fun (w : World) (C : Array Value) (n c : Nat) => Lib.run_convert_bytes_const (P := Try.prog) w 45 5 C n c Try.underlying45 Try.underlying5
  clear hcall' hm1 hh1
  go_wp2_with fail
  have hrc := rd_const w1 headB (4, 5) (by decide)
  have hnat := nat_any c.sides.length (by omega) hrc (by decide)
  refine hnat.mono ?_
  rintro e w2 ⟨a2, c2, rfl, hm2⟩
  dsimp only
  have he0 : headB ++ natB c.sides.length = encTo c 0 := by simp [encTo, hlen.out.2.2.1]
  rw [he0] at hm2
  have hme : Made wb w2 5 1 a2 (encTo c 0).length c2 (u8s (encTo c 0)) := hm2.before (hm1'.out.trans ((Mod.refl [] w1).alloc _) (by simp))
  have hme' := Lib.hid hme
  rw [he0]
  clear hm2 hme hrc hnat kc he0 d0 d1 d2 hBl
  have hh2 := hh'.out.keep hme'.out.mod (by simp)
  have d0 := hh2.cell 0 rfl
  have d1 := hh2.cell 1 rfl
  have d2 := hh2.cell 2 rfl
  have hBl := hh2.lt
  clear hh2
  go_wp2_with fail
  clear d0 d1 d2 hBl
  go_loopw [4, 21] (fun ov iv wr => ∃ (i : Nat) (ao : Option Addr) (co : Nat), i ≤ c.sides.length ∧ iv = .int .i64 i ∧ ov = .slice ao (encTo c i).length co ∧ Made wb wr 5 1 ao (encTo c i).length co (u8s (encTo c i))) (fun _ iv _ => c.sides.length - (intOf iv).toNat)
  case atStart => exact ⟨0, a2, c2, Nat.zero_le _, rfl, rfl, hme'.out⟩
  case round =>
    clear hme'
    obtain ⟨i, ao, co, hi, rfl, rfl, hme⟩ := hrel
    obtain ⟨wo, hwo⟩ : ∃ wo : World, wo = wr := ⟨_, rfl⟩
    clear hwo
    have hme' := Lib.hid hme
    clear hme
    by_cases hlt : i < c.sides.length
    · have hiu : i < c.up.length := by have := hlen.out; omega
      have hlt2 : (i : Int) < c.sides.length := by omega
      have hel := encTo_len hr'.out hf'.out i (by omega)
      have hml := Nat.mul_le_mul_left 400040 (show i ≤ 4096 by omega)
      have hparts := Lib.hid (parts_any wr)
      go_wp2_with fail
      refine hparts.out.mono ?_
      rintro e w3 ⟨gp, rfl, hp, hm3, hgp⟩
      dsimp only
      have hp' := Lib.hid hp
      have hb3 := Lib.hid (hbox'.out.still (hme'.out.mod.trans hm3 (by simp)))
      have hmx : Made wb w3 5 1 ao (encTo c i ++ vertTo c i 0).length co (u8s (encTo c i ++ vertTo c i 0)) := by
        have : encTo c i ++ vertTo c i 0 = encTo c i := by simp [vertTo]
        rw [this]; exact hme'.out.still hm3
      have hxl : (encTo c i ++ vertTo c i 0).length = (encTo c i).length := by simp [vertTo]
      have hmx' := Lib.hid hmx
      have hxl' := Lib.hid hxl
      have hog : Hid (∀ g, (Value.slice ao (encTo c i ++ vertTo c i 0).length co).ownBlock = some g → g ≠ gp) := fun g hg => by
        have hg' : (Value.slice ao (encTo c i).length co).ownBlock = some g := by simpa [vertTo] using hg
        have := own_lt hme'.out.own hg'
        omega
      clear hp hm3 hgp hmx hxl hparts
      go_wp2_with fail
      go_loopw [4, 26] (fun ov jv wr' => ∃ (j : Nat) (ao : Option Addr) (co : Nat), j ≤ 4 ∧ jv = .int .i64 j ∧ ov = .slice ao (encTo c i ++ vertTo c i j).length co ∧ Made wb wr' 5 1 ao (encTo c i ++ vertTo c i j).length co (u8s (encTo c i ++ vertTo c i j)) ∧ Has wr' gp partsV 206 ∧ ∀ g, (Value.slice ao (encTo c i ++ vertTo c i j).length co).ownBlock = some g → g ≠ gp) (fun _ jv _ => 4 - (intOf jv).toNat)
      case atStart => exact ⟨0, ao, co, by omega, rfl, by rw [hxl'.out], hmx'.out, hp'.out, hog.out⟩
      case round =>
        clear hmx' hxl' hp' hog
        obtain ⟨j, ao1, co1, hj, rfl, rfl, hmj, hpj, hoj⟩ := hrel
        obtain ⟨wo, hwo⟩ : ∃ wo : World, wo = wr := ⟨_, rfl⟩
        clear hwo
        have hmj' := Lib.hid hmj
        have hpj' := Lib.hid hpj
        have hoj' := Lib.hid hoj
        clear hmj hpj hoj
        have hvl := vertTo_len hr'.out hf'.out hiu j
        by_cases hj0 : j = 0
        · subst hj0
          have hpr := hpj'.out
          have p0 := hpr.cell 0 rfl
          have p1 := hpr.cell 1 rfl
          have hcall : Hid (∀ W, Mod [] wr W → Calls Try.prog 175 #[.slice none 0 0, .pointer (some ⟨B, 0, none⟩), .int .i64 i] W (MadeOut 5 1 (partB c i 0).length (u8s (partB c i 0)) W)) := fun W m => put1 ((hbox'.out.still hmj'.out.mod).still m) hr'.out hiu
          have hpl := partB_len hr'.out hf'.out hiu 0
          have hjlt := hpr.lt
          have hsum : (encTo c i ++ vertTo c i 0).length ≤ 2000000000 := by rw [List.length_append]; omega
          have hnext' : Hid (encTo c i ++ vertTo c i (0 + 1) = (encTo c i ++ vertTo c i 0) ++ partB c i 0) := by show _ = _; rw [vertTo_succ, List.append_assoc]
          clear hpr hvl hel hml
          generalize encTo c i ++ vertTo c i 0 = X at *
          generalize hY : encTo c i ++ vertTo c i (0 + 1) = Y at *
          have hY' := Lib.hid hY
          clear hY
          generalize partB c i 0 = pt at *
          go_wp2_with fail
          refine (hcall.out _ ((Mod.refl [] wr).alloc _)).mono ?_
          rintro e w5 ⟨aq, cq, rfl, hmq⟩
          dsimp only
          have hmA := Lib.hid (((Mod.refl [] wr).alloc _).trans hmq.mod (by simp))
          have hmq' := Lib.hid hmq
          clear hmq p0 p1
          go_wp2_with (at_builtin; refine app_rd rfl (.tmp 30) (.tmp 34) 45 5 _ 1 1 rfl Try.underlying45 infoU8 rfl (by omega) (by omega) (.slice ao1 X.length co1) (.slice aq pt.length cq) X.length pt.length (u8s X) (u8s pt) rfl rfl (u8s_one pt) (hmj'.out.still hmA.out).own (Rd.own hmq'.out.own) (by omega) ?_; intro aA cA wA hA mA vA)
          have hfin := (hmj'.out.still hmA.out).push hA mA vA
          have hlx : X.length + pt.length = Y.length := by rw [hnext'.out, List.length_append]
          have hux : u8s X ++ u8s pt = u8s Y := by rw [hnext'.out, u8s_append]
          rw [hlx, hux] at hfin
          have hbs := beside hpj'.out hmA.out hoj'.out mA vA
          rw [hlx] at hbs
          have hlx' := Lib.hid hlx
          clear hlx hux hA mA vA
          go_roundw
          case rel =>
            have eY := hY'.out
            exact ⟨0 + 1, aA, cA, by omega, by rfl, by rw [eY, hlx'.out], by rw [eY]; exact hfin, hbs.1, by rw [eY]; exact hbs.2⟩
          case measure => simp [intOf]
        by_cases hj1 : j = 1
        · subst hj1
          have hpr := hpj'.out
          have p0 := hpr.cell 2 rfl
          have p1 := hpr.cell 3 rfl
          have hcall : Hid (∀ W, Mod [] wr W → Calls Try.prog 177 #[.slice none 0 0, .pointer (some ⟨B, 0, none⟩), .int .i64 i] W (MadeOut 5 1 (partB c i 1).length (u8s (partB c i 1)) W)) := fun W m => put2 ((hbox'.out.still hmj'.out.mod).still m) hr'.out hf'.out hiu
          have hpl := partB_len hr'.out hf'.out hiu 1
          have hjlt := hpr.lt
          have hsum : (encTo c i ++ vertTo c i 1).length ≤ 2000000000 := by rw [List.length_append]; omega
          have hnext' : Hid (encTo c i ++ vertTo c i (1 + 1) = (encTo c i ++ vertTo c i 1) ++ partB c i 1) := by show _ = _; rw [vertTo_succ, List.append_assoc]
          clear hpr hvl hel hml
          generalize encTo c i ++ vertTo c i 1 = X at *
          generalize hY : encTo c i ++ vertTo c i (1 + 1) = Y at *
          have hY' := Lib.hid hY
          clear hY
          generalize partB c i 1 = pt at *
          go_wp2_with fail
          refine (hcall.out _ ((Mod.refl [] wr).alloc _)).mono ?_
          rintro e w5 ⟨aq, cq, rfl, hmq⟩
          dsimp only
          have hmA := Lib.hid (((Mod.refl [] wr).alloc _).trans hmq.mod (by simp))
          have hmq' := Lib.hid hmq
          clear hmq p0 p1
          go_wp2_with (at_builtin; refine app_rd rfl (.tmp 30) (.tmp 34) 45 5 _ 1 1 rfl Try.underlying45 infoU8 rfl (by omega) (by omega) (.slice ao1 X.length co1) (.slice aq pt.length cq) X.length pt.length (u8s X) (u8s pt) rfl rfl (u8s_one pt) (hmj'.out.still hmA.out).own (Rd.own hmq'.out.own) (by omega) ?_; intro aA cA wA hA mA vA)
          have hfin := (hmj'.out.still hmA.out).push hA mA vA
          have hlx : X.length + pt.length = Y.length := by rw [hnext'.out, List.length_append]
          have hux : u8s X ++ u8s pt = u8s Y := by rw [hnext'.out, u8s_append]
          rw [hlx, hux] at hfin
          have hbs := beside hpj'.out hmA.out hoj'.out mA vA
          rw [hlx] at hbs
          have hlx' := Lib.hid hlx
          clear hlx hux hA mA vA
          go_roundw
          case rel =>
            have eY := hY'.out
            exact ⟨1 + 1, aA, cA, by omega, by rfl, by rw [eY, hlx'.out], by rw [eY]; exact hfin, hbs.1, by rw [eY]; exact hbs.2⟩
          case measure => simp [intOf]
        by_cases hj2 : j = 2
        · subst hj2
          have hpr := hpj'.out
          have p0 := hpr.cell 4 rfl
          have p1 := hpr.cell 5 rfl
          have hcall : Hid (∀ W, Mod [] wr W → Calls Try.prog 179 #[.slice none 0 0, .pointer (some ⟨B, 0, none⟩), .int .i64 i] W (MadeOut 5 1 (partB c i 2).length (u8s (partB c i 2)) W)) := fun W m => put3 ((hbox'.out.still hmj'.out.mod).still m) hr'.out hiu
          have hpl := partB_len hr'.out hf'.out hiu 2
          have hjlt := hpr.lt
          have hsum : (encTo c i ++ vertTo c i 2).length ≤ 2000000000 := by rw [List.length_append]; omega
          have hnext' : Hid (encTo c i ++ vertTo c i (2 + 1) = (encTo c i ++ vertTo c i 2) ++ partB c i 2) := by show _ = _; rw [vertTo_succ, List.append_assoc]
          clear hpr hvl hel hml
          generalize encTo c i ++ vertTo c i 2 = X at *
          generalize hY : encTo c i ++ vertTo c i (2 + 1) = Y at *
          have hY' := Lib.hid hY
          clear hY
          generalize partB c i 2 = pt at *
          go_wp2_with fail
          refine (hcall.out _ ((Mod.refl [] wr).alloc _)).mono ?_
          rintro e w5 ⟨aq, cq, rfl, hmq⟩
          dsimp only
          have hmA := Lib.hid (((Mod.refl [] wr).alloc _).trans hmq.mod (by simp))
          have hmq' := Lib.hid hmq
          clear hmq p0 p1
          go_wp2_with (at_builtin; refine app_rd rfl (.tmp 30) (.tmp 34) 45 5 _ 1 1 rfl Try.underlying45 infoU8 rfl (by omega) (by omega) (.slice ao1 X.length co1) (.slice aq pt.length cq) X.length pt.length (u8s X) (u8s pt) rfl rfl (u8s_one pt) (hmj'.out.still hmA.out).own (Rd.own hmq'.out.own) (by omega) ?_; intro aA cA wA hA mA vA)
          have hfin := (hmj'.out.still hmA.out).push hA mA vA
          have hlx : X.length + pt.length = Y.length := by rw [hnext'.out, List.length_append]
          have hux : u8s X ++ u8s pt = u8s Y := by rw [hnext'.out, u8s_append]
          rw [hlx, hux] at hfin
          have hbs := beside hpj'.out hmA.out hoj'.out mA vA
          rw [hlx] at hbs
          have hlx' := Lib.hid hlx
          clear hlx hux hA mA vA
          go_roundw
          case rel =>
            have eY := hY'.out
            exact ⟨2 + 1, aA, cA, by omega, by rfl, by rw [eY, hlx'.out], by rw [eY]; exact hfin, hbs.1, by rw [eY]; exact hbs.2⟩
          case measure => simp [intOf]
        by_cases hj3 : j = 3
        · subst hj3
          have hpr := hpj'.out
          have p0 := hpr.cell 6 rfl
          have p1 := hpr.cell 7 rfl
          have hcall : Hid (∀ W, Mod [] wr W → Calls Try.prog 181 #[.slice none 0 0, .pointer (some ⟨B, 0, none⟩), .int .i64 i] W (MadeOut 5 1 (partB c i 3).length (u8s (partB c i 3)) W)) := fun W m => put4 ((hbox'.out.still hmj'.out.mod).still m) hr'.out hf'.out hiu
          have hpl := partB_len hr'.out hf'.out hiu 3
          have hjlt := hpr.lt
          have hsum : (encTo c i ++ vertTo c i 3).length ≤ 2000000000 := by rw [List.length_append]; omega
          have hnext' : Hid (encTo c i ++ vertTo c i (3 + 1) = (encTo c i ++ vertTo c i 3) ++ partB c i 3) := by show _ = _; rw [vertTo_succ, List.append_assoc]
          clear hpr hvl hel hml
          generalize encTo c i ++ vertTo c i 3 = X at *
          generalize hY : encTo c i ++ vertTo c i (3 + 1) = Y at *
          have hY' := Lib.hid hY
          clear hY
          generalize partB c i 3 = pt at *
          go_wp2_with fail
          refine (hcall.out _ ((Mod.refl [] wr).alloc _)).mono ?_
          rintro e w5 ⟨aq, cq, rfl, hmq⟩
          dsimp only
          have hmA := Lib.hid (((Mod.refl [] wr).alloc _).trans hmq.mod (by simp))
          have hmq' := Lib.hid hmq
          clear hmq p0 p1
          go_wp2_with (at_builtin; refine app_rd rfl (.tmp 30) (.tmp 34) 45 5 _ 1 1 rfl Try.underlying45 infoU8 rfl (by omega) (by omega) (.slice ao1 X.length co1) (.slice aq pt.length cq) X.length pt.length (u8s X) (u8s pt) rfl rfl (u8s_one pt) (hmj'.out.still hmA.out).own (Rd.own hmq'.out.own) (by omega) ?_; intro aA cA wA hA mA vA)
          have hfin := (hmj'.out.still hmA.out).push hA mA vA
          have hlx : X.length + pt.length = Y.length := by rw [hnext'.out, List.length_append]
          have hux : u8s X ++ u8s pt = u8s Y := by rw [hnext'.out, u8s_append]
          rw [hlx, hux] at hfin
          have hbs := beside hpj'.out hmA.out hoj'.out mA vA
          rw [hlx] at hbs
          have hlx' := Lib.hid hlx
          clear hlx hux hA mA vA
          go_roundw
          case rel =>
            have eY := hY'.out
            exact ⟨3 + 1, aA, cA, by omega, by rfl, by rw [eY, hlx'.out], by rw [eY]; exact hfin, hbs.1, by rw [eY]; exact hbs.2⟩
          case measure => simp [intOf]
        have hj4 : j = 4 := by omega
        subst hj4
        have hmv : Made wb wr 5 1 ao1 (encTo c (i + 1)).length co1 (u8s (encTo c (i + 1))) := by
          rw [encTo_succ, ← vertTo_four]; exact hmj'.out
        have hlv : (encTo c i ++ vertTo c i 4).length = (encTo c (i + 1)).length := by rw [encTo_succ, ← vertTo_four]
        have hlv' := Lib.hid hlv
        have hmv' := Lib.hid hmv
        clear hlv hmv hvl hel hml
        generalize encTo c i ++ vertTo c i 4 = X at *
        go_wp2_with fail
        go_roundw
        case rel => exact ⟨i + 1, ao1, co1, by omega, by go_num, by rw [hlv'.out], hmv'.out⟩
        case measure => simp [intOf]; omega
    · have hil : c.sides.length = i := by omega
      have hfin : Hid (EncOut c w (.returned (.tuple #[.slice ao (encTo c i).length co, .int .i64 0])) wr) := by
        have hiu : i = c.up.length := by have := hlen.out; omega
        have h2 := hme'.out
        rw [hiu] at h2 ⊢
        exact hout.out wr ao co h2
      clear hil hout
      go_wp2_with fail
      go_ret2
      exact hfin.out
theorem encode_any {w : World} {vu vw vs vf : Value} (c : CertV) (h : CRep w vu vw vs vf c) (hf : Fits c) :
    Calls Try.prog 87 #[.agg #[vu, vw, vs, vf]] w (EncOut c w) := by
  cases hr : rightB c with
  | true => exact encode_yes c h hr hf
  | false => exact encode_no c h hr
end Code.Cert
end Go.Proofs.Ytmkbinbggiocaaa

set_option linter.unusedVariables false
set_option linter.unusedSimpArgs false
namespace Go.Proofs.Ytmkbinbggiocaaa
open Go.RowKit
namespace Code.Cert
section
variable {P : Program} {ops : Array Oper} {rest : List Oper} {o : Oper} {a : Act} {Q : Exit → Act → World → Prop}
/-- append(v, src...), v full and read, src not empty: a new row. -/
theorem app_grow {W : World} (hgd : o.guard = none) (s x : Operand) (t e : TypeId) (z : Value) (size bytes : Nat)
    (ho : o.op = .call { callee := .builtin .append, args := #[s, x], argTypes := #[t, t] })
    (ht : P.underlying t = some (.slice e)) (hinfo : (P.info? e).map (fun i => (i.zero, i.size, i.bytes)) = some (some z, size, bytes)) (hz : z.cells.size = size) (hsz : 0 < size) (hb0 : 0 < bytes)
    (ao : Option Addr) (v2 : Value) (n cap m : Nat) (xs news : List Value) (hs : a.eval s = .slice ao n cap) (hx : a.eval x = v2) (h1 : ∀ u ∈ news, u.oneCell' = true)
    (HO : Rd W size (.slice ao n cap) n xs) (HR : Rd W size v2 m news) (hm : 0 < m) (hfull : cap < n + m) (hby : (n + m) * bytes ≤ 140737488355328)
    (h : ∀ a1 c1 w1, w1.ownsRow 0 e size (.slice a1 (n + m) c1) (n + m) (xs ++ news) → Mod [] W w1 → (∀ b, (Value.slice a1 (n + m) c1).ownBlock = some b → W.heap.size ≤ b) → wpList P ops Q rest (a.put o.dst (.slice a1 (n + m) c1)) w1) :
    wpList P ops Q (o :: rest) a W := by
  obtain ⟨i0, hi, hzz⟩ := Option.map_eq_some_iff.1 hinfo
  simp only [Prod.mk.injEq] at hzz
  obtain ⟨hz0, hz1, hz2⟩ := hzz
  have hlen : n + m ≤ 140737488355328 := Nat.le_trans (Nat.le_mul_of_pos_right _ hb0) hby
  have hnone : ao = none → n = 0 ∧ cap = 0 := by
    rintro rfl
    rcases HO.2 with ⟨he, h0⟩ | ⟨ad, c', he, _⟩
    · simp only [Value.slice.injEq] at he
      exact ⟨h0, he.2.2⟩
    · simp at he
  have holds : ∀ b, ao = some b → ∀ j u, xs[j]? = some u → W.cell? (b.add j) = some u := by
    rintro b rfl j u hu
    rcases HO.2 with ⟨he, h0⟩ | ⟨ad, c', he, _, _, hc⟩
    · simp at he
    · simp only [Value.slice.injEq, Option.some.injEq, true_and] at he
      obtain ⟨rfl, _⟩ := he
      exact hc j u hu
  rcases HR.2 with ⟨rfl, h0⟩ | ⟨ad, c, rfl, _, _, hc⟩
  · omega
  · refine wpList_append_grows W hgd s x t ho e i0 z size bytes ht hi hz0 hz1 hz2 hz hsz ao n cap xs hs hnone HO.1 holds ad m c news hx HR.1 hc h1 hfull (by simp only [maxLen]; omega) hby ?_
    intro v1 w1 hown hg
    obtain ⟨a1, c1, rfl⟩ : ∃ a1 c1, v1 = Value.slice a1 (n + m) c1 := by
      rcases hown.2 with ⟨rfl, h0⟩ | ⟨g, cap, cur, rfl, _⟩
      · exact ⟨none, 0, by rw [h0]⟩
      · exact ⟨_, _, rfl⟩
    refine h a1 c1 w1 ⟨hown.1, hown.2.elim Or.inl fun ⟨g, cap, cur, hv, hg, r⟩ => .inr ⟨g, cap, cur, hv, Nat.zero_le _, r⟩⟩ ((Mod.refl _ W).grown hg fun b hb _ => by simp at hb) (fun b hb => ?_)
    exact (World.ownsRow.lt hown b hb).1
end
def REncOut (c : CertV) (w : World) (e : Ending) (w' : World) : Prop :=
  if rightB c then ∃ a cp, e = .returned (.agg #[.slice a (encB c).length cp, .int .i64 0]) ∧ Made w w' 5 1 a (encB c).length cp (u8s (encB c))
  else e = .returned (.agg #[.slice none 0 0, .int .i64 1]) ∧ Mod [] w w'
set_option maxRecDepth 100000 in
set_option maxHeartbeats 4000000 in
theorem rencode_no {w : World} {vu vw vs vf : Value} (c : CertV) (h : CRep w vu vw vs vf c) (hr : rightB c = false) :
    Calls Try.prog 88 #[.agg #[vu, vw, vs, vf]] w (REncOut c w) := by
  have hm0 : Mod [] w ((w.alloc (.cells #[vu, vw, vs, vf] 130)).alloc (.cells #[.slice none 0 0, .int .i64 0] 134)) := ((Mod.refl [] w).alloc _).alloc _
  have hcall := right_ref c (h.still hm0)
  rw [hr] at hcall
  have hcall' := Lib.hid hcall
  have hm := Lib.hid hm0
  have hs := Lib.hid (fun w' (m : Mod [] ((w.alloc (.cells #[vu, vw, vs, vf] 130)).alloc (.cells #[.slice none 0 0, .int .i64 0] 134)) w') => slot2 (w := w.alloc (.cells #[vu, vw, vs, vf] 130)) m)
  have hout : Hid (∀ w', Mod [] w w' → REncOut c w (.returned (.agg #[.slice none 0 0, .int .i64 1])) w') := fun w' m => by unfold REncOut; rw [hr]; exact ⟨rfl, m⟩
  clear h hr hcall hm0
  go_enter Try.func88, Try.ntmps88
  go_wp2_with fail
  refine hcall'.out.mono ?_
  rintro e w1 ⟨rfl, hm1⟩
  dsimp only
  obtain ⟨s0, s1, s2, s3⟩ := hs.out _ hm1
  simp only [World.size_alloc] at s0 s1 s2 s3
  have hf : Hid (∀ u v, REncOut c w (.returned (.agg #[.slice none 0 0, .int .i64 1])) ((w1.setCell ⟨w.heap.size + 1, 0, none⟩ u).setCell ⟨w.heap.size + 1, 1, none⟩ v)) := fun u v => hout.out _ (((hm.out.trans hm1 (by simp)).setCell _ _ (fun h => by simp only at h; omega)).setCell _ _ (fun h => by simp only at h; omega))
  clear hm1 hcall' hout hs
  go_wp2_with fail
  exact bodyPost_ret (v := .agg #[.slice none 0 0, .int .i64 1]) (by simp [results, Try.results88, go_sem, s1, s2]) rfl (hf.out _ _)
theorem natB_pos (n : Nat) : 0 < (natB n).length := List.length_pos_iff.2 (natB_ne n)
set_option maxRecDepth 100000 in
set_option maxHeartbeats 8000000 in
theorem rencode_yes {w : World} {vu vw vs vf : Value} (c : CertV) (h : CRep w vu vw vs vf c) (hr : rightB c = true) (hf : Fits c) :
    Calls Try.prog 88 #[.agg #[vu, vw, vs, vf]] w (REncOut c w) := by
  obtain ⟨au, cu, aw, cw, sa, cs, af, cf, rfl, rfl, rfl, rfl⟩ := h.vals
  obtain ⟨wb, hwb⟩ : ∃ wb, wb = (w.alloc (.cells #[.slice au c.up.length cu, .slice aw c.ws.length cw, .slice sa c.sides.length cs, .slice af c.flows.length cf] 130)).alloc (.cells #[.slice none 0 0, .int .i64 0] 134) := ⟨_, rfl⟩
  obtain ⟨B, hB⟩ : ∃ B, B = w.heap.size := ⟨_, rfl⟩
  have hmw : Mod [] w wb := by rw [hwb]; exact ((Mod.refl [] w).alloc _).alloc _
  have hh : Has wb B [.slice au c.up.length cu, .slice aw c.ws.length cw, .slice sa c.sides.length cs, .slice af c.flows.length cf] 130 := by rw [hwb, hB]; exact (Has.new w _ _).alloc _
  have hg : Has wb (B + 1) [.slice none 0 0, .int .i64 0] 134 := by
    have := Has.new (w.alloc (.cells #[.slice au c.up.length cu, .slice aw c.ws.length cw, .slice sa c.sides.length cs, .slice af c.flows.length cf] 130)) [.slice none 0 0, .int .i64 0] 134
    rw [World.size_alloc] at this
    rw [hwb, hB]; exact this
  have hcall := right_ref c (h.still hmw)
  rw [hr] at hcall
  have hcall' := Lib.hid hcall
  have hC := Lib.hid (h.still hmw)
  have hh' := Lib.hid hh
  have hg' := Lib.hid hg
  have hmw' := Lib.hid hmw
  have hwb' := Lib.hid hwb
  have hB' := Lib.hid hB
  have hlen := Lib.hid (right_lens hr)
  have hn4 := (right_lens hr).1
  have hout : Hid (∀ w' a cp, Made wb w' 5 1 a (encB c).length cp (u8s (encB c)) → ∀ u v, REncOut c w (.returned (.agg #[.slice a (encB c).length cp, .int .i64 0])) ((w'.setCell ⟨B + 1, 0, none⟩ u).setCell ⟨B + 1, 1, none⟩ v)) := fun w' a cp m u v => by
    unfold REncOut; rw [hr]
    have hne : (Value.slice a (encB c).length cp).ownBlock ≠ some (B + 1) := fun e => by
      have := m.new _ e
      have := hg.lt
      omega
    exact ⟨_, _, rfl, own_other (own_other m.own _ _ hne) _ _ hne, ((hmw.trans m.mod (by simp)).setCell _ _ (fun h => by simp only at h; omega)).setCell _ _ (fun h => by simp only at h; omega), fun b hb => Nat.le_trans hmw.size (m.new b hb)⟩
  have hr' := Lib.hid hr
  have hf' := Lib.hid hf
  clear h hr hf hcall hmw hwb hB hh hg
  go_enter Try.func88, Try.ntmps88
  go_wp2_with fail
  rw [← hB'.out, ← hwb'.out]
  refine hcall'.out.mono ?_
  rintro e w1 ⟨rfl, hm1⟩
  dsimp only
  have hm1' := Lib.hid hm1
  have hh1 := hh'.out.keep hm1 (by simp)
  have d0 := hh1.cell 0 rfl
  have hBl := hh1.lt
  have hw1 : IntKind.u64.wrap (c.up.length : Int) = (c.up.length : Int) := by rw [IntKind.wrap_u64]; omega
  have kc := fun (w : World) (C : Array Value) (n c : Nat) => Lib.run_convert_bytes_const (P := Try.prog) w 45 5 C n c Try.underlying45 Try.underlying5
  clear hcall' hm1 hh1
  go_wp2_with fail
  have hrc := rd_const w1 headB (4, 5) (by decide)
  have hnat := refNat_any c.up.length (w1.alloc (.cells (u8s headB).toArray 5 (4, 5))) (by omega)
  refine hnat.mono ?_
  rintro e w2 ⟨a2, c2, rfl, hm2⟩
  dsimp only
  have hrc2 := Lib.hid (hrc.still hm2.mod)
  have hm2' := Lib.hid hm2
  have hnp := natB_pos c.up.length
  have hnl := natB_len10 (n := c.up.length) (by omega)
  clear hrc hnat hm2 kc d0 hBl
  go_wp2_with (at_builtin; refine app_grow rfl (.tmp 15) (.tmp 18) 45 5 _ 1 1 rfl Try.underlying45 infoU8 rfl (by omega) (by omega) (some ⟨w1.heap.size, 0, none⟩) (.slice a2 (natB c.up.length).length c2) 4 4 (natB c.up.length).length (u8s headB) (u8s (natB c.up.length)) rfl rfl (u8s_one _) hrc2.out (Rd.own hm2'.out.own) hnp (by omega) (by omega) ?_; intro a3 c3 w3 h3 m3 n3)
  have he0 : headB ++ natB c.up.length = encTo c 0 := by simp [encTo]
  have hme : Made wb w3 5 1 a3 (encTo c 0).length c3 (u8s (encTo c 0)) := by
    rw [← u8s_append, he0] at h3
    have hl : 4 + (natB c.up.length).length = (encTo c 0).length := by rw [← he0, List.length_append]; rfl
    rw [hl] at h3 n3
    have hmx := ((hm1'.out.trans ((Mod.refl [] w1).alloc _) (by simp)).trans hm2'.out.mod (by simp))
    exact ⟨h3, hmx.trans m3 (by simp), fun b hb => by have := n3 b hb; have := hmx.size; omega⟩
  have hl0 : 4 + (natB c.up.length).length = (encTo c 0).length := by rw [← he0, List.length_append]; rfl
  rw [hl0]
  have hme' := Lib.hid hme
  clear he0 hl0 hme h3 m3 n3 hm2' hrc2 hnp hnl
  have hcells : Hid (∀ (i : Nat), i < c.up.length → ∃ gu ou gw ow gs os ax cx gf of ay cy, au = some ⟨gu, ou, none⟩ ∧ aw = some ⟨gw, ow, none⟩ ∧ sa = some ⟨gs, os, none⟩ ∧ af = some ⟨gf, of, none⟩ ∧
      ∀ W, Mod [] wb W → (W.cell? ⟨B, 0, none⟩ = some (.slice au c.up.length cu) ∧ W.cell? ⟨B, 1, none⟩ = some (.slice aw c.ws.length cw) ∧ W.cell? ⟨B, 2, none⟩ = some (.slice sa c.sides.length cs) ∧ W.cell? ⟨B, 3, none⟩ = some (.slice af c.flows.length cf) ∧ B < W.heap.size) ∧
        W.cell? ⟨gu, ou + i, none⟩ = some (.int .i64 (c.up.getD i 0)) ∧ W.cell? ⟨gw, ow + i, none⟩ = some (.int .i64 (c.ws.getD i 0)) ∧ W.cell? ⟨gs, os + i, none⟩ = some (.slice ax (c.sides.getD i []).length cx) ∧ W.cell? ⟨gf, of + i, none⟩ = some (.slice ay (c.flows.getD i []).length cy) ∧
        Rd W 1 (.slice ax (c.sides.getD i []).length cx) (c.sides.getD i []).length (vi64 (c.sides.getD i [])) ∧ Rd W 1 (.slice ay (c.flows.getD i []).length cy) (c.flows.getD i []).length (vi64 (c.flows.getD i []))) := fun i hi => by
    obtain ⟨l0, l1, l2, l3⟩ := hlen.out
    obtain ⟨gu, ou, e1, k1⟩ := rd_get hC.out.up hi
    obtain ⟨gw, ow, e2, k2⟩ := rd_get (k := i) hC.out.ws (by omega)
    obtain ⟨gs, os, ax, cx, e3, k3, r3⟩ := RdR.get (k := i) hC.out.sides (by omega)
    obtain ⟨gf, of, ay, cy, e4, k4, r4⟩ := RdR.get (k := i) hC.out.flows (by omega)
    refine ⟨gu, ou, gw, ow, gs, os, ax, cx, gf, of, ay, cy, e1, e2, e3, e4, fun W m => ?_⟩
    have hx := hh'.out.keep m (by simp)
    have old : ∀ (p : Addr) v, wb.cell? p = some v → W.cell? p = some v := fun p v h => (World.cell?_of_block (m.block _ (World.block_lt_of_cell? wb _ h) (by simp))).trans h
    exact ⟨⟨hx.cell 0 rfl, hx.cell 1 rfl, hx.cell 2 rfl, hx.cell 3 rfl, hx.lt⟩, old _ _ k1, old _ _ k2, old _ _ k3, old _ _ k4, r3.still m, r4.still m⟩
  go_wp2_with fail
  go_loopw [4, 5] (fun ov iv wr => ∃ (i : Nat) (ao : Option Addr) (co : Nat), i ≤ c.up.length ∧ iv = .int .i64 i ∧ ov = .slice ao (encTo c i).length co ∧ Made wb wr 5 1 ao (encTo c i).length co (u8s (encTo c i))) (fun _ iv _ => c.up.length - (intOf iv).toNat)
  case atStart => exact ⟨0, a3, c3, Nat.zero_le _, rfl, rfl, hme'.out⟩
  case round =>
    clear hme'
    obtain ⟨i, ao, co, hi, rfl, rfl, hme⟩ := hrel
    obtain ⟨wo, hwo⟩ : ∃ wo : World, wo = wr := ⟨_, rfl⟩
    clear hwo
    have hme' := Lib.hid hme
    clear hme
    by_cases hlt : i < c.up.length
    · have hlt2 : (i : Int) < c.up.length := by omega
      have t1 : decide ((i : Int) < (c.up.length : Int)) = true := by simp; omega
      have t1' : decide (i < c.up.length) = true := by simpa using hlt
      obtain ⟨l0, l1, l2, l3⟩ := hlen.out
      have hiw : (i : Int) < c.ws.length := by omega
      have his : (i : Int) < c.sides.length := by omega
      have hif : (i : Int) < c.flows.length := by omega
      have jw : i < c.ws.length := by omega
      have js : i < c.sides.length := by omega
      have jf : i < c.flows.length := by omega
      have hel := encTo_len hr'.out hf'.out i (by omega)
      have hml := Nat.mul_le_mul_left 400040 (show i ≤ 4096 by omega)
      have hsum : (encTo c i).length ≤ 1900000000 := by omega
      have hp0 := partB_len hr'.out hf'.out hlt 0
      have hp1 := partB_len hr'.out hf'.out hlt 1
      have hp2 := partB_len hr'.out hf'.out hlt 2
      have hp3 := partB_len hr'.out hf'.out hlt 3
      simp only [partB] at hp0 hp1 hp2 hp3
      obtain ⟨k1, k2, k3, k4⟩ := right_at hr'.out hlt
      have hfw := (hf'.out.ws _ (getD_mem 0 jw)).2
      have hfl := Lib.hid (hf'.out.fl _ (getD_mem [] jf))
      have hnext := encTo_succ c i
      unfold vertB at hnext
      obtain ⟨gu, ou, gw, ow, gs, os, ax, cx, gf, of, ay, cy, rfl, rfl, rfl, rfl, hc⟩ := hcells.out i hlt
      obtain ⟨n, hn⟩ : ∃ n : Nat, c.up.getD i 0 = (n : Int) - 1 := ⟨(c.up.getD i 0 + 1).toNat, by omega⟩
      obtain ⟨x, hx⟩ := Int.eq_ofNat_of_zero_le k4
      rw [hn] at hc k2 k3 hp0 hnext
      rw [hx] at hc hfw hp1 hnext
      have e1 : ((n : Int) - 1 + 1).toNat = n := by omega
      rw [e1] at hp0 hnext
      rw [Int.toNat_natCast] at hp1 hnext
      have hn4' : n ≤ 4096 := by omega
      have hw2 : IntKind.u64.wrap (n : Int) = (n : Int) := by rw [IntKind.wrap_u64]; omega
      have hw3 : IntKind.u64.wrap (x : Int) = (x : Int) := by rw [IntKind.wrap_u64]; omega
      have hnat1 := Lib.hid (fun W => refNat_any n W (by omega))
      have hnat2 := Lib.hid (fun W => refNat_any x W (by omega))
      have k1' := Lib.hid k1
      have hc' := Lib.hid hc
      clear hc hn hx e1 k1 k2 k3 k4 hml hel l1 l2 l3
      generalize c.sides.getD i [] = S at *
      generalize c.flows.getD i [] = Fl at *
      have hnext' := Lib.hid hnext
      clear hnext
      generalize hE : encTo c i = E at *
      have hE' := Lib.hid hE
      clear hE
      obtain ⟨⟨d0, d1, d2, d3, dB⟩, q0, q1, q2, q3, r3, r4⟩ := hc'.out _ hme'.out.mod
      clear r3 r4
      go_wp2_with fail
      refine (hnat1.out _).mono ?_
      rintro e v1 ⟨a1, c1, rfl, hm1⟩
      dsimp only
      have hm1' := Lib.hid hm1
      clear hm1 d0 d1 d2 d3 dB q0 q1 q2 q3
      go_wp2_with (at_builtin; refine app_rd rfl (.tmp 25) (.tmp 34) 45 5 _ 1 1 rfl Try.underlying45 infoU8 rfl (by omega) (by omega) (.slice ao E.length co) (.slice a1 (natB n).length c1) E.length (natB n).length (u8s E) (u8s (natB n)) rfl rfl (u8s_one _) (hme'.out.still hm1'.out.mod).own (Rd.own hm1'.out.own) (by omega) ?_; intro a5 c5 w5 hA mA vA; have hm5 := Lib.hid ((hme'.out.still hm1'.out.mod).push hA mA vA); clear hA mA vA; obtain ⟨⟨d0, d1, d2, d3, dB⟩, q0, q1, q2, q3, r3, r4⟩ := hc'.out _ hm5.out.mod; clear r3 r4)
      refine (hnat2.out _).mono ?_
      rintro e v2 ⟨a1', c1', rfl, hm2⟩
      dsimp only
      have hm2' := Lib.hid hm2
      clear hm2 d0 d1 d2 d3 dB q0 q1 q2 q3
      go_wp2_with (at_builtin; refine app_rd rfl (.tmp 36) (.tmp 44) 45 5 _ 1 1 rfl Try.underlying45 infoU8 rfl (by omega) (by omega) (.slice a5 (E.length + (natB n).length) c5) (.slice a1' (natB x).length c1') (E.length + (natB n).length) (natB x).length (u8s E ++ u8s (natB n)) (u8s (natB x)) rfl rfl (u8s_one _) (hm5.out.still hm2'.out.mod).own (Rd.own hm2'.out.own) (by omega) ?_; intro a6 c6 w6 hA mA vA; have hm6 := Lib.hid ((hm5.out.still hm2'.out.mod).push hA mA vA); clear hA mA vA; obtain ⟨⟨d0, d1, d2, d3, dB⟩, q0, q1, q2, q3, r3, r4⟩ := hc'.out _ hm6.out.mod; have r3' := Lib.hid r3; clear r3 r4)
      refine (refBits_any (c.up.length : Int) S r3'.out).mono ?_
      intro e v3 h3
      unfold RefBitsOut at h3
      rw [k1'.out] at h3
      simp only [if_true] at h3
      obtain ⟨a7, c7, rfl, hm3⟩ := h3
      dsimp only
      have hm3' := Lib.hid hm3
      clear hm3 d0 d1 d2 d3 dB q0 q1 q2 q3 r3'
      generalize bitsB (wideN (c.up.length : Int)) S = Bs at *
      go_wp2_with (at_builtin; refine app_rd rfl (.tmp 46) (.tmp 54) 45 5 _ 1 1 rfl Try.underlying45 infoU8 rfl (by omega) (by omega) (.slice a6 (E.length + (natB n).length + (natB x).length) c6) (.slice a7 Bs.length c7) (E.length + (natB n).length + (natB x).length) Bs.length (u8s E ++ u8s (natB n) ++ u8s (natB x)) (u8s Bs) rfl rfl (u8s_one _) (hm6.out.still hm3'.out.mod).own (Rd.own hm3'.out.own) (by omega) ?_; intro a8 c8 w8 hA mA vA; have hm8 := Lib.hid ((hm6.out.still hm3'.out.mod).push hA mA vA); clear hA mA vA; obtain ⟨⟨d0, d1, d2, d3, dB⟩, q0, q1, q2, q3, r3, r4⟩ := hc'.out _ hm8.out.mod; have r4' := Lib.hid r4; clear r3 r4)
      refine (refInts Fl hfl.out.2 r4'.out hfl.out.1).mono ?_
      rintro e v4 ⟨a9, c9, rfl, hm4⟩
      dsimp only
      have hm4' := Lib.hid hm4
      clear hm4 d0 d1 d2 d3 dB q0 q1 q2 q3 r4'
      generalize listB signN Fl = Ls at *
      go_wp2_with (at_builtin; refine app_rd rfl (.tmp 56) (.tmp 62) 45 5 _ 1 1 rfl Try.underlying45 infoU8 rfl (by omega) (by omega) (.slice a8 (E.length + (natB n).length + (natB x).length + Bs.length) c8) (.slice a9 Ls.length c9) (E.length + (natB n).length + (natB x).length + Bs.length) Ls.length (u8s E ++ u8s (natB n) ++ u8s (natB x) ++ u8s Bs) (u8s Ls) rfl rfl (u8s_one _) (hm8.out.still hm4'.out.mod).own (Rd.own hm4'.out.own) (by omega) ?_; intro a10 c10 w10 hA mA vA; have hm10 := Lib.hid ((hm8.out.still hm4'.out.mod).push hA mA vA); clear hA mA vA)
      have hfin : Hid (Made wb w10 5 1 a10 (encTo c (i + 1)).length c10 (u8s (encTo c (i + 1)))) := by
        have hq : u8s (encTo c (i + 1)) = u8s E ++ u8s (natB n) ++ u8s (natB x) ++ u8s Bs ++ u8s Ls := by rw [hnext'.out]; simp [u8s_append, List.append_assoc]
        have hl : (encTo c (i + 1)).length = E.length + (natB n).length + (natB x).length + Bs.length + Ls.length := by rw [hnext'.out]; simp [List.length_append]; omega
        show Made _ _ _ _ _ _ _ _
        rw [hq, hl]; exact hm10.out
      have hl : Hid ((encTo c (i + 1)).length = E.length + (natB n).length + (natB x).length + Bs.length + Ls.length) := by show _ = _; rw [hnext'.out]; simp [List.length_append]; omega
      go_roundw
      case rel => exact ⟨i + 1, a10, c10, by omega, by go_num, by rw [hl.out], hfin.out⟩
      case measure => simp [intOf]; omega
    · have hil : c.up.length = i := by omega
      have t1 : decide ((i : Int) < (c.up.length : Int)) = false := by simp; omega
      have t1' : decide (i < c.up.length) = false := by simpa using hlt
      have hg1 := hg'.out.keep hme'.out.mod (by simp)
      have s0 := hg1.cell 0 rfl
      have s1 := hg1.cell 1 rfl
      have sf := hg1.free
      have sl := hg1.lt
      have hfin : Hid (∀ u v, REncOut c w (.returned (.agg #[.slice ao (encTo c i).length co, .int .i64 0])) ((wr.setCell ⟨B + 1, 0, none⟩ u).setCell ⟨B + 1, 1, none⟩ v)) := by
        have h2 := hme'.out
        rw [← hil] at h2 ⊢
        exact hout.out wr ao co h2
      clear hil hout hcells hg1 hlt
      go_wp2_with fail
      exact bodyPost_ret (v := .agg #[.slice ao (encTo c i).length co, .int .i64 0]) (by simp [results, Try.results88, go_sem, s0, s1]) rfl (hfin.out _ _)
theorem rencode_any {w : World} {vu vw vs vf : Value} (c : CertV) (h : CRep w vu vw vs vf c) (hf : Fits c) :
    Calls Try.prog 88 #[.agg #[vu, vw, vs, vf]] w (REncOut c w) := by
  cases hr : rightB c with
  | true => exact rencode_yes c h hr hf
  | false => exact rencode_no c h hr
end Code.Cert
end Go.Proofs.Ytmkbinbggiocaaa

set_option linter.unusedVariables false
set_option linter.unusedSimpArgs false
namespace Go.Proofs.Ytmkbinbggiocaaa
open Go.RowKit
namespace Code.Cert
def eqR (xs ys : List (List Int)) : Bool := decide (xs = ys)
theorem eqR_yes {xs ys : List (List Int)} (hlen : xs.length = ys.length) (h : ∀ k, k < xs.length → xs.getD k [] = ys.getD k []) : eqR xs ys = true := by
  unfold eqR
  rw [decide_eq_true_eq]
  refine List.ext_getElem hlen fun i h1 h2 => ?_
  have := h i h1
  simpa [List.getD_eq_getElem?_getD, h1, h2] using this
theorem eqR_no {xs ys : List (List Int)} {k : Nat} (h : xs.getD k [] ≠ ys.getD k []) : eqR xs ys = false := by
  unfold eqR
  rw [decide_eq_false_iff_not]
  intro e; subst e; exact h rfl
theorem eqR_len {xs ys : List (List Int)} (h : xs.length ≠ ys.length) : eqR xs ys = false := by
  unfold eqR
  rw [decide_eq_false_iff_not]
  intro e; subst e; exact h rfl
set_option maxHeartbeats 1000000 in
theorem equal_int {w : World} {va vb : Value} {xs ys : List Int} (ha : Rd w 1 va xs.length (vi64 xs)) (hb : Rd w 1 vb ys.length (vi64 ys)) :
    Calls Try.prog 151 #[va, vb] w (BoolOut (eqI xs ys) w) := by
  obtain ⟨a1, c1, rfl⟩ := ha.val
  obtain ⟨a2, c2, rfl⟩ := hb.val
  have hm1 := ha.le
  by_cases hlen : xs.length = ys.length
  · have hd : ((xs.length : Int) != (ys.length : Int)) = false := by simp [hlen]
    have hout : (∀ k, k < xs.length → xs.getD k 0 = ys.getD k 0) → eqI xs ys = true := by
      intro h
      unfold eqI
      rw [decide_eq_true_eq]
      refine List.ext_getElem hlen fun i h1 h2 => ?_
      have := h i h1
      simpa [List.getD_eq_getElem?_getD, h1, h2] using this
    have hno : ∀ k, k < xs.length → xs.getD k 0 ≠ ys.getD k 0 → eqI xs ys = false := by
      intro k _ hne
      unfold eqI
      rw [decide_eq_false_iff_not]
      intro e; subst e; exact hne rfl
    have hout' := Lib.hid hout
    have hno' := Lib.hid hno
    have hlen' := Lib.hid hlen
    clear hout hno hlen
    go_enter Try.func151, Try.ntmps151
    go_wp2
    go_loopw [13] (fun i wr => ∃ k n : Nat, k ≤ xs.length ∧ i = .int .i64 k ∧ wr = w.drewN n ∧ ∀ j, j < k → xs.getD j 0 = ys.getD j 0) (fun i _ => xs.length - (intOf i).toNat)
    case atStart => exact ⟨0, 0, Nat.zero_le _, rfl, rfl, fun j hj => by omega⟩
    case round =>
      obtain ⟨k, n, hk, rfl, rfl, heq⟩ := hrel
      by_cases hlt : k < xs.length
      · obtain ⟨g1, o1, rfl, hc1⟩ := rd_cell ha hlt
        obtain ⟨g2, o2, rfl, hc2⟩ := rd_cell (k := k) hb (by rw [← hlen'.out]; exact hlt)
        have hlt2 : (k : Int) < ys.length := by have := hlen'.out; omega
        have hlt1 : (k : Int) < xs.length := by omega
        by_cases hx : xs.getD k 0 = ys.getD k 0
        · have hfin : ∀ j, j < k + 1 → xs.getD j 0 = ys.getD j 0 := by
            intro j hj
            rcases Nat.lt_or_ge j k with h | h
            · exact heq j h
            · rw [show j = k from by omega]; exact hx
          have hx' : (xs.getD k 0 != ys.getD k 0) = false := by rw [hx]; simp
          have hfin' := Lib.hid hfin
          generalize xs.getD k 0 = u at *
          generalize ys.getD k 0 = v at *
          clear hfin heq hx
          go_wp2
          go_quiet (fail)
          go_wp2
          go_roundw
          case rel => exact ⟨k + 1, _, by omega, by go_num, rfl, hfin'.out⟩
          case measure => simp [intOf]; omega
        · have hf := hno'.out k hlt hx
          have hx' : (xs.getD k 0 != ys.getD k 0) = true := by simpa using hx
          have hf' := Lib.hid hf
          generalize xs.getD k 0 = u at *
          generalize ys.getD k 0 = v at *
          clear hf heq hx
          go_wp2
          go_quiet (fail)
          go_wp2
          go_ret
          exact ⟨by rw [hf'.out]; rfl, _, World.drewN_drewN _ _ _⟩
      · have hk' : k = xs.length := by omega
        have hf := hout'.out (by rw [← hk']; exact heq)
        have hf' := Lib.hid hf
        clear hf heq hk'
        go_wp2
        go_ret
        exact ⟨by rw [hf'.out]; rfl, _, rfl⟩
  · have hd : ((xs.length : Int) != (ys.length : Int)) = true := by simp; omega
    have hf : eqI xs ys = false := by
      unfold eqI
      rw [decide_eq_false_iff_not]
      intro e; subst e; exact hlen rfl
    have hf' := Lib.hid hf
    clear hf hlen
    go_enter Try.func151, Try.ntmps151
    go_wp2
    go_ret
    exact ⟨by rw [hf'.out]; rfl, 0, rfl⟩
set_option maxHeartbeats 1000000 in
theorem equal_i64 {w : World} {va vb : Value} {xs ys : List Int} (ha : Rd w 1 va xs.length (vi64 xs)) (hb : Rd w 1 vb ys.length (vi64 ys)) :
    Calls Try.prog 153 #[va, vb] w (BoolOut (eqI xs ys) w) := by
  obtain ⟨a1, c1, rfl⟩ := ha.val
  obtain ⟨a2, c2, rfl⟩ := hb.val
  have hm1 := ha.le
  by_cases hlen : xs.length = ys.length
  · have hd : ((xs.length : Int) != (ys.length : Int)) = false := by simp [hlen]
    have hout : (∀ k, k < xs.length → xs.getD k 0 = ys.getD k 0) → eqI xs ys = true := by
      intro h
      unfold eqI
      rw [decide_eq_true_eq]
      refine List.ext_getElem hlen fun i h1 h2 => ?_
      have := h i h1
      simpa [List.getD_eq_getElem?_getD, h1, h2] using this
    have hno : ∀ k, k < xs.length → xs.getD k 0 ≠ ys.getD k 0 → eqI xs ys = false := by
      intro k _ hne
      unfold eqI
      rw [decide_eq_false_iff_not]
      intro e; subst e; exact hne rfl
    have hout' := Lib.hid hout
    have hno' := Lib.hid hno
    have hlen' := Lib.hid hlen
    clear hout hno hlen
    go_enter Try.func153, Try.ntmps153
    go_wp2
    go_loopw [13] (fun i wr => ∃ k n : Nat, k ≤ xs.length ∧ i = .int .i64 k ∧ wr = w.drewN n ∧ ∀ j, j < k → xs.getD j 0 = ys.getD j 0) (fun i _ => xs.length - (intOf i).toNat)
    case atStart => exact ⟨0, 0, Nat.zero_le _, rfl, rfl, fun j hj => by omega⟩
    case round =>
      obtain ⟨k, n, hk, rfl, rfl, heq⟩ := hrel
      by_cases hlt : k < xs.length
      · obtain ⟨g1, o1, rfl, hc1⟩ := rd_cell ha hlt
        obtain ⟨g2, o2, rfl, hc2⟩ := rd_cell (k := k) hb (by rw [← hlen'.out]; exact hlt)
        have hlt2 : (k : Int) < ys.length := by have := hlen'.out; omega
        have hlt1 : (k : Int) < xs.length := by omega
        by_cases hx : xs.getD k 0 = ys.getD k 0
        · have hfin : ∀ j, j < k + 1 → xs.getD j 0 = ys.getD j 0 := by
            intro j hj
            rcases Nat.lt_or_ge j k with h | h
            · exact heq j h
            · rw [show j = k from by omega]; exact hx
          have hx' : (xs.getD k 0 != ys.getD k 0) = false := by rw [hx]; simp
          have hfin' := Lib.hid hfin
          generalize xs.getD k 0 = u at *
          generalize ys.getD k 0 = v at *
          clear hfin heq hx
          go_wp2
          go_quiet (fail)
          go_wp2
          go_roundw
          case rel => exact ⟨k + 1, _, by omega, by go_num, rfl, hfin'.out⟩
          case measure => simp [intOf]; omega
        · have hf := hno'.out k hlt hx
          have hx' : (xs.getD k 0 != ys.getD k 0) = true := by simpa using hx
          have hf' := Lib.hid hf
          generalize xs.getD k 0 = u at *
          generalize ys.getD k 0 = v at *
          clear hf heq hx
          go_wp2
          go_quiet (fail)
          go_wp2
          go_ret
          exact ⟨by rw [hf'.out]; rfl, _, World.drewN_drewN _ _ _⟩
      · have hk' : k = xs.length := by omega
        have hf := hout'.out (by rw [← hk']; exact heq)
        have hf' := Lib.hid hf
        clear hf heq hk'
        go_wp2
        go_ret
        exact ⟨by rw [hf'.out]; rfl, _, rfl⟩
  · have hd : ((xs.length : Int) != (ys.length : Int)) = true := by simp; omega
    have hf : eqI xs ys = false := by
      unfold eqI
      rw [decide_eq_false_iff_not]
      intro e; subst e; exact hlen rfl
    have hf' := Lib.hid hf
    clear hf hlen
    go_enter Try.func153, Try.ntmps153
    go_wp2
    go_ret
    exact ⟨by rw [hf'.out]; rfl, 0, rfl⟩
set_option maxHeartbeats 1000000 in
theorem same04 {w : World} {va vb : Value} {xs ys : List Int} (ha : Rd w 1 va xs.length (vi64 xs)) (hb : Rd w 1 vb ys.length (vi64 ys)) :
    Calls Try.prog 155 #[va, vb] w (BoolOut (eqI xs ys) w) := by
  obtain ⟨a1, c1, rfl⟩ := ha.val
  obtain ⟨a2, c2, rfl⟩ := hb.val
  have hm1 := ha.le
  by_cases hlen : xs.length = ys.length
  · have hd : ((xs.length : Int) != (ys.length : Int)) = false := by simp [hlen]
    have hout : (∀ k, k < xs.length → xs.getD k 0 = ys.getD k 0) → eqI xs ys = true := by
      intro h
      unfold eqI
      rw [decide_eq_true_eq]
      refine List.ext_getElem hlen fun i h1 h2 => ?_
      have := h i h1
      simpa [List.getD_eq_getElem?_getD, h1, h2] using this
    have hno : ∀ k, k < xs.length → xs.getD k 0 ≠ ys.getD k 0 → eqI xs ys = false := by
      intro k _ hne
      unfold eqI
      rw [decide_eq_false_iff_not]
      intro e; subst e; exact hne rfl
    have hout' := Lib.hid hout
    have hno' := Lib.hid hno
    have hlen' := Lib.hid hlen
    clear hout hno hlen
    go_enter Try.func155, Try.ntmps155
    go_wp2
    go_loopw [5] (fun i wr => ∃ k n : Nat, k ≤ xs.length ∧ i = .int .i64 k ∧ wr = w.drewN n ∧ ∀ j, j < k → xs.getD j 0 = ys.getD j 0) (fun i _ => xs.length - (intOf i).toNat)
    case atStart => exact ⟨0, 0, Nat.zero_le _, rfl, rfl, fun j hj => by omega⟩
    case round =>
      obtain ⟨k, n, hk, rfl, rfl, heq⟩ := hrel
      by_cases hlt : k < xs.length
      · obtain ⟨g1, o1, rfl, hc1⟩ := rd_cell ha hlt
        obtain ⟨g2, o2, rfl, hc2⟩ := rd_cell (k := k) hb (by rw [← hlen'.out]; exact hlt)
        have hlt2 : (k : Int) < ys.length := by have := hlen'.out; omega
        have hlt1 : (k : Int) < xs.length := by omega
        by_cases hx : xs.getD k 0 = ys.getD k 0
        · have hfin : ∀ j, j < k + 1 → xs.getD j 0 = ys.getD j 0 := by
            intro j hj
            rcases Nat.lt_or_ge j k with h | h
            · exact heq j h
            · rw [show j = k from by omega]; exact hx
          have hx' : (xs.getD k 0 != ys.getD k 0) = false := by rw [hx]; simp
          have hfin' := Lib.hid hfin
          generalize xs.getD k 0 = u at *
          generalize ys.getD k 0 = v at *
          clear hfin heq hx
          go_wp2
          go_quiet (fail)
          go_wp2
          go_roundw
          case rel => exact ⟨k + 1, _, by omega, by go_num, rfl, hfin'.out⟩
          case measure => simp [intOf]; omega
        · have hf := hno'.out k hlt hx
          have hx' : (xs.getD k 0 != ys.getD k 0) = true := by simpa using hx
          have hf' := Lib.hid hf
          generalize xs.getD k 0 = u at *
          generalize ys.getD k 0 = v at *
          clear hf heq hx
          go_wp2
          go_quiet (fail)
          go_wp2
          go_ret
          exact ⟨by rw [hf'.out]; rfl, _, World.drewN_drewN _ _ _⟩
      · have hk' : k = xs.length := by omega
        have hf := hout'.out (by rw [← hk']; exact heq)
        have hf' := Lib.hid hf
        clear hf heq hk'
        go_wp2
        go_ret
        exact ⟨by rw [hf'.out]; rfl, _, rfl⟩
  · have hd : ((xs.length : Int) != (ys.length : Int)) = true := by simp; omega
    have hf : eqI xs ys = false := by
      unfold eqI
      rw [decide_eq_false_iff_not]
      intro e; subst e; exact hlen rfl
    have hf' := Lib.hid hf
    clear hf hlen
    go_enter Try.func155, Try.ntmps155
    go_wp2
    go_ret
    exact ⟨by rw [hf'.out]; rfl, 0, rfl⟩
set_option maxHeartbeats 4000000 in
theorem equalf_int {w : World} {va vb : Value} {xs ys : List (List Int)} (ha : RdR w va xs) (hb : RdR w vb ys) :
    Calls Try.prog 150 #[va, vb, .func (.func 151) #[] #[]] w (BoolOut (eqR xs ys) w) := by
  obtain ⟨a1, c1, rfl⟩ := ha.val
  obtain ⟨a2, c2, rfl⟩ := hb.val
  have hm1 := ha.le
  have ha' := Lib.hid ha
  have hb' := Lib.hid hb
  clear ha hb
  by_cases hlen : xs.length = ys.length
  · have hd : ((xs.length : Int) != (ys.length : Int)) = false := by simp [hlen]
    have hout' := Lib.hid (eqR_yes hlen)
    have hlen' := Lib.hid hlen
    clear hlen
    go_enter Try.func150, Try.ntmps150
    go_wp2
    go_loopw [17] (fun i wr => ∃ k n : Nat, k ≤ xs.length ∧ i = .int .i64 k ∧ wr = w.drewN n ∧ ∀ j, j < k → xs.getD j [] = ys.getD j []) (fun i _ => xs.length - (intOf i).toNat)
    case atStart => exact ⟨0, 0, Nat.zero_le _, rfl, rfl, fun j hj => by omega⟩
    case round =>
      obtain ⟨k, n, hk, rfl, rfl, heq⟩ := hrel
      have heq' := Lib.hid heq
      clear heq
      by_cases hlt : k < xs.length
      · obtain ⟨g1, o1, ax, cx, rfl, hc1, hr1⟩ := ha'.out.get hlt
        obtain ⟨g2, o2, ay, cy, rfl, hc2, hr2⟩ := hb'.out.get (k := k) (by rw [← hlen'.out]; exact hlt)
        have hlt2 : (k : Int) < ys.length := by have := hlen'.out; omega
        have hlt1 : (k : Int) < xs.length := by omega
        have hcall := Lib.hid (equal_int (hr1.still ((Mod.refl [] w).drewN n)) (hr2.still ((Mod.refl [] w).drewN n)))
        have hno' := Lib.hid (eqR_no (xs := xs) (ys := ys) (k := k))
        clear hr1 hr2
        generalize hX : xs.getD k [] = X at *
        generalize hY : ys.getD k [] = Y at *
        have hX' := Lib.hid hX
        have hY' := Lib.hid hY
        clear hX hY
        go_wp2_with fail
        refine hcall.out.mono ?_
        rintro e w1 ⟨rfl, hd1⟩
        try dsimp only
        obtain ⟨n1, rfl⟩ := hd1
        by_cases hxy : X = Y
        · have e1 : eqI X Y = true := by rw [hxy]; simp [eqI]
          rw [e1]
          have hxy' := Lib.hid hxy
          clear hxy e1 hcall hno'
          go_wp2_with fail
          go_roundw
          case rel =>
            refine ⟨k + 1, n + n1, by omega, by go_num, rfl, fun j hj => ?_⟩
            rcases Nat.lt_or_ge j k with h | h
            · exact heq'.out j h
            · rw [show j = k from by omega, hX'.out, hY'.out]; exact hxy'.out
          case measure => simp [intOf]; omega
        · have e1 : eqI X Y = false := by unfold eqI; exact decide_eq_false hxy
          rw [e1]
          have hf := Lib.hid (hno'.out hxy)
          clear hxy e1 hcall
          go_wp2_with fail
          go_ret
          exact ⟨by rw [hf.out]; rfl, n + n1, rfl⟩
      · have hk' : k = xs.length := by omega
        have hf := hout'.out (by rw [← hk']; exact heq'.out)
        have hf' := Lib.hid hf
        clear hf hk'
        go_wp2_with fail
        go_ret
        exact ⟨by rw [hf'.out]; rfl, n, rfl⟩
  · have hd : ((xs.length : Int) != (ys.length : Int)) = true := by simp; omega
    have hf' := Lib.hid (eqR_len hlen)
    clear hlen
    go_enter Try.func150, Try.ntmps150
    go_wp2
    go_ret
    exact ⟨by rw [hf'.out]; rfl, 0, rfl⟩
set_option maxHeartbeats 4000000 in
theorem equalf_i64 {w : World} {va vb : Value} {xs ys : List (List Int)} (ha : RdR w va xs) (hb : RdR w vb ys) :
    Calls Try.prog 152 #[va, vb, .func (.func 153) #[] #[]] w (BoolOut (eqR xs ys) w) := by
  obtain ⟨a1, c1, rfl⟩ := ha.val
  obtain ⟨a2, c2, rfl⟩ := hb.val
  have hm1 := ha.le
  have ha' := Lib.hid ha
  have hb' := Lib.hid hb
  clear ha hb
  by_cases hlen : xs.length = ys.length
  · have hd : ((xs.length : Int) != (ys.length : Int)) = false := by simp [hlen]
    have hout' := Lib.hid (eqR_yes hlen)
    have hlen' := Lib.hid hlen
    clear hlen
    go_enter Try.func152, Try.ntmps152
    go_wp2
    go_loopw [17] (fun i wr => ∃ k n : Nat, k ≤ xs.length ∧ i = .int .i64 k ∧ wr = w.drewN n ∧ ∀ j, j < k → xs.getD j [] = ys.getD j []) (fun i _ => xs.length - (intOf i).toNat)
    case atStart => exact ⟨0, 0, Nat.zero_le _, rfl, rfl, fun j hj => by omega⟩
    case round =>
      obtain ⟨k, n, hk, rfl, rfl, heq⟩ := hrel
      have heq' := Lib.hid heq
      clear heq
      by_cases hlt : k < xs.length
      · obtain ⟨g1, o1, ax, cx, rfl, hc1, hr1⟩ := ha'.out.get hlt
        obtain ⟨g2, o2, ay, cy, rfl, hc2, hr2⟩ := hb'.out.get (k := k) (by rw [← hlen'.out]; exact hlt)
        have hlt2 : (k : Int) < ys.length := by have := hlen'.out; omega
        have hlt1 : (k : Int) < xs.length := by omega
        have hcall := Lib.hid (equal_i64 (hr1.still ((Mod.refl [] w).drewN n)) (hr2.still ((Mod.refl [] w).drewN n)))
        have hno' := Lib.hid (eqR_no (xs := xs) (ys := ys) (k := k))
        clear hr1 hr2
        generalize hX : xs.getD k [] = X at *
        generalize hY : ys.getD k [] = Y at *
        have hX' := Lib.hid hX
        have hY' := Lib.hid hY
        clear hX hY
        go_wp2_with fail
        refine hcall.out.mono ?_
        rintro e w1 ⟨rfl, hd1⟩
        try dsimp only
        obtain ⟨n1, rfl⟩ := hd1
        by_cases hxy : X = Y
        · have e1 : eqI X Y = true := by rw [hxy]; simp [eqI]
          rw [e1]
          have hxy' := Lib.hid hxy
          clear hxy e1 hcall hno'
          go_wp2_with fail
          go_roundw
          case rel =>
            refine ⟨k + 1, n + n1, by omega, by go_num, rfl, fun j hj => ?_⟩
            rcases Nat.lt_or_ge j k with h | h
            · exact heq'.out j h
            · rw [show j = k from by omega, hX'.out, hY'.out]; exact hxy'.out
          case measure => simp [intOf]; omega
        · have e1 : eqI X Y = false := by unfold eqI; exact decide_eq_false hxy
          rw [e1]
          have hf := Lib.hid (hno'.out hxy)
          clear hxy e1 hcall
          go_wp2_with fail
          go_ret
          exact ⟨by rw [hf.out]; rfl, n + n1, rfl⟩
      · have hk' : k = xs.length := by omega
        have hf := hout'.out (by rw [← hk']; exact heq'.out)
        have hf' := Lib.hid hf
        clear hf hk'
        go_wp2_with fail
        go_ret
        exact ⟨by rw [hf'.out]; rfl, n, rfl⟩
  · have hd : ((xs.length : Int) != (ys.length : Int)) = true := by simp; omega
    have hf' := Lib.hid (eqR_len hlen)
    clear hlen
    go_enter Try.func152, Try.ntmps152
    go_wp2
    go_ret
    exact ⟨by rw [hf'.out]; rfl, 0, rfl⟩
/-- Two trees. -/
theorem tree_same {w : World} {va vb vc vd : Value} {xs ys zs us : List Int} (ha : Rd w 1 va xs.length (vi64 xs)) (hb : Rd w 1 vb ys.length (vi64 ys)) (hc : Rd w 1 vc zs.length (vi64 zs)) (hd : Rd w 1 vd us.length (vi64 us)) :
    Calls Try.prog 149 #[.agg #[va, vb], .agg #[vc, vd]] w (BoolM (eqI xs zs && eqI ys us) w) := by
  have hm0 : Mod [] w ((w.alloc (.cells #[va, vb] 124)).alloc (.cells #[vc, vd] 124)) := ((Mod.refl [] w).alloc _).alloc _
  obtain ⟨wb, hwb⟩ : ∃ wb, wb = (w.alloc (.cells #[va, vb] 124)).alloc (.cells #[vc, vd] 124) := ⟨_, rfl⟩
  obtain ⟨B, hB⟩ : ∃ B, B = w.heap.size := ⟨_, rfl⟩
  have h1 : Has wb B [va, vb] 124 := by rw [hwb, hB]; exact (Has.new w _ _).alloc _
  have h2 : Has wb (B + 1) [vc, vd] 124 := by
    have := Has.new (w.alloc (.cells #[va, vb] 124)) [vc, vd] 124
    rw [World.size_alloc] at this
    rw [hwb, hB]; exact this
  rw [← hwb] at hm0
  obtain ⟨a1, c1, rfl⟩ := ha.val
  obtain ⟨a2, c2, rfl⟩ := hb.val
  obtain ⟨a3, c3, rfl⟩ := hc.val
  obtain ⟨a4, c4, rfl⟩ := hd.val
  have k1 := Lib.hid (equal_int (ha.still hm0) (hc.still hm0))
  have k2 := Lib.hid (fun W (m : Mod [] w W) => equal_i64 (hb.still m) (hd.still m))
  have h1' := Lib.hid h1
  have h2' := Lib.hid h2
  have hm0' := Lib.hid hm0
  have hwb' := Lib.hid hwb
  have hB' := Lib.hid hB
  clear ha hb hc hd h1 h2 hm0 hwb hB
  go_enter Try.func149, Try.ntmps149
  go_wp2_with fail
  rw [← hB'.out, ← hwb'.out]
  refine k1.out.mono ?_
  rintro e w1 ⟨rfl, hd1⟩
  try dsimp only
  have m1 := hd1.mod
  have d0 := (h1'.out.keep m1 (by simp)).cell 1 rfl
  have d1 := (h2'.out.keep m1 (by simp)).cell 1 rfl
  have hl := (h1'.out.keep m1 (by simp)).lt
  have hl2 := (h2'.out.keep m1 (by simp)).lt
  have m1' := Lib.hid (hm0'.out.trans m1 (by simp))
  clear m1 hd1
  cases hq : eqI xs zs with
  | false =>
    have hq' := Lib.hid hq
    clear hq
    go_wp2_with fail
    go_ret
    exact ⟨by rw [hq'.out]; rfl, m1'.out⟩
  | true =>
    have hq' := Lib.hid hq
    clear hq
    go_wp2_with fail
    refine (k2.out _ m1'.out).mono ?_
    rintro e w2 ⟨rfl, hd2⟩
    try dsimp only
    have m2 := Lib.hid (m1'.out.trans hd2.mod (by simp))
    clear hd2
    go_wp2_with fail
    go_ret
    exact ⟨by rw [hq'.out, Bool.true_and]; rfl, m2.out⟩
/-- Two trees. -/
theorem tree29 {w : World} {va vb vc vd : Value} {xs ys zs us : List Int} (ha : Rd w 1 va xs.length (vi64 xs)) (hb : Rd w 1 vb ys.length (vi64 ys)) (hc : Rd w 1 vc zs.length (vi64 zs)) (hd : Rd w 1 vd us.length (vi64 us)) :
    Calls Try.prog 154 #[.agg #[va, vb], .agg #[vc, vd]] w (BoolM (eqI xs zs && eqI ys us) w) := by
  have hm0 : Mod [] w ((w.alloc (.cells #[va, vb] 124)).alloc (.cells #[vc, vd] 124)) := ((Mod.refl [] w).alloc _).alloc _
  obtain ⟨wb, hwb⟩ : ∃ wb, wb = (w.alloc (.cells #[va, vb] 124)).alloc (.cells #[vc, vd] 124) := ⟨_, rfl⟩
  obtain ⟨B, hB⟩ : ∃ B, B = w.heap.size := ⟨_, rfl⟩
  have h1 : Has wb B [va, vb] 124 := by rw [hwb, hB]; exact (Has.new w _ _).alloc _
  have h2 : Has wb (B + 1) [vc, vd] 124 := by
    have := Has.new (w.alloc (.cells #[va, vb] 124)) [vc, vd] 124
    rw [World.size_alloc] at this
    rw [hwb, hB]; exact this
  rw [← hwb] at hm0
  obtain ⟨a1, c1, rfl⟩ := ha.val
  obtain ⟨a2, c2, rfl⟩ := hb.val
  obtain ⟨a3, c3, rfl⟩ := hc.val
  obtain ⟨a4, c4, rfl⟩ := hd.val
  have k1 := Lib.hid (ints_rd (ha.still hm0) (hc.still hm0))
  have k2 := Lib.hid (fun W (m : Mod [] w W) => same04 (hb.still m) (hd.still m))
  have h1' := Lib.hid h1
  have h2' := Lib.hid h2
  have hm0' := Lib.hid hm0
  have hwb' := Lib.hid hwb
  have hB' := Lib.hid hB
  clear ha hb hc hd h1 h2 hm0 hwb hB
  go_enter Try.func154, Try.ntmps154
  go_wp2_with fail
  rw [← hB'.out, ← hwb'.out]
  refine k1.out.mono ?_
  rintro e w1 ⟨rfl, hd1⟩
  try dsimp only
  have m1 := hd1.mod
  have d0 := (h1'.out.keep m1 (by simp)).cell 1 rfl
  have d1 := (h2'.out.keep m1 (by simp)).cell 1 rfl
  have hl := (h1'.out.keep m1 (by simp)).lt
  have hl2 := (h2'.out.keep m1 (by simp)).lt
  have m1' := Lib.hid (hm0'.out.trans m1 (by simp))
  clear m1 hd1
  cases hq : eqI xs zs with
  | false =>
    have hq' := Lib.hid hq
    clear hq
    go_wp2_with fail
    go_ret
    exact ⟨by rw [hq'.out]; rfl, m1'.out⟩
  | true =>
    have hq' := Lib.hid hq
    clear hq
    go_wp2_with fail
    refine (k2.out _ m1'.out).mono ?_
    rintro e w2 ⟨rfl, hd2⟩
    try dsimp only
    have m2 := Lib.hid (m1'.out.trans hd2.mod (by simp))
    clear hd2
    go_wp2_with fail
    go_ret
    exact ⟨by rw [hq'.out, Bool.true_and]; rfl, m2.out⟩
end Code.Cert
end Go.Proofs.Ytmkbinbggiocaaa

set_option linter.unusedVariables false
set_option linter.unusedSimpArgs false
namespace Go.Proofs.Ytmkbinbggiocaaa
open Go.RowKit
namespace Code.Cert
def sameC (c d : CertV) : Bool := (eqI c.up d.up && eqI c.ws d.ws) && eqR c.sides d.sides && eqR c.flows d.flows
theorem old_cell {w w' : World} (m : Mod [] w w') {p : Addr} {v : Value} (h : w.cell? p = some v) : w'.cell? p = some v := (World.cell?_of_block (m.block _ (World.block_lt_of_cell? w _ h) (by simp))).trans h
set_option maxRecDepth 100000 in
set_option maxHeartbeats 8000000 in
theorem same_prog {w : World} {vu vw vs vf xu xw xs xf : Value} (c d : CertV) (h : CRep w vu vw vs vf c) (k : CRep w xu xw xs xf d) :
    Calls Try.prog 91 #[.agg #[vu, vw, vs, vf], .agg #[xu, xw, xs, xf]] w (BoolM (sameC c d) w) := by
  obtain ⟨wb, hwb⟩ : ∃ wb, wb = (w.alloc (.cells #[vu, vw, vs, vf] 128)).alloc (.cells #[xu, xw, xs, xf] 128) := ⟨_, rfl⟩
  obtain ⟨B, hB⟩ : ∃ B, B = w.heap.size := ⟨_, rfl⟩
  have hm0 : Mod [] w wb := by rw [hwb]; exact ((Mod.refl [] w).alloc _).alloc _
  have h1 : Has wb B [vu, vw, vs, vf] 128 := by rw [hwb, hB]; exact (Has.new w _ _).alloc _
  have h2 : Has wb (B + 1) [xu, xw, xs, xf] 128 := by
    have := Has.new (w.alloc (.cells #[vu, vw, vs, vf] 128)) [xu, xw, xs, xf] 128
    rw [World.size_alloc] at this
    rw [hwb, hB]; exact this
  obtain ⟨au, cu, aw, cw, sa, cs, af, cf, rfl, rfl, rfl, rfl⟩ := h.vals
  obtain ⟨bu, du, bw, dw, sb, ds, bf, df, rfl, rfl, rfl, rfl⟩ := k.vals
  have hc := Lib.hid (h.still hm0)
  have hk := Lib.hid (k.still hm0)
  have h1' := Lib.hid h1
  have h2' := Lib.hid h2
  have hm0' := Lib.hid hm0
  have hwb' := Lib.hid hwb
  have hB' := Lib.hid hB
  clear h k h1 h2 hm0 hwb hB
  have kT := Lib.hid (tree_same hc.out.up hc.out.ws hk.out.up hk.out.ws)
  have kS := Lib.hid (fun W (m : Mod [] wb W) => equalf_int (hc.out.sides.still m) (hk.out.sides.still m))
  have kF := Lib.hid (fun W (m : Mod [] wb W) => equalf_i64 (hc.out.flows.still m) (hk.out.flows.still m))
  go_enter Try.func91, Try.ntmps91
  go_wp2_with fail
  rw [← hB'.out, ← hwb'.out]
  refine kT.out.mono ?_
  rintro e w1 ⟨rfl, m1⟩
  try dsimp only
  have d0 := (h1'.out.keep m1 (by simp)).cell 0 rfl
  have d1 := (h1'.out.keep m1 (by simp)).cell 1 rfl
  have d2 := (h1'.out.keep m1 (by simp)).cell 2 rfl
  have d3 := (h1'.out.keep m1 (by simp)).cell 3 rfl
  have dl := (h1'.out.keep m1 (by simp)).lt
  have g0 := (h2'.out.keep m1 (by simp)).cell 0 rfl
  have g1 := (h2'.out.keep m1 (by simp)).cell 1 rfl
  have g2 := (h2'.out.keep m1 (by simp)).cell 2 rfl
  have g3 := (h2'.out.keep m1 (by simp)).cell 3 rfl
  have gl := (h2'.out.keep m1 (by simp)).lt
  have m1' := Lib.hid m1
  have mw1 := Lib.hid (hm0'.out.trans m1 (by simp))
  clear m1
  cases hq : (eqI c.up d.up && eqI c.ws d.ws) with
  | false =>
    have hf : Hid (sameC c d = false) := by show _ = _; unfold sameC; rw [hq]; rfl
    clear hq
    go_wp2_with fail
    go_ret
    exact ⟨by rw [hf.out]; rfl, mw1.out⟩
  | true =>
    have hq' := Lib.hid hq
    clear hq
    go_wp2_with fail
    refine (kS.out _ m1'.out).mono ?_
    rintro e w2 ⟨rfl, hd2⟩
    try dsimp only
    have m2 := m1'.out.trans hd2.mod (by simp)
    clear hd2
    clear d0 d1 d2 d3 dl g0 g1 g2 g3 gl
    have d0 := (h1'.out.keep m2 (by simp)).cell 0 rfl
    have d1 := (h1'.out.keep m2 (by simp)).cell 1 rfl
    have d2 := (h1'.out.keep m2 (by simp)).cell 2 rfl
    have d3 := (h1'.out.keep m2 (by simp)).cell 3 rfl
    have dl := (h1'.out.keep m2 (by simp)).lt
    have g0 := (h2'.out.keep m2 (by simp)).cell 0 rfl
    have g1 := (h2'.out.keep m2 (by simp)).cell 1 rfl
    have g2 := (h2'.out.keep m2 (by simp)).cell 2 rfl
    have g3 := (h2'.out.keep m2 (by simp)).cell 3 rfl
    have gl := (h2'.out.keep m2 (by simp)).lt
    have m2' := Lib.hid m2
    have mw2 := Lib.hid (hm0'.out.trans m2 (by simp))
    clear m2
    cases hq2 : eqR c.sides d.sides with
    | false =>
      have hf : Hid (sameC c d = false) := by show _ = _; unfold sameC; rw [hq2]; simp
      clear hq2
      go_wp2_with fail
      go_ret
      exact ⟨by rw [hf.out]; rfl, mw2.out⟩
    | true =>
      have hf : Hid (sameC c d = eqR c.flows d.flows) := by show _ = _; unfold sameC; rw [hq'.out, hq2]; simp
      clear hq2
      go_wp2_with fail
      refine (kF.out _ m2'.out).mono ?_
      rintro e w3 ⟨rfl, hd3⟩
      try dsimp only
      have m3 := Lib.hid (mw2.out.trans hd3.mod (by simp))
      clear hd3
      clear d0 d1 d2 d3 dl g0 g1 g2 g3 gl
      go_wp2_with fail
      go_ret
      exact ⟨by rw [hf.out]; rfl, m3.out⟩
set_option maxRecDepth 100000 in
set_option maxHeartbeats 8000000 in
theorem same_ref {w : World} {vu vw vs vf xu xw xs xf : Value} (c d : CertV) (h : CRep w vu vw vs vf c) (k : CRep w xu xw xs xf d) :
    Calls Try.prog 92 #[.agg #[vu, vw, vs, vf], .agg #[xu, xw, xs, xf]] w (BoolM (sameC c d) w) := by
  obtain ⟨wb, hwb⟩ : ∃ wb, wb = (w.alloc (.cells #[vu, vw, vs, vf] 130)).alloc (.cells #[xu, xw, xs, xf] 130) := ⟨_, rfl⟩
  obtain ⟨B, hB⟩ : ∃ B, B = w.heap.size := ⟨_, rfl⟩
  have hm0 : Mod [] w wb := by rw [hwb]; exact ((Mod.refl [] w).alloc _).alloc _
  have h1 : Has wb B [vu, vw, vs, vf] 130 := by rw [hwb, hB]; exact (Has.new w _ _).alloc _
  have h2 : Has wb (B + 1) [xu, xw, xs, xf] 130 := by
    have := Has.new (w.alloc (.cells #[vu, vw, vs, vf] 130)) [xu, xw, xs, xf] 130
    rw [World.size_alloc] at this
    rw [hwb, hB]; exact this
  obtain ⟨au, cu, aw, cw, sa, cs, af, cf, rfl, rfl, rfl, rfl⟩ := h.vals
  obtain ⟨bu, du, bw, dw, sb, ds, bf, df, rfl, rfl, rfl, rfl⟩ := k.vals
  have hc := Lib.hid (h.still hm0)
  have hk := Lib.hid (k.still hm0)
  have h1' := Lib.hid h1
  have h2' := Lib.hid h2
  have hm0' := Lib.hid hm0
  have hwb' := Lib.hid hwb
  have hB' := Lib.hid hB
  clear h k h1 h2 hm0 hwb hB
  have kT := Lib.hid (tree29 hc.out.up hc.out.ws hk.out.up hk.out.ws)
  have kl1 := hc.out.sides.le
  have kl2 := hc.out.flows.le
  go_enter Try.func92, Try.ntmps92
  go_wp2_with fail
  rw [← hB'.out, ← hwb'.out]
  refine kT.out.mono ?_
  rintro e w1 ⟨rfl, m1⟩
  try dsimp only
  have d0 := (h1'.out.keep m1 (by simp)).cell 0 rfl
  have d1 := (h1'.out.keep m1 (by simp)).cell 1 rfl
  have d2 := (h1'.out.keep m1 (by simp)).cell 2 rfl
  have d3 := (h1'.out.keep m1 (by simp)).cell 3 rfl
  have dl := (h1'.out.keep m1 (by simp)).lt
  have g0 := (h2'.out.keep m1 (by simp)).cell 0 rfl
  have g1 := (h2'.out.keep m1 (by simp)).cell 1 rfl
  have g2 := (h2'.out.keep m1 (by simp)).cell 2 rfl
  have g3 := (h2'.out.keep m1 (by simp)).cell 3 rfl
  have gl := (h2'.out.keep m1 (by simp)).lt
  have m1' := Lib.hid m1
  have mw1 := Lib.hid (hm0'.out.trans m1 (by simp))
  clear m1
  cases hq : (eqI c.up d.up && eqI c.ws d.ws) with
  | false =>
    have hf : Hid (sameC c d = false) := by show _ = _; unfold sameC; rw [hq]; rfl
    clear hq
    go_wp2_with fail
    go_ret
    exact ⟨by rw [hf.out]; rfl, mw1.out⟩
  | true =>
    have hq' := Lib.hid hq
    clear hq
    by_cases hls : c.sides.length ≠ d.sides.length
    · have t1 : ((c.sides.length : Int) != (d.sides.length : Int)) = true := by simp; omega
      have hf : Hid (sameC c d = false) := by show _ = _; unfold sameC; rw [eqR_len hls]; simp
      clear hls
      go_wp2_with fail
      go_ret
      exact ⟨by rw [hf.out]; rfl, mw1.out⟩
    have t1 : ((c.sides.length : Int) != (d.sides.length : Int)) = false := by simp; omega
    by_cases hlf : c.flows.length ≠ d.flows.length
    · have t2 : ((c.flows.length : Int) != (d.flows.length : Int)) = true := by simp; omega
      have hf : Hid (sameC c d = false) := by show _ = _; unfold sameC; rw [eqR_len hlf]; simp
      clear hls hlf
      go_wp2_with fail
      go_ret
      exact ⟨by rw [hf.out]; rfl, mw1.out⟩
    have t2 : ((c.flows.length : Int) != (d.flows.length : Int)) = false := by simp; omega
    have hls' : Hid (c.sides.length = d.sides.length) := by show _ = _; omega
    have hlf' : Hid (c.flows.length = d.flows.length) := by show _ = _; omega
    clear hls hlf
    go_wp2_with fail
    clear d0 d1 d2 d3 dl g0 g1 g2 g3 gl
    go_loopw [5] (fun iv wr => ∃ i : Nat, i ≤ c.sides.length ∧ iv = .int .i64 i ∧ Mod [] wb wr ∧ ∀ j, j < i → c.sides.getD j [] = d.sides.getD j []) (fun iv _ => c.sides.length - (intOf iv).toNat)
    case atStart => exact ⟨0, Nat.zero_le _, rfl, m1'.out, fun j hj => absurd hj (by omega)⟩
    case round =>
      obtain ⟨i, hi, rfl, hm, heq⟩ := hrel
      obtain ⟨wo, hwo⟩ : ∃ wo : World, wo = wr := ⟨_, rfl⟩
      clear hwo
      have hm' := Lib.hid hm
      have heq' := Lib.hid heq
      clear hm heq
      have d0 := (h1'.out.keep hm'.out (by simp)).cell 0 rfl
      have d1 := (h1'.out.keep hm'.out (by simp)).cell 1 rfl
      have d2 := (h1'.out.keep hm'.out (by simp)).cell 2 rfl
      have d3 := (h1'.out.keep hm'.out (by simp)).cell 3 rfl
      have dl := (h1'.out.keep hm'.out (by simp)).lt
      have g0 := (h2'.out.keep hm'.out (by simp)).cell 0 rfl
      have g1 := (h2'.out.keep hm'.out (by simp)).cell 1 rfl
      have g2 := (h2'.out.keep hm'.out (by simp)).cell 2 rfl
      have g3 := (h2'.out.keep hm'.out (by simp)).cell 3 rfl
      have gl := (h2'.out.keep hm'.out (by simp)).lt
      by_cases hlt : i < c.sides.length
      · have hlt1 : (i : Int) < c.sides.length := by omega
        have hlt2 : (i : Int) < d.sides.length := by rw [← hls'.out]; exact hlt1
        have q1 : decide ((i : Int) < (c.sides.length : Int)) = true := by simp; omega
        have q1' : decide (i < c.sides.length) = true := by simpa using hlt
        obtain ⟨gx, ox, ax, cx, rfl, hcx, hrx⟩ := RdR.get (k := i) (hc.out.sides.still hm'.out) hlt
        obtain ⟨gy, oy, ay, cy, rfl, hcy, hry⟩ := RdR.get (k := i) (hk.out.sides.still hm'.out) (by rw [← hls'.out]; exact hlt)
        have hcall := Lib.hid (ints_rd (hrx.still (Mod.refl [] wr).drew) (hry.still (Mod.refl [] wr).drew))
        have f1 : ∀ m : FutM wr.drew, m.v.cell? ⟨B, 2, none⟩ = some (.slice (some ⟨gx, ox, none⟩) c.sides.length cs) := fun m => old_cell ((Mod.refl [] wr).drew.trans m.of (by simp)) d2
        have f2 : ∀ m : FutM wr.drew, m.v.cell? ⟨B + 1, 2, none⟩ = some (.slice (some ⟨gy, oy, none⟩) d.sides.length ds) := fun m => old_cell ((Mod.refl [] wr).drew.trans m.of (by simp)) g2
        have f3 : ∀ m : FutM wr.drew, m.v.cell? ⟨gx, ox + i, none⟩ = some (.slice ax (c.sides.getD i []).length cx) := fun m => old_cell ((Mod.refl [] wr).drew.trans m.of (by simp)) hcx
        have f4 : ∀ m : FutM wr.drew, m.v.cell? ⟨gy, oy + i, none⟩ = some (.slice ay (d.sides.getD i []).length cy) := fun m => old_cell ((Mod.refl [] wr).drew.trans m.of (by simp)) hcy
        have hno' := Lib.hid (eqR_no (xs := c.sides) (ys := d.sides) (k := i))
        clear hrx hry hcx hcy
        generalize hX : c.sides.getD i [] = X at *
        generalize hY : d.sides.getD i [] = Y at *
        have hX' := Lib.hid hX
        have hY' := Lib.hid hY
        clear hX hY
        go_wp2_with fail
        refine region_sched (G := Mod []) [([0,1,2,3,4,5,6,7,8,9],10)] [11] (by kernel_rfl) (by kernel_rfl) (by kernel_rfl) rfl (Mod.refl []) (fun _ _ _ h1 h2 => h1.trans h2 (by simp)) ?_
        simp only [stages, pickO, nthO, headO, List.cons_append, List.nil_append]
        refine sched_step ?_
        repeat (go_big_quiet_step (fail))
        refine wpQuiet_nil ?_
        intro K' hK
        rw [if_pos (by rfl)]
        go_simp
        refine hcall.out.mono ?_
        rintro e w2 ⟨rfl, hd2⟩
        try dsimp only
        refine hK.out _ _ hd2.mod ?_
        clear hK K'
        have m2 := Lib.hid ((hm'.out.trans (Mod.refl [] wr).drew (by simp)).trans hd2.mod (by simp))
        clear hd2 f1 f2 f3 f4
        refine sched_last ?_
        repeat (go_big_quiet_step (fail))
        refine wpQuiet_nil ?_
        by_cases hxy : X = Y
        · have e1 : eqI X Y = true := by rw [hxy]; simp [eqI]
          rw [e1]
          have hxy' := Lib.hid hxy
          clear hxy e1 hcall hno'
          go_wp2_with fail
          go_roundw
          case rel =>
            refine ⟨i + 1, by omega, by go_num, m2.out, fun j hj => ?_⟩
            rcases Nat.lt_or_ge j i with h | h
            · exact heq'.out j h
            · rw [show j = i from by omega, hX'.out, hY'.out]; exact hxy'.out
          case measure => simp [intOf]; omega
        · have e1 : eqI X Y = false := by unfold eqI; exact decide_eq_false hxy
          rw [e1]
          have hf : Hid (sameC c d = false) := by show _ = _; unfold sameC; rw [hno'.out hxy]; simp
          have mw2 := Lib.hid (hm0'.out.trans m2.out (by simp))
          clear hxy e1 hcall
          go_wp2_with fail
          go_ret
          exact ⟨by rw [hf.out]; rfl, mw2.out⟩
      · have hil : c.sides.length = i := by omega
        have q1 : decide ((i : Int) < (c.sides.length : Int)) = false := by simp; omega
        have q1' : decide (i < c.sides.length) = false := by simpa using hlt
        have hEsides : Hid (eqR c.sides d.sides = true) := eqR_yes hls'.out (by rw [hil]; exact heq'.out)
        clear hil hlt
        go_wp2_with fail
        clear d0 d1 d2 d3 dl g0 g1 g2 g3 gl q1 q1' heq'
        go_loopw [6] (fun iv wr => ∃ i : Nat, i ≤ c.flows.length ∧ iv = .int .i64 i ∧ Mod [] wb wr ∧ ∀ j, j < i → c.flows.getD j [] = d.flows.getD j []) (fun iv _ => c.flows.length - (intOf iv).toNat)
        case atStart => exact ⟨0, Nat.zero_le _, rfl, hm'.out, fun j hj => absurd hj (by omega)⟩
        case round =>
          obtain ⟨i, hi, rfl, hm, heq⟩ := hrel
          obtain ⟨wo, hwo⟩ : ∃ wo : World, wo = wr := ⟨_, rfl⟩
          clear hwo
          have hm' := Lib.hid hm
          have heq' := Lib.hid heq
          clear hm heq
          have d0 := (h1'.out.keep hm'.out (by simp)).cell 0 rfl
          have d1 := (h1'.out.keep hm'.out (by simp)).cell 1 rfl
          have d2 := (h1'.out.keep hm'.out (by simp)).cell 2 rfl
          have d3 := (h1'.out.keep hm'.out (by simp)).cell 3 rfl
          have dl := (h1'.out.keep hm'.out (by simp)).lt
          have g0 := (h2'.out.keep hm'.out (by simp)).cell 0 rfl
          have g1 := (h2'.out.keep hm'.out (by simp)).cell 1 rfl
          have g2 := (h2'.out.keep hm'.out (by simp)).cell 2 rfl
          have g3 := (h2'.out.keep hm'.out (by simp)).cell 3 rfl
          have gl := (h2'.out.keep hm'.out (by simp)).lt
          by_cases hlt : i < c.flows.length
          · have hlt1 : (i : Int) < c.flows.length := by omega
            have hlt2 : (i : Int) < d.flows.length := by rw [← hlf'.out]; exact hlt1
            have q1 : decide ((i : Int) < (c.flows.length : Int)) = true := by simp; omega
            have q1' : decide (i < c.flows.length) = true := by simpa using hlt
            obtain ⟨gx, ox, ax, cx, rfl, hcx, hrx⟩ := RdR.get (k := i) (hc.out.flows.still hm'.out) hlt
            obtain ⟨gy, oy, ay, cy, rfl, hcy, hry⟩ := RdR.get (k := i) (hk.out.flows.still hm'.out) (by rw [← hlf'.out]; exact hlt)
            have hcall := Lib.hid (same04 (hrx.still (Mod.refl [] wr).drew) (hry.still (Mod.refl [] wr).drew))
            have f1 : ∀ m : FutM wr.drew, m.v.cell? ⟨B, 3, none⟩ = some (.slice (some ⟨gx, ox, none⟩) c.flows.length cf) := fun m => old_cell ((Mod.refl [] wr).drew.trans m.of (by simp)) d3
            have f2 : ∀ m : FutM wr.drew, m.v.cell? ⟨B + 1, 3, none⟩ = some (.slice (some ⟨gy, oy, none⟩) d.flows.length df) := fun m => old_cell ((Mod.refl [] wr).drew.trans m.of (by simp)) g3
            have f3 : ∀ m : FutM wr.drew, m.v.cell? ⟨gx, ox + i, none⟩ = some (.slice ax (c.flows.getD i []).length cx) := fun m => old_cell ((Mod.refl [] wr).drew.trans m.of (by simp)) hcx
            have f4 : ∀ m : FutM wr.drew, m.v.cell? ⟨gy, oy + i, none⟩ = some (.slice ay (d.flows.getD i []).length cy) := fun m => old_cell ((Mod.refl [] wr).drew.trans m.of (by simp)) hcy
            have hno' := Lib.hid (eqR_no (xs := c.flows) (ys := d.flows) (k := i))
            clear hrx hry hcx hcy
            generalize hX : c.flows.getD i [] = X at *
            generalize hY : d.flows.getD i [] = Y at *
            have hX' := Lib.hid hX
            have hY' := Lib.hid hY
            clear hX hY
            go_wp2_with fail
            refine region_sched (G := Mod []) [([0,1,2,3,4,5,6,7,8,9],10)] [11] (by kernel_rfl) (by kernel_rfl) (by kernel_rfl) rfl (Mod.refl []) (fun _ _ _ h1 h2 => h1.trans h2 (by simp)) ?_
            simp only [stages, pickO, nthO, headO, List.cons_append, List.nil_append]
            refine sched_step ?_
            repeat (go_big_quiet_step (fail))
            refine wpQuiet_nil ?_
            intro K' hK
            rw [if_pos (by rfl)]
            go_simp
            refine hcall.out.mono ?_
            rintro e w2 ⟨rfl, hd2⟩
            try dsimp only
            refine hK.out _ _ hd2.mod ?_
            clear hK K'
            have m2 := Lib.hid ((hm'.out.trans (Mod.refl [] wr).drew (by simp)).trans hd2.mod (by simp))
            clear hd2 f1 f2 f3 f4
            refine sched_last ?_
            repeat (go_big_quiet_step (fail))
            refine wpQuiet_nil ?_
            by_cases hxy : X = Y
            · have e1 : eqI X Y = true := by rw [hxy]; simp [eqI]
              rw [e1]
              have hxy' := Lib.hid hxy
              clear hxy e1 hcall hno'
              go_wp2_with fail
              go_roundw
              case rel =>
                refine ⟨i + 1, by omega, by go_num, m2.out, fun j hj => ?_⟩
                rcases Nat.lt_or_ge j i with h | h
                · exact heq'.out j h
                · rw [show j = i from by omega, hX'.out, hY'.out]; exact hxy'.out
              case measure => simp [intOf]; omega
            · have e1 : eqI X Y = false := by unfold eqI; exact decide_eq_false hxy
              rw [e1]
              have hf : Hid (sameC c d = false) := by show _ = _; unfold sameC; rw [hno'.out hxy]; simp
              have mw2 := Lib.hid (hm0'.out.trans m2.out (by simp))
              clear hxy e1 hcall
              go_wp2_with fail
              go_ret
              exact ⟨by rw [hf.out]; rfl, mw2.out⟩
          · have hil : c.flows.length = i := by omega
            have q1 : decide ((i : Int) < (c.flows.length : Int)) = false := by simp; omega
            have q1' : decide (i < c.flows.length) = false := by simpa using hlt
            have hEflows : Hid (eqR c.flows d.flows = true) := eqR_yes hlf'.out (by rw [hil]; exact heq'.out)
            clear hil hlt
            go_wp2_with fail
            have hf : Hid (sameC c d = true) := by show _ = _; unfold sameC; rw [hq'.out, hEsides.out, hEflows.out]; rfl
            have mw3 := Lib.hid (hm0'.out.trans hm'.out (by simp))
            go_ret
            exact ⟨by rw [hf.out]; rfl, mw3.out⟩
end Code.Cert
end Go.Proofs.Ytmkbinbggiocaaa

set_option linter.unusedVariables false
set_option linter.unusedSimpArgs false
namespace Go.Proofs.Ytmkbinbggiocaaa
open Go.RowKit
namespace Code.Cert
def wideB (c : CertV) : Bool := decide (40 < c.up.length) || decide (5000 < c.ws.length) || decide (40 < c.sides.length) || decide (40 < c.flows.length) || c.sides.any (fun l => decide (100 < l.length)) || c.flows.any (fun l => decide (100 < l.length))
theorem wide_no {c : CertV} (h : wideB c = false) : c.up.length ≤ 40 ∧ c.ws.length ≤ 5000 ∧ c.sides.length ≤ 40 ∧ c.flows.length ≤ 40 ∧ (∀ l ∈ c.sides, l.length ≤ 100) ∧ ∀ l ∈ c.flows, l.length ≤ 100 := by
  simp only [wideB, Bool.or_eq_false_iff, decide_eq_false_iff_not, List.any_eq_false, decide_eq_true_eq] at h
  obtain ⟨⟨⟨⟨⟨h1, h2⟩, h3⟩, h4⟩, h5⟩, h6⟩ := h
  exact ⟨by omega, by omega, by omega, by omega, fun l hl => by have := h5 l hl; omega, fun l hl => by have := h6 l hl; omega⟩
theorem any_get {ls : List (List Int)} {k : Nat} (h : k < ls.length) (hl : 100 < (ls.getD k []).length) : ls.any (fun l => decide (100 < l.length)) = true := by
  rw [List.any_eq_true]
  exact ⟨_, getD_mem [] h, by simpa using hl⟩
theorem any_none {ls : List (List Int)} (h : ∀ k, k < ls.length → (ls.getD k []).length ≤ 100) : ls.any (fun l => decide (100 < l.length)) = false := by
  rw [List.any_eq_false]
  intro l hl
  obtain ⟨i, hi, rfl⟩ := List.getElem_of_mem hl
  have := h i hi
  rw [List.getD_eq_getElem?_getD, List.getElem?_eq_getElem hi] at this
  simp only [Option.getD_some] at this
  simp only [decide_eq_true_eq]
  omega
set_option maxRecDepth 100000 in
set_option maxHeartbeats 8000000 in
theorem wide_any {w : World} {vu vw vs vf : Value} (c : CertV) (h : CRep w vu vw vs vf c) :
    Calls Try.prog 85 #[.agg #[vu, vw, vs, vf]] w (BoolM (wideB c) w) := by
  obtain ⟨au, cu, aw, cw, sa, cs, af, cf, rfl, rfl, rfl, rfl⟩ := h.vals
  obtain ⟨wb, hwb⟩ : ∃ wb, wb = w.alloc (.cells #[.slice au c.up.length cu, .slice aw c.ws.length cw, .slice sa c.sides.length cs, .slice af c.flows.length cf] 128) := ⟨_, rfl⟩
  obtain ⟨B, hB⟩ : ∃ B, B = w.heap.size := ⟨_, rfl⟩
  have hbox : Has wb B [.slice au c.up.length cu, .slice aw c.ws.length cw, .slice sa c.sides.length cs, .slice af c.flows.length cf] 128 := by rw [hwb, hB]; exact Has.new w _ _
  have hmw : Mod [] w wb := by rw [hwb]; exact (Mod.refl [] w).alloc _
  have hc := Lib.hid (h.still hmw)
  have hmw' := Lib.hid hmw
  have hbox' := Lib.hid hbox
  have hwb' := Lib.hid hwb
  have hB' := Lib.hid hB
  have hul := h.up.le
  have hwl := h.ws.le
  have hsl := h.sides.le
  have hfl := h.flows.le
  have hm1 := Lib.hid (fun o => (Mod.refl [] w).alloc o)
  have d0 := hbox.cell 0 rfl
  have d1 := hbox.cell 1 rfl
  have d2 := hbox.cell 2 rfl
  have d3 := hbox.cell 3 rfl
  have dl := hbox.lt
  clear h hmw hwb hB hbox
  by_cases q0 : 40 < c.up.length
  · have t0 : decide (40 < (c.up.length : Int)) = true := by simp; omega
    have t0' : decide (40 < c.up.length) = true := by simpa using q0
    have e1 : wideB c = true := by unfold wideB; simp [t0']
    rw [e1]
    clear q0 e1
    go_enter Try.func85, Try.ntmps85
    go_wp2_with fail
    go_ret
    exact ⟨rfl, hm1.out _⟩
  have t0 : decide (40 < (c.up.length : Int)) = false := by simp; omega
  have t0' : decide (40 < c.up.length) = false := by simpa using q0
  by_cases q1 : 5000 < c.ws.length
  · have t1 : decide (5000 < (c.ws.length : Int)) = true := by simp; omega
    have t1' : decide (5000 < c.ws.length) = true := by simpa using q1
    have e1 : wideB c = true := by unfold wideB; simp [t1']
    rw [e1]
    clear q1 e1
    go_enter Try.func85, Try.ntmps85
    go_wp2_with fail
    go_ret
    exact ⟨rfl, hm1.out _⟩
  have t1 : decide (5000 < (c.ws.length : Int)) = false := by simp; omega
  have t1' : decide (5000 < c.ws.length) = false := by simpa using q1
  by_cases q2 : 40 < c.sides.length
  · have t2 : decide (40 < (c.sides.length : Int)) = true := by simp; omega
    have t2' : decide (40 < c.sides.length) = true := by simpa using q2
    have e1 : wideB c = true := by unfold wideB; simp [t2']
    rw [e1]
    clear q2 e1
    go_enter Try.func85, Try.ntmps85
    go_wp2_with fail
    go_ret
    exact ⟨rfl, hm1.out _⟩
  have t2 : decide (40 < (c.sides.length : Int)) = false := by simp; omega
  have t2' : decide (40 < c.sides.length) = false := by simpa using q2
  by_cases q3 : 40 < c.flows.length
  · have t3 : decide (40 < (c.flows.length : Int)) = true := by simp; omega
    have t3' : decide (40 < c.flows.length) = true := by simpa using q3
    have e1 : wideB c = true := by unfold wideB; simp [t3']
    rw [e1]
    clear q3 e1
    go_enter Try.func85, Try.ntmps85
    go_wp2_with fail
    go_ret
    exact ⟨rfl, hm1.out _⟩
  have t3 : decide (40 < (c.flows.length : Int)) = false := by simp; omega
  have t3' : decide (40 < c.flows.length) = false := by simpa using q3
  have hdef : Hid (∀ x y, c.sides.any (fun l => decide (100 < l.length)) = x → c.flows.any (fun l => decide (100 < l.length)) = y → wideB c = (x || y)) := fun x y hx hy => by
    unfold wideB; rw [hx, hy, t0', t1', t2', t3']; rfl
  go_enter Try.func85, Try.ntmps85
  go_wp2_with fail
  rw [← hB'.out, ← hwb'.out]
  clear t0 t1 t2 t3 t0' t1' t2' t3' q0 q1 q2 q3
  go_loopw [3] (fun iv wr => ∃ i : Nat, i ≤ c.sides.length ∧ iv = .int .i64 i ∧ wb = wr ∧ ∀ j, j < i → (c.sides.getD j []).length ≤ 100) (fun iv _ => c.sides.length - (intOf iv).toNat)
  case atStart => exact ⟨0, Nat.zero_le _, rfl, (by first | rfl | trivial), fun j hj => absurd hj (by omega)⟩
  case round =>
    obtain ⟨i, hi, rfl, rfl, heq⟩ := hrel
    have heq' := Lib.hid heq
    clear heq
    by_cases hlt : i < c.sides.length
    · have hlt1 : (i : Int) < c.sides.length := by omega
      have q1 : decide ((i : Int) < (c.sides.length : Int)) = true := by simp; omega
      have q1' : decide (i < c.sides.length) = true := by simpa using hlt
      obtain ⟨gx, ox, ax, cx, rfl, hcx, hrx⟩ := RdR.get (k := i) hc.out.sides hlt
      have hxl := hrx.le
      have hyes' := Lib.hid (any_get hlt)
      clear hrx
      generalize hX : c.sides.getD i [] = X at *
      have hX' := Lib.hid hX
      clear hX
      by_cases hb : 100 < X.length
      · have q2 : decide (100 < (X.length : Int)) = true := by simp; omega
        have q2' : decide (100 < X.length) = true := by simpa using hb
        have hf : Hid (wideB c = true) := by
          have ha := hyes'.out hb
          have e := hdef.out _ _ ha rfl
          show _ = _
          rw [e]; simp
        clear hb
        go_wp2_with fail
        go_ret
        exact ⟨by rw [hf.out]; rfl, hmw'.out⟩
      · have q2 : decide (100 < (X.length : Int)) = false := by simp; omega
        have q2' : decide (100 < X.length) = false := by simpa using hb
        go_wp2_with fail
        go_roundw
        case rel =>
          refine ⟨i + 1, by omega, by go_num, (by first | rfl | trivial), fun j hj => ?_⟩
          rcases Nat.lt_or_ge j i with h | h
          · exact heq'.out j h
          · rw [show j = i from by omega, hX'.out]; omega
        case measure => simp [intOf]; omega
    · have hil : c.sides.length = i := by omega
      have q1 : decide ((i : Int) < (c.sides.length : Int)) = false := by simp; omega
      have q1' : decide (i < c.sides.length) = false := by simpa using hlt
      have hnsides : Hid (c.sides.any (fun l => decide (100 < l.length)) = false) := any_none (by rw [hil]; exact heq'.out)
      clear hil hlt
      go_wp2_with fail
      clear q1 q1' heq'
      go_loopw [4] (fun iv wr => ∃ i : Nat, i ≤ c.flows.length ∧ iv = .int .i64 i ∧ wb = wr ∧ ∀ j, j < i → (c.flows.getD j []).length ≤ 100) (fun iv _ => c.flows.length - (intOf iv).toNat)
      case atStart => exact ⟨0, Nat.zero_le _, rfl, (by first | rfl | trivial), fun j hj => absurd hj (by omega)⟩
      case round =>
        obtain ⟨i, hi, rfl, rfl, heq⟩ := hrel
        have heq' := Lib.hid heq
        clear heq
        by_cases hlt : i < c.flows.length
        · have hlt1 : (i : Int) < c.flows.length := by omega
          have q1 : decide ((i : Int) < (c.flows.length : Int)) = true := by simp; omega
          have q1' : decide (i < c.flows.length) = true := by simpa using hlt
          obtain ⟨gx, ox, ax, cx, rfl, hcx, hrx⟩ := RdR.get (k := i) hc.out.flows hlt
          have hxl := hrx.le
          have hyes' := Lib.hid (any_get hlt)
          clear hrx
          generalize hX : c.flows.getD i [] = X at *
          have hX' := Lib.hid hX
          clear hX
          by_cases hb : 100 < X.length
          · have q2 : decide (100 < (X.length : Int)) = true := by simp; omega
            have q2' : decide (100 < X.length) = true := by simpa using hb
            have hf : Hid (wideB c = true) := by
              have ha := hyes'.out hb
              have e := hdef.out _ _ hnsides.out ha
              show _ = _
              rw [e]; simp
            clear hb
            go_wp2_with fail
            go_ret
            exact ⟨by rw [hf.out]; rfl, hmw'.out⟩
          · have q2 : decide (100 < (X.length : Int)) = false := by simp; omega
            have q2' : decide (100 < X.length) = false := by simpa using hb
            go_wp2_with fail
            go_roundw
            case rel =>
              refine ⟨i + 1, by omega, by go_num, (by first | rfl | trivial), fun j hj => ?_⟩
              rcases Nat.lt_or_ge j i with h | h
              · exact heq'.out j h
              · rw [show j = i from by omega, hX'.out]; omega
            case measure => simp [intOf]; omega
        · have hil : c.flows.length = i := by omega
          have q1 : decide ((i : Int) < (c.flows.length : Int)) = false := by simp; omega
          have q1' : decide (i < c.flows.length) = false := by simpa using hlt
          have hnflows : Hid (c.flows.any (fun l => decide (100 < l.length)) = false) := any_none (by rw [hil]; exact heq'.out)
          clear hil hlt
          go_wp2_with fail
          have hf : Hid (wideB c = false) := by show _ = _; rw [hdef.out _ _ hnsides.out hnflows.out]; rfl
          go_ret
          exact ⟨by rw [hf.out]; rfl, hmw'.out⟩
end Code.Cert
end Go.Proofs.Ytmkbinbggiocaaa
