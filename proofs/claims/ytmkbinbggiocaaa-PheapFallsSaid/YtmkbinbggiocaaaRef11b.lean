/- What the calls on the reference's arena do, part 2: Set, Drop, Give. -/
import Derived.Test.YtmkbinbggiocaaaRef11
import Derived.Test.YtmkbinbggiocaaaKit2
set_option linter.unusedVariables false
set_option linter.unusedSimpArgs false
namespace Go.Proofs.Ytmkbinbggiocaaa
open Go.RowKit Arena
namespace Ref11

theorem At.mod {w w' : World} {bx : Nat} {A : Ar Int} {F G : List Nat} (H : At w bx A F) (m : Mod G w w') (hd : ∀ b ∈ F, b ∉ G) : At w' bx A F := by
  obtain ⟨sx, si, sf, X, I, hs, hb, hx, hi, hf, h1, h2, h3, h4, h5, h6, h7, rfl⟩ := H.out
  exact ⟨sx, si, sf, X, I, hs, hb.keep m (hd _ (by simp)), own_keep hx m (fun g hg => hd g (by simp [hg])), own_keep hi m (fun g hg => hd g (by simp [hg])), hf.keep m (fun g hg => hd g (by simp [hg])), h1, h2, h3, h4, h5, h6, fun g hg => Nat.lt_of_lt_of_le (h7 g hg) m.size, rfl⟩

/-! ### Set -/
set_option maxHeartbeats 400000 in
theorem set_none {w : World} {bx : Nat} {A : Ar Int} {F : List Nat} (H : At w bx A F) (ok : Ok A) (n x : Int) (hn : A.get n = none) :
    Calls Try.prog 23 #[.pointer (some ⟨bx, 0, none⟩), .int .i64 n, .int .i64 x] w fun e w' => e = .returned (.bool false) ∧ Mod [] w w' := by
  have hn' := Lib.hid hn; clear hn
  go_enter Try.func23, Try.ntmps23
  go_wp2_with (go_at_call 25; refine (at_none H ok _ hn'.out).mono ?_; rintro e w' ⟨rfl, hm⟩)
  go_ret
  exact ⟨rfl, hm⟩
set_option maxHeartbeats 400000 in
theorem set_some {w : World} {bx : Nat} {A : Ar Int} {F : List Nat} (H : At w bx A F) (ok : Ok A) (n x y : Int) (hn : A.get n = some y) :
    Calls Try.prog 23 #[.pointer (some ⟨bx, 0, none⟩), .int .i64 n, .int .i64 x] w fun e w' => e = .returned (.bool true) ∧ Left w w' bx (A.put n.toNat x) F := by
  obtain ⟨sx, si, sf, X, I, hs, hb, hx, hi, hf, d1, d2, d3, d4, d5, d6, d7, hF⟩ := H.out
  have e1 := hs.lx
  have e2 := hs.li
  have e3 := ok.fits
  have e4 := ok.most
  obtain ⟨h0, hc⟩ := ArI.get_some hn
  have hlt := (List.getElem?_eq_some_iff.1 hc).1
  obtain ⟨hX, hI⟩ := hs.live _ _ hc
  obtain ⟨gx, c1, rfl⟩ := row_form hx (i := n.toNat) (by omega)
  have hgx : gx ≠ bx := by simpa [Value.ownBlock] using d1
  have hfin : ∀ w1 w2, Mod [] w w1 → w2 = w1.setCell ⟨gx, n.toNat, none⟩ (.int .i64 x) → Left w w2 bx (A.put n.toNat x) F := by
    rintro w1 _ m rfl
    have hb' := hb.keep m (by simp)
    have hx' := own_keep hx m (by simp)
    have hi' := own_keep hi m (by simp)
    have hf' := hf.keep m (by simp)
    have hx2 := (hx'.stored n.toNat (.int .i64 x)).1
    rw [show (ints X).set n.toNat (.int .i64 x) = ints (X.set n.toNat x) from by simp [ints, List.map_set]] at hx2
    have hm2 : Mod [gx] w1 (w1.setCell ⟨gx, n.toNat, none⟩ (.int .i64 x)) := (Mod.refl _ _).setCell _ _ (fun _ => by simp)
    refine ⟨F, ⟨_, si, sf, X.set n.toNat x, I, ?_, ?_, by rw [List.length_set]; exact hx2, own_keep hi' hm2 (fun g hg => ?_), ?_, d1, d2, d3, d4, d5, d6, fun g hg => Nat.lt_of_lt_of_le (d7 g hg) (by have := m.size; simpa using this), hF⟩, m.of0.trans hm2 (fun b hb' _ => ?_), fun b hb => .inl hb⟩
    · exact ⟨by simp [Ar.put, e1], by simp [Ar.put, e2], fun i u hu => by
        rcases get_set_some _ _ _ _ _ hu with ⟨rfl, hv, _⟩ | ⟨hne, hj⟩
        · simp at hv; subst hv
          exact ⟨by rw [List.getElem?_set_self (by omega)], hI⟩
        · rw [List.getElem?_set_ne (Ne.symm hne)]; exact hs.live i u hj, fun i hi => by
        rcases get_set_some _ _ _ _ _ hi with ⟨rfl, hv, _⟩ | ⟨hne, hj⟩
        · simp at hv
        · exact hs.dead i hj⟩
    · have := hb'.keep hm2 (by simpa using fun e => hgx e.symm)
      simpa [Ar.put] using this
    · intro hh; simp at hh; subst hh; exact d4 _ rfl hg
    · exact hf'.keep hm2 (fun g hg hh => by simp at hh; subst hh; exact d5 _ rfl hg)
    · rw [List.mem_singleton.1 hb', hF]; simp [Value.ownBlock]
  have hfin' := Lib.hid hfin
  have hlenX : X.length ≤ 1048576 := by omega
  have hn1 : n < X.length := by omega
  have hn' := Lib.hid hn
  have hcx := row_at hx _ (ints_get hX)
  have k1 : ∀ w1, Mod [] w w1 → w1.cell? ⟨bx, 1, none⟩ = some (.slice (some ⟨gx, 0, none⟩) X.length c1) := fun w1 m => (hb.keep m (by simp)).cell 1 rfl
  have k2 : ∀ w1, Mod [] w w1 → w1.cell? ⟨gx, n.toNat, none⟩ = some (.int .i64 y) := fun w1 m => row_at (own_keep hx m (by simp)) _ (ints_get hX)
  have k3 : ∀ w1, Mod [] w w1 → w1.frozen? ⟨gx, n.toNat, none⟩ = false := fun w1 m => (own_keep hx m (by simp)).frozenAt _
  have K := Lib.hid (And.intro k1 (And.intro k2 k3))
  clear k1 k2 k3 hcx hn hfin hX hI hlt hc e1 e2 e3 e4 hF hb hx hi hf hs
  go_enter Try.func23, Try.ntmps23
  go_wp2_with (go_at_call 25; refine (at_some H ok _ _ hn'.out).mono ?_; rintro e w' ⟨rfl, hm⟩; have q1 := K.out.1 _ hm; have q2 := K.out.2.1 _ hm; have q3 := K.out.2.2 _ hm)
  go_ret
  exact ⟨rfl, hfin'.out _ _ hm rfl⟩

/-! ### Drop -/
set_option maxHeartbeats 400000 in
theorem drop_none {w : World} {bx : Nat} {A : Ar Int} {F : List Nat} (H : At w bx A F) (ok : Ok A) (n : Int) (hn : A.get n = none) :
    Calls Try.prog 21 #[.pointer (some ⟨bx, 0, none⟩), .int .i64 n] w fun e w' => e = .returned (.agg #[.int .i64 0, .bool false]) ∧ Mod [] w w' := by
  have hH : ∀ o, At (w.alloc o) bx A F := fun o => H.mod (G := []) ((Mod.refl _ _).alloc o) (by simp)
  have hn' := Lib.hid hn; clear hn
  have hH' := Lib.hid hH; clear hH
  have hmod : ∀ o w1, Mod [] (w.alloc o) w1 → Mod [] w w1 := fun o w1 h => ((Mod.refl [] w).alloc o).trans h (by simp)
  have hmod' := Lib.hid hmod; clear hmod
  go_enter Try.func21, Try.ntmps21
  go_wp2_with (go_at_call 25; refine (at_none (hH'.out _) ok _ hn'.out).mono ?_; rintro e w' ⟨rfl, hm⟩; obtain ⟨hsz, q0, q1, qf⟩ := slot2 hm)
  exact bodyPost_ret (v := .agg #[.int .i64 0, .bool false]) (by simp [results, Try.results21, go_sem, q0, q1, qf, hsz]) rfl ⟨rfl, (((hmod'.out _ _ hm).setCell _ _ (by simp)).setCell _ _ (by simp)).alloc _⟩
theorem infoI : (Try.prog.info? 3).map (fun i => (i.zero, i.size, i.bytes)) = some (some (.int .i64 0), 1, 8) := by kernel_rfl
theorem infoB : (Try.prog.info? 4).map (fun i => (i.zero, i.size, i.bytes)) = some (some (.bool false), 1, 1) := by kernel_rfl
set_option maxHeartbeats 1000000 in
theorem drop_some {w : World} {bx : Nat} {A : Ar Int} {F : List Nat} (H : At w bx A F) (ok : Ok A) (n y : Int) (hn : A.get n = some y) :
    Calls Try.prog 21 #[.pointer (some ⟨bx, 0, none⟩), .int .i64 n] w fun e w' => e = .returned (.agg #[.int .i64 y, .bool true]) ∧ Left w w' bx (A.drop n.toNat) F := by
  obtain ⟨sx, si, sf, X, I, hs, hb, hx, hi, hf, d1, d2, d3, d4, d5, d6, d7, hF⟩ := H.out
  have e1 := hs.lx
  have e2 := hs.li
  have e3 := ok.fits
  have e4 := ok.most
  obtain ⟨h0, hc⟩ := ArI.get_some hn
  have hlt := (List.getElem?_eq_some_iff.1 hc).1
  obtain ⟨hX, hI⟩ := hs.live _ _ hc
  obtain ⟨gi, c1, rfl⟩ := row_form hi (i := n.toNat) (by omega)
  have hgi : gi ≠ bx := by simpa [Value.ownBlock] using d2
  have hfl : A.free.length ≤ 1048576 := by
    have h1 := nodup_le A.cells.length A.free ok.nodup (fun i hi => (List.getElem?_eq_some_iff.1 ((ok.dead i).2 hi)).1)
    omega
  -- what the two blocks ahead hold, and the store into the row of bools
  have hH : ∀ o, At (w.alloc o) bx A F := fun o => H.mod (G := []) ((Mod.refl _ _).alloc o) (by simp)
  have hfin : ∀ o w1 w2 w3 w4 (a4 : Option Addr) (m4 c4 : Nat) (s0 s1 : Value), Mod [] (w.alloc o) w1 → w2 = (w1.setCell ⟨gi, n.toNat, none⟩ (.bool false)).alloc (.cells #[.int .i64 y, .bool true] 31) → Mod [] w2 w3 →
      m4 = (n.toNat :: A.free).length → w3.ownsRow 0 3 1 (.slice a4 m4 c4) m4 (nats (n.toNat :: A.free)) → (∀ b, (Value.slice a4 m4 c4).ownBlock = some b → w2.heap.size ≤ b) → w4 = ((w3.setCell ⟨bx, 3, none⟩ (.slice a4 m4 c4)).setCell ⟨w.heap.size, 0, none⟩ s0).setCell ⟨w.heap.size, 1, none⟩ s1 → Left w w4 bx (A.drop n.toNat) F := by
    rintro o w1 _ w3 _ a4 m4 c4 s0 s1 m1 rfl m3 rfl hrow hfresh rfl
    have hz : w.heap.size < w1.heap.size := by have := m1.size; simp at this; omega
    have m1' : Mod [] w w1 := ((Mod.refl [] w).alloc o).trans m1 (by simp)
    have mB : Mod [gi] w1 ((w1.setCell ⟨gi, n.toNat, none⟩ (.bool false)).alloc (.cells #[.int .i64 y, .bool true] 31)) := ((Mod.refl _ _).setCell _ _ (fun _ => by simp)).alloc _
    have mW : Mod [gi] w w3 := (m1'.of0.trans mB (by simp)).trans m3 (by simp)
    have hb3 : Has w3 bx _ _ := hb.keep mW (by simpa using fun e => hgi e.symm)
    have hx3 := own_keep hx mW (fun g hg hh => by simp at hh; subst hh; exact d4 _ hg rfl)
    have hi3 : w3.ownsRow 0 4 1 (.slice (some ⟨gi, 0, none⟩) I.length c1) (I.set n.toNat false).length (bools (I.set n.toNat false)) := by
      have h := ((own_keep hi m1' (by simp)).stored n.toNat (.bool false)).1.alloc (.cells #[.int .i64 y, .bool true] 31)
      rw [show (bools I).set n.toNat (.bool false) = bools (I.set n.toNat false) from by simp [bools, List.map_set]] at h
      rw [List.length_set]
      exact own_keep h m3 (by simp)
    have hbx := hb.lt
    have hgl : gi < w.heap.size := own_lt hi rfl
    have hslot : ∀ b, (Value.slice a4 (n.toNat :: A.free).length c4).ownBlock = some b → w.heap.size < b := by
      intro b hb
      have := hfresh b hb
      simp [World.setCell] at this
      omega
    have hsx : sx.ownBlock ≠ some w.heap.size := fun e => by have := own_lt hx e; omega
    have hgw : ∀ c, (Value.slice (some ⟨gi, 0, none⟩) I.length c).ownBlock ≠ some w.heap.size := fun c e => by have e' : gi = w.heap.size := Option.some.inj e; omega
    have hl4 : (n.toNat :: A.free).length = A.free.length + 1 := rfl
    refine ⟨bx :: (sx.ownBlock.toList ++ [gi] ++ (Value.slice a4 (n.toNat :: A.free).length c4).ownBlock.toList), ⟨sx, .slice (some ⟨gi, 0, none⟩) (I.set n.toNat false).length c1, .slice a4 (n.toNat :: A.free).length c4, X, I.set n.toNat false, ?_, ?_, ?_, ?_, ?_, d1, by simpa [Value.ownBlock] using hgi, ?_, ?_, ?_, ?_, fun g hg => by have := own_lt hrow hg; simpa using this, by simp [Value.ownBlock]⟩, ?_, ?_⟩
    · refine ⟨by simp [Ar.drop, e1], by simp [Ar.drop, e2], fun i u hu => ?_, fun i hu => ?_⟩
      · rcases get_set_some _ _ _ _ _ hu with ⟨rfl, hv, _⟩ | ⟨hne, hj⟩
        · simp at hv
        · rw [List.getElem?_set_ne (Ne.symm hne)]; exact hs.live i u hj
      · rcases get_set_some _ _ _ _ _ hu with ⟨rfl, hv, _⟩ | ⟨hne, hj⟩
        · rw [List.getElem?_set_self (by omega)]
        · rw [List.getElem?_set_ne (Ne.symm hne)]; exact hs.dead i hj
    · have h := ((hb3.set 3 (.slice a4 (n.toNat :: A.free).length c4)).other ⟨w.heap.size, 0, none⟩ s0 (by simp; omega)).other ⟨w.heap.size, 1, none⟩ s1 (by simp; omega)
      simpa [Ar.drop, List.length_set] using h
    · exact own_other (own_other (own_other hx3 _ _ d1) _ _ hsx) _ _ hsx
    · have h := own_other (own_other (own_other hi3 ⟨bx, 3, none⟩ (.slice a4 (n.toNat :: A.free).length c4) (by simpa [Value.ownBlock] using hgi)) ⟨w.heap.size, 0, none⟩ s0 (hgw _)) ⟨w.heap.size, 1, none⟩ s1 (hgw _)
      rw [List.length_set] at h ⊢
      exact h
    · have k1 : (Value.slice a4 (n.toNat :: A.free).length c4).ownBlock ≠ some bx := fun e => by have := hslot _ e; omega
      have k2 : (Value.slice a4 (n.toNat :: A.free).length c4).ownBlock ≠ some w.heap.size := fun e => by have := hslot _ e; omega
      have h := own_other (own_other (own_other hrow ⟨bx, 3, none⟩ (.slice a4 (n.toNat :: A.free).length c4) k1) ⟨w.heap.size, 0, none⟩ s0 k2) ⟨w.heap.size, 1, none⟩ s1 k2
      exact Reads.own h
    · intro e; have := hslot _ e; omega
    · intro g hg; simpa [Value.ownBlock] using fun e => d4 g hg (by simp [Value.ownBlock, e])
    · intro g hg e; have := hslot _ e; have := own_lt hx hg; omega
    · intro g hg e; have hg' : gi = g := Option.some.inj hg; have := hslot _ e; omega
    · refine ((((mW.mono ?_).setCell _ _ ?_).setCell _ _ (by simp)).setCell _ _ (by simp))
      · intro b hb'; rw [List.mem_singleton.1 hb', hF]; simp [Value.ownBlock]
      · intro _; rw [hF]; simp
    · intro b hb'
      rw [hF]
      simp only [List.mem_cons, List.mem_append, Option.mem_toList, List.not_mem_nil, or_false] at hb' ⊢
      rcases hb' with rfl | ((hb' | rfl) | hb')
      · exact .inl (.inl rfl)
      · exact .inl (.inr (.inl (.inl hb')))
      · exact .inl (.inr (.inl (.inr rfl)))
      · have := hslot _ hb'; exact .inr (by omega)
  have hfin' := Lib.hid hfin
  have hH' := Lib.hid hH
  have hn' := Lib.hid hn
  have hlenI : I.length ≤ 1048576 := by omega
  have hn1 : n < I.length := by omega
  have hgl : gi < w.heap.size := own_lt hi rfl
  have hbx := hb.lt
  have K : Hid (∀ o w1, Mod [] (w.alloc o) w1 → Has w1 bx [.int .i64 A.room, sx, .slice (some ⟨gi, 0, none⟩) I.length c1, sf] 41 ∧ w1.cell? ⟨gi, n.toNat, none⟩ = some (.bool true) ∧ w1.frozen? ⟨gi, n.toNat, none⟩ = false ∧ gi < w1.heap.size ∧ Reads w1 1 sf A.free.length (nats A.free)) := by
    intro o w1 m
    have m1 : Mod [] w w1 := ((Mod.refl [] w).alloc o).trans m (by simp)
    have hb1 := hb.keep m1 (by simp)
    have hi1 := own_keep hi m1 (by simp)
    exact ⟨hb1, row_at hi1 _ (bools_get hI), hi1.frozenAt _, own_lt hi1 rfl, hf.keep m1 (by simp)⟩
  have hsg : ∀ g, sf.ownBlock = some g → g ∉ [gi] := fun g hg hh => d6 gi rfl (by rw [List.mem_singleton.1 hh] at hg; exact hg)
  have hsg' := Lib.hid hsg
  have hsB : Hid (sf.ownBlock ≠ some bx) := d3
  clear hH hfin hn hX hI hlt hc e1 e2 e3 e4 hF hb hx hi hf hs H d1 d2 d3 d4 d5 d6 d7 hsg
  go_enter Try.func21, Try.ntmps21
  go_wp2_with first
    | (go_at_call 25; refine (at_some (hH'.out _) ok _ _ hn'.out).mono ?_; rintro e w1 ⟨rfl, hm⟩; obtain ⟨hb1, pg, pgf, pgl, hf1⟩ := K.out _ _ hm; have p2 := hb1.cell 2 rfl; have pf := hb1.free; have pb := hb1.lt; have hs1 := (Has.new w [.int .i64 0, .bool false] 31).keep hm (by simp); have hsz := hs1.lt)
    | (at_builtin; refine app_own rfl (.tmp 18) (.tmp 20) 36 3 _ 1 8 rfl Try.underlying36 infoI rfl (by omega) (by omega) (.slice none 0 0) 0 1 [] [.int .i64 n] rfl rfl (by simp) rfl (by simp [Value.oneCell']) (World.ownsRow_nil _ _ _ _) (by omega) ?_; intro aA cA wA hownA hmA hvA;
        have mA : Mod [gi] w1 wA := (((Mod.refl [gi] w1).setCell ⟨gi, n.toNat, none⟩ (.bool false) (by simp)).alloc (.cells #[.int .i64 y, .bool true] 31)).trans hmA (by simp [Value.ownBlock]);
        have hbA := hb1.keep mA (by simpa using fun e => hgi e.symm); have hsA := hs1.keep mA (by simp; omega); have hrA := (Has.new (w1.setCell ⟨gi, n.toNat, none⟩ (.bool false)) [.int .i64 y, .bool true] 31).keep hmA (by simp [Value.ownBlock]);
        have hfA := hf1.keep mA hsg'.out; have r3 := hbA.cell 3 rfl; have hfrA := ge_of_new (w1.heap.size + 1) rfl hvA (by simp); clear p2 pf hb1 pg pgf hvA)
    | (at_builtin; refine app_src rfl (.tmp 23) (.tmp 27) 36 3 _ 1 8 rfl Try.underlying36 infoI rfl (by omega) (by omega) (.slice aA 1 cA) sf 1 A.free.length [.int .i64 n] (nats A.free) rfl rfl (by simp [nats, Value.oneCell']) hownA hfA (by omega) ?_; intro aB cB wB hownB hmB hvB;
        have hbB := hbA.keepGe hmB hfrA (by omega); have hsB1 := hsA.keepGe hmB hfrA (by omega); have hrB := hrA.keepGe hmB hfrA (by simp); have mB := hmA.ge hmB (by simpa using hfrA);
        have t0 := hrB.cell 0 rfl; have t1 := hrB.cell 1 rfl; have u0 := hsB1.cell 0 rfl; have u1 := hsB1.cell 1 rfl; have b3 := hbB.cell 3 rfl; have bf := hbB.free; have uf := hsB1.free; simp only [World.size_setCell] at t0 t1)
  have hfr := ge_of_old (w1.heap.size + 1) hfrA hvB (by have := hmA.size; simpa using this)
  refine bodyPost_ret (v := .agg #[.int .i64 y, .bool true]) (by simp [results, Try.results21, go_sem, u0, u1, hsz, Nat.ne_of_gt hbx]) rfl ⟨rfl, hfin'.out _ _ _ _ _ aB (1 + A.free.length) cB _ _ hm rfl mB (by simp; omega) ?_ (by simpa using hfr) rfl⟩
  have e : nats (n.toNat :: A.free) = [.int .i64 n] ++ nats A.free := by simp [nats, Int.toNat_of_nonneg h0]
  rw [e]
  exact hownB
end Ref11
end Go.Proofs.Ytmkbinbggiocaaa
