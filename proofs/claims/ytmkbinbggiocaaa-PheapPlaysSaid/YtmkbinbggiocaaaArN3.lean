/- What the calls on an arena of nodes do: Give. -/
import Derived.Test.YtmkbinbggiocaaaArN2
import Derived.Deep.RegionLaw
import Derived.BigQuiet
import Derived.Deep.DeepCutAuto
import Derived.Deep.CutBlock
set_option linter.unusedVariables false
set_option linter.unusedSimpArgs false
namespace Go.Proofs.Ytmkbinbggiocaaa
open Go.RowKit Arena
namespace ArN
/-- append(v, x..) onto a row that is owned, as one step of a region that draws its order. -/
theorem step_app {P : Program} {ops : Array Oper} {o : Oper} {a : Act} {W : World} {K : Act → World → Prop} {Q : Exit → Act → World → Prop} {E : Prop} (hgd : o.guard = none) (s x : Operand) (t e : TypeId) (z : Value) (size bytes : Nat)
    (ho : o.op = .call { callee := .builtin .append, args := #[s, x], argTypes := #[t, t] })
    (ht : P.underlying t = some (.slice e)) (hinfo : (P.info? e).map (fun i => (i.zero, i.size, i.bytes)) = some (some z, size, bytes)) (hz : z.cells.size = size) (hsz : 0 < size) (hb0 : 0 < bytes)
    (v : Value) (n m : Nat) (xs news : List Value) (hs : a.eval s = v) {B : Nat} (hx : a.eval x = .slice (some ⟨B, 0, none⟩) m m) (hB : B = W.heap.size) (hl : news.length = m * size) (h1 : ∀ u ∈ news, u.oneCell' = true)
    (HO : W.ownsRow 0 e size v n xs) (hby : (n + m) * bytes ≤ 140737488355328)
    (h : ∀ a1 c1 w1, w1.ownsRow 0 e size (.slice a1 (n + m) c1) (n + m) (xs ++ news) → Mod v.ownBlock.toList W w1 → ((Value.slice a1 (n + m) c1).ownBlock = v.ownBlock ∨ ∃ b, (Value.slice a1 (n + m) c1).ownBlock = some b ∧ W.heap.size ≤ b) → K (a.put o.dst (.slice a1 (n + m) c1)) w1) :
    if Region.wanted o (yielded ops a.tmps) = true then Oper.wp P o a (W.alloc (.cells news.toArray e)) K Q else E := by
  have hw : Region.wanted o (yielded ops a.tmps) = true := by simp [Region.wanted, hgd]
  rw [if_pos hw]
  subst hB
  obtain ⟨i0, hi, hzz⟩ := Option.map_eq_some_iff.1 hinfo
  simp only [Prod.mk.injEq] at hzz
  obtain ⟨hz0, hz1, hz2⟩ := hzz
  have hlen : n + m ≤ 140737488355328 := Nat.le_trans (Nat.le_mul_of_pos_right _ hb0) hby
  obtain ⟨v1, w1, hr, hown, hg, _, hat⟩ := run_append_own_at (P := P) (W.alloc (.cells news.toArray e)) 0 t o.type e i0 z size bytes ht hi hz0 hz1 hz2 hz hsz v n xs (HO.alloc _) ⟨W.heap.size, 0, none⟩ m m news hl
    (World.news_of_block (cs := news.toArray) (t := e) (fr := (0, 0)) (heap_alloc_new W _)) h1 (by simp only [maxLen]; omega) hby (Nat.zero_le _)
  obtain ⟨a1, c1, rfl⟩ : ∃ a1 c1, v1 = .slice a1 (n + m) c1 := by
    rcases hown.2 with ⟨rfl, h0⟩ | ⟨g, cap, cur, rfl, _⟩
    · exact ⟨none, 0, by rw [h0]⟩
    · exact ⟨_, _, rfl⟩
  unfold Oper.wp execOp
  simp only [ho, resolve, invoke, builtin, Sem.run_bind, Sem.run_pure, Result.andThen_ok, List.map_toArray, List.map_cons, List.map_nil, hs, hx, hr]
  refine h a1 c1 w1 hown (((Mod.refl _ W).alloc _).grown hg fun b hb _ => by simp [hb]) ?_
  rcases hat with hat | hat
  · exact .inl hat
  · exact .inr ⟨_, hat, by simp⟩
set_option maxRecDepth 100000 in
set_option maxHeartbeats 2000000 in
theorem give_old {w : World} {ba : Nat} {A : Ar Nd} {F : List Nat} (H : At w ba A F) (x : Nd) (i : Nat) (l : List Nat) (he : A.free = i :: l) :
    Calls Try.prog 132 #[.pointer (some ⟨ba, 0, none⟩), x.val] w fun e w' => e = .returned (.tuple #[.int .i64 i, .bool true]) ∧ At w' ba (A.give x).1 F ∧ Mod F w w' := by
  obtain ⟨wc, hwc⟩ : ∃ wc, wc = w.alloc (.cells #[.int .i64 x.v, .int .i64 x.key, .int .i64 x.child, .int .i64 x.next, .int .i64 x.prev] 187) := ⟨_, rfl⟩
  have m0 : Mod [] w wc := by rw [hwc]; exact (Mod.refl [] w).alloc _
  have hX : Has wc w.heap.size [.int .i64 x.v, .int .i64 x.key, .int .i64 x.child, .int .i64 x.next, .int .i64 x.prev] 187 := by rw [hwc]; exact Has.new w _ _
  have hlt0 := H.lt
  obtain ⟨sv, C, f, hfit, hb, hrow, hne, rfl⟩ := (H.still m0).out
  obtain ⟨rfl, hlt, nx, hc, hch⟩ := hfit.head he
  obtain ⟨g, cap, rfl⟩ : ∃ g cap, sv = .slice (some ⟨g, 0, none⟩) C.length cap := by
    rcases row_cases hrow with ⟨rfl, rfl⟩ | h
    · simp at hc
    · exact h
  have hcount := count_le hfit
  have hfl := hfit.free_le
  have hcnt : (A.give x).1.count = A.count + 1 := by
    simp only [Ar.give, he, Ar.count, List.length_set, List.length_cons] at hfl ⊢
    omega
  have hcl : A.count < C.length := by
    have := hfit.len
    simp only [he, Ar.count, List.length_cons] at hfl hcnt ⊢
    omega
  have hg : g ≠ ba := by simpa [Value.ownBlock] using hne
  have hfin : ∀ w0 nq w1, w0 = wc.drewN nq → w1 = ((sevW (w0.setCell ⟨ba, 2, none⟩ (.int .i64 nx)) g (i * 7) (x, true, 0)).setCell ⟨ba, 3, none⟩ (.int .i64 ((A.count : Int) + 1))) → At w1 ba (A.give x).1 [ba, g] ∧ Mod [ba, g] w w1 := by
    rintro _ nq _ rfl rfl
    have hrow' : (wc.drewN nq).ownsRow 0 225 7 (.slice (some ⟨g, 0, none⟩) C.length cap) C.length (flat encC C) := hrow
    have hs0 := own_other hrow' ⟨ba, 2, none⟩ (.int .i64 nx) hne
    have hs := sev_own hs0 i (x, true, 0) (by rw [hfit.len]; exact hlt)
    have hs2 := own_other hs ⟨ba, 3, none⟩ (.int .i64 ((A.count : Int) + 1)) hne
    refine ⟨⟨_, C.set i (x, true, 0), nx, ?_, ?_, by rw [List.length_set]; exact hs2, hne, rfl⟩, ?_⟩
    · have := hfit.old he hc x
      simpa [Ar.give, he] using this
    · have h5 := (sevW_other (c := (x, true, 0)) (j := i * 7) ((hb.drewN nq).set 2 (.int .i64 nx)) hg.symm).set 3 (.int .i64 ((A.count : Int) + 1))
      have e : ((A.count : Int) + 1) = ((A.give x).1.count : Int) := by omega
      rw [e] at h5 ⊢
      simpa [Ar.give, he] using h5
    · exact (sevW_mod (((m0.of0.drewN nq)).setCell _ _ (fun _ => by simp)) _ _ _ (fun _ => by simp)).setCell _ _ (fun _ => by simp)
  obtain ⟨c0, c1, c2, c3, c4, c5, c6⟩ := row_cell hrow _ hc
  have hb1 := hb.cell 1 rfl
  have hb2 := hb.cell 2 rfl
  have hb3 := hb.cell 3 rfl
  have hfb := hb.free
  have hfr := hrow.frozenAt
  have hg' : ba ≠ g := fun e => hg e.symm
  have ltb : ba < wc.heap.size := hb.lt
  have ltg : g < wc.heap.size := own_lt hrow rfl
  have x0 := hX.cell 0 rfl
  have x1 := hX.cell 1 rfl
  have x2 := hX.cell 2 rfl
  have x3 := hX.cell 3 rfl
  have x4 := hX.cell 4 rfl
  have hd : decide (A.count < C.length) = true := by simpa using hcl
  have hi1 : i < C.length := by rw [hfit.len]; exact hlt
  have hXba : w.heap.size ≠ ba := by have := hlt0 ba (by simp); omega
  have hXg : w.heap.size ≠ g := by have := hlt0 g (by simp [Value.ownBlock]); omega
  have hfin' := Lib.hid hfin
  have hwc' := Lib.hid hwc
  obtain ⟨hu1, hu2, hu3, hu4⟩ := hcount
  clear hb hrow hc hch H hfit hfin hcnt hfl he hne hX hlt0 m0 hwc
  unfold Nd.val
  go_enter Try.func132, Try.ntmps132
  go_upto_region 1 with fail
  rw [← hwc'.out]
  generalize w.heap.size = B at *
  go_wp2_with fail
  go_quiet (fail)
  go_wp2_with fail
  go_ret2
  exact ⟨rfl, hfin'.out _ _ _ rfl rfl⟩
theorem infoC : (Try.prog.info? 225).map (fun i => (i.zero, i.size, i.bytes)) = some (some (.agg #[.int .i64 0, .int .i64 0, .int .i64 0, .int .i64 0, .int .i64 0, .bool false, .int .i64 0]), 7, 56) := by kernel_rfl
set_option maxRecDepth 100000 in
set_option maxHeartbeats 4000000 in
theorem give_new {w : World} {ba : Nat} {A : Ar Nd} {F : List Nat} (H : At w ba A F) (x : Nd) (he : A.free = []) (hr : A.cells.length < A.room) :
    Calls Try.prog 132 #[.pointer (some ⟨ba, 0, none⟩), x.val] w fun e w' => e = .returned (.tuple #[.int .i64 A.cells.length, .bool true]) ∧ Left w w' ba (A.give x).1 F := by
  obtain ⟨wc, hwc⟩ : ∃ wc, wc = w.alloc (.cells #[.int .i64 x.v, .int .i64 x.key, .int .i64 x.child, .int .i64 x.next, .int .i64 x.prev] 187) := ⟨_, rfl⟩
  have m0 : Mod [] w wc := by rw [hwc]; exact (Mod.refl [] w).alloc _
  have hX : Has wc w.heap.size [.int .i64 x.v, .int .i64 x.key, .int .i64 x.child, .int .i64 x.next, .int .i64 x.prev] 187 := by rw [hwc]; exact Has.new w _ _
  have hlt0 := H.lt
  obtain ⟨sv, C, f, hfit, hb, hrow, hne, hF⟩ := (H.still m0).out
  have hcount := count_le hfit
  have hlen := hfit.len
  have hcnt : A.count = C.length := by simp only [he, Ar.count, List.length_nil]; omega
  obtain ⟨a, c, hsv⟩ : ∃ a c, sv = .slice a C.length c := by
    rcases row_cases hrow with ⟨rfl, rfl⟩ | ⟨g, cap, rfl⟩
    · exact ⟨none, 0, rfl⟩
    · exact ⟨_, _, rfl⟩
  have hfin : ∀ w1 w2 w3 (v1 : Value) (nq : Nat), w1 = wc.drewN nq → w2.ownsRow 0 225 7 v1 (C.length + 1) (flat encC C ++ encC (x, true, 0)) → Mod sv.ownBlock.toList w1 w2 →
      (v1.ownBlock = sv.ownBlock ∨ ∃ b, v1.ownBlock = some b ∧ w1.heap.size ≤ b) → w3 = (w2.setCell ⟨ba, 1, none⟩ v1).setCell ⟨ba, 3, none⟩ (.int .i64 ((C.length : Int) + 1)) → Left w w3 ba (A.give x).1 F := by
    rintro _ w2 _ v1 nq rfl hrow2 hm hv rfl
    have hb2 : Has w2 ba [.int .i64 A.room, sv, .int .i64 f, .int .i64 A.count] 222 := (hb.drewN nq).keep hm (by simpa using fun e => hne e)
    have hne2 : v1.ownBlock ≠ some ba := by
      rcases hv with hv | ⟨b, hv, hle⟩
      · rw [hv]; exact hne
      · rw [hv]; intro e; injection e with e; have := hb.lt; simp at hle; omega
    refine ⟨ba :: v1.ownBlock.toList, ⟨v1, C ++ [(x, true, 0)], f, ?_, ?_, ?_, hne2, rfl⟩, ?_, ?_⟩
    · have := hfit.new he hr x
      simpa [Ar.give, he, hr] using this
    · have h5 := (hb2.set 1 v1).set 3 (.int .i64 ((C.length : Int) + 1))
      have e : ((C.length : Int) + 1) = ((A.give x).1.count : Int) := by simp [Ar.give, he, hr, Ar.count]; omega
      rw [e] at h5 ⊢
      simpa [Ar.give, he, hr] using h5
    · have h6 := own_other (own_other hrow2 ⟨ba, 1, none⟩ v1 hne2) ⟨ba, 3, none⟩ (.int .i64 ((C.length : Int) + 1)) hne2
      simpa [flat_append, flat_one] using h6
    · refine (((m0.of0.drewN nq).trans hm ?_).setCell _ _ ?_).setCell _ _ ?_
      · intro b hb _; rw [hF]; exact List.mem_cons_of_mem _ hb
      · intro _; rw [hF]; simp
      · intro _; rw [hF]; simp
    · intro b hb
      rw [hF]
      rcases List.mem_cons.1 hb with rfl | hb
      · simp
      · rcases own_fresh (F := sv.ownBlock.toList) (by intro b hb; simp [hb]) hv b (by simpa using hb) with h | h
        · exact .inl (List.mem_cons_of_mem _ h)
        · exact .inr (Nat.le_trans m0.size h)
  have hb0 := hb.cell 0 rfl
  have hb1 := hb.cell 1 rfl
  have hb3 := hb.cell 3 rfl
  have ltb : ba < wc.heap.size := hb.lt
  have y1 : ∀ (n : Nat) (o : Obj), ((wc.drewN n).alloc o).cell? ⟨ba, 1, none⟩ = some (.slice a C.length c) := fun n o => by rw [← hsv]; exact ((hb.drewN n).alloc o).cell 1 rfl
  rw [hcnt] at hb3
  have x0 := hX.cell 0 rfl
  have x1 := hX.cell 1 rfl
  have x2 := hX.cell 2 rfl
  have x3 := hX.cell 3 rfl
  have x4 := hX.cell 4 rfl
  have hd : decide (C.length < C.length) = false := by simp
  have hd2 : decide (A.room ≤ C.length) = false := by simp; omega
  have hfin' := Lib.hid hfin
  have hcnt := Lib.hid hcnt
  have hlen' : A.cells.length = C.length := hlen.symm
  rw [hlen']
  have hl1 : C.length < 1048576 := by omega
  have hb' := Lib.hid hb
  have hrow' := Lib.hid hrow
  have hne' := Lib.hid hne
  have hwc' := Lib.hid hwc
  clear hfit hfin he hF hlen hlen' hcount H hX hlt0 m0 hwc hb hrow hne
  subst hsv
  unfold Nd.val
  go_enter Try.func132, Try.ntmps132
  go_upto_region 1 with fail
  rw [← hwc'.out]
  generalize w.heap.size = B at *
  go_wp2_with fail
  go_quiet (fail)
  go_wp2_with fail
  go_quiet (fail)
  go_upto_region 12 with fail
  go_region_law (refine step_app rfl (.tmp 66) (.tmp 69) 220 225 _ 7 56 rfl Try.underlying220 infoC rfl (by omega) (by omega) (.slice a C.length c) C.length 1 (flat encC C) (encC (x, true, 0)) rfl rfl rfl rfl (by simp [encC, Value.oneCell']) hrow'.out (by omega) ?_; intro a1 c1 w2 hown hm hv; have hbb := (hb'.out.drewN _).keep hm (by intro hh; exact hne'.out (by simpa using hh)); have k1 := hbb.cell 1 rfl; have kf := hbb.free 1; have kl := hbb.lt)
  all_goals
    have k3 := hbb.cell 3 rfl
    rw [hcnt.out] at k3
    have kf3 := hbb.free 3
    clear hbb
    go_wp2_with fail
    go_ret2
    exact ⟨rfl, hfin'.out _ _ _ _ _ rfl hown hm hv rfl⟩
end ArN
end Go.Proofs.Ytmkbinbggiocaaa
