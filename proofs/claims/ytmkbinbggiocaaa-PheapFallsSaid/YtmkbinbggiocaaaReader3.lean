/- The reader: Count. -/
import Derived.Test.YtmkbinbggiocaaaReader2
import Derived.Test.YtmkbinbggiocaaaSched
set_option linter.unusedVariables false
set_option linter.unusedSimpArgs false
namespace Go.Proofs.Ytmkbinbggiocaaa
open Go.RowKit
namespace Code
/-- What Count reads, and where the reader is then. -/
def rCount (bs : List Int) (k : Nat) (stop : Bool) : Nat × Nat × Bool :=
  if stop then (0, k, true) else match natP 0 (bs.drop k) with
    | some (n, j) => if n ≤ bs.length - k - j then (n, k + j, false) else (0, k, true)
    | none => (0, k, true)
def RCountOut (w : World) (r : Nat) (a : Option Addr) (c : Nat) (bs : List Int) (k : Nat) (stop : Bool) (e : Ending) (w' : World) : Prop :=
  e = .returned (.int .i64 (rCount bs k stop).1) ∧ RAt w' r a c bs (rCount bs k stop).2.1 (rCount bs k stop).2.2 ∧ Mod [r] w w'
theorem trM (r : Nat) (w1 w2 w3 : World) (h1 : Mod [r] w1 w2) (h2 : Mod [r] w2 w3) : Mod [r] w1 w3 := h1.trans h2 (fun b hb _ => hb)
set_option maxHeartbeats 2000000 in
theorem rdCount {w : World} {r c k : Nat} {a : Option Addr} {bs : List Int} {stop : Bool} (h : RAt w r a c bs k stop) (hbb : ∀ x ∈ bs, 0 ≤ x ∧ x < 256) :
    Calls Try.prog 43 #[.pointer (some ⟨r, 0, none⟩)] w (RCountOut w r a c bs k stop) := by
  have hn := Lib.hid (nat_walk h hbb)
  have hbd : Hid (∀ x ∈ bs.drop k, 0 ≤ x ∧ x < 256) := fun x hx => hbb x (List.mem_of_mem_drop hx)
  have h' := Lib.hid h
  have hbig := h.big
  have hdl : (bs.drop k).length = bs.length - k := List.length_drop
  have hdl' := Lib.hid hdl
  clear h hbb hdl
  go_enter Try.func43, Try.ntmps43
  go_wp2_with fail
  refine hn.out.mono ?_
  rintro e w1 ⟨n, sz, ok, rfl, hd, hP⟩
  dsimp only
  have hP' := Lib.hid hP
  have hd' := Lib.hid hd
  clear hP hd hn
  cases ok with
  | false =>
    go_wp2_with fail
    refine region_sched (G := Mod [r]) [([0,1,2,3,4,5,6,7,8,9,12],10), ([11,13,14,15,16],17)] [18] (by kernel_rfl) (by kernel_rfl) (by kernel_rfl) rfl (Mod.refl [r]) (trM r) ?_
    simp only [stages, pickO, nthO, headO, List.cons_append, List.nil_append]
    refine sched_step ?_
    repeat (go_big_quiet_step (fail))
    refine wpQuiet_nil ?_
    intro K hK
    rw [if_neg (by exact Bool.false_ne_true)]
    refine hK.out _ _ (Mod.refl [r] _) ?_
    clear hK K
    simp only [Act.put, List.setIfInBounds_toArray, List.set_cons_zero, List.set_cons_succ]
    refine sched_step ?_
    repeat (go_big_quiet_step (fail))
    refine wpQuiet_nil ?_
    intro K hK
    rw [if_pos (by rfl)]
    go_simp
    refine (take_no ((h'.out.still hd'.out.mod).still (Mod.refl [] _).drew) sz false (.inr rfl)).mono ?_
    rintro e w2 ⟨rfl, hR, hm⟩
    dsimp only
    refine hK.out _ _ hm ?_
    clear hK K
    refine sched_last ?_
    repeat (go_big_quiet_step (fail))
    refine wpQuiet_nil ?_
    have hfin : RCountOut w r a c bs k stop (.returned (.int .i64 0)) w2 := by
      have e1 : rCount bs k stop = (0, k, true) := by
        unfold rCount
        have h0 := hP'.out
        simp at h0
        simp [h0]
      unfold RCountOut
      rw [e1]
      exact ⟨by simp, hR, mod2 hd'.out ((Mod.refl [r] _).drew.trans hm (fun b hb _ => hb))⟩
    have hfin' := Lib.hid hfin
    clear hfin hR hm
    go_wp2_with fail
    go_ret
    exact hfin'.out
  | true =>
    have hQ0 : natP 0 (bs.drop k) = some (n, sz) := by simpa using hP'.out
    have hl := natP_len hbd.out hQ0
    have hQ := Lib.hid hQ0
    have hl2 := Lib.hid hl
    have hszl : sz ≤ bs.length - k := by have := hl.1; rw [hdl'.out] at this; exact this
    clear hQ0 hl
    go_wp2_with fail
    refine region_sched (G := Mod [r]) [([0,1,2,3,4,5,6,7,8,9,12],10), ([11,13,14,15,16],17)] [18] (by kernel_rfl) (by kernel_rfl) (by kernel_rfl) rfl (Mod.refl [r]) (trM r) ?_
    simp only [stages, pickO, nthO, headO, List.cons_append, List.nil_append]
    refine sched_step ?_
    repeat (go_big_quiet_step (fail))
    refine wpQuiet_nil ?_
    intro K hK
    rw [if_pos (by rfl)]
    go_simp
    have hR1 := (h'.out.still hd'.out.mod).still (Mod.refl [] _).drew
    refine (left_any hR1).mono ?_
    rintro e w2 ⟨v, rfl, hd2, hr2⟩
    obtain ⟨al, cl, rfl⟩ := hr2.val
    dsimp only
    refine hK.out _ _ hd2.mod.of0 ?_
    clear hK K hr2
    have hR2 := Lib.hid (hR1.still hd2.mod)
    have hd2' := Lib.hid hd2
    clear hd2 hR1
    rw [hdl'.out]
    obtain ⟨L, hL⟩ : ∃ L, L = bs.length - k := ⟨_, rfl⟩
    rw [← hL] at hszl ⊢
    have hL1 : L ≤ 1000000 := by omega
    have hL' := Lib.hid hL
    clear hL
    obtain ⟨q, hq⟩ : ∃ q, q = L - sz := ⟨_, rfl⟩
    have hw1 : IntKind.i64.wrap ((L : Int) - (sz : Int)) = (q : Int) := by rw [IntWalk.i64_in _ (by omega)]; omega
    have hw2 : IntKind.u64.wrap (q : Int) = (q : Int) := by rw [IntKind.wrap_u64]; omega
    have hq' := Lib.hid hq
    clear hq
    by_cases hle : n ≤ q
    · have t1 : decide ((n : Int) ≤ (q : Int)) = true := by simp; omega
      have t1' : decide (n ≤ q) = true := by simpa using hle
      have hle' := Lib.hid hle
      clear hle
      refine sched_step ?_
      repeat (go_big_quiet_step (fail))
      refine wpQuiet_nil ?_
      intro K hK
      rw [if_pos (by rfl)]
      go_simp
      cases stop with
      | true =>
        refine (take_no hR2.out sz true (.inl rfl)).mono ?_
        rintro e w3 ⟨rfl, hR, hm⟩
        dsimp only
        refine hK.out _ _ hm ?_
        clear hK K
        refine sched_last ?_
        repeat (go_big_quiet_step (fail))
        refine wpQuiet_nil ?_
        have hfin : RCountOut w r a c bs k true (.returned (.int .i64 0)) w3 := by
          have e1 : rCount bs k true = (0, k, true) := by simp [rCount]
          unfold RCountOut
          rw [e1]
          exact ⟨by simp, hR, mod2 hd'.out ((Mod.refl [r] _).drew.trans (mod2 hd2'.out hm) (fun b hb _ => hb))⟩
        have hfin' := Lib.hid hfin
        clear hfin hR hm
        go_wp2_with fail
        go_ret
        exact hfin'.out
      | false =>
        refine (take_yes hR2.out sz ?_).mono ?_
        · have := hL'.out; have := h'.out.le; omega
        rintro e w3 ⟨rfl, hR, hm⟩
        dsimp only
        refine hK.out _ _ hm ?_
        clear hK K
        refine sched_last ?_
        repeat (go_big_quiet_step (fail))
        refine wpQuiet_nil ?_
        have hfin : RCountOut w r a c bs k false (.returned (.int .i64 n)) w3 := by
          have e1 : rCount bs k false = (n, k + sz, false) := by
            have := hle'.out; have h5 := hq'.out; rw [hL'.out] at h5
            simp only [rCount, hQ.out]
            rw [if_neg (by simp), if_pos (by omega)]
          unfold RCountOut
          rw [e1]
          exact ⟨rfl, hR, mod2 hd'.out ((Mod.refl [r] _).drew.trans (mod2 hd2'.out hm) (fun b hb _ => hb))⟩
        have hfin' := Lib.hid hfin
        have hnn : IntKind.i64.wrap (n : Int) = (n : Int) := IntWalk.i64_in _ (by have := hle'.out; have := hq'.out; omega)
        clear hfin hR hm hw1 hw2
        go_wp2_with fail
        go_ret
        exact hfin'.out
    · have t1 : decide ((n : Int) ≤ (q : Int)) = false := by simp; omega
      have t1' : decide (n ≤ q) = false := by simpa using hle
      have hle' := Lib.hid hle
      clear hle
      refine sched_step ?_
      repeat (go_big_quiet_step (fail))
      refine wpQuiet_nil ?_
      intro K hK
      rw [if_pos (by rfl)]
      go_simp
      refine (take_no hR2.out sz false (.inr rfl)).mono ?_
      rintro e w3 ⟨rfl, hR, hm⟩
      dsimp only
      refine hK.out _ _ hm ?_
      clear hK K
      refine sched_last ?_
      repeat (go_big_quiet_step (fail))
      refine wpQuiet_nil ?_
      have hfin : RCountOut w r a c bs k stop (.returned (.int .i64 0)) w3 := by
        have e1 : rCount bs k stop = (0, k, true) := by
          have := hle'.out; have h5 := hq'.out; rw [hL'.out] at h5
          unfold rCount
          split
          · rfl
          · rw [hQ.out]; simp only; rw [if_neg (by omega)]
        unfold RCountOut
        rw [e1]
        exact ⟨by simp, hR, mod2 hd'.out ((Mod.refl [r] _).drew.trans (mod2 hd2'.out hm) (fun b hb _ => hb))⟩
      have hfin' := Lib.hid hfin
      clear hfin hR hm
      go_wp2_with fail
      go_ret
      exact hfin'.out
end Code
end Go.Proofs.Ytmkbinbggiocaaa
