/- The search for how far it is to a vertex: who leads to a vertex is seen. (Ahead of it: The reference's edges: the same list? slices.Equal of edges. What no graph at all tells; whether two graphs are the same. The arcs of a graph that is there; the law's awake: arcs are told at all. What is left of arcs, as an object: what it tells; a push. What is left of arcs: a push along an arc; all flows; of nil there is nothing. What is left of arcs: all flows; of nil there is nothing; New. What is left of arcs: to where something may go. The search for how far it is: a vertex is seen.) -/
import Derived.Test.YtjpfmkfikidgkaaGreatEdRow
import Derived.Laws.StructEq
import Derived.Test.YtjpfmkfikidgkaaGreatNetGet
import Derived.Laws.EntriesVeiled
import Derived.Test.YtjpfmkfikidgkaaGreatCsr6
import Derived.Test.YtjpfmkfikidgkaaGreatIntsE
import Derived.Test.YtjpfmkfikidgkaaGreatResLaw
import Derived.Test.YtjpfmkfikidgkaaGreatReachLaw
import Derived.Test.YtjpfmkfikidgkaaGreatLevLaw
set_option linter.unusedVariables false
set_option linter.unusedSimpArgs false
namespace Go.Proofs.YtjpfmkfikidgkaaGreat
open Go.RowKit
namespace Edge
theorem eqEd (a b : Ed) (w : World) : (Op.equalIn 10000 146 (.agg #[.int .i64 a.1, .int .i64 a.2.1, .int .i64 a.2.2]) (.agg #[.int .i64 b.1, .int .i64 b.2.1, .int .i64 b.2.2])).run Tryz.prog w = .ok (decide (a = b)) w := by
  obtain ⟨a1, a2, a3⟩ := a
  obtain ⟨b1, b2, b3⟩ := b
  have u1 := Tryz.underlying3
  have u2 := Tryz.underlying2
  have g1 := Tryz.isAgg3
  have g2 := Tryz.isAgg2
  have z1 := Tryz.sizeOf3
  have z2 := Tryz.sizeOf2
  have hS : Tryz.prog.underlying 146 = some (.struct (Tryz.prog.fieldsOf 146)) := by kernel_rfl
  have hp : Tryz.prog.stoodInHeld 146 = false := by kernel_rfl
  rw [show (10000 : Nat) = 9999 + 1 from rfl, run_equalIn_agg w 9999 146 _ _ hS hp]
  simp only [Program.fieldsOf, Tryz.underlying146]
  go_simp
  by_cases h1 : a1 = b1 <;> by_cases h2 : a2 = b2 <;> by_cases h3 : a3 = b3 <;> simp [h1, h2, h3]
theorem guardEd : Tryz.prog.eqGuardType Tryz.prog.depth 146 = false := by kernel_rfl
set_option maxRecDepth 100000 in
set_option maxHeartbeats 2000000 in
theorem rsame_any {w : World} {va vb : Value} {xs ys : List Ed} (ha : Rd w 3 va xs.length (flat encEd xs)) (hb : Rd w 3 vb ys.length (flat encEd ys)) :
    Calls Tryz.prog 91 #[va, vb] w fun e w' => e = .returned (.bool (decide (xs = ys))) ∧ Mod [] w w' := by
  obtain ⟨a1, c1, rfl⟩ := ha.val
  obtain ⟨a2, c2, rfl⟩ := hb.val
  have hle := ha.le
  have ha' := Lib.hid ha
  have hb' := Lib.hid hb
  clear ha hb
  obtain ⟨n1, hn1⟩ : ∃ n, xs.length = n := ⟨_, rfl⟩
  obtain ⟨n2, hn2⟩ : ∃ n, ys.length = n := ⟨_, rfl⟩
  have hn1' := Lib.hid hn1
  have hn2' := Lib.hid hn2
  rw [hn1] at hle
  rw [hn1, hn2]
  clear hn1 hn2
  by_cases hlen : n1 = n2
  · have hd : ((n1 : Int) != (n2 : Int)) = false := by simp [hlen]
    subst hlen
    go_enter Tryz.func91, Tryz.ntmps91
    go_wp2_with fail
    go_loopw [5] (fun i wr => ∃ k : Nat, k ≤ n1 ∧ i = .int .i64 k ∧ Hid (Mod [] w wr) ∧ Hid (xs.take k = ys.take k)) (fun i _ => n1 - (intOf i).toNat)
    case atStart => exact ⟨0, Nat.zero_le _, rfl, Lib.hid (Mod.refl _ _), Lib.hid (by simp)⟩
    case round =>
      obtain ⟨k, hk, rfl, hmod, heq⟩ := hrel
      by_cases hlt : k < n1
      · have hlt1 : (k : Int) < n1 := by omega
        have hk1 : k < xs.length := by rw [hn1'.out]; exact hlt
        have hk2 : k < ys.length := by rw [hn2'.out]; exact hlt
        obtain ⟨g1, o1, rfl, hg1, hc1⟩ := ed_cells ha'.out hk1
        obtain ⟨g2, o2, rfl, hg2, hc2⟩ := ed_cells hb'.out hk2
        obtain ⟨q0, q1, q2⟩ := hc1 wr hmod.out
        obtain ⟨r0, r1, r2⟩ := hc2 wr hmod.out
        have hgl1 := Nat.lt_of_lt_of_le hg1 hmod.out.size
        have hgl2 := Nat.lt_of_lt_of_le hg2 hmod.out.size
        have hyes := Lib.hid (fun (h : xs[k] = ys[k]) => (show xs.take (k + 1) = ys.take (k + 1) by rw [List.take_succ_eq_append_getElem hk1, List.take_succ_eq_append_getElem hk2, heq.out, h]))
        have hno := Lib.hid (fun (h : xs[k] ≠ ys[k]) => (show decide (xs = ys) = false by
          rw [decide_eq_false_iff_not]; intro e; subst e; exact h rfl))
        generalize xs[k] = x at *
        generalize ys[k] = y at *
        obtain ⟨xu, xv, xw⟩ := x
        obtain ⟨yu, yv, yw⟩ := y
        simp only at q0 q1 q2 r0 r1 r2
        clear hc1 hc2 hg1 hg2 hk1 hk2
        by_cases hxy : ((xu, xv, xw) : Ed) = (yu, yv, yw)
        · have hy2 := Lib.hid (hyes.out hxy)
          have hgd := guardEd
          have t : ∀ w, _ = Result.ok _ w := fun w => eqEd (xu, xv, xw) (yu, yv, yw) w
          rw [show decide (((xu, xv, xw) : Ed) = (yu, yv, yw)) = true by rw [hxy]; simp] at t
          simp only at t
          clear hxy
          clear hyes hno
          go_wp2_with fail
          go_quiet (fail)
          go_wp2_with fail
          go_roundw
          case rel => exact ⟨k + 1, by omega, by go_num, Lib.hid (hmod.out.drewN _), hy2⟩
          case measure => simp [intOf]; omega
        · have hn := Lib.hid (hno.out hxy)
          have hgd := guardEd
          have t : ∀ w, _ = Result.ok _ w := fun w => eqEd (xu, xv, xw) (yu, yv, yw) w
          rw [show decide (((xu, xv, xw) : Ed) = (yu, yv, yw)) = false by simpa using hxy] at t
          simp only at t
          clear hxy
          clear hyes hno
          go_wp2_with fail
          go_quiet (fail)
          go_wp2_with fail
          go_ret
          rw [hn.out]
          exact ⟨rfl, hmod.out.drewN _⟩
      · obtain rfl : k = n1 := by omega
        have hy : decide (xs = ys) = true := by
          rw [decide_eq_true_eq]
          have := heq.out
          rw [List.take_of_length_le (by rw [hn1'.out]; exact Nat.le_refl _), List.take_of_length_le (by rw [hn2'.out]; exact Nat.le_refl _)] at this
          exact this
        have hy' := Lib.hid hy
        clear hy heq
        go_wp2_with fail
        go_ret
        rw [hy'.out]
        exact ⟨rfl, hmod.out⟩
  · have hd : ((n1 : Int) != (n2 : Int)) = true := by simp; omega
    have hno := Lib.hid (show decide (xs = ys) = false by
      rw [decide_eq_false_iff_not]; intro e; subst e; exact hlen (hn1'.out.symm.trans hn2'.out))
    clear hlen
    go_enter Tryz.func91, Tryz.ntmps91
    go_wp2_with fail
    go_ret
    rw [hno.out]
    exact ⟨rfl, Mod.refl _ _⟩
end Edge
end Go.Proofs.YtjpfmkfikidgkaaGreat

set_option linter.unusedVariables false
set_option linter.unusedSimpArgs false
namespace Go.Proofs.YtjpfmkfikidgkaaGreat
open Go.RowKit
namespace Edge
end Edge
end Go.Proofs.YtjpfmkfikidgkaaGreat

set_option linter.unusedVariables false
set_option linter.unusedSimpArgs false
namespace Go.Proofs.YtjpfmkfikidgkaaGreat
open Go.RowKit
namespace Edge
theorem n_nil (w : World) : Calls Tryz.prog 72 #[.pointer none] w fun e w' => e = .returned (.int .i64 0) ∧ w' = w := by
  go_enter Tryz.func72, Tryz.ntmps72
  go_wp2
  go_ret
  exact ⟨rfl, rfl⟩
theorem m_nil (w : World) : Calls Tryz.prog 73 #[.pointer none] w fun e w' => e = .returned (.int .i64 0) ∧ w' = w := by
  go_enter Tryz.func73, Tryz.ntmps73
  go_wp2
  go_ret
  exact ⟨rfl, rfl⟩
theorem edges_nil (w : World) : Calls Tryz.prog 92 #[.pointer none] w fun e w' => e = .returned (.slice none 0 0) ∧ w' = w := by
  go_enter Tryz.func92, Tryz.ntmps92
  go_wp2
  go_ret
  exact ⟨rfl, rfl⟩
theorem total_nil (w : World) : Calls Tryz.prog 95 #[.pointer none] w fun e w' => e = .returned (.int .i64 0) ∧ w' = w := by
  go_enter Tryz.func95, Tryz.ntmps95
  go_wp2
  go_ret
  exact ⟨rfl, rfl⟩
theorem weight_nil (u v : Int) (w : World) : Calls Tryz.prog 143 #[.pointer none, .int .i64 u, .int .i64 v] w fun e w' => e = .returned (.int .i64 0) ∧ w' = w := by
  go_enter Tryz.func143, Tryz.ntmps143
  go_wp2
  go_ret
  exact ⟨rfl, rfl⟩
theorem near_nil (w : World) : Calls Tryz.prog 141 #[.pointer none, .int .i64 0] w fun e w' => e = .returned (.slice none 0 0) ∧ w' = w := by
  go_enter Tryz.func141, Tryz.ntmps141
  go_wp2_with (go_at_call 72; refine (n_nil _).mono ?_; rintro e w1 ⟨rfl, rfl⟩)
  go_ret
  exact ⟨rfl, rfl⟩
theorem edge_nil (w : World) : Calls Tryz.prog 159 #[.pointer none, .int .i64 0] w fun e w' => e = .returned (.tuple #[.agg #[.int .i64 0, .int .i64 0, .int .i64 0], .bool false]) ∧ Mod [] w w' := by
  have hmod := Lib.hid ((Mod.refl [] w).alloc (.cells #[.int .i64 0, .int .i64 0, .int .i64 0] 146))
  go_enter Tryz.func159, Tryz.ntmps159
  go_wp2_with (go_at_call 73; refine (m_nil _).mono ?_; rintro e w1 ⟨rfl, rfl⟩)
  exact bodyPost_ret (v := .tuple #[.agg #[.int .i64 0, .int .i64 0, .int .i64 0], .bool false]) (by simp [results, Tryz.results159, go_sem]) rfl ⟨rfl, hmod.out⟩
end Edge
end Go.Proofs.YtjpfmkfikidgkaaGreat

set_option linter.unusedVariables false
set_option linter.unusedSimpArgs false
namespace Go.Proofs.YtjpfmkfikidgkaaGreat
open Go.RowKit
namespace Edge
theorem csr_net {w0 w : World} {b n : Nat} {L : List Ed} {R : List Part} (hS : Sep w0 w (NetP b n L :: R)) (hG : GOk n L) :
    Calls Tryz.prog 104 #[.pointer (some ⟨b, 0, none⟩)] w fun e w' => ∃ b2, e = .returned (.pointer (some ⟨b2, 0, none⟩)) ∧ Sep w0 w' (ArcP b2 n L :: NetP b n L :: R) := by
  refine (acsr_new hG (fun W m => n_sep (hS.still m)) (fun W m => edges_sep (hS.still m) hG.len)).mono ?_
  rintro e w' ⟨b2, rfl, hA⟩
  obtain ⟨F, hP, hF, _⟩ := hA.first
  exact ⟨b2, rfl, hS.add hA.mod hP (fun x hx => (hF x hx).2)⟩
theorem gok_none : GOk 0 [] := ⟨by omega, List.Pairwise.nil, by simp, by simp, by simp [total], by simp⟩
theorem csr_none (w : World) : Calls Tryz.prog 104 #[.pointer none] w fun e w' => ∃ b2, e = .returned (.pointer (some ⟨b2, 0, none⟩)) ∧ Sep w w' [ArcP b2 0 []] := by
  refine acsr_new gok_none (fun W m => (n_nil W).mono ?_) (fun W m => (edges_nil W).mono ?_)
  · rintro e w' ⟨rfl, rfl⟩; exact ⟨rfl, rfl⟩
  · rintro e w' ⟨rfl, rfl⟩; exact ⟨none, 0, rfl, World.ownsRow_nil _ _ _ _, Mod.refl _ _, by simp [Value.ownBlock]⟩
section
variable {w0 w : World} {b n : Nat} {L : List Ed} {R : List Part}
theorem an_sep (h : Sep w0 w (ArcP b n L :: R)) (hG : GOk n L) : Calls Tryz.prog 105 #[.pointer (some ⟨b, 0, none⟩)] w fun e w' => e = .returned (.int .i64 n) ∧ w' = w := by
  obtain ⟨F, h1, _⟩ := h.first
  exact an_p h1 hG
theorem alen_sep (h : Sep w0 w (ArcP b n L :: R)) : Calls Tryz.prog 24 #[.pointer (some ⟨b, 0, none⟩)] w fun e w' => e = .returned (.int .i64 ((2 * L.length : Nat) : Int)) ∧ w' = w := by
  obtain ⟨F, h1, _⟩ := h.first
  exact alen_p h1
theorem ahead_sep (h : Sep w0 w (ArcP b n L :: R)) (hG : GOk n L) (i : Int) : Calls Tryz.prog 39 #[.pointer (some ⟨b, 0, none⟩), .int .i64 i] w fun e w' => e = .returned (.int .i64 (headI L i)) ∧ w' = w := by
  obtain ⟨F, h1, _⟩ := h.first
  exact ahead_p h1 hG i
theorem acap_sep (h : Sep w0 w (ArcP b n L :: R)) (hG : GOk n L) (i : Int) : Calls Tryz.prog 106 #[.pointer (some ⟨b, 0, none⟩), .int .i64 i] w fun e w' => e = .returned (.int .i64 (capI L i)) ∧ w' = w := by
  obtain ⟨F, h1, _⟩ := h.first
  exact acap_p h1 hG i
theorem atail_sep (h : Sep w0 w (ArcP b n L :: R)) (hG : GOk n L) (i : Int) (hi : i ≤ 9223372036854775807) : Calls Tryz.prog 38 #[.pointer (some ⟨b, 0, none⟩), .int .i64 i] w fun e w' => e = .returned (.int .i64 (tailI L i)) ∧ w' = w := by
  obtain ⟨F, h1, _⟩ := h.first
  exact atail_p h1 hG i hi
theorem aout_sep (h : Sep w0 w (ArcP b n L :: R)) (hG : GOk n L) (v : Int) : Calls Tryz.prog 75 #[.pointer (some ⟨b, 0, none⟩), .int .i64 v] w fun e w' => ∃ a c, e = .returned (.slice a (outI n L v).length c) ∧ Made w w' 3 1 a (outI n L v).length c (i64s (outI n L v)) := by
  obtain ⟨F, h1, _⟩ := h.first
  exact aout_p h1 hG v
end
theorem merged19 : merged [(0, 1, 5)] = [(0, 1, 5)] := by decide +kernel
end Edge
end Go.Proofs.YtjpfmkfikidgkaaGreat

set_option linter.unusedVariables false
set_option linter.unusedSimpArgs false
namespace Go.Proofs.YtjpfmkfikidgkaaGreat
open Go.RowKit
namespace Edge
/-- What is left of the arcs ba. -/
def RestP (r ba n : Nat) (L : List Ed) (f : List Int) : Part := fun w F => ∃ gl go : Nat, Parts w
  [Blk r [.pointer (some ⟨ba, 0, none⟩), .slice (some ⟨gl, 0, none⟩) (2 * L.length) (2 * L.length), .slice (some ⟨go, 0, none⟩) n n] 174,
   Row 2 1 (2 * L.length) (.slice (some ⟨gl, 0, none⟩) (2 * L.length) (2 * L.length)) (i64s (leftL L f)),
   Row 2 1 n (.slice (some ⟨go, 0, none⟩) n n) (i64s (overL n L f))] F
instance (r ba n : Nat) (L : List Ed) (f : List Int) : Good (RestP r ba n L f) where
  lt h := by obtain ⟨_, _, h⟩ := h; exact h.lt
  keep h m hd := by obtain ⟨gl, go, h⟩ := h; exact ⟨gl, go, h.keep m hd⟩
structure RestRd (w : World) (r ba n : Nat) (L : List Ed) (f : List Int) (gl go : Nat) : Prop where
  hb : Has w r [.pointer (some ⟨ba, 0, none⟩), .slice (some ⟨gl, 0, none⟩) (2 * L.length) (2 * L.length), .slice (some ⟨go, 0, none⟩) n n] 174
  left : w.ownsRow 0 2 1 (.slice (some ⟨gl, 0, none⟩) (2 * L.length) (2 * L.length)) (2 * L.length) (i64s (leftL L f))
  over : w.ownsRow 0 2 1 (.slice (some ⟨go, 0, none⟩) n n) n (i64s (overL n L f))
theorem RestP.rd {w : World} {r ba n : Nat} {L : List Ed} {f : List Int} {F : List Nat} (h : RestP r ba n L f w F) : ∃ gl go, RestRd w r ba n L f gl go := by
  obtain ⟨gl, go, h⟩ := h
  obtain ⟨_, ⟨k0, _⟩, _⟩ := parts_at h 0 _ rfl
  obtain ⟨_, ⟨k1, _⟩, _⟩ := parts_at h 1 _ rfl
  obtain ⟨_, ⟨k2, _⟩, _⟩ := parts_at h 2 _ rfl
  exact ⟨gl, go, k0, k1, k2⟩
/-- The parts of what is left, side by side with others. -/
theorem Sep.rest {w0 w : World} {r ba n : Nat} {L : List Ed} {f : List Int} {R : List Part} (h : Sep w0 w (RestP r ba n L f :: R)) : ∃ gl go : Nat, Sep w0 w
  (Blk r [.pointer (some ⟨ba, 0, none⟩), .slice (some ⟨gl, 0, none⟩) (2 * L.length) (2 * L.length), .slice (some ⟨go, 0, none⟩) n n] 174 ::
   Row 2 1 (2 * L.length) (.slice (some ⟨gl, 0, none⟩) (2 * L.length) (2 * L.length)) (i64s (leftL L f)) ::
   Row 2 1 n (.slice (some ⟨go, 0, none⟩) n n) (i64s (overL n L f)) :: R) := by
  obtain ⟨F, h1, h2, h3⟩ := h.out
  obtain ⟨_, F1, F2, rfl, ⟨gl, go, k⟩, k2, k3⟩ := h1
  obtain ⟨g0, A, B, rfl, a1, ⟨g1, C, D, rfl, c1, ⟨g2, E, G, rfl, e1, rfl, e3⟩, c3⟩, a3⟩ := k
  refine ⟨gl, go, A ++ (C ++ (E ++ F2)), ⟨g0, A, _, rfl, a1, ⟨g1, C, _, rfl, c1, ⟨g2, E, _, rfl, e1, k2, ?_⟩, ?_⟩, ?_⟩, h2, ?_⟩
  · intro b hb hb2; exact k3 b (by simp [hb]) hb2
  · intro b hb hb2
    rcases List.mem_append.1 hb2 with hb2 | hb2
    · exact c3 b hb (by simp [hb2])
    · exact k3 b (by simp [hb]) hb2
  · intro b hb hb2
    rcases List.mem_append.1 hb2 with hb2 | hb2
    · exact a3 b hb (by simp [hb2])
    rcases List.mem_append.1 hb2 with hb2 | hb2
    · exact a3 b hb (by simp [hb2])
    · exact k3 b (by simp [hb]) hb2
  · intro b hb
    refine h3 b ?_
    simp only [List.mem_append] at hb ⊢
    rcases hb with hb | hb | hb | hb <;> simp [hb]
theorem Sep.mkRest {w0 w : World} {r ba n : Nat} {L : List Ed} {f : List Int} {R : List Part} {gl go : Nat} (h : Sep w0 w
  (Blk r [.pointer (some ⟨ba, 0, none⟩), .slice (some ⟨gl, 0, none⟩) (2 * L.length) (2 * L.length), .slice (some ⟨go, 0, none⟩) n n] 174 ::
   Row 2 1 (2 * L.length) (.slice (some ⟨gl, 0, none⟩) (2 * L.length) (2 * L.length)) (i64s (leftL L f)) ::
   Row 2 1 n (.slice (some ⟨go, 0, none⟩) n n) (i64s (overL n L f)) :: R)) : Sep w0 w (RestP r ba n L f :: R) := by
  obtain ⟨F, h1, h2, h3⟩ := h.out
  obtain ⟨g0, A, B, rfl, a1, ⟨g1, C, D, rfl, c1, ⟨g2, E, G, rfl, e1, k2, e3⟩, c3⟩, a3⟩ := h1
  refine ⟨(A ++ (C ++ (E ++ []))) ++ G, ⟨inferInstance, _, G, rfl, ⟨gl, go, ⟨g0, A, _, rfl, a1, ⟨g1, C, _, rfl, c1, ⟨g2, E, _, rfl, e1, rfl, by simp⟩, ?_⟩, ?_⟩⟩, k2, ?_⟩, h2, ?_⟩
  · intro b hb hb2
    simp only [List.append_nil] at hb2
    exact c3 b hb (by simp [hb2])
  · intro b hb hb2
    simp only [List.append_nil, List.mem_append] at hb2
    exact a3 b hb (by rcases hb2 with hb2 | hb2 <;> simp [hb2])
  · intro b hb hb2
    simp only [List.append_nil, List.mem_append] at hb
    rcases hb with hb | hb | hb
    · exact a3 b hb (by simp [hb2])
    · exact c3 b hb (by simp [hb2])
    · exact e3 b hb hb2
  · intro b hb
    refine h3 b ?_
    simp only [List.append_nil, List.mem_append] at hb ⊢
    rcases hb with (hb | hb | hb) | hb <;> simp [hb]
section
variable {w : World} {r ba n : Nat} {L : List Ed} {f : List Int} {F F2 : List Nat}
theorem rarcs_p (h : RestP r ba n L f w F) : Calls Tryz.prog 23 #[.pointer (some ⟨r, 0, none⟩)] w fun e w' => e = .returned (.pointer (some ⟨ba, 0, none⟩)) ∧ w' = w := by
  obtain ⟨gl, go, hr⟩ := h.rd
  have b0 := hr.hb.cell 0 rfl
  have bl := hr.hb.lt
  clear h hr
  go_enter Tryz.func23, Tryz.ntmps23
  go_wp2
  go_ret
  exact ⟨rfl, rfl⟩
theorem rleft_p (h : RestP r ba n L f w F) (hA : ArcP ba n L w F2) (hG : GOk n L) (i : Int) : Calls Tryz.prog 40 #[.pointer (some ⟨r, 0, none⟩), .int .i64 i] w fun e w' => e = .returned (.int .i64 (leftI L f i)) ∧ w' = w := by
  have ca := Lib.hid (rarcs_p h)
  have cl := Lib.hid (alen_p hA)
  have hl := hG.len
  obtain ⟨gl, go, hr⟩ := h.rd
  have b1 := hr.hb.cell 1 rfl
  have bl := hr.hb.lt
  by_cases h0 : i < 0
  · have e : leftI L f i = 0 := by unfold leftI; rw [if_neg (by omega)]
    rw [e]
    clear e hr h hA hG
    go_enter Tryz.func40, Tryz.ntmps40
    go_wp2_with fail
    go_ret
    exact ⟨rfl, rfl⟩
  obtain ⟨k, rfl⟩ := Int.eq_ofNat_of_zero_le (show 0 ≤ i by omega)
  obtain ⟨m, hm⟩ : ∃ m, 2 * L.length = m := ⟨_, rfl⟩
  by_cases h1 : k < m
  · have e : leftI L f (k : Int) = leftE L f k := by unfold leftI; rw [if_pos (by omega), Int.toNat_natCast]
    rw [e]
    have c0 : w.cell? ⟨gl, k, none⟩ = some (.int .i64 (leftE L f k)) := by
      have := hr.left.cellAt k (by omega)
      rw [i64s_got (leftL_get (by omega))] at this
      exact this
    have gll := own_lt hr.left (g := gl) rfl
    rw [hm] at cl b1
    have hk1 : (k : Int) < m := by omega
    generalize leftE L f k = z at *
    clear e hr h hA hG hm
    go_enter Tryz.func40, Tryz.ntmps40
    go_wp2_with (first
      | (go_at_call 23; refine ca.out.mono ?_; rintro e w1 ⟨rfl, hw1⟩; subst w1)
      | (go_at_call 24; refine cl.out.mono ?_; rintro e w1 ⟨rfl, hw1⟩; subst w1))
    go_ret
    exact ⟨rfl, rfl⟩
  · have e : leftI L f (k : Int) = 0 := by unfold leftI; rw [if_neg (by omega)]
    rw [e]
    rw [hm] at cl b1
    have hk1 : ¬ (k : Int) < m := by omega
    have t1 : decide ((m : Int) ≤ (k : Int)) = true := by simp; omega
    clear e hr h hA hG hm
    go_enter Tryz.func40, Tryz.ntmps40
    go_wp2_with (first
      | (go_at_call 23; refine ca.out.mono ?_; rintro e w1 ⟨rfl, hw1⟩; subst w1)
      | (go_at_call 24; refine cl.out.mono ?_; rintro e w1 ⟨rfl, hw1⟩; subst w1))
    go_ret
    exact ⟨rfl, rfl⟩
theorem rexc_p (h : RestP r ba n L f w F) (hA : ArcP ba n L w F2) (hG : GOk n L) (v : Int) : Calls Tryz.prog 74 #[.pointer (some ⟨r, 0, none⟩), .int .i64 v] w fun e w' => e = .returned (.int .i64 (exc L f v)) ∧ w' = w := by
  have ca := Lib.hid (rarcs_p h)
  have cn := Lib.hid (an_p hA hG)
  have hl := hG.le
  obtain ⟨gl, go, hr⟩ := h.rd
  have b2 := hr.hb.cell 2 rfl
  have bl := hr.hb.lt
  by_cases h0 : v < 0
  · rw [exc_I hG (.inl h0)]
    clear hr h hA hG
    go_enter Tryz.func74, Tryz.ntmps74
    go_wp2_with fail
    go_ret
    exact ⟨rfl, rfl⟩
  obtain ⟨k, rfl⟩ := Int.eq_ofNat_of_zero_le (show 0 ≤ v by omega)
  by_cases h1 : k < n
  · have c0 : w.cell? ⟨go, k, none⟩ = some (.int .i64 (exc L f (k : Int))) := by
      have := hr.over.cellAt k (by omega)
      rw [i64s_got (overL_get h1)] at this
      exact this
    have gll := own_lt hr.over (g := go) rfl
    have hk1 : (k : Int) < n := by omega
    generalize exc L f (k : Int) = z at *
    clear hr h hA hG
    go_enter Tryz.func74, Tryz.ntmps74
    go_wp2_with (first
      | (go_at_call 23; refine ca.out.mono ?_; rintro e w1 ⟨rfl, hw1⟩; subst w1)
      | (go_at_call 105; refine cn.out.mono ?_; rintro e w1 ⟨rfl, hw1⟩; subst w1))
    go_ret
    exact ⟨rfl, rfl⟩
  · rw [exc_I hG (.inr (by omega))]
    have hk1 : ¬ (k : Int) < n := by omega
    have t1 : decide ((n : Int) ≤ (k : Int)) = true := by simp; omega
    clear hr h hA hG
    go_enter Tryz.func74, Tryz.ntmps74
    go_wp2_with (first
      | (go_at_call 23; refine ca.out.mono ?_; rintro e w1 ⟨rfl, hw1⟩; subst w1)
      | (go_at_call 105; refine cn.out.mono ?_; rintro e w1 ⟨rfl, hw1⟩; subst w1))
    go_ret
    exact ⟨rfl, rfl⟩
set_option maxHeartbeats 2000000 in
theorem rflow_p (h : RestP r ba n L f w F) (hA : ArcP ba n L w F2) (hG : GOk n L) (hF : FB L f) (i : Int) : Calls Tryz.prog 99 #[.pointer (some ⟨r, 0, none⟩), .int .i64 i] w fun e w' => e = .returned (.int .i64 (flowI L f i)) ∧ Mod [] w w' := by
  have ca := Lib.hid (rarcs_p h)
  have hl := hG.len
  obtain ⟨gl, go, hr⟩ := h.rd
  obtain ⟨N, hN⟩ : ∃ N, L.length = N := ⟨_, rfl⟩
  have cl := alen_p hA
  rw [show ((2 * L.length : Nat) : Int) = 2 * (N : Int) by omega] at cl
  have cl' := Lib.hid cl
  by_cases h0 : i < 0
  · have e : flowI L f i = 0 := by unfold flowI; rw [if_neg (by omega)]
    rw [e]
    clear e hr h hA hG hF cl
    go_enter Tryz.func99, Tryz.ntmps99
    go_wp2_with fail
    go_ret
    exact ⟨rfl, Mod.refl _ _⟩
  obtain ⟨k, rfl⟩ := Int.eq_ofNat_of_zero_le (show 0 ≤ i by omega)
  have td : (2 * (N : Int)) / 2 = (N : Int) := by omega
  by_cases h1 : k < N
  · have e : flowI L f (k : Int) = f.getD k 0 := by unfold flowI; rw [if_pos (by omega), Int.toNat_natCast]
    rw [e]
    have b0 := hr.hb.cell 0 rfl
    have b1 := hr.hb.cell 1 rfl
    have bl := hr.hb.lt
    have c0 : w.cell? ⟨gl, 2 * k, none⟩ = some (.int .i64 (leftE L f (2 * k))) := by
      have := hr.left.cellAt (2 * k) (by omega)
      rw [i64s_got (leftL_get (by omega))] at this
      exact this
    have gll := own_lt hr.left (g := gl) rfl
    have hz := leftE_in hG hF (i := 2 * k) (by omega)
    have hc := capE_le hG (2 * k)
    have hcap := Lib.hid (fun W (m : Mod [] w W) => acap_p (Good.keep hA m (by simp)) hG (2 * (k : Int)))
    have ec : capI L (2 * (k : Int)) = capE L (2 * k) := by unfold capI; rw [if_neg (by omega)]; congr 1
    rw [ec] at hcap
    have ef : f.getD k 0 = capE L (2 * k) - leftE L f (2 * k) := by
      rw [leftE_even (by omega), show 2 * k / 2 = k by omega]; omega
    rw [ef]
    have hk1 : (k : Int) < N := by omega
    have hk2 : 2 * (k : Int) < 2 * (L.length : Int) := by omega
    have hk3 : 2 * k < 2 * L.length := by omega
    have b0' : ∀ m : Fut (Mod []) w.drew, m.v.cell? ⟨r, 0, none⟩ = some (.pointer (some ⟨ba, 0, none⟩)) := fun m => (hr.hb.keep ((Mod.refl [] w).drew.trans m.of (by simp)) (by simp)).cell 0 rfl
    have b1' : ∀ m : Fut (Mod []) w.drew, m.v.cell? ⟨r, 1, none⟩ = some (.slice (some ⟨gl, 0, none⟩) (2 * L.length) (2 * L.length)) := fun m => (hr.hb.keep ((Mod.refl [] w).drew.trans m.of (by simp)) (by simp)).cell 1 rfl
    have c0' : ∀ m : Fut (Mod []) w.drew, m.v.cell? ⟨gl, 2 * k, none⟩ = some (.int .i64 (leftE L f (2 * k))) := fun m => by
      have := (own_keep hr.left ((Mod.refl [] w).drew.trans m.of (by simp)) (by simp)).cellAt (2 * k) (by omega)
      rw [i64s_got (leftL_get (by omega))] at this
      exact this
    generalize leftE L f (2 * k) = z at *
    generalize capE L (2 * k) = c at *
    clear e hr h hA hG hF cl ec ef h1
    go_enter Tryz.func99, Tryz.ntmps99
    go_upto_region 3 with (first
      | (go_at_call 23; refine ca.out.mono ?_; rintro e w1 ⟨rfl, hw1⟩; subst w1)
      | (go_at_call 24; refine cl'.out.mono ?_; rintro e w1 ⟨rfl, hw1⟩; subst w1))
    refine region_sched (G := Mod []) [([0,1,2,3,4,5,7,8,9,10,11,12,13,14],6)] [15,16] (by kernel_rfl) (by kernel_rfl) (by kernel_rfl) rfl (Mod.refl _) (fun _ _ _ h1 h2 => h1.trans h2 (by simp)) ?_
    simp only [stages, pickO, nthO, headO, List.append_eq, List.cons_append, List.nil_append]
    refine sched_step ?_
    repeat (go_big_quiet_step (fail))
    refine wpQuiet_nil ?_
    intro K hK
    rw [if_pos (by rfl)]
    go_simp
    refine (hcap.out _ (Mod.refl [] w).drew).mono ?_
    rintro e w2 ⟨rfl, hw2⟩
    subst w2
    try dsimp only
    refine hK.out _ _ (Mod.refl _ _) ?_
    clear hK K
    refine sched_last ?_
    repeat (go_big_quiet_step (fail))
    refine wpQuiet_nil ?_
    go_wp2_with fail
    go_ret
    exact ⟨rfl, (Mod.refl [] w).drew⟩
  · have e : flowI L f (k : Int) = 0 := by unfold flowI; rw [if_neg (by omega)]
    rw [e]
    have hk1 : ¬ (k : Int) < N := by omega
    have t1 : decide ((N : Int) ≤ (k : Int)) = true := by simp; omega
    clear e hr h hA hG hF cl h1
    go_enter Tryz.func99, Tryz.ntmps99
    go_wp2_with (first
      | (go_at_call 23; refine ca.out.mono ?_; rintro e w1 ⟨rfl, hw1⟩; subst w1)
      | (go_at_call 24; refine cl'.out.mono ?_; rintro e w1 ⟨rfl, hw1⟩; subst w1))
    go_ret
    exact ⟨rfl, Mod.refl _ _⟩
end
end Edge
end Go.Proofs.YtjpfmkfikidgkaaGreat

set_option linter.unusedVariables false
set_option linter.unusedSimpArgs false
namespace Go.Proofs.YtjpfmkfikidgkaaGreat
open Go.RowKit
namespace Edge
theorem mayP_no {L : List Ed} {f : List Int} {i x : Int} (h : ¬ ((0 ≤ i ∧ i < 2 * L.length) ∧ 0 ≤ x ∧ x ≤ leftE L f i.toNat)) : mayP L f i x = false ∧ pushI L f i x = f := by
  have e : mayP L f i x = false := by unfold mayP; rw [decide_eq_false_iff_not]; exact h
  exact ⟨e, by unfold pushI; rw [e]; rfl⟩
theorem mayP_yes {L : List Ed} {f : List Int} {k : Nat} {x : Int} (h1 : k < 2 * L.length) (h2 : 0 ≤ x) (h3 : x ≤ leftE L f k) : mayP L f (k : Int) x = true ∧ pushI L f (k : Int) x = pushF f k x := by
  have e : mayP L f (k : Int) x = true := by unfold mayP; rw [decide_eq_true_eq, Int.toNat_natCast]; exact ⟨by omega, h2, h3⟩
  exact ⟨e, by unfold pushI; rw [e, if_pos rfl, Int.toNat_natCast]⟩
set_option maxRecDepth 100000 in
set_option maxHeartbeats 8000000 in
theorem rpush_sep {w0 w : World} {r ba n : Nat} {L : List Ed} {f : List Int} {R : List Part} (hS : Sep w0 w (RestP r ba n L f :: ArcP ba n L :: R)) (hG : GOk n L) (hF : FB L f) (i x : Int) :
    Calls Tryz.prog 22 #[.pointer (some ⟨r, 0, none⟩), .int .i64 i, .int .i64 x] w fun e w' => e = .returned (.bool (mayP L f i x)) ∧ Sep w0 w' (RestP r ba n L (pushI L f i x) :: ArcP ba n L :: R) := by
  obtain ⟨Fr, hPr, _⟩ := hS.first
  obtain ⟨Fa, hPa, _⟩ := hS.tail.first
  have ca := Lib.hid (rarcs_p hPr)
  have cl := alen_p hPa
  have hl := hG.len
  obtain ⟨m, hm⟩ : ∃ m, 2 * L.length = m := ⟨_, rfl⟩
  rw [hm] at cl
  have cl' := Lib.hid cl
  have hS' := Lib.hid hS
  by_cases h0 : i < 0
  · obtain ⟨e1, e2⟩ := mayP_no (L := L) (f := f) (i := i) (x := x) (by omega)
    rw [e1, e2]
    clear hS hPr hPa cl e1 e2 hG hF hm
    go_enter Tryz.func22, Tryz.ntmps22
    go_wp2_with fail
    go_ret
    exact ⟨rfl, hS'.out⟩
  obtain ⟨k, rfl⟩ := Int.eq_ofNat_of_zero_le (show 0 ≤ i by omega)
  by_cases h1 : k < m
  case neg =>
    obtain ⟨e1, e2⟩ := mayP_no (L := L) (f := f) (i := (k : Int)) (x := x) (by omega)
    rw [e1, e2]
    have hk1 : ¬ (k : Int) < m := by omega
    have t1 : decide ((m : Int) ≤ (k : Int)) = true := by simp; omega
    clear hS hPr hPa cl e1 e2 hG hF hm
    go_enter Tryz.func22, Tryz.ntmps22
    go_wp2_with (first
      | (go_at_call 23; refine ca.out.mono ?_; rintro e w1 ⟨rfl, hw1⟩; subst w1)
      | (go_at_call 24; refine cl'.out.mono ?_; rintro e w1 ⟨rfl, hw1⟩; subst w1))
    go_ret
    exact ⟨rfl, hS'.out⟩
  have hk1 : (k : Int) < m := by omega
  by_cases h2 : x < 0
  · obtain ⟨e1, e2⟩ := mayP_no (L := L) (f := f) (i := (k : Int)) (x := x) (by omega)
    rw [e1, e2]
    clear hS hPr hPa cl e1 e2 hG hF hm h1
    go_enter Tryz.func22, Tryz.ntmps22
    go_wp2_with (first
      | (go_at_call 23; refine ca.out.mono ?_; rintro e w1 ⟨rfl, hw1⟩; subst w1)
      | (go_at_call 24; refine cl'.out.mono ?_; rintro e w1 ⟨rfl, hw1⟩; subst w1))
    go_ret
    exact ⟨rfl, hS'.out⟩
  obtain ⟨gl, go, hR⟩ := Sep.rest hS
  have r1 := (hR.blkAt 0 rfl).cell 1 rfl
  have rl := (hR.blkAt 0 rfl).lt
  have gll := own_lt (hR.rowAt 1 rfl) (g := gl) rfl
  have c0 : w.cell? ⟨gl, k, none⟩ = some (.int .i64 (leftE L f k)) := by
    have := (hR.rowAt 1 rfl).cellAt k (by omega)
    rw [i64s_got (leftL_get (by omega))] at this
    exact this
  by_cases h3 : leftE L f k < x
  · obtain ⟨e1, e2⟩ := mayP_no (L := L) (f := f) (i := (k : Int)) (x := x) (by rw [Int.toNat_natCast]; omega)
    rw [e1, e2]
    rw [hm] at r1
    generalize leftE L f k = z at *
    clear hS hPr hPa cl e1 e2 hG hF hm h1 hR
    go_enter Tryz.func22, Tryz.ntmps22
    go_wp2_with (first
      | (go_at_call 23; refine ca.out.mono ?_; rintro e w1 ⟨rfl, hw1⟩; subst w1)
      | (go_at_call 24; refine cl'.out.mono ?_; rintro e w1 ⟨rfl, hw1⟩; subst w1))
    go_ret
    exact ⟨rfl, hS'.out⟩
  obtain ⟨e1, e2⟩ := mayP_yes (L := L) (f := f) (k := k) (x := x) (by omega) (by omega) (by omega)
  rw [e1, e2]
  clear e1 e2
  have hkL : k < 2 * L.length := by omega
  have hbL := back_lt.2 hkL
  have hz := leftE_in hG hF hkL
  have hzb := leftE_in hG hF hbL
  obtain ⟨t, ht⟩ : ∃ t : Nat, tailE L k = (t : Int) := ⟨(tailE L k).toNat, by have := tail_in hG hkL; omega⟩
  obtain ⟨hd, hh⟩ : ∃ t : Nat, headE L k = (t : Int) := ⟨(headE L k).toNat, by have := head_in hG hkL; omega⟩
  have htn : t < n := by have := tail_in hG hkL; omega
  have hhn : hd < n := by have := head_in hG hkL; omega
  have hth : t ≠ hd := by have := tail_ne_head hG hkL; omega
  have hxt := exc_in hF (fun e he => by have := hG.ends e he; omega) (t : Int)
  have hxh := exc_in hF (fun e he => by have := hG.ends e he; omega) (hd : Int)
  have htot := hG.tot
  have hlp := Lib.hid (leftL_push (L := L) (f := f) hF.len hkL x)
  have hop := Lib.hid (overL_push (n := n) hG hF.len hkL ht hh x)
  have hbk := Lib.hid (back_any (k : Int) (by omega) w)
  rw [show backI (k : Int) = ((back k : Nat) : Int) by unfold backI; rw [if_neg (by omega), Int.toNat_natCast]] at hbk
  have hbne : back k ≠ k := by unfold back; split <;> omega
  have hct := Lib.hid (fun W F (h : ArcP ba n L W F) => atail_p h hG (k : Int) (by omega))
  have hch := Lib.hid (fun W F (h : ArcP ba n L W F) => ahead_p h hG (k : Int))
  rw [show tailI L (k : Int) = (t : Int) by unfold tailI; rw [if_neg (by omega), Int.toNat_natCast, ht]] at hct
  rw [show headI L (k : Int) = (hd : Int) by unfold headI; rw [if_neg (by omega), Int.toNat_natCast, hh]] at hch
  have hge : ∀ j, (leftL L f)[j]? = some (leftE L f j) ∨ 2 * L.length ≤ j := fun j => by
    by_cases hj : j < 2 * L.length
    · exact .inl (leftL_get hj)
    · exact .inr (by omega)
  rw [hm] at r1
  -- the left of the arc
  have hS1 := Lib.hid (hR.rowsetAt 1 rfl k (.int .i64 (leftE L f k - x)))
  have f0 := (hR.rowAt 1 rfl).frozenAt k
  have hb1 : (leftL L f)[back k]? = some (leftE L f (back k)) := leftL_get hbL
  have ho1 : (overL n L f)[t]? = some (exc L f (t : Int)) := overL_get htn
  have ho2 : (overL n L f)[hd]? = some (exc L f (hd : Int)) := overL_get hhn
  have hbm : (back k : Int) < m := by omega
  have hbm2 : back k < 2 * L.length := hbL
  obtain ⟨lf, hlf⟩ : ∃ lf, leftL L f = lf := ⟨_, rfl⟩
  obtain ⟨ov, hov⟩ : ∃ ov, overL n L f = ov := ⟨_, rfl⟩
  have hlfl : lf.length = m := by rw [← hlf, leftL_len, hm]
  have hovl : ov.length = n := by rw [← hov, overL_len]
  rw [hlf] at hS1 hlp hb1
  rw [hov] at hS1 hop ho1 ho2
  rw [hm] at hS1
  have hm' := Lib.hid hm
  have hbk2 := Lib.hid hbne
  have hth' := Lib.hid hth
  generalize back k = bk at *
  generalize leftE L f k = z at *
  generalize leftE L f bk = zb at *
  generalize exc L f (t : Int) = xt at *
  generalize exc L f (hd : Int) = xh at *
  generalize total L = tot at *
  have hb1' := Lib.hid hb1
  have ho1' := Lib.hid ho1
  have ho2' := Lib.hid ho2
  have hth1 : (t : Int) < n := by omega
  have hhh1 : (hd : Int) < n := by omega
  clear hS hPr hPa cl hG hF hm h1 hR hge ht hh hlf hov hkL hbL hb1 ho1 ho2 hbne hth hbm2 hS'
  go_enter Tryz.func22, Tryz.ntmps22
  go_upto_region 5 with (first
    | (go_at_call 23; refine ca.out.mono ?_; rintro e w1 ⟨rfl, hw1⟩; subst w1)
    | (go_at_call 24; refine cl'.out.mono ?_; rintro e w1 ⟨rfl, hw1⟩; subst w1)
    | (go_at_call 113; refine hbk.out.mono ?_; rintro e w1 ⟨rfl, hw1⟩; subst w1))
  generalize w.setCell ⟨gl, k, none⟩ (.int .i64 (z - x)) = W1 at *
  clear r1 rl gll c0 f0 ca cl' hbk
  have r1 := (hS1.out.blkAt 0 rfl).cell 1 rfl
  have rl := (hS1.out.blkAt 0 rfl).lt
  have gll := own_lt (hS1.out.rowAt 1 rfl) (g := gl) rfl
  have f0 := (hS1.out.rowAt 1 rfl).frozenAt bk
  have c0 : W1.cell? ⟨gl, bk, none⟩ = some (.int .i64 zb) := by
    have := (hS1.out.rowAt 1 rfl).cellAt bk (by omega)
    rw [i64s_set, i64s_got (x := zb) (by rw [List.getElem?_set_ne (fun e => hbk2.out e.symm)]; exact hb1'.out)] at this
    exact this
  have hS2 := Lib.hid (hS1.out.rowsetAt 1 rfl bk (.int .i64 (zb + x)))
  clear hS1
  go_upto_region 6 with fail
  generalize W1.setCell ⟨gl, bk, none⟩ (.int .i64 (zb + x)) = W2 at *
  clear r1 rl gll c0 f0
  rw [i64s_set, i64s_set, hlp.out] at hS2
  -- what stays at the tail
  have rl := (hS2.out.blkAt 0 rfl).lt
  have n1 : r ≠ go := fun e => hS2.out.blkrow 0 2 (by omega) rfl rfl (by rw [e]; rfl)
  have hrb := Lib.hid (hS2.out.blkAt 0 rfl)
  have hn1 := Lib.hid n1
  have g0 : ∀ m : Fut (Mod [go]) W2.drew, m.v.cell? ⟨r, 0, none⟩ = some (.pointer (some ⟨ba, 0, none⟩)) := fun m => (hrb.out.drew.keep m.of (by simpa using hn1.out)).cell 0 rfl
  have g2 : ∀ m : Fut (Mod [go]) W2.drew, m.v.cell? ⟨r, 2, none⟩ = some (.slice (some ⟨go, 0, none⟩) n n) := fun m => (hrb.out.drew.keep m.of (by simpa using hn1.out)).cell 2 rfl
  obtain ⟨Fa, hPa, _⟩ := (hS2.out.still (Mod.refl [] W2).drew |>.get 3 rfl).first
  have ct := Lib.hid (hct.out _ _ hPa)
  have c0 : W2.drew.cell? ⟨go, t, none⟩ = some (.int .i64 xt) := by
    have := (hS2.out.rowAt 2 rfl).cellAt t (by omega)
    rw [i64s_got ho1'.out] at this
    exact this
  have f0 : W2.drew.frozen? ⟨go, t, none⟩ = false := (hS2.out.rowAt 2 rfl).frozenAt t
  have gol : go < W2.drew.heap.size := own_lt (hS2.out.rowAt 2 rfl) (g := go) rfl
  have hS3 := Lib.hid ((hS2.out.rowsetAt 2 rfl t (.int .i64 (xt - x))).still (Mod.refl [] _).drew)
  clear hPa hS2 n1 hrb
  refine region_sched (G := Mod [go]) [([0,1,2,3,4,5,6,7,8,12],9), ([10],11), ([13,14],15)] [] (by kernel_rfl) (by kernel_rfl) (by kernel_rfl) rfl (Mod.refl _) (fun _ _ _ h1 h2 => h1.trans h2 (fun b hb _ => hb)) ?_
  simp only [stages, pickO, nthO, headO, List.append_eq, List.cons_append, List.nil_append]
  refine sched_step ?_
  repeat (go_big_quiet_step (fail))
  refine wpQuiet_nil ?_
  intro K hK
  rw [if_pos (by rfl)]
  go_simp
  refine ct.out.mono ?_
  rintro e w5 ⟨rfl, hw5⟩
  subst w5
  try dsimp only
  refine hK.out _ _ (Mod.refl _ _) ?_
  clear hK K ct g0 g2
  refine sched_step ?_
  repeat (go_big_quiet_step (fail))
  refine wpQuiet_nil ?_
  intro K hK
  rw [if_pos (by rfl)]
  go_simp
  refine hK.out _ _ (Mod.refl _ _) ?_
  clear hK K
  refine sched_step ?_
  repeat (go_big_quiet_step (fail))
  refine wpQuiet_nil ?_
  intro K hK
  rw [if_pos (by rfl)]
  go_simp
  refine hK.out _ _ ((Mod.refl _ _).setCell _ _ (fun _ => by simp)) ?_
  clear hK K c0 f0 gol rl
  refine sched_last ?_
  refine wpQuiet_nil ?_
  go_upto_region 7 with fail
  generalize (W2.setCell ⟨go, t, none⟩ (.int .i64 (xt - x))).drew = W3 at *
  -- what stays at the head
  have rl := (hS3.out.blkAt 0 rfl).lt
  have hrb := Lib.hid (hS3.out.blkAt 0 rfl)
  have g0 : ∀ m : Fut (Mod [go]) W3.drew, m.v.cell? ⟨r, 0, none⟩ = some (.pointer (some ⟨ba, 0, none⟩)) := fun m => (hrb.out.drew.keep m.of (by simpa using hn1.out)).cell 0 rfl
  have g2 : ∀ m : Fut (Mod [go]) W3.drew, m.v.cell? ⟨r, 2, none⟩ = some (.slice (some ⟨go, 0, none⟩) n n) := fun m => (hrb.out.drew.keep m.of (by simpa using hn1.out)).cell 2 rfl
  obtain ⟨Fa, hPa, _⟩ := (hS3.out.still (Mod.refl [] W3).drew |>.get 3 rfl).first
  have ch := Lib.hid (hch.out _ _ hPa)
  have c0 : W3.drew.cell? ⟨go, hd, none⟩ = some (.int .i64 xh) := by
    have := (hS3.out.rowAt 2 rfl).cellAt hd (by omega)
    rw [i64s_set, i64s_got (x := xh) (by rw [List.getElem?_set_ne hth'.out]; exact ho2'.out)] at this
    exact this
  have f0 : W3.drew.frozen? ⟨go, hd, none⟩ = false := (hS3.out.rowAt 2 rfl).frozenAt hd
  have gol : go < W3.drew.heap.size := own_lt (hS3.out.rowAt 2 rfl) (g := go) rfl
  have hS4 := Lib.hid ((hS3.out.rowsetAt 2 rfl hd (.int .i64 (xh + x))).still (Mod.refl [] _).drew)
  rw [i64s_set, i64s_set, hop.out] at hS4
  clear hPa hS3 hrb
  refine region_sched (G := Mod [go]) [([0,1,2,3,4,5,6,7,8,12],9), ([10],11), ([13,14],15)] [] (by kernel_rfl) (by kernel_rfl) (by kernel_rfl) rfl (Mod.refl _) (fun _ _ _ h1 h2 => h1.trans h2 (fun b hb _ => hb)) ?_
  simp only [stages, pickO, nthO, headO, List.append_eq, List.cons_append, List.nil_append]
  refine sched_step ?_
  repeat (go_big_quiet_step (fail))
  refine wpQuiet_nil ?_
  intro K hK
  rw [if_pos (by rfl)]
  go_simp
  refine ch.out.mono ?_
  rintro e w5 ⟨rfl, hw5⟩
  subst w5
  try dsimp only
  refine hK.out _ _ (Mod.refl _ _) ?_
  clear hK K ch g0 g2
  refine sched_step ?_
  repeat (go_big_quiet_step (fail))
  refine wpQuiet_nil ?_
  intro K hK
  rw [if_pos (by rfl)]
  go_simp
  refine hK.out _ _ (Mod.refl _ _) ?_
  clear hK K
  refine sched_step ?_
  repeat (go_big_quiet_step (fail))
  refine wpQuiet_nil ?_
  intro K hK
  rw [if_pos (by rfl)]
  go_simp
  refine hK.out _ _ ((Mod.refl _ _).setCell _ _ (fun _ => by simp)) ?_
  clear hK K c0 f0 gol rl
  refine sched_last ?_
  refine wpQuiet_nil ?_
  go_wp2_with fail
  go_ret
  refine ⟨rfl, Sep.mkRest (gl := gl) (go := go) ?_⟩
  rw [hm'.out]
  exact hS4.out
end Edge
end Go.Proofs.YtjpfmkfikidgkaaGreat

set_option linter.unusedVariables false
set_option linter.unusedSimpArgs false
namespace Go.Proofs.YtjpfmkfikidgkaaGreat
open Go.RowKit
namespace Edge
theorem infoI64b : (Tryz.prog.info? 2).map (fun i => (i.zero, i.size, i.bytes)) = some (some (.int .i64 0), 1, 8) := by kernel_rfl
/-- The flows so far. -/
def partF (f : List Int) (N k : Nat) : List Int := (List.range N).map fun j => if j < k then f.getD j 0 else 0
theorem partF_len (f : List Int) (N k : Nat) : (partF f N k).length = N := by simp [partF]
theorem partF_zero (f : List Int) (N : Nat) : partF f N 0 = List.replicate N 0 := by
  apply List.eq_replicate_iff.2 ⟨partF_len _ _ _, ?_⟩
  intro x hx
  simp only [partF, List.mem_map] at hx
  obtain ⟨v, _, rfl⟩ := hx
  rw [if_neg (by omega)]
theorem partF_step {f : List Int} {N k : Nat} : (partF f N k).set k (f.getD k 0) = partF f N (k + 1) := by
  apply List.ext_getElem
  · simp [partF]
  intro i g1 g2
  simp only [partF, List.getElem_set, List.getElem_map, List.getElem_range]
  by_cases c : k = i
  · subst c; rw [if_pos rfl, if_pos (by omega)]
  · rw [if_neg c]
    by_cases h : i < k
    · rw [if_pos h, if_pos (by omega)]
    · rw [if_neg h, if_neg (by omega)]
theorem partF_all {f : List Int} {N : Nat} (h : f.length = N) : partF f N N = f := by
  apply List.ext_getElem
  · rw [partF_len, h]
  intro i g1 g2
  simp only [partF, List.getElem_map, List.getElem_range]
  rw [if_pos (by omega), List.getD_eq_getElem?_getD, List.getElem?_eq_getElem g2]; rfl
set_option maxRecDepth 100000 in
set_option maxHeartbeats 2000000 in
theorem rflows_p {w : World} {r ba n : Nat} {L : List Ed} {f : List Int} {F F2 : List Nat} (h : RestP r ba n L f w F) (hA : ArcP ba n L w F2) (hG : GOk n L) (hF : FB L f) :
    Calls Tryz.prog 80 #[.pointer (some ⟨r, 0, none⟩)] w fun e w' => ∃ a c, e = .returned (.slice a f.length c) ∧ Made w w' 2 1 a f.length c (i64s f) := by
  have hl := hG.len
  have hfl := hF.len
  obtain ⟨N, hN⟩ : ∃ N, L.length = N := ⟨_, rfl⟩
  have ca := Lib.hid (rarcs_p h)
  have cl := alen_p hA
  rw [show ((2 * L.length : Nat) : Int) = 2 * (N : Int) by omega] at cl
  have cl' := Lib.hid cl
  have hfw := fun W (m : Mod [] w W) (k : Nat) => rflow_p (Good.keep h m (by simp)) (Good.keep hA m (by simp)) hG hF (k : Int)
  have hfw' : Hid (∀ W (m : Mod [] w W) (k : Nat), k < N → Calls Tryz.prog 99 #[.pointer (some ⟨r, 0, none⟩), .int .i64 (k : Int)] W fun e w' => e = .returned (.int .i64 (f.getD k 0)) ∧ Mod [] W w') := Lib.hid (fun W m k hk => by
    have := hfw W m k
    rw [show flowI L f (k : Int) = f.getD k 0 by unfold flowI; rw [if_pos (by omega), Int.toNat_natCast]] at this
    exact this)
  have td : (2 * (N : Int)) / 2 = (N : Int) := by omega
  have hmk := make_run (P := Tryz.prog) 33 2 (.int .i64 0) 8 Tryz.underlying33 infoI64b rfl (by omega) N (by omega)
  have hst : Hid (Sep w (w.alloc (.cells (madeCells #[.int .i64 0] N) 2)) [Row 2 1 N (.slice (some ⟨w.heap.size, 0, none⟩) N N) (i64s (partF f N 0))]) := Lib.hid (by
    have h5 := (Sep.empty w).made (made_made w 2 (.int .i64 0) N (by omega))
    rw [partF_zero]
    have e : i64s (List.replicate N 0) = List.replicate N (.int .i64 0) := by simp [i64s]
    rw [e]
    exact h5)
  have hNl : N ≤ 1048576 := by omega
  have hfn : f.length = N := by omega
  have hfn' := Lib.hid hfn
  rw [hfn]
  clear h hA hG hF cl hfw hfl hN hfn
  go_enter Tryz.func80, Tryz.ntmps80
  go_wp2_with (first
    | (go_at_call 23; refine ca.out.mono ?_; rintro e w1 ⟨rfl, hw1⟩; subst w1)
    | (go_at_call 24; refine cl'.out.mono ?_; rintro e w1 ⟨rfl, hw1⟩; subst w1))
  generalize w.alloc (.cells (madeCells #[.int .i64 0] N) 2) = w1 at *
  generalize w.heap.size = g at *
  go_loopw [12] (fun i wr => ∃ k : Nat, k ≤ N ∧ i = .int .i64 k ∧ Hid (Sep w wr [Row 2 1 N (.slice (some ⟨g, 0, none⟩) N N) (i64s (partF f N k))])) (fun i _ => N - (intOf i).toNat)
  case atStart => exact ⟨0, Nat.zero_le _, rfl, hst⟩
  case round =>
    clear hst
    obtain ⟨k, hk, rfl, hS⟩ := hrel
    by_cases hlt : k < N
    · have hlt1 : (k : Int) < N := by omega
      have cf := Lib.hid (hfw'.out wr hS.out.mod k hlt)
      have hps := Lib.hid (partF_step (f := f) (N := N) (k := k))
      generalize f.getD k 0 = y at *
      go_wp2_with fail
      refine cf.out.mono ?_
      rintro e w2 ⟨rfl, hm2⟩
      have hS2 := Lib.hid (hS.out.still hm2)
      have gz := (hS2.out.rowAt 0 rfl).frozenAt k
      have gl := own_lt (hS2.out.rowAt 0 rfl) (g := g) rfl
      obtain ⟨u, gc⟩ : ∃ u, w2.cell? ⟨g, k, none⟩ = some u := by
        have h1 := (hS2.out.rowAt 0 rfl).cellAt k (by omega)
        have h2 := (hS2.out.rowAt 0 rfl).1
        rw [List.getElem?_eq_getElem (by omega)] at h1
        exact ⟨_, h1⟩
      have hS3 := Lib.hid (hS2.out.rowsetAt 0 rfl k (.int .i64 y))
      rw [i64s_set, hps.out] at hS3
      clear hm2 hS hS2
      try dsimp only
      go_wp2_with fail
      go_roundw
      case rel => exact ⟨k + 1, by omega, by go_num, hS3⟩
      case measure => simp [intOf]; omega
    · have hkN : k = N := by omega
      have hfin : Hid (Made w wr 2 1 (some ⟨g, 0, none⟩) N N (i64s f)) := Lib.hid (by
        have h5 := hS.out
        rw [hkN, partF_all hfn'.out] at h5
        exact h5.toMade)
      clear hS hk hkN
      go_wp2_with fail
      go_ret
      exact ⟨_, _, rfl, hfin.out⟩
/-! Of nil there is nothing. -/
theorem rarcs_nil (w : World) : Calls Tryz.prog 23 #[.pointer none] w fun e w' => e = .returned (.pointer none) ∧ w' = w := by
  go_enter Tryz.func23, Tryz.ntmps23
  go_wp2
  go_ret
  exact ⟨rfl, rfl⟩
theorem rleft_nil (w : World) : Calls Tryz.prog 40 #[.pointer none, .int .i64 0] w fun e w' => e = .returned (.int .i64 0) ∧ w' = w := by
  go_enter Tryz.func40, Tryz.ntmps40
  go_wp2_with (first
    | (go_at_call 23; refine (rarcs_nil _).mono ?_; rintro e w1 ⟨rfl, rfl⟩)
    | (go_at_call 24; refine (alen_nil _).mono ?_; rintro e w1 ⟨rfl, rfl⟩))
  go_ret
  exact ⟨rfl, rfl⟩
theorem rpush_nil (w : World) : Calls Tryz.prog 22 #[.pointer none, .int .i64 0, .int .i64 0] w fun e w' => e = .returned (.bool false) ∧ w' = w := by
  go_enter Tryz.func22, Tryz.ntmps22
  go_wp2_with (first
    | (go_at_call 23; refine (rarcs_nil _).mono ?_; rintro e w1 ⟨rfl, rfl⟩)
    | (go_at_call 24; refine (alen_nil _).mono ?_; rintro e w1 ⟨rfl, rfl⟩))
  go_ret
  exact ⟨rfl, rfl⟩
theorem rflow_nil (w : World) : Calls Tryz.prog 99 #[.pointer none, .int .i64 0] w fun e w' => e = .returned (.int .i64 0) ∧ w' = w := by
  go_enter Tryz.func99, Tryz.ntmps99
  go_wp2_with (first
    | (go_at_call 23; refine (rarcs_nil _).mono ?_; rintro e w1 ⟨rfl, rfl⟩)
    | (go_at_call 24; refine (alen_nil _).mono ?_; rintro e w1 ⟨rfl, rfl⟩))
  go_ret
  exact ⟨rfl, rfl⟩
theorem rexc_nil (w : World) : Calls Tryz.prog 74 #[.pointer none, .int .i64 0] w fun e w' => e = .returned (.int .i64 0) ∧ w' = w := by
  go_enter Tryz.func74, Tryz.ntmps74
  go_wp2_with (first
    | (go_at_call 23; refine (rarcs_nil _).mono ?_; rintro e w1 ⟨rfl, rfl⟩)
    | (go_at_call 105; refine (an_nil _).mono ?_; rintro e w1 ⟨rfl, rfl⟩))
  go_ret
  exact ⟨rfl, rfl⟩
theorem rreach_nil (w : World) : Calls Tryz.prog 110 #[.pointer none, .int .i64 0] w fun e w' => e = .returned (.slice none 0 0) ∧ w' = w := by
  go_enter Tryz.func110, Tryz.ntmps110
  go_wp2_with (first
    | (go_at_call 23; refine (rarcs_nil _).mono ?_; rintro e w1 ⟨rfl, rfl⟩)
    | (go_at_call 105; refine (an_nil _).mono ?_; rintro e w1 ⟨rfl, rfl⟩))
  go_ret
  exact ⟨rfl, rfl⟩
theorem rtwin_nil (w : World) : Calls Tryz.prog 20 #[.pointer none] w fun e w' => e = .returned (.pointer none) ∧ w' = w := by
  go_enter Tryz.func20, Tryz.ntmps20
  go_wp2
  go_ret
  exact ⟨rfl, rfl⟩
set_option maxRecDepth 100000 in
set_option maxHeartbeats 2000000 in
theorem rflows_nil (w : World) : Calls Tryz.prog 80 #[.pointer none] w fun e w' => ∃ a, e = .returned (.slice a 0 0) ∧ Mod [] w w' := by
  have hmk := make_run (P := Tryz.prog) 33 2 (.int .i64 0) 8 Tryz.underlying33 infoI64b rfl (by omega) 0 (by omega)
  have hmod := Lib.hid ((Mod.refl [] w).alloc (.cells (madeCells #[.int .i64 0] 0) 2))
  simp only [Int.natCast_zero, Int.ofNat_zero, Int.cast_ofNat_Int] at hmk
  go_enter Tryz.func80, Tryz.ntmps80
  go_wp2_with (first
    | (go_at_call 23; refine (rarcs_nil _).mono ?_; rintro e w1 ⟨rfl, hw1⟩; subst w1)
    | (go_at_call 24; refine (alen_nil _).mono ?_; rintro e w1 ⟨rfl, hw1⟩; subst w1))
  clear hmk
  generalize w.alloc (.cells (madeCells #[.int .i64 0] 0) 2) = w1 at *
  generalize w.heap.size = g at *
  go_loopw [12] (fun i wr => i = .int .i64 0 ∧ wr = w1) (fun i _ => 0)
  case atStart => exact ⟨rfl, rfl⟩
  case round =>
    obtain ⟨rfl, hw⟩ := hrel
    subst hw
    go_wp2_with fail
    go_ret
    exact ⟨_, rfl, hmod.out⟩
end Edge
end Go.Proofs.YtjpfmkfikidgkaaGreat

set_option linter.unusedVariables false
set_option linter.unusedSimpArgs false
namespace Go.Proofs.YtjpfmkfikidgkaaGreat
open Go.RowKit
namespace Edge
theorem infoB5 : (Tryz.prog.info? 4).map (fun i => (i.zero, i.size, i.bytes)) = some (some (.bool false), 1, 1) := by kernel_rfl
theorem infoI5 : (Tryz.prog.info? 3).map (fun i => (i.zero, i.size, i.bytes)) = some (some (.int .i64 0), 1, 8) := by kernel_rfl
def boolV (l : List Bool) : List Value := l.map Value.bool
theorem boolV_got {l : List Bool} {i : Nat} {b : Bool} (h : l[i]? = some b) : (boolV l)[i]? = some (.bool b) := by simp [boolV, h]
theorem boolV_set (l : List Bool) (i : Nat) (b : Bool) : (boolV l).set i (.bool b) = boolV (l.set i b) := by simp [boolV, List.map_set]
theorem boolV_none (n : Nat) : boolV (List.replicate n false) = List.replicate n (.bool false) := by simp [boolV]
theorem lit_made (w : World) (e : Nat) (v : Value) : Made w (w.alloc (.cells #[v] e)) e 1 (some ⟨w.heap.size, 0, none⟩) 1 1 [v] := by
  have := made_made w e v 1 (by omega)
  rw [made_list] at this
  exact this
section
variable {w : World} {r ba n : Nat} {L : List Ed} {f : List Int} {F F2 : List Nat}
set_option maxRecDepth 100000 in
set_option maxHeartbeats 4000000 in
theorem rreach_p (h : RestP r ba n L f w F) (hA : ArcP ba n L w F2) (hG : GOk n L) {v : Nat} (hv : v < n) :
    Calls Tryz.prog 110 #[.pointer (some ⟨r, 0, none⟩), .int .i64 (v : Int)] w fun e w' => ∃ l a c, IsReach L f v l ∧ e = .returned (.slice a l.length c) ∧ Made w w' 3 1 a l.length c (i64s (ints l)) := by
  have ca := Lib.hid (rarcs_p h)
  have cn := Lib.hid (an_p hA hG)
  have hn4 : n ≤ 4096 := hG.le
  obtain ⟨gl, go, hr⟩ := h.rd
  obtain ⟨N2, hN2⟩ : ∃ N2, 2 * L.length = N2 := ⟨_, rfl⟩
  have hN2b : N2 ≤ 2097152 := by have := hG.len; omega
  have hb0 := Lib.hid (fun W (m : Mod [] w W) => (hr.hb.keep m (by simp)).cell 0 rfl)
  have hb1 := Lib.hid (fun W (m : Mod [] w W) => (hr.hb.keep m (by simp)).cell 1 rfl)
  have hleft := Lib.hid (fun W (m : Mod [] w W) (k : Nat) (hk : k < N2) => show W.cell? ⟨gl, k, none⟩ = some (.int .i64 (leftE L f k)) by
    have := (own_keep hr.left m (by simp)).cellAt k (by omega)
    rw [i64s_got (leftL_get (by omega))] at this
    exact this)
  have b0 := hr.hb.cell 0 rfl
  have bl := hr.hb.lt
  have gll : gl < w.heap.size := own_lt hr.left (g := gl) rfl
  have hcall := Lib.hid (fun W (m : Mod [] w W) (u : Nat) (hu : u < n) => show Calls Tryz.prog 75 #[.pointer (some ⟨ba, 0, none⟩), .int .i64 (u : Int)] W fun e w' => ∃ a c, e = .returned (.slice a (ofS n L u).length c) ∧ Made W w' 3 1 a (ofS n L u).length c (i64s (ints (ofS n L u))) by
    have h1 := aout_p (Good.keep hA m (by simp)) hG (u : Int)
    have e : outI n L (u : Int) = ints (ofS n L u) := by unfold outI; rw [if_pos (by omega), Int.toNat_natCast]
    rw [e, ints_len] at h1
    exact h1)
  have hhead := Lib.hid (fun W (m : Mod [] w W) (k : Nat) => show Calls Tryz.prog 39 #[.pointer (some ⟨ba, 0, none⟩), .int .i64 (k : Int)] W fun e w' => e = .returned (.int .i64 (headE L k)) ∧ w' = W by
    have h1 := ahead_p (Good.keep hA m (by simp)) hG (k : Int)
    have e : headI L (k : Int) = headE L k := by unfold headI; rw [if_neg (by omega), Int.toNat_natCast]
    rw [e] at h1
    exact h1)
  have hmk := make_run (P := Tryz.prog) 211 4 (.bool false) 1 Tryz.underlying211 infoB5 rfl (by omega) n (by omega)
  have hst : Hid (Sep w (w.alloc (.cells (madeCells #[.bool false] n) 4)) [Row 4 1 n (.slice (some ⟨w.heap.size, 0, none⟩) n n) (boolV (metL n []))]) := Lib.hid (by
    have h5 := (Sep.empty w).made (made_made w 4 (.bool false) n (by omega))
    rw [metL_nil, boolV_none]
    exact h5)
  have hG' := Lib.hid hG
  rw [hN2] at hb1
  have hN2' := Lib.hid hN2
  have hvl : (v : Int) < n := by omega
  have t1 : decide ((n : Int) ≤ (v : Int)) = false := by simp; omega
  have t2 : decide ((v : Int) < 0) = false := by simp
  clear h hA hr hG hN2
  go_enter Tryz.func110, Tryz.ntmps110
  go_upto_region 4 with (first
    | (go_at_call 23; refine ca.out.mono ?_; rintro e w1 ⟨rfl, hw1⟩; subst w1)
    | (go_at_call 105; refine cn.out.mono ?_; rintro e w1 ⟨rfl, hw1⟩; subst w1))
  clear hmk b0
  have hgg := (hst.out.rowAt 0 rfl).frozenAt v
  have hgc : ∃ u, (w.alloc (.cells (madeCells #[.bool false] n) 4)).cell? ⟨w.heap.size, v, none⟩ = some u := by
    have h1 := (hst.out.rowAt 0 rfl).cellAt v (by omega)
    rw [boolV_got (metL_get hv)] at h1
    exact ⟨_, h1⟩
  have hgl : w.heap.size < (w.alloc (.cells (madeCells #[.bool false] n) 4)).heap.size := own_lt (hst.out.rowAt 0 rfl) (g := w.heap.size) rfl
  have hst2 := Lib.hid (by
    have h5 := hst.out.rowsetAt 0 rfl v (.bool true)
    rw [boolV_set, metL_set] at h5
    exact (h5.made (lit_made _ 3 (.int .i64 (v : Int)))).swap)
  obtain ⟨u0, hgc⟩ := hgc
  clear hst
  have hrlt := Lib.hid (fun W (m : Mod [] w W) => Nat.lt_of_lt_of_le bl m.size)
  have hglt := Lib.hid (fun W (m : Mod [] w W) => Nat.lt_of_lt_of_le gll m.size)
  generalize w.alloc (.cells (madeCells #[.bool false] n) 4) = w1 at *
  generalize w.heap.size = g at *
  go_wp2_with fail
  have hst3 : Hid (Sep w ((w1.setCell ⟨g, v, none⟩ (.bool true)).alloc (.cells #[.int .i64 (v : Int)] 3)) [Row 4 1 n (.slice (some ⟨g, 0, none⟩) n n) (boolV (metL n [v])), Row 3 1 1 (.slice (some ⟨w1.heap.size, 0, none⟩) 1 1) (i64s (ints [v]))]) := Lib.hid (by
    have h5 := hst2.out
    simp only [World.setCell, Array.size_modify] at h5 ⊢
    exact h5)
  clear hst2 hgc hgg hgl gll bl
  go_loopw [6, 7] (fun s6 s7 wr => ∃ (O : List Nat) (m i : Nat) (a : Option Addr) (c : Nat), Hid (O.length = m) ∧ Hid (RSt n L f v O i) ∧ i ≤ m ∧ m ≤ n ∧ s6 = .slice a m c ∧ s7 = .int .i64 i ∧ Hid (Sep w wr [Row 4 1 n (.slice (some ⟨g, 0, none⟩) n n) (boolV (metL n O)), Row 3 1 m (.slice a m c) (i64s (ints O))])) (fun _ s7 _ => n - (intOf s7).toNat)
  case atStart => exact ⟨[v], 1, 0, _, _, Lib.hid rfl, Lib.hid (RSt.start n L f v), by omega, by omega, rfl, rfl, hst3⟩
  case round =>
    clear hst3
    obtain ⟨O, m, i, a, c, hOm, hRs, him, hmn, rfl, rfl, hS⟩ := hrel
    by_cases hlt : i < m
    · have hlt1 : (i : Int) < m := by omega
      have hiO : i < O.length := by rw [hOm.out]; exact hlt
      obtain ⟨u, hu⟩ : ∃ u, O[i] = u := ⟨_, rfl⟩
      have hun : u < n := hu ▸ rch_lt hG'.out hv (hRs.out.rc _ (List.getElem_mem hiO))
      have hui := Lib.hid (show O[i]? = some u by rw [List.getElem?_eq_getElem hiO, hu])
      obtain ⟨go2, rfl, hgo2, _, hcell⟩ := row_form (hS.out.rowAt 1 rfl) (by omega)
      have cO := hcell i (.int .i64 (u : Int)) (by
        have : (ints O)[i]? = some (u : Int) := by unfold ints; rw [List.getElem?_map, hui.out]; rfl
        exact i64s_got this)
      have fO : ∀ m : Fut (Mod []) wr.drew, m.v.cell? ⟨go2, i, none⟩ = some (.int .i64 (u : Int)) := fun m' => by
        have h5 := hS.out.still ((Mod.refl [] wr).drew.trans m'.of (by simp))
        obtain ⟨g', e', _, _, hc'⟩ := row_form (h5.rowAt 1 rfl) (by omega)
        injection e' with e'; injection e' with e'; subst e'
        refine hc' i _ ?_
        have : (ints O)[i]? = some (u : Int) := by unfold ints; rw [List.getElem?_map, hui.out]; rfl
        exact i64s_got this
      have f0 : ∀ m : Fut (Mod []) wr.drew, m.v.cell? ⟨r, 0, none⟩ = some (.pointer (some ⟨ba, 0, none⟩)) := fun m' => hb0.out _ (hS.out.mod.trans ((Mod.refl [] wr).drew.trans m'.of (by simp)) (by simp))
      have c0 := f0 ⟨_, Mod.refl _ _⟩
      have cc := Lib.hid (hcall.out wr.drew hS.out.mod.drew u hun)
      obtain ⟨K, hK⟩ : ∃ K, (ofS n L u).length = K := ⟨_, rfl⟩
      rw [hK] at cc
      have hK' := Lib.hid hK
      have hKb : K ≤ 2097152 := by
        have h5 := ofU_le L (2 * L.length) u
        have h6 := ofS_len hG'.out u
        have h7 := hN2'.out
        unfold cntE at h6
        omega
      have hrl : r < wr.heap.size := hrlt.out _ hS.out.mod
      clear hK hu hiO hcell
      go_upto_region 9 with fail
      refine region_sched (G := Mod []) [([0,1,2,3,4,5,6,7,10],8)] [9] (by kernel_rfl) (by kernel_rfl) (by kernel_rfl) rfl (Mod.refl _) (fun _ _ _ h1 h2 => h1.trans h2 (by simp)) ?_
      simp only [stages, pickO, nthO, headO, List.append_eq, List.cons_append, List.nil_append]
      refine sched_step ?_
      repeat (go_big_quiet_step (fail))
      refine wpQuiet_nil ?_
      intro K1 hK1
      rw [if_pos (by rfl)]
      go_simp
      refine cc.out.mono ?_
      rintro e w2 ⟨a2, c2, rfl, hm2⟩
      have hS2 := Lib.hid ((hS.out.still (Mod.refl [] wr).drew).made hm2)
      have hm2' := hm2.mod
      clear hm2 hS
      try dsimp only
      refine hK1.out _ _ hm2' ?_
      clear hK1 K1 hm2' f0 fO c0 cO
      refine sched_last ?_
      repeat (go_big_quiet_step (fail))
      refine wpQuiet_nil ?_
      go_wp2_with fail
      have hS3 := Lib.hid (hS2.out.back2)
      clear hS2
      generalize hwx : wr.drew = wx at *
      clear hwx
      go_loopw [6, 47] (fun s6 s47 wq => ∃ (O : List Nat) (m j : Nat) (a : Option Addr) (c : Nat), Hid (O.length = m) ∧ Hid (RSt n L f v O i) ∧ Hid (O[i]? = some u) ∧ Hid (∀ x ∈ (ofS n L u).take j, 0 < leftE L f x → ∀ hd : Nat, headE L x = (hd : Int) → hd ∈ O) ∧ j ≤ K ∧ i < m ∧ m ≤ n ∧ s6 = .slice a m c ∧ s47 = .int .i64 j ∧ Hid (Sep w wq [Row 4 1 n (.slice (some ⟨g, 0, none⟩) n n) (boolV (metL n O)), Row 3 1 m (.slice a m c) (i64s (ints O)), Row 3 1 K (.slice a2 K c2) (i64s (ints (ofS n L u)))])) (fun _ s47 _ => K - (intOf s47).toNat)
      case atStart => exact ⟨O, m, 0, _, c, hOm, hRs, hui, Lib.hid (by simp), by omega, hlt, hmn, rfl, rfl, hS3⟩
      case round =>
        clear hS3 hOm hRs hui
        obtain ⟨O, m, j, a, c, hOm, hRs, hui, hdn, hjK, him, hmn, rfl, rfl, hS⟩ := hrel
        by_cases hlj : j < K
        · have hlj1 : (j : Int) < K := by omega
          obtain ⟨x, hx⟩ : ∃ x, (ofS n L u)[j]? = some x := ⟨_, List.getElem?_eq_getElem (by rw [hK'.out]; exact hlj)⟩
          have hxm := (mem_ofS hG'.out (v := u)).1 (List.mem_of_getElem? hx)
          have hxN : x < N2 := by have := hN2'.out; omega
          obtain ⟨hd, hhd⟩ := Int.eq_ofNat_of_zero_le (head_in hG'.out hxm.1).1
          have hdn1 : hd < n := by have := (head_in hG'.out hxm.1).2; omega
          obtain ⟨ga, rfl, hga, _, hcell⟩ := row_form (hS.out.rowAt 2 rfl) (by omega)
          have cX := hcell j (.int .i64 (x : Int)) (by
            have : (ints (ofS n L u))[j]? = some (x : Int) := by unfold ints; rw [List.getElem?_map, hx]; rfl
            exact i64s_got this)
          have hx' := Lib.hid hx
          have hxm' := Lib.hid hxm
          have hhd' := Lib.hid hhd
          have c0 := hb0.out _ hS.out.mod
          have c1 := hb1.out _ hS.out.mod
          have cl := hleft.out _ hS.out.mod x hxN
          have l1 := hrlt.out _ hS.out.mod
          have l2 := hglt.out _ hS.out.mod
          have chd := Lib.hid (hhead.out _ hS.out.mod x)
          rw [hhd] at chd
          have cm : wr.cell? ⟨g, hd, none⟩ = some (.bool (decide (hd ∈ O))) := by
            have h1 := (hS.out.rowAt 0 rfl).cellAt hd (by omega)
            rw [boolV_got (metL_get hdn1)] at h1
            exact h1
          have fm := (hS.out.rowAt 0 rfl).frozenAt hd
          have lg : g < wr.heap.size := own_lt (hS.out.rowAt 0 rfl) (g := g) rfl
          have hdl : (hd : Int) < n := by omega
          have hxl : (x : Int) < N2 := by omega
          have htk : (ofS n L u).take (j + 1) = (ofS n L u).take j ++ [x] := by rw [List.take_add_one, hx]; rfl
          have htk' := Lib.hid htk
          clear hx hxm hhd hcell htk
          by_cases hle : 0 < leftE L f x
          · by_cases hmet : hd ∈ O
            · have hnew := Lib.hid (show ∀ y ∈ (ofS n L u).take (j + 1), 0 < leftE L f y → ∀ hd : Nat, headE L y = (hd : Int) → hd ∈ O by
                intro y hy h1 hd2 h2
                rw [htk'.out, List.mem_append, List.mem_singleton] at hy
                rcases hy with hy | rfl
                · exact hdn.out y hy h1 hd2 h2
                · rw [hhd'.out] at h2
                  have : hd = hd2 := by omega
                  subst this
                  exact hmet)
              have hmt : decide (hd ∈ O) = true := by simpa using hmet
              rw [hmt] at cm
              clear hmt hmet
              generalize leftE L f x = z at *
              go_wp2_with (go_at_call 39; refine chd.out.mono ?_; rintro e w1 ⟨rfl, hw1⟩; subst w1)
              go_roundw
              case rel => exact ⟨O, m, j + 1, a, c, hOm, hRs, hui, hnew, by omega, him, hmn, rfl, by go_num, hS⟩
              case measure => simp [intOf]; omega
            · have hmt : decide (hd ∈ O) = false := by simpa using hmet
              rw [hmt] at cm
              have hiO : i < O.length := by rw [hOm.out]; exact him
              have hmore := Lib.hid (RSt.more hRs.out hiO (hxm'.out.1) (by rw [hxm'.out.2]; have := hui.out; rw [List.getElem?_eq_getElem hiO] at this; injection this with this; rw [this]) hle hhd'.out hmet)
              have hlen2 := Lib.hid (show (O ++ [hd]).length = m + 1 by rw [List.length_append, hOm.out]; rfl)
              have hmn2 : m + 1 ≤ n := by rw [← hlen2.out]; exact hmore.out.le hG'.out hv
              have hui2 := Lib.hid (show (O ++ [hd])[i]? = some u by rw [List.getElem?_append_left hiO]; exact hui.out)
              have hnew := Lib.hid (show ∀ y ∈ (ofS n L u).take (j + 1), 0 < leftE L f y → ∀ h2 : Nat, headE L y = (h2 : Int) → h2 ∈ O ++ [hd] by
                intro y hy h1 hd2 h2
                rw [htk'.out, List.mem_append, List.mem_singleton] at hy
                rw [List.mem_append, List.mem_singleton]
                rcases hy with hy | rfl
                · exact .inl (hdn.out y hy h1 hd2 h2)
                · rw [hhd'.out] at h2
                  exact .inr (by omega))
              have hS6 := Lib.hid (by
                have h5 := hS.out.rowsetAt 0 rfl hd (.bool true)
                rw [boolV_set, metL_set] at h5
                exact h5)
              have hgr := Lib.hid (show ∀ (a1 : Option Addr) (c1 : Nat) (w6 : World), w6.ownsRow 0 3 1 (.slice a1 (m + 1) c1) (m + 1) (i64s (ints O) ++ [.int .i64 (hd : Int)]) → Mod (Value.slice a m c).ownBlock.toList (wr.setCell ⟨g, hd, none⟩ (.bool true)) w6 → ((Value.slice a1 (m + 1) c1).ownBlock = (Value.slice a m c).ownBlock ∨ ∃ b, (Value.slice a1 (m + 1) c1).ownBlock = some b ∧ (wr.setCell ⟨g, hd, none⟩ (.bool true)).heap.size ≤ b) →
                  Sep w w6 [Row 4 1 n (.slice (some ⟨g, 0, none⟩) n n) (boolV (metL n (O ++ [hd]))), Row 3 1 (m + 1) (.slice a1 (m + 1) c1) (i64s (ints (O ++ [hd]))), Row 3 1 K (.slice (some ⟨ga, 0, none⟩) K c2) (i64s (ints (ofS n L u)))] by
                intro a1 c1 w6 h1 h2 h3
                rw [← ints_snoc] at h1
                exact hS6.out.growAt 1 rfl h1 h2 h3)
              clear hmt hmet hiO
              generalize leftE L f x = z at *
              go_wp2_with (first
                | (go_at_call 39; refine chd.out.mono ?_; rintro e w1 ⟨rfl, hw1⟩; subst w1)
                | (at_builtin; refine app_own rfl (.tmp 75) (.tmp 77) 51 3 _ 1 8 rfl Tryz.underlying51 infoI5 rfl (by omega) (by omega) (.slice a m c) m 1 (i64s (ints O)) [.int .i64 (hd : Int)] rfl rfl (by simp [World.setCell]) rfl (by simp [Value.oneCell']) (hS6.out.rowAt 1 rfl) (by omega) ?_; intro a1 c1 w6 ho6 hm6 hb6; have hS7 := Lib.hid (hgr.out a1 c1 w6 ho6 hm6 hb6); clear ho6 hm6 hb6))
              go_roundw
              case rel => exact ⟨O ++ [hd], m + 1, j + 1, a1, c1, hlen2, hmore, hui2, hnew, by omega, by omega, hmn2, rfl, by go_num, hS7⟩
              case measure => simp [intOf]; omega
          · have hnew := Lib.hid (show ∀ y ∈ (ofS n L u).take (j + 1), 0 < leftE L f y → ∀ hd : Nat, headE L y = (hd : Int) → hd ∈ O by
              intro y hy h1 hd2 h2
              rw [htk'.out, List.mem_append, List.mem_singleton] at hy
              rcases hy with hy | rfl
              · exact hdn.out y hy h1 hd2 h2
              · exact absurd h1 hle)
            generalize leftE L f x = z at *
            go_wp2_with (go_at_call 39; refine chd.out.mono ?_; rintro e w1 ⟨rfl, hw1⟩; subst w1)
            go_roundw
            case rel => exact ⟨O, m, j + 1, a, c, hOm, hRs, hui, hnew, by omega, him, hmn, rfl, by go_num, hS⟩
            case measure => simp [intOf]; omega
        · have hjk : j = K := by omega
          have hiO : i < O.length := by rw [hOm.out]; exact him
          have hnx := Lib.hid (hRs.out.next hiO (fun a' h' h1 h2 h3 h4 => by
            have hu2 := hui.out
            rw [List.getElem?_eq_getElem hiO] at hu2
            injection hu2 with hu2
            rw [hu2] at h2
            refine hdn.out a' ?_ h3 h' h4
            rw [hjk, ← hK'.out, List.take_length, mem_ofS hG'.out]
            exact ⟨h1, h2⟩))
          have hS9 := Lib.hid (hS.out.dropAt 2 (by simp))
          clear hS hdn hjk hiO
          go_wp2_with fail
          go_roundw
          case rel => exact ⟨O, m, i + 1, a, c, hOm, hnx, by omega, hmn, rfl, by go_num, hS9⟩
          case measure => simp [intOf]; omega
    · have hiO : i = O.length := by have := hOm.out; omega
      have hRs2 := hRs.out
      rw [hiO] at hRs2
      obtain ⟨l, hl1, hl2, hl3⟩ := reach_sort hRs2
      have hlm : l.length = m := hl2.trans hOm.out
      have hsort := Lib.hid (by
        have h5 := hS.out.rowAt 1 rfl
        have h6 := sortI_any (xs := ints O) (a := a) (c := c) (w := wr) (by rw [ints_len, hOm.out]; exact h5) (by rw [ints_len, hOm.out]; omega)
        rw [ints_len, hOm.out, hl3] at h6
        exact h6)
      have hl1' := Lib.hid hl1
      have hlm' := Lib.hid hlm
      clear hl1 hl2 hl3 hlm hRs2 hiO hRs
      go_wp2_with fail
      refine hsort.out.mono ?_
      rintro e w9 ⟨rfl, ho9, hm9⟩
      have hS9 := Lib.hid (hS.out.growAt 1 rfl ho9 hm9 (.inl rfl))
      clear ho9 hm9
      try dsimp only
      go_wp2_with fail
      go_ret
      refine ⟨l, a, c, hl1'.out, by rw [hlm'.out]; rfl, ?_⟩
      rw [hlm'.out]
      exact hS9.out.swap.toMade
end
end Edge
end Go.Proofs.YtjpfmkfikidgkaaGreat

set_option linter.unusedVariables false
set_option linter.unusedSimpArgs false
namespace Go.Proofs.YtjpfmkfikidgkaaGreat
open Go.RowKit
namespace Edge
/-- What the search holds: the levels, the round's number, who is next. -/
def SpL (Bo g Bd Bn n : Nat) (O : List Int) (d : Nat) (m : Nat) (a : Option Addr) (c : Nat) (next : List Nat) (R : List Part) : List Part :=
  Blk Bo [.slice (some ⟨g, 0, none⟩) n n] 51 :: Row 3 1 n (.slice (some ⟨g, 0, none⟩) n n) (i64s O) :: Blk Bd [.int .i64 d] 3 :: Blk Bn [.slice a m c] 51 :: Row 3 1 m (.slice a m c) (i64s (ints next)) :: R
theorem i64s_getD {O : List Int} {u : Nat} (hu : u < O.length) : (i64s O)[u]? = some (.int .i64 (O.getD u 0)) := by
  rw [List.getD_eq_getElem?_getD, List.getElem?_eq_getElem hu]
  exact i64s_get hu
set_option maxRecDepth 100000 in
set_option maxHeartbeats 4000000 in
theorem see_sep {W0 w : World} {Bo g Bd Bn n d u m : Nat} {O : List Int} {next : List Nat} {a : Option Addr} {c : Nat} {R : List Part} (hS : Sep W0 w (SpL Bo g Bd Bn n O d m a c next R)) (hO : O.length = n) (hu : u < n) (hm : m ≤ 4096) :
    Calls Tryz.prog 189 #[.int .i64 (u : Int), .pointer (some ⟨Bo, 0, none⟩), .pointer (some ⟨Bd, 0, none⟩), .pointer (some ⟨Bn, 0, none⟩)] w fun e w' => e = .returned (.tuple #[]) ∧
      ((0 ≤ O.getD u 0 ∧ w' = w) ∨ (O.getD u 0 < 0 ∧ ∃ a1 c1, Sep W0 w' (SpL Bo g Bd Bn n (O.set u (d : Int)) d (m + 1) a1 c1 (next ++ [u]) R))) := by
  have c0 := (hS.blkAt 0 rfl).cell 0 rfl
  have l0 := (hS.blkAt 0 rfl).lt
  have cg : w.cell? ⟨g, u, none⟩ = some (.int .i64 (O.getD u 0)) := by
    have h1 := (hS.rowAt 1 rfl).cellAt u (by omega)
    rw [i64s_getD (by omega)] at h1
    exact h1
  have fg := (hS.rowAt 1 rfl).frozenAt u
  have lg : g < w.heap.size := own_lt (hS.rowAt 1 rfl) (g := g) rfl
  have cd := (hS.blkAt 2 rfl).cell 0 rfl
  have ld := (hS.blkAt 2 rfl).lt
  have cn := (hS.blkAt 3 rfl).cell 0 rfl
  have ln := (hS.blkAt 3 rfl).lt
  have hul : (u : Int) < n := by omega
  by_cases h0 : O.getD u 0 < 0
  · have t0 : decide (O.getD u 0 < 0) = true := by simpa using h0
    have hS2 := Lib.hid (by
      have h5 := hS.rowsetAt 1 rfl u (.int .i64 d)
      rw [i64s_set] at h5
      exact h5)
    have cn2 := (hS2.out.blkAt 3 rfl).cell 0 rfl
    have hgr := Lib.hid (show ∀ (a1 : Option Addr) (c1 : Nat) (w6 : World), w6.ownsRow 0 3 1 (.slice a1 (m + 1) c1) (m + 1) (i64s (ints next) ++ [.int .i64 (u : Int)]) → Mod (Value.slice a m c).ownBlock.toList (w.setCell ⟨g, u, none⟩ (.int .i64 d)) w6 → ((Value.slice a1 (m + 1) c1).ownBlock = (Value.slice a m c).ownBlock ∨ ∃ b, (Value.slice a1 (m + 1) c1).ownBlock = some b ∧ (w.setCell ⟨g, u, none⟩ (.int .i64 d)).heap.size ≤ b) →
        Sep W0 w6 (Blk Bo [.slice (some ⟨g, 0, none⟩) n n] 51 :: Row 3 1 n (.slice (some ⟨g, 0, none⟩) n n) (i64s (O.set u (d : Int))) :: Blk Bd [.int .i64 d] 3 :: Blk Bn [.slice a m c] 51 :: Row 3 1 (m + 1) (.slice a1 (m + 1) c1) (i64s (ints (next ++ [u]))) :: R) by
      intro a1 c1 w6 h1 h2 h3
      rw [← ints_snoc] at h1
      exact hS2.out.growAt 4 rfl h1 h2 h3)
    have h0' := Lib.hid h0
    clear hS h0
    generalize O.getD u 0 = z at *
    go_enter Tryz.func189, Tryz.ntmps189
    go_wp2_with (at_builtin; refine app_own rfl (.tmp 14) (.tmp 16) 51 3 _ 1 8 rfl Tryz.underlying51 infoI5 rfl (by omega) (by omega) (.slice a m c) m 1 (i64s (ints next)) [.int .i64 (u : Int)] rfl rfl (by simp [World.setCell]) rfl (by simp [Value.oneCell']) (hS2.out.rowAt 4 rfl) (by omega) ?_; intro a1 c1 w6 ho6 hm6 hb6; have hS7 := Lib.hid (hgr.out a1 c1 w6 ho6 hm6 hb6); clear ho6 hm6 hb6; have cn7 := (hS7.out.blkAt 3 rfl).cell 0 rfl; have fn7 := (hS7.out.blkAt 3 rfl).free 0; have ln7 := (hS7.out.blkAt 3 rfl).lt)
    exact bodyPost_end (v := .tuple #[]) (by simp [results, Tryz.results189, go_sem]) rfl ⟨rfl, .inr ⟨h0'.out, a1, c1, hS7.out.setAt 3 rfl 0 (.slice a1 (m + 1) c1)⟩⟩
  · have t0 : decide (O.getD u 0 < 0) = false := by simpa using h0
    have h0' := Lib.hid (show 0 ≤ O.getD u 0 by omega)
    clear hS h0
    generalize O.getD u 0 = z at *
    go_enter Tryz.func189, Tryz.ntmps189
    go_wp2_with fail
    exact bodyPost_end (v := .tuple #[]) (by simp [results, Tryz.results189, go_sem]) rfl ⟨rfl, .inl ⟨h0'.out, rfl⟩⟩
end Edge
end Go.Proofs.YtjpfmkfikidgkaaGreat

set_option linter.unusedVariables false
set_option linter.unusedSimpArgs false
namespace Go.Proofs.YtjpfmkfikidgkaaGreat
open Go.RowKit
theorem Sep.partAt {W0 w : World} {P : Part} {L : List Part} (h : Sep W0 w L) (i : Nat) (hi : L[i]? = some P) : ∃ F, P w F := by
  obtain ⟨F, h1, _⟩ := (h.get i hi).first
  exact ⟨F, h1⟩
namespace Edge
/-- .. seen, in the search. -/
theorem see_bst {W0 w : World} {Bo g Bd Bn n d u m t i : Nat} {A : Nat → Nat → Prop} {O : List Int} {now next : List Nat} {a : Option Addr} {c : Nat} {R : List Part} (hS : Sep W0 w (SpL Bo g Bd Bn n O d m a c next R)) (hA : ∀ {u x}, A u x → u < n ∧ x < n) (hn4 : n ≤ 4096) (hB : BSt n A t O d now i next) (hm : next.length = m) (hd : 1 ≤ d) (hi : i < now.length) (ha : A u now[i]) :
    Calls Tryz.prog 189 #[.int .i64 (u : Int), .pointer (some ⟨Bo, 0, none⟩), .pointer (some ⟨Bd, 0, none⟩), .pointer (some ⟨Bn, 0, none⟩)] w fun e w' => e = .returned (.tuple #[]) ∧
      ∃ O' next' m' a1 c1, next'.length = m' ∧ m' ≤ n ∧ BSt n A t O' d now i next' ∧ (∀ y, O.getD y 0 ≠ -1 → O'.getD y 0 ≠ -1) ∧ O'.getD u 0 ≠ -1 ∧ Sep W0 w' (SpL Bo g Bd Bn n O' d m' a1 c1 next' R) := by
  have hu := (hA ha).1
  have hm1 : m ≤ n := by rw [← hm]; exact nodup_le n next hB.nd hB.nextl
  refine (see_sep hS hB.len hu (by omega)).mono ?_
  rintro e w' ⟨rfl, ⟨h0, rfl⟩ | ⟨h0, a1, c1, hS2⟩⟩
  · exact ⟨rfl, O, next, m, a, c, hm, hm1, hB, fun y h => h, by omega, hS⟩
  · have h0' : O.getD u 0 = -1 := by rcases hB.val u hu with h | h <;> omega
    have hB2 := hB.see hd hi ha hu h0'
    have hm2 : (next ++ [u]).length = m + 1 := by rw [List.length_append, hm]; rfl
    refine ⟨rfl, O.set u d, next ++ [u], m + 1, a1, c1, hm2, ?_, hB2, fun y h => ?_, ?_, hS2⟩
    · rw [← hm2]; exact nodup_le n _ hB2.nd hB2.nextl
    · rw [getD_set5 O u _ (by rw [hB.len]; exact hu)]
      split
      · omega
      · exact h
    · rw [getD_set5 O u _ (by rw [hB.len]; exact hu), if_pos rfl]; omega
set_option maxRecDepth 100000 in
set_option maxHeartbeats 8000000 in
theorem to1_bst {W0 w : World} {Bo g Bd Bn Ba Br r ba n d m t i v : Nat} {L : List Ed} {f O : List Int} {now next : List Nat} {a : Option Addr} {c : Nat} {R : List Part}
    (hS : Sep W0 w (SpL Bo g Bd Bn n O d m a c next (Blk Ba [.pointer (some ⟨ba, 0, none⟩)] 47 :: Blk Br [.pointer (some ⟨r, 0, none⟩)] 29 :: RestP r ba n L f :: ArcP ba n L :: R)))
    (hG : GOk n L) (hB : BSt n (Arc L f) t O d now i next) (hm : next.length = m) (hd : 1 ≤ d) (hi : i < now.length) (hv : now[i] = v) (hvn : v < n) :
    Calls Tryz.prog 132 #[.int .i64 (v : Int), .func (.func 189) #[] #[.pointer (some ⟨Bo, 0, none⟩), .pointer (some ⟨Bd, 0, none⟩), .pointer (some ⟨Bn, 0, none⟩)], .pointer (some ⟨Ba, 0, none⟩), .pointer (some ⟨Br, 0, none⟩)] w fun e w' => e = .returned (.tuple #[]) ∧
      ∃ O' next' m' a1 c1, next'.length = m' ∧ m' ≤ n ∧ BSt n (Arc L f) t O' d now (i + 1) next' ∧ Sep W0 w' (SpL Bo g Bd Bn n O' d m' a1 c1 next' (Blk Ba [.pointer (some ⟨ba, 0, none⟩)] 47 :: Blk Br [.pointer (some ⟨r, 0, none⟩)] 29 :: RestP r ba n L f :: ArcP ba n L :: R)) := by
  have hm1 : m ≤ n := by rw [← hm]; exact nodup_le n next hB.nd hB.nextl
  have hn4 := hG.le
  have ca := (hS.blkAt 5 rfl).cell 0 rfl
  have la := (hS.blkAt 5 rfl).lt
  obtain ⟨FA, hA⟩ := hS.partAt 8 rfl
  have cc := Lib.hid (show Calls Tryz.prog 75 #[.pointer (some ⟨ba, 0, none⟩), .int .i64 (v : Int)] w fun e w' => ∃ a c, e = .returned (.slice a (ofS n L v).length c) ∧ Made w w' 3 1 a (ofS n L v).length c (i64s (ints (ofS n L v))) by
    have h1 := aout_p hA hG (v : Int)
    have e : outI n L (v : Int) = ints (ofS n L v) := by unfold outI; rw [if_pos (by omega), Int.toNat_natCast]
    rw [e, ints_len] at h1
    exact h1)
  obtain ⟨K, hK⟩ : ∃ K, (ofS n L v).length = K := ⟨_, rfl⟩
  rw [hK] at cc
  have hK' := Lib.hid hK
  have hKb : K ≤ 2097152 := by
    have h5 := ofU_le L (2 * L.length) v
    have h6 := ofS_len hG v
    have h7 := hG.len
    unfold cntE at h6
    omega
  have hS' := Lib.hid hS
  have hB' := Lib.hid hB
  have hm' := Lib.hid hm
  have hG' := Lib.hid hG
  have hv' := Lib.hid hv
  have hlen : L.length ≤ 1048576 := hG.len
  clear hS hB hm hG hK hA hv
  go_enter Tryz.func132, Tryz.ntmps132
  go_wp2_with fail
  refine cc.out.mono ?_
  rintro e w2 ⟨a2, c2, rfl, hmd⟩
  have hS2 := Lib.hid (hS'.out.made hmd)
  clear hmd hS' cc ca la
  try dsimp only
  go_wp2_with fail
  go_loopw [12] (fun s12 wr => ∃ (O : List Int) (next : List Nat) (m j : Nat) (a : Option Addr) (c : Nat), Hid (BSt n (Arc L f) t O d now i next) ∧ Hid (next.length = m) ∧ m ≤ n ∧ Hid (∀ x ∈ (ofS n L v).take j, 0 < leftE L f (back x) → ∀ u : Nat, headE L x = (u : Int) → O.getD u 0 ≠ -1) ∧ j ≤ K ∧ s12 = .int .i64 j ∧
    Hid (Sep W0 wr (Row 3 1 K (.slice a2 K c2) (i64s (ints (ofS n L v))) :: SpL Bo g Bd Bn n O d m a c next (Blk Ba [.pointer (some ⟨ba, 0, none⟩)] 47 :: Blk Br [.pointer (some ⟨r, 0, none⟩)] 29 :: RestP r ba n L f :: ArcP ba n L :: R)))) (fun s12 _ => K - (intOf s12).toNat)
  case atStart => exact ⟨O, next, m, 0, a, c, hB', hm', hm1, Lib.hid (by simp), by omega, rfl, hS2⟩
  case round =>
    clear hS2 hB' hm' hm1
    obtain ⟨O, next, m, j, a, c, hB, hm, hm1, hdn, hjK, rfl, hS⟩ := hrel
    by_cases hlj : j < K
    · have hlj1 : (j : Int) < K := by omega
      obtain ⟨x, hx⟩ : ∃ x, (ofS n L v)[j]? = some x := ⟨_, List.getElem?_eq_getElem (by rw [hK'.out]; exact hlj)⟩
      have hxm := (mem_ofS hG'.out (v := v)).1 (List.mem_of_getElem? hx)
      have hbk : back x < 2 * L.length := back_lt.2 hxm.1
      obtain ⟨hd1, hhd⟩ := Int.eq_ofNat_of_zero_le (head_in hG'.out hxm.1).1
      obtain ⟨ga, rfl, hga, _, hcell⟩ := row_form (hS.out.rowAt 0 rfl) (by omega)
      have cX := hcell j (.int .i64 (x : Int)) (by
        have : (ints (ofS n L v))[j]? = some (x : Int) := by unfold ints; rw [List.getElem?_map, hx]; rfl
        exact i64s_got this)
      have ca := (hS.out.blkAt 6 rfl).cell 0 rfl
      have la := (hS.out.blkAt 6 rfl).lt
      have cr := (hS.out.blkAt 7 rfl).cell 0 rfl
      have lr := (hS.out.blkAt 7 rfl).lt
      have chd := Lib.hid (show Calls Tryz.prog 39 #[.pointer (some ⟨ba, 0, none⟩), .int .i64 (x : Int)] wr fun e w' => e = .returned (.int .i64 (hd1 : Int)) ∧ w' = wr by
        obtain ⟨FA, hA⟩ := hS.out.partAt 9 rfl
        have h1 := ahead_p hA hG'.out (x : Int)
        have e : headI L (x : Int) = headE L x := by unfold headI; rw [if_neg (by omega), Int.toNat_natCast]
        rw [e, hhd] at h1
        exact h1)
      have clf := Lib.hid (show Calls Tryz.prog 40 #[.pointer (some ⟨r, 0, none⟩), .int .i64 ((back x : Nat) : Int)] wr fun e w' => e = .returned (.int .i64 (leftE L f (back x))) ∧ w' = wr by
        obtain ⟨FA, hA⟩ := hS.out.partAt 9 rfl
        obtain ⟨FR, hR⟩ := hS.out.partAt 8 rfl
        have h1 := rleft_p hR hA hG'.out ((back x : Nat) : Int)
        have e : leftI L f ((back x : Nat) : Int) = leftE L f (back x) := by unfold leftI; rw [if_pos (by omega), Int.toNat_natCast]
        rw [e] at h1
        exact h1)
      have hxb := bits_back x (by omega)
      have htk := Lib.hid (show (ofS n L v).take (j + 1) = (ofS n L v).take j ++ [x] by rw [List.take_add_one, hx]; rfl)
      have hhd' := Lib.hid hhd
      have hxm' := Lib.hid hxm
      have harc : 0 < leftE L f (back x) → Arc L f hd1 v := fun hle => ⟨back x, hbk, by rw [tail_back, hhd], by rw [head_back, hxm.2], hle⟩
      by_cases hle : 0 < leftE L f (back x)
      · have csee := Lib.hid (see_bst (hS.out.tail) (arc_lt hG'.out) hn4 hB.out hm.out hd hi (show Arc L f hd1 now[i] by rw [hv'.out]; exact harc hle))
        have csee2 := Lib.hid (show Calls Tryz.prog 189 #[.int .i64 (hd1 : Int), .pointer (some ⟨Bo, 0, none⟩), .pointer (some ⟨Bd, 0, none⟩), .pointer (some ⟨Bn, 0, none⟩)] wr fun e w' => e = .returned (.tuple #[]) ∧
      ∃ O' next' m' a1 c1, next'.length = m' ∧ m' ≤ n ∧ BSt n (Arc L f) t O' d now i next' ∧ (∀ y, O.getD y 0 ≠ -1 → O'.getD y 0 ≠ -1) ∧ O'.getD hd1 0 ≠ -1 ∧ Sep W0 w' (Row 3 1 K (.slice (some ⟨ga, 0, none⟩) K c2) (i64s (ints (ofS n L v))) :: SpL Bo g Bd Bn n O' d m' a1 c1 next' (Blk Ba [.pointer (some ⟨ba, 0, none⟩)] 47 :: Blk Br [.pointer (some ⟨r, 0, none⟩)] 29 :: RestP r ba n L f :: ArcP ba n L :: R)) by
          have h1 := see_bst (R := Blk Ba [.pointer (some ⟨ba, 0, none⟩)] 47 :: Blk Br [.pointer (some ⟨r, 0, none⟩)] 29 :: RestP r ba n L f :: ArcP ba n L :: R ++ [Row 3 1 K (.slice (some ⟨ga, 0, none⟩) K c2) (i64s (ints (ofS n L v)))]) (by have h2 := hS.out.rot; simpa [SpL] using h2) (arc_lt hG'.out) hn4 hB.out hm.out hd hi (show Arc L f hd1 now[i] by rw [hv'.out]; exact harc hle)
          refine h1.mono ?_
          rintro e w' ⟨rfl, O', next', m', a1, c1, k1, k2, k3, k4, k5, k6⟩
          refine ⟨rfl, O', next', m', a1, c1, k1, k2, k3, k4, k5, ?_⟩
          refine k6.perm ?_
          have := List.perm_append_singleton (Row 3 1 K (.slice (some ⟨ga, 0, none⟩) K c2) (i64s (ints (ofS n L v)))) (SpL Bo g Bd Bn n O' d m' a1 c1 next' (Blk Ba [.pointer (some ⟨ba, 0, none⟩)] 47 :: Blk Br [.pointer (some ⟨r, 0, none⟩)] 29 :: RestP r ba n L f :: ArcP ba n L :: R))
          simpa [SpL] using this)
        clear csee hx hxm hhd hcell harc hS
        have hkeep := Lib.hid (show ∀ O' : List Int, (∀ y, O.getD y 0 ≠ -1 → O'.getD y 0 ≠ -1) → O'.getD hd1 0 ≠ -1 → ∀ y ∈ (ofS n L v).take (j + 1), 0 < leftE L f (back y) → ∀ u : Nat, headE L y = (u : Int) → O'.getD u 0 ≠ -1 by
          intro O' k1 k2 y hy h1 u h2
          rw [htk.out, List.mem_append, List.mem_singleton] at hy
          rcases hy with hy | rfl
          · exact k1 _ (hdn.out y hy h1 u h2)
          · rw [hhd'.out] at h2
            have : hd1 = u := by omega
            subst this
            exact k2)
        clear hdn htk hhd' hxm' hB hm
        generalize leftE L f (back x) = z at *
        generalize ((back x : Nat) : Int) = bx at *
        clear hbk
        go_wp2_with (first
          | (go_at_call 39; refine chd.out.mono ?_; rintro e w1 ⟨rfl, hw1⟩; subst w1)
          | (go_at_call 40; refine clf.out.mono ?_; rintro e w1 ⟨rfl, hw1⟩; subst w1))
        refine csee2.out.mono ?_
        rintro e w3 ⟨rfl, O', next', m', a1, c1, k1, k2, k3, k4, k5, k6⟩
        have k1' := Lib.hid k1
        have k3' := Lib.hid k3
        have k6' := Lib.hid k6
        have hk' := Lib.hid (hkeep.out O' k4 k5)
        clear k1 k3 k4 k5 k6 csee2 chd clf hkeep
        try dsimp only
        go_wp2_with fail
        go_roundw
        case rel => exact ⟨O', next', m', j + 1, a1, c1, k3', k1', k2, hk', by omega, by go_num, k6'⟩
        case measure => simp [intOf]; omega
      · have hnew := Lib.hid (show ∀ y ∈ (ofS n L v).take (j + 1), 0 < leftE L f (back y) → ∀ u : Nat, headE L y = (u : Int) → O.getD u 0 ≠ -1 by
          intro y hy h1 hd2 h2
          rw [htk.out, List.mem_append, List.mem_singleton] at hy
          rcases hy with hy | rfl
          · exact hdn.out y hy h1 hd2 h2
          · exact absurd h1 hle)
        clear hx hxm hhd hcell harc hdn
        generalize leftE L f (back x) = z at *
        generalize ((back x : Nat) : Int) = bx at *
        clear hbk
        go_wp2_with (go_at_call 40; refine clf.out.mono ?_; rintro e w1 ⟨rfl, hw1⟩; subst w1)
        go_roundw
        case rel => exact ⟨O, next, m, j + 1, a, c, hB, hm, hm1, hnew, by omega, by go_num, hS⟩
        case measure => simp [intOf]; omega
    · have hjk : j = K := by omega
      have hall : ∀ u, Arc L f u now[i] → O.getD u 0 ≠ -1 := by
        rintro u ⟨y, h1, h2, h3, h4⟩
        refine hdn.out (back y) ?_ (by rw [back_back]; exact h4) u (by rw [head_back, h2])
        rw [hjk, ← hK'.out, List.take_length, mem_ofS hG'.out]
        exact ⟨back_lt.2 h1, by rw [tail_back, h3, hv'.out]⟩
      have hB2 := Lib.hid (hB.out.seen hi hall)
      have hS9 := Lib.hid hS.out.tail
      clear hS hdn hjk hall
      go_wp2_with fail
      exact bodyPost_end (v := .tuple #[]) (by simp [results, Tryz.results132, go_sem]) rfl ⟨rfl, O, next, m, a, c, hm.out, hm1, hB2.out, hS9.out⟩
end Edge
end Go.Proofs.YtjpfmkfikidgkaaGreat
