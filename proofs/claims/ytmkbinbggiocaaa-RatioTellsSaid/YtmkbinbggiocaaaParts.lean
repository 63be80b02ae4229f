/- ratio.parts: a cut's weight and what it is divided by, or a panic. -/
import Derived.Test.YtmkbinbggiocaaaTried
import Derived.Test.YtmkbinbggiocaaaSide21
set_option linter.unusedVariables false
set_option linter.unusedSimpArgs false
namespace Go.Proofs.Ytmkbinbggiocaaa
open Go.RowKit
namespace Ratio
open Go.Proofs.Ytmkbinbggiocaaa.Code
theorem rise_ge {n : Int} {l : List Int} (h : allC n l = true) : ∀ k, k < l.length → (k : Int) ≤ l.getD k 0 ∧ l.getD k 0 < n := by
  unfold allC at h
  simp only [List.all_eq_true, List.mem_range] at h
  intro k
  induction k with
  | zero =>
    intro hk
    have := h 0 hk
    unfold okC at this
    simp only [Bool.and_eq_true, decide_eq_true_eq] at this
    exact ⟨by simpa using this.1.1, this.1.2⟩
  | succ k ih =>
    intro hk
    have h1 := ih (by omega)
    have := h (k + 1) hk
    unfold okC at this
    simp only [Bool.and_eq_true, decide_eq_true_eq, Bool.or_eq_true, beq_iff_eq, Nat.add_sub_cancel] at this
    obtain ⟨⟨a, b⟩, c⟩ := this
    rcases c with c | c
    · omega
    · exact ⟨by omega, b⟩
/-- A cut that may be. -/
def may (n W : Int) (l : List Int) : Prop := n ≤ 4096 ∧ checkC n l = 0 ∧ 0 ≤ W
theorem may_len {n W : Int} {l : List Int} (h : may n W l) : 0 < l.length ∧ (l.length : Int) < n ∧ n ≤ 4096 := by
  obtain ⟨h1, h2, h3⟩ := h
  unfold checkC at h2
  split at h2
  · rename_i ha
    split at h2
    · cases h2
    · rename_i h4
      have h5 := rise_ge ha (l.length - 1) (by omega)
      omega
  · cases h2
def byN (n : Int) (l : List Int) : Int := (l.length : Int) * (n - l.length)
theorem by_bd {n W : Int} {l : List Int} (h : may n W l) : 0 < byN n l ∧ byN n l < 16777216 := by
  obtain ⟨h1, h2, h3⟩ := may_len h
  unfold byN
  have a : 0 < n - l.length := by omega
  constructor
  · exact Int.mul_pos (by omega) a
  · calc (l.length : Int) * (n - l.length) ≤ 4095 * (n - l.length) := Int.mul_le_mul_of_nonneg_right (by omega) (by omega)
      _ < 16777216 := by omega
set_option maxRecDepth 100000 in
set_option maxHeartbeats 2000000 in
theorem parts_ok {w : World} {v : Value} {n W : Int} {l : List Int} (h : Rd w 1 v l.length (vi64 l)) (hy : may n W l) (hW : W ≤ 9223372036854775807) :
    Calls Try.prog 121 #[.int .i64 n, .agg #[.int .i64 W, v]] w fun e w' => e = .returned (.tuple #[.int .u64 W, .int .u64 (byN n l)]) ∧ Mod [] w w' := by
  obtain ⟨a1, c1, rfl⟩ := h.val
  obtain ⟨wb, hwb⟩ : ∃ wb, wb = w.alloc (.cells #[.int .i64 W, .slice a1 l.length c1] 95) := ⟨_, rfl⟩
  have hm : Mod [] w wb := by rw [hwb]; exact (Mod.refl [] w).alloc _
  have hb : Has wb w.heap.size [.int .i64 W, .slice a1 l.length c1] 95 := by rw [hwb]; exact Has.new w _ _
  have hck := check_prog n l (h.still hm)
  have hbd := Lib.hid (by_bd hy)
  have hln := Lib.hid (may_len hy)
  obtain ⟨y1, y2, y3⟩ := hy
  rw [y2] at hck
  have hck' := Lib.hid hck
  have hwb' := Lib.hid hwb
  have hm' := Lib.hid hm
  have hb' := Lib.hid hb
  have q1 : ¬ 4096 < n := by omega
  have q2 : ¬ W < 0 := by omega
  have hew : Hid (IntKind.u64.wrap (IntKind.u64.wrap (l.length : Int) * IntKind.u64.wrap (wrap64 (n - (l.length : Int)))) = byN n l) := by
    have := hln.out
    have := hbd.out
    have e1 : wrap64 (n - (l.length : Int)) = n - l.length := by unfold wrap64; omega
    have e2 : IntKind.u64.wrap (l.length : Int) = l.length := by simp [IntKind.wrap_u64]; omega
    have e3 : IntKind.u64.wrap (n - (l.length : Int)) = n - l.length := by simp [IntKind.wrap_u64]; omega
    rw [e1, e2, e3]
    show IntKind.u64.wrap (byN n l) = byN n l
    simp [IntKind.wrap_u64]; omega
  clear h hck hwb hm hb y1 y2
  go_enter Try.func121, Try.ntmps121
  go_wp2_with fail
  rw [← hwb'.out]
  refine hck'.out.mono ?_
  rintro e w1 ⟨rfl, rfl⟩
  try dsimp only
  have hd := hb'.out
  have d0 := hd.cell 0 rfl
  have d1 := hd.cell 1 rfl
  have dl := hd.lt
  clear hd hck'
  go_wp2_with fail
  go_quiet (fail)
  rw [hew.out]
  have hf : Hid (∀ k, Mod [] w (w1.drewN k)) := fun k => hm'.out.drewN k
  clear d0 d1 dl
  go_wp2_with fail
  exact bodyPost_ret (v := .tuple #[.int .u64 W, .int .u64 (byN n l)]) (by simp [results, Try.results121, go_sem]) rfl ⟨rfl, hf.out _⟩
set_option maxRecDepth 100000 in
set_option maxHeartbeats 2000000 in
theorem parts_no {w : World} {v : Value} {n W : Int} {l : List Int} (h : Rd w 1 v l.length (vi64 l)) (hy : ¬ may n W l) :
    Calls Try.prog 121 #[.int .i64 n, .agg #[.int .i64 W, v]] w fun e w' => e = .panicked [wrongP] ∧ Mod [] w w' := by
  have hmi : ∀ (w : World) (v : Value), (Instr.makeInterface 216 v).run Try.prog w = .ok (.iface 216 v) w := fun _ _ => rfl
  obtain ⟨a1, c1, rfl⟩ := h.val
  obtain ⟨wb, hwb⟩ : ∃ wb, wb = w.alloc (.cells #[.int .i64 W, .slice a1 l.length c1] 95) := ⟨_, rfl⟩
  have hm : Mod [] w wb := by rw [hwb]; exact (Mod.refl [] w).alloc _
  have hb : Has wb w.heap.size [.int .i64 W, .slice a1 l.length c1] 95 := by rw [hwb]; exact Has.new w _ _
  have hck' := Lib.hid (check_prog n l (h.still hm))
  have hwb' := Lib.hid hwb
  have hm' := Lib.hid hm
  have hb' := Lib.hid hb
  clear h hwb hm hb
  by_cases q1 : 4096 < n
  · clear hy hck'
    go_enter Try.func121, Try.ntmps121
    go_wp2_with fail
    rw [← hwb'.out]
    exact (show bodyPost _ _ _ (Exit.panic [wrongP]) _ _ from ⟨rfl, rfl, hm'.out⟩)
  · have hmay := Lib.hid (fun (a : checkC n l = 0) (b : 0 ≤ W) => hy ⟨by omega, a, b⟩)
    clear hy
    go_enter Try.func121, Try.ntmps121
    go_wp2_with fail
    rw [← hwb'.out]
    refine hck'.out.mono ?_
    rintro e w1 ⟨rfl, rfl⟩
    try dsimp only
    have hd := hb'.out
    have d0 := hd.cell 0 rfl
    have d1 := hd.cell 1 rfl
    have dl := hd.lt
    clear hd hck'
    by_cases hc : checkC n l = 0
    · have q2 : W < 0 := by
        rcases Int.lt_or_le W 0 with h | h
        · exact h
        · exact (hmay.out hc h).elim
      rw [hc]
      clear hc hmay
      go_wp2_with fail
      exact (show bodyPost _ _ _ (Exit.panic [wrongP]) _ _ from ⟨rfl, rfl, hm'.out⟩)
    · have q2 : (checkC n l != 0) = true := by simpa using hc
      clear hc hmay
      generalize checkC n l = cc at *
      go_wp2_with fail
      exact (show bodyPost _ _ _ (Exit.panic [wrongP]) _ _ from ⟨rfl, rfl, hm'.out⟩)
end Ratio
end Go.Proofs.Ytmkbinbggiocaaa
