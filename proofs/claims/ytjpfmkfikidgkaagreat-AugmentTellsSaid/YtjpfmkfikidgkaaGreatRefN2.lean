/- The reference's graph: Weight, Total. -/
import Derived.Test.YtjpfmkfikidgkaaGreatRefN1
import Derived.Test.YtjpfmkfikidgkaaGreatTwiceLaw
set_option linter.unusedVariables false
set_option linter.unusedSimpArgs false
namespace Go.Proofs.YtjpfmkfikidgkaaGreat
open Go.RowKit
namespace Edge
/-- A graph of the reference, as a value. -/
def netV (n : Int) (a : Option Addr) (m c : Nat) : Value := .agg #[.int .i64 n, .slice a m c]
set_option maxRecDepth 100000 in
set_option maxHeartbeats 4000000 in
theorem rweight_any (n : Int) {L : List Ed} {a : Option Addr} {c : Nat} {w : World} (h : Rd w 3 (.slice a L.length c) L.length (flat encEd L)) (u v : Int) :
    Calls Tryz.prog 146 #[netV n a L.length c, .int .i64 u, .int .i64 v] w fun e w' => e = .returned (.int .i64 (weight L u v)) ∧ Mod [] w w' := by
  have hle := h.le
  have h' := Lib.hid (h.still ((Mod.refl [] w).alloc (.cells #[.int .i64 n, .slice a L.length c] 32)))
  obtain ⟨r, hr⟩ : ∃ r, weight L u v = r := ⟨_, rfl⟩
  rw [hr]
  have hr' := Lib.hid hr
  obtain ⟨m, hm⟩ : ∃ m, L.length = m := ⟨_, rfl⟩
  rw [hm] at hle h' ⊢
  have hm' := Lib.hid hm
  have hB := Has.new w [.int .i64 n, .slice a m c] 32
  have b0 := hB.cell 0 rfl
  have b1 := hB.cell 1 rfl
  have bl := hB.lt
  have hmod := Lib.hid ((Mod.refl [] w).alloc (.cells #[.int .i64 n, .slice a m c] 32))
  unfold netV
  clear h hr hm hB
  go_enter Tryz.func146, Tryz.ntmps146
  go_wp2_with fail
  generalize w.alloc (.cells #[.int .i64 n, .slice a m c] 32) = w1 at *
  generalize w.heap.size = B at *
  go_loopw [7] (fun i wr => ∃ k : Nat, k ≤ m ∧ i = .int .i64 k ∧ wr = w1 ∧ Hid (weight (L.drop k) u v = r)) (fun i _ => m - (intOf i).toNat)
  case atStart => exact ⟨0, Nat.zero_le _, rfl, rfl, hr'⟩
  case round =>
    clear hr'
    obtain ⟨k, hk, rfl, rfl, hc⟩ := hrel
    by_cases hlt : k < m
    · have hlt1 : (k : Int) < m := by omega
      have hkl : k < L.length := by rw [hm'.out]; exact hlt
      obtain ⟨g, o, rfl, hg, hcell⟩ := ed_cells (l := L) (by rw [hm'.out]; exact h'.out) hkl
      obtain ⟨q0, q1, q2⟩ := hcell _ (Mod.refl _ _)
      rw [List.drop_eq_getElem_cons hkl] at hc
      generalize L[k] = e at *
      obtain ⟨eu, ev, ew⟩ := e
      simp only at q0 q1 q2
      have hc2 := hc.out
      unfold weight at hc2
      simp only at hc2
      clear hc hcell hkl
      rcases (show u < v ∨ v < u ∨ u = v by omega) with huv | huv | rfl
      · skip
        rw [show min u v = u by omega, show max u v = v by omega] at hc2
        by_cases c1 : eu = u
        · by_cases c2 : ev = v
          · rw [if_pos ⟨c1, c2⟩] at hc2
            have t1 : (eu == u) = true := by simpa using c1
            have t2 : (ev == v) = true := by simpa using c2
            subst hc2
            clear c1 c2
            go_wp2_with fail
            go_ret
            exact ⟨rfl, hmod.out⟩
          · rw [if_neg (fun hh => c2 hh.2)] at hc2
            have t1 : (eu == u) = true := by simpa using c1
            have t2 : (ev == v) = false := by simpa using c2
            have hc3 := Lib.hid hc2
            clear c1 c2 hc2
            go_wp2_with fail
            go_roundw
            case rel => exact ⟨k + 1, by omega, by go_num, trivial, hc3⟩
            case measure => simp [intOf]; omega
        · rw [if_neg (fun hh => c1 hh.1)] at hc2
          have t1 : (eu == u) = false := by simpa using c1
          have hc3 := Lib.hid hc2
          clear c1 hc2
          go_wp2_with fail
          go_roundw
          case rel => exact ⟨k + 1, by omega, by go_num, trivial, hc3⟩
          case measure => simp [intOf]; omega
      · skip
        rw [show min u v = v by omega, show max u v = u by omega] at hc2
        by_cases c1 : eu = v
        · by_cases c2 : ev = u
          · rw [if_pos ⟨c1, c2⟩] at hc2
            have t1 : (eu == v) = true := by simpa using c1
            have t2 : (ev == u) = true := by simpa using c2
            subst hc2
            clear c1 c2
            go_wp2_with fail
            go_ret
            exact ⟨rfl, hmod.out⟩
          · rw [if_neg (fun hh => c2 hh.2)] at hc2
            have t1 : (eu == v) = true := by simpa using c1
            have t2 : (ev == u) = false := by simpa using c2
            have hc3 := Lib.hid hc2
            clear c1 c2 hc2
            go_wp2_with fail
            go_roundw
            case rel => exact ⟨k + 1, by omega, by go_num, trivial, hc3⟩
            case measure => simp [intOf]; omega
        · rw [if_neg (fun hh => c1 hh.1)] at hc2
          have t1 : (eu == v) = false := by simpa using c1
          have hc3 := Lib.hid hc2
          clear c1 hc2
          go_wp2_with fail
          go_roundw
          case rel => exact ⟨k + 1, by omega, by go_num, trivial, hc3⟩
          case measure => simp [intOf]; omega
      · skip
        rw [show min u u = u by omega, show max u u = u by omega] at hc2
        by_cases c1 : eu = u
        · by_cases c2 : ev = u
          · rw [if_pos ⟨c1, c2⟩] at hc2
            have t1 : (eu == u) = true := by simpa using c1
            have t2 : (ev == u) = true := by simpa using c2
            subst hc2
            clear c1 c2
            go_wp2_with fail
            go_ret
            exact ⟨rfl, hmod.out⟩
          · rw [if_neg (fun hh => c2 hh.2)] at hc2
            have t1 : (eu == u) = true := by simpa using c1
            have t2 : (ev == u) = false := by simpa using c2
            have hc3 := Lib.hid hc2
            clear c1 c2 hc2
            go_wp2_with fail
            go_roundw
            case rel => exact ⟨k + 1, by omega, by go_num, trivial, hc3⟩
            case measure => simp [intOf]; omega
        · rw [if_neg (fun hh => c1 hh.1)] at hc2
          have t1 : (eu == u) = false := by simpa using c1
          have hc3 := Lib.hid hc2
          clear c1 hc2
          go_wp2_with fail
          go_roundw
          case rel => exact ⟨k + 1, by omega, by go_num, trivial, hc3⟩
          case measure => simp [intOf]; omega
    · have hkm : k = m := by omega
      subst hkm
      have hc2 := hc.out
      rw [← hm'.out, List.drop_length] at hc2
      have hc3 : 0 = r := hc2
      subst hc3
      clear hc hc2
      go_wp2_with fail
      go_ret
      exact ⟨rfl, hmod.out⟩
theorem total_part {n : Nat} {L : List Ed} (hG : GOk n L) (k : Nat) : 0 ≤ total (L.take k) ∧ total (L.take k) ≤ 2251799813685248 := by
  have h0 := total_append (L.take k) (L.drop k)
  rw [List.take_append_drop] at h0
  have h1 := (le_total (l := L.take k) (fun x hx => by have := hG.pos x (List.mem_of_mem_take hx); omega)).1
  have h2 := (le_total (l := L.drop k) (fun x hx => by have := hG.pos x (List.mem_of_mem_drop hx); omega)).1
  have h3 := hG.tot
  omega
end Edge
end Go.Proofs.YtjpfmkfikidgkaaGreat
