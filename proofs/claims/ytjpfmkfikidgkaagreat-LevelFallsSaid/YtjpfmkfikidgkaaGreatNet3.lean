/- What a graph tells. -/
import Derived.Test.YtjpfmkfikidgkaaGreatNet2
import Derived.Laws.EntriesVeiled
import Derived.Deep.Onto
set_option linter.unusedVariables false
set_option linter.unusedSimpArgs false
namespace Go.Proofs.YtjpfmkfikidgkaaGreat
open Go.RowKit
namespace Edge
theorem parts_at {w : World} : ∀ {L : List Part} {F : List Nat}, Parts w L F → ∀ (i : Nat) (P : Part), L[i]? = some P → ∃ F1, P w F1 ∧ ∀ b ∈ F1, b ∈ F
  | [], _, _, i, P, hi => by simp at hi
  | Q :: L, F, h, i, P, hi => by
    obtain ⟨_, F1, F2, rfl, h1, h2, _⟩ := h
    cases i with
    | zero =>
      simp only [List.getElem?_cons_zero, Option.some.injEq] at hi
      subst hi
      exact ⟨F1, h1, fun b hb => by simp [hb]⟩
    | succ i =>
      simp only [List.getElem?_cons_succ] at hi
      obtain ⟨F3, h3, h4⟩ := parts_at h2 i P hi
      exact ⟨F3, h3, fun b hb => by simp [h4 b hb]⟩
/-- What is read of a graph. -/
structure NetRd (w : World) (b n : Nat) (L : List Ed) (gn gd : Nat) (a : Option Addr) (c : Nat) : Prop where
  hb : Has w b [.slice (some ⟨gn, 0, none⟩) n n, .slice (some ⟨gd, 0, none⟩) n n, .slice a L.length c, .int .i64 (total L)] 169
  row : ∀ v : Nat, v < n → ∃ ar cr, w.cell? ⟨gn, v, none⟩ = some (.slice ar (near n L v).length cr) ∧ Reads w 1 (.slice ar (near n L v).length cr) (near n L v).length (i64s (near n L v))
  deg : ∀ v : Nat, v < n → w.cell? ⟨gd, v, none⟩ = some (.int .i64 (degree L v))
  eds : Rd w 3 (.slice a L.length c) L.length (flat encEd L)
  ln : gn < w.heap.size
  ld : gd < w.heap.size
theorem NetP.rd {w : World} {b n : Nat} {L : List Ed} {F : List Nat} (h : NetP b n L w F) : ∃ gn gd a c, NetRd w b n L gn gd a c := by
  obtain ⟨gn, gd, a, c, RS, hl, h⟩ := h
  have hz : (rowsP RS (nearL n L)).length = n := by unfold rowsP nearL; simp [hl]
  obtain ⟨_, ⟨k0, _⟩, _⟩ := parts_at h 0 _ rfl
  obtain ⟨_, ⟨k1, _⟩, _⟩ := parts_at h 1 _ rfl
  obtain ⟨_, ⟨k2, _⟩, _⟩ := parts_at h 2 _ rfl
  obtain ⟨_, ⟨k3, _⟩, _⟩ := parts_at h (n + 3) (Row 146 3 L.length (.slice a L.length c) (flat encEd L)) (by
    unfold endsL
    simp only [List.getElem?_cons_succ]
    rw [List.getElem?_append_right (by omega), hz]
    simp)
  refine ⟨gn, gd, a, c, k0, fun v hv => ?_, fun v hv => ?_, Rd.own k3, k1.lt, k2.lt⟩
  · have hr : (rowsP RS (nearL n L))[v]? = some (Row 3 1 (near n L v).length (RS[v]'(by omega)) (i64s (near n L v))) := by
      unfold rowsP nearL
      rw [List.getElem?_zipWith, List.getElem?_eq_getElem (show v < RS.length by omega), List.getElem?_map, List.getElem?_range hv]
      rfl
    obtain ⟨_, ⟨k4, _⟩, _⟩ := parts_at h (v + 3) (Row 3 1 (near n L v).length (RS[v]'(by omega)) (i64s (near n L v))) (by
      unfold endsL
      simp only [List.getElem?_cons_succ]
      rw [List.getElem?_append_left (by omega)]
      exact hr)
    obtain ⟨ar, cr, hs⟩ : ∃ ar cr, RS[v]'(by omega) = .slice ar (near n L v).length cr := by
      rcases k4.2 with ⟨he, h0⟩ | ⟨g, cap, cur, he, _⟩
      · exact ⟨none, 0, by rw [he, h0]⟩
      · exact ⟨_, _, he⟩
    rw [hs] at k4
    exact ⟨ar, cr, k1.cell v (by rw [List.getElem?_eq_getElem (show v < RS.length by omega), hs]), Reads.own k4⟩
  · exact k2.cell v (by simp [i64s, degL, hv])
theorem n_net {w : World} {b n : Nat} {L : List Ed} {F : List Nat} (h : NetP b n L w F) : Calls Tryz.prog 72 #[.pointer (some ⟨b, 0, none⟩)] w fun e w' => e = .returned (.int .i64 n) ∧ w' = w := by
  obtain ⟨gn, gd, a, c, hr⟩ := h.rd
  have b0 := hr.hb.cell 0 rfl
  have bl := hr.hb.lt
  clear h hr
  go_enter Tryz.func72, Tryz.ntmps72
  go_wp2
  go_ret
  exact ⟨rfl, rfl⟩
theorem m_net {w : World} {b n : Nat} {L : List Ed} {F : List Nat} (h : NetP b n L w F) : Calls Tryz.prog 73 #[.pointer (some ⟨b, 0, none⟩)] w fun e w' => e = .returned (.int .i64 L.length) ∧ w' = w := by
  obtain ⟨gn, gd, a, c, hr⟩ := h.rd
  have b0 := hr.hb.cell 2 rfl
  have bl := hr.hb.lt
  clear h hr
  go_enter Tryz.func73, Tryz.ntmps73
  go_wp2
  go_ret
  exact ⟨rfl, rfl⟩
theorem total_net {w : World} {b n : Nat} {L : List Ed} {F : List Nat} (h : NetP b n L w F) : Calls Tryz.prog 95 #[.pointer (some ⟨b, 0, none⟩)] w fun e w' => e = .returned (.int .i64 (total L)) ∧ w' = w := by
  obtain ⟨gn, gd, a, c, hr⟩ := h.rd
  have b0 := hr.hb.cell 3 rfl
  have bl := hr.hb.lt
  clear h hr
  go_enter Tryz.func95, Tryz.ntmps95
  go_wp2
  go_ret
  exact ⟨rfl, rfl⟩
theorem made_below {w w' : World} {e size n : Nat} {v' : Value} {xs : List Value} (ho : w'.ownsRow w.heap.size e size v' n xs) (hb : Below w.heap.size w w') : ∃ a c, v' = .slice a n c ∧ Made w w' e size a n c xs := by
  obtain ⟨a, c, rfl⟩ : ∃ a c, v' = .slice a n c := by
    rcases ho.2 with ⟨rfl, h0⟩ | ⟨g, cap, cur, rfl, _⟩
    · exact ⟨none, 0, by rw [h0]⟩
    · exact ⟨_, _, rfl⟩
  exact ⟨a, c, rfl, World.ownsRow.mono ho (Nat.zero_le _), Mod.ofBelow hb, fun b hb' => (ho.lt b hb').1⟩
/-- slices.Clone of numbers. -/
theorem cloneI_any {w : World} {a : Option Addr} {c : Nat} {xs : List Int} (h : Reads w 1 (.slice a xs.length c) xs.length (i64s xs)) (hl : xs.length ≤ 4294967296) :
    Calls Tryz.prog 149 #[.slice a xs.length c] w fun e w' => ∃ a' c', e = .returned (.slice a' xs.length c') ∧ Made w w' 3 1 a' xs.length c' (i64s xs) := by
  rcases h.cases with ⟨he, hn, hx⟩ | ⟨g, o, c', he, _, _⟩
  · injection he with e1 e2 e3
    subst e1
    subst e3
    have hx := List.eq_nil_of_length_eq_zero hn
    subst hx
    refine Calls.mono (show Calls Tryz.prog 149 _ _ _ from AnyE.slices_Clone_nil Sh.cloneI 0 0 w) ?_
    rintro e w' ⟨rfl, rfl⟩
    exact ⟨none, 0, rfl, World.ownsRow_nil _ _ _ _, Mod.refl _ _, by simp [Value.ownBlock]⟩
  · injection he with e1 e2 e3
    subst e1
    subst e3
    have hcon := AnyE.slices_Clone Sh.cloneI _ (.int .i64 0) 1 8 (Option.map_eq_some_iff.1 infoInt).choose_spec.1 (by have := (Option.map_eq_some_iff.1 infoInt).choose_spec.2; exact (Prod.mk.inj this).1) (by have := (Option.map_eq_some_iff.1 infoInt).choose_spec.2; exact (Prod.mk.inj (Prod.mk.inj this).2).1) (by have := (Option.map_eq_some_iff.1 infoInt).choose_spec.2; exact (Prod.mk.inj (Prod.mk.inj this).2).2) rfl (by omega) Tryz.sizeOf3 g o xs.length c (i64s xs) w (by rw [i64s_len]; omega) (by simp only [maxLen]; omega) (by omega) (fun j u hu => h.cell j hu) (i64s_one xs)
    refine Calls.mono (show Calls Tryz.prog 149 _ _ _ from hcon) ?_
    rintro e w' ⟨v', rfl, ho, hne, hb⟩
    obtain ⟨a', c', rfl, hm⟩ := made_below ho hb
    exact ⟨a', c', rfl, hm⟩
set_option maxHeartbeats 1000000 in
theorem near_net {w : World} {b n : Nat} {L : List Ed} {F : List Nat} (h : NetP b n L w F) (hG : GOk n L) (v : Int) : Calls Tryz.prog 141 #[.pointer (some ⟨b, 0, none⟩), .int .i64 v] w fun e w' => ∃ a c, e = .returned (.slice a (near n L v).length c) ∧ Made w w' 3 1 a (near n L v).length c (i64s (near n L v)) := by
  have hn := Lib.hid (n_net h)
  have hle := hG.le
  obtain ⟨gn, gd, a, c, hr⟩ := h.rd
  have b0 := hr.hb.cell 0 rfl
  have bl := hr.hb.lt
  have hd := hr.row v.toNat
  have ld := hr.ln
  have hout : Hid ((v < 0 ∨ n ≤ v) → near n L v = []) := Lib.hid (fun hh => by
    unfold near upto
    rw [List.filter_eq_nil_iff]
    intro u _
    rw [weight_out hG.ends (by omega)]
    simp)
  have hfit : Hid ((near n L v).length ≤ 4096) := Lib.hid (by
    unfold near upto
    refine Nat.le_trans (List.length_filter_le _ _) ?_
    simpa using hG.le)
  clear h hr hG
  have hnil : Hid (∀ w : World, (v < 0 ∨ n ≤ v) → ∃ a c, Ending.returned (.slice none 0 0) = .returned (.slice a (near n L v).length c) ∧ Made w w 3 1 a (near n L v).length c (i64s (near n L v))) := Lib.hid (fun w hh => by
    rw [hout.out hh]
    exact ⟨none, 0, rfl, World.ownsRow_nil _ _ _ _, Mod.refl _ _, by simp [Value.ownBlock]⟩)
  by_cases h0 : v < 0
  · clear hd hout
    go_enter Tryz.func141, Tryz.ntmps141
    go_wp2_with fail
    go_ret
    exact hnil.out _ (.inl h0)
  by_cases h1 : (n : Int) ≤ v
  · clear hd hout
    go_enter Tryz.func141, Tryz.ntmps141
    go_wp2_with (go_at_call 72; refine hn.out.mono ?_; rintro e w1 ⟨rfl, rfl⟩)
    go_ret
    exact hnil.out _ (.inr h1)
  · have h2 : 0 ≤ v := by omega
    have h3 : v < n := by omega
    obtain ⟨ar, cr, hd1, hd2⟩ := hd (by omega)
    rw [show ((v.toNat : Nat) : Int) = v by omega] at hd1 hd2
    have hcl := Lib.hid (cloneI_any hd2 (by have := hfit.out; omega))
    clear hout h0 hd hd2 hnil
    generalize near n L v = nv at *
    go_enter Tryz.func141, Tryz.ntmps141
    go_wp2_with (first
      | (go_at_call 72; refine hn.out.mono ?_; rintro e w1 ⟨rfl, rfl⟩)
      | (go_at_call 149; refine hcl.out.mono ?_; rintro e w1 ⟨a', c', rfl, hm⟩; have hm' := Lib.hid hm; clear hm))
    go_ret
    exact ⟨a', c', rfl, hm'.out⟩
end Edge
end Go.Proofs.YtjpfmkfikidgkaaGreat
