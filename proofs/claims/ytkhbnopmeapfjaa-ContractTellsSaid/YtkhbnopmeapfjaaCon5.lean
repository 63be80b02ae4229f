/- The reference: whether a number is in a list; namings; two vertices put together. -/
import Derived.Test.YtkhbnopmeapfjaaCon4
set_option linter.unusedVariables false
set_option linter.unusedSimpArgs false
namespace Go.Proofs.Ytkhbnopmeapfjaa
open Go.RowKit
namespace Edge
set_option maxHeartbeats 1000000 in
theorem rin_any {name : List Int} {va : Value} {w : World} (h : Rd w 1 va name.length (i64s name)) (v : Int) :
    Calls Try.prog 97 #[va, .int .i64 v] w fun e w' => e = .returned (.bool (decide (v ∈ name))) ∧ w' = w := by
  obtain ⟨a, c, rfl⟩ := h.val
  have hle := h.le
  have h' := Lib.hid h
  have hyes := Lib.hid (fun (k : Nat) (hk : k < name.length) (e : name[k] = v) => show decide (v ∈ name) = true by rw [decide_eq_true_eq, ← e]; exact List.getElem_mem hk)
  have hno := Lib.hid (fun (hh : ∀ j (hj : j < name.length), name[j] ≠ v) => show decide (v ∈ name) = false by
    rw [decide_eq_false_iff_not]
    intro hm
    obtain ⟨j, hj, e⟩ := List.mem_iff_getElem.1 hm
    exact hh j hj e)
  obtain ⟨r, hr⟩ : ∃ r, decide (v ∈ name) = r := ⟨_, rfl⟩
  rw [hr] at hyes hno ⊢
  clear h hr
  go_enter Try.func97, Try.ntmps97
  go_wp2_with fail
  go_loopw [5] (fun i wr => ∃ k : Nat, k ≤ name.length ∧ i = .int .i64 k ∧ wr = w ∧ Hid (∀ j (hj : j < name.length), j < k → name[j] ≠ v)) (fun i _ => name.length - (intOf i).toNat)
  case atStart => exact ⟨0, Nat.zero_le _, rfl, rfl, Lib.hid (fun j _ hj => by omega)⟩
  case round =>
    obtain ⟨k, hk, rfl, hw, hal⟩ := hrel
    subst hw
    by_cases hlt : k < name.length
    · have hlt1 : (k : Int) < name.length := by omega
      obtain ⟨g, o, rfl, hgl, hcell⟩ := rd_cell h'.out hlt
      have q0 := hcell _ k (.int .i64 name[k]) (Mod.refl _ _) (i64s_get hlt)
      by_cases c1 : name[k] = v
      · have d1 : (name[k] == v) = true := by simpa using c1
        have hf := hyes.out k hlt c1
        have hf' := Lib.hid hf
        generalize name[k] = x at *
        clear hf c1 hcell
        go_wp2_with fail
        go_ret
        exact ⟨by rw [hf'.out]; rfl, rfl⟩
      · have d1 : (name[k] == v) = false := by simpa using c1
        have hal2 : Hid (∀ j (hj : j < name.length), j < k + 1 → name[j] ≠ v) := Lib.hid (fun j hj h2 => by
          rcases Nat.lt_or_ge j k with h3 | h3
          · exact hal.out j hj h3
          · have e : j = k := by omega
            subst e; exact c1)
        generalize name[k] = x at *
        clear hcell c1
        go_wp2_with fail
        go_roundw
        case rel => exact ⟨k + 1, by omega, by go_num, trivial, hal2⟩
        case measure => simp [intOf]; omega
    · have hf := hno.out (fun j hj => hal.out j hj (by omega))
      have hf' := Lib.hid hf
      clear hf
      go_wp2_with fail
      go_ret
      exact ⟨by rw [hf'.out]; rfl, rfl⟩
set_option maxRecDepth 100000 in
set_option maxHeartbeats 4000000 in
theorem rnaming_any (k : Int) {name : List Int} {va : Value} {w : World} (h : Rd w 1 va name.length (i64s name)) :
    Calls Try.prog 79 #[.int .i64 k, va] w (NamOut k name w) := by
  obtain ⟨a, c, rfl⟩ := h.val
  have hle := h.le
  have h' := Lib.hid h
  have hin := Lib.hid (fun v => rin_any h v)
  clear h
  by_cases h0 : k < 0
  · have hn : Hid (¬ isN k name) := Lib.hid (fun hh => by have := hh.1.1; omega)
    go_enter Try.func79, Try.ntmps79
    go_wp2_with fail
    go_ret
    exact ⟨⟨false, ⟨by simp, fun hh => absurd hh hn.out⟩, rfl, Mod.refl _ _⟩⟩
  by_cases h1 : 4096 < k
  · have hn : Hid (¬ isN k name) := Lib.hid (fun hh => by have := hh.1.2.1; omega)
    go_enter Try.func79, Try.ntmps79
    go_wp2_with fail
    go_ret
    exact ⟨⟨false, ⟨by simp, fun hh => absurd hh hn.out⟩, rfl, Mod.refl _ _⟩⟩
  by_cases h2 : 4096 < name.length
  · have hn : Hid (¬ isN k name) := Lib.hid (fun hh => by have := hh.1.2.2; omega)
    have h3 : (4096 : Int) < name.length := by omega
    go_enter Try.func79, Try.ntmps79
    go_wp2_with fail
    go_ret
    exact ⟨⟨false, ⟨by simp, fun hh => absurd hh hn.out⟩, rfl, Mod.refl _ _⟩⟩
  obtain ⟨K, rfl⟩ := Int.eq_ofNat_of_zero_le (show 0 ≤ k by omega)
  have hK : K ≤ 4096 := by omega
  have h3 : ¬ (4096 : Int) < name.length := by omega
  have hfin := Lib.hid (fun (h5 : ∀ x ∈ name, 0 ≤ x ∧ x < (K : Int)) (h6 : ∀ v : Nat, v < K → (v : Int) ∈ name) => show isN (K : Int) name from ⟨⟨by omega, by omega, by omega⟩, h5, fun v hv => h6 v (by omega)⟩)
  go_enter Try.func79, Try.ntmps79
  go_wp2_with fail
  go_loopw [5] (fun i wr => ∃ k : Nat, k ≤ name.length ∧ i = .int .i64 k ∧ wr = w ∧ Hid (∀ x ∈ name.take k, 0 ≤ x ∧ x < (K : Int))) (fun i _ => name.length - (intOf i).toNat)
  case atStart => exact ⟨0, Nat.zero_le _, rfl, rfl, Lib.hid (by simp)⟩
  case round =>
    obtain ⟨k, hk, rfl, hw, hal⟩ := hrel
    subst hw
    by_cases hlt : k < name.length
    · have hlt1 : (k : Int) < name.length := by omega
      obtain ⟨g, o, rfl, hgl, hcell⟩ := rd_cell h'.out hlt
      have q0 := hcell _ k (.int .i64 name[k]) (Mod.refl _ _) (i64s_get hlt)
      by_cases hin2 : 0 ≤ name[k] ∧ name[k] < (K : Int)
      · have hal2 : Hid (∀ y ∈ name.take (k + 1), 0 ≤ y ∧ y < (K : Int)) := Lib.hid (fun y hy => by
          rw [take_mem hlt] at hy
          rcases hy with hy | rfl
          · exact hal.out y hy
          · exact hin2)
        have d1 : ¬ name[k] < 0 := by omega
        have d2 : ¬ (K : Int) ≤ name[k] := by omega
        have d3 : decide ((K : Int) ≤ name[k]) = false := by simpa using d2
        have d4 : decide (name[k] < 0) = false := by simpa using d1
        generalize name[k] = x at *
        clear hcell hin2
        go_wp2_with fail
        go_roundw
        case rel => exact ⟨k + 1, by omega, by go_num, trivial, hal2⟩
        case measure => simp [intOf]; omega
      · have hno : Hid (¬ isN (K : Int) name) := Lib.hid (fun hh => hin2 (hh.2.1 _ (List.getElem_mem hlt)))
        rcases (show name[k] < 0 ∨ (¬ name[k] < 0 ∧ (K : Int) ≤ name[k]) by omega) with d1 | ⟨d1, d2⟩
        · generalize name[k] = x at *
          clear hcell hin2
          go_wp2_with fail
          go_ret
          exact ⟨⟨false, ⟨by simp, fun hh => absurd hh hno.out⟩, rfl, Mod.refl _ _⟩⟩
        · have d3 : decide ((K : Int) ≤ name[k]) = true := by simpa using d2
          have d4 : decide (name[k] < 0) = false := by simpa using d1
          generalize name[k] = x at *
          clear hcell hin2
          go_wp2_with fail
          go_ret
          exact ⟨⟨false, ⟨by simp, fun hh => absurd hh hno.out⟩, rfl, Mod.refl _ _⟩⟩
    · have hal2 : Hid (∀ x ∈ name, 0 ≤ x ∧ x < (K : Int)) := Lib.hid (by
        have h5 := hal.out
        rw [List.take_of_length_le (by omega)] at h5
        exact h5)
      go_wp2_with fail
      clear hlt hal
      go_loopw [6] (fun i wr2 => ∃ v : Nat, v ≤ K ∧ i = .int .i64 v ∧ wr2 = wr ∧ Hid (∀ j : Nat, j < v → (j : Int) ∈ name)) (fun i _ => K - (intOf i).toNat)
      case atStart => exact ⟨0, Nat.zero_le _, rfl, rfl, Lib.hid (fun j hj => by omega)⟩
      case round =>
        obtain ⟨v, hv, rfl, hw, hall⟩ := hrel
        subst hw
        by_cases hlv : v < K
        · have hlv1 : (v : Int) < K := by omega
          have ci := Lib.hid (hin.out (v : Int))
          by_cases c1 : (v : Int) ∈ name
          · have hall2 : Hid (∀ j : Nat, j < v + 1 → (j : Int) ∈ name) := Lib.hid (fun j hj => by
              rcases Nat.lt_or_ge j v with h5 | h5
              · exact hall.out j h5
              · have e : j = v := by omega
                subst e; exact c1)
            rw [show decide ((v : Int) ∈ name) = true by simpa using c1] at ci
            clear c1
            go_wp2_with fail
            refine ci.out.mono ?_
            rintro e w6 ⟨rfl, hw6⟩
            subst w6
            try dsimp only
            go_wp2_with fail
            go_roundw
            case rel => exact ⟨v + 1, by omega, by go_num, trivial, hall2⟩
            case measure => simp [intOf]; omega
          · have hno : Hid (¬ isN (K : Int) name) := Lib.hid (fun hh => c1 (hh.2.2 v (by omega)))
            rw [show decide ((v : Int) ∈ name) = false by simpa using c1] at ci
            clear c1
            go_wp2_with fail
            refine ci.out.mono ?_
            rintro e w6 ⟨rfl, hw6⟩
            subst w6
            try dsimp only
            go_wp2_with fail
            go_ret
            exact ⟨⟨false, ⟨by simp, fun hh => absurd hh hno.out⟩, rfl, Mod.refl _ _⟩⟩
        · have hyes : Hid (isN (K : Int) name) := Lib.hid (hfin.out hal2.out (fun j hj => hall.out j (by omega)))
          go_wp2_with fail
          go_ret
          exact ⟨⟨true, ⟨fun _ => hyes.out, fun _ => rfl⟩, rfl, Mod.refl _ _⟩⟩
theorem rcheck25_any (n : Nat) (s t : Int) (w : World) : Calls Try.prog 48 #[.int .i64 n, .int .i64 s, .int .i64 t] w fun e w' => e = .returned (.int .i64 (pairE n s t)) ∧ w' = w := by
  by_cases h1 : s < 0
  · have he : pairE n s t = 4 := by unfold pairE; rw [if_pos (by omega)]
    rw [he]
    clear he
    go_enter Try.func48, Try.ntmps48
    go_wp2_with fail
    go_ret
    exact ⟨rfl, rfl⟩
  by_cases h3 : (n : Int) ≤ s
  · have he : pairE n s t = 4 := by unfold pairE; rw [if_pos (by omega)]
    rw [he]
    have d1 : decide ((n : Int) ≤ s) = true := by simpa using h3
    clear he
    go_enter Try.func48, Try.ntmps48
    go_wp2_with fail
    go_ret
    exact ⟨rfl, rfl⟩
  by_cases h2 : t < 0
  · have he : pairE n s t = 4 := by unfold pairE; rw [if_pos (by omega)]
    rw [he]
    have d1 : decide ((n : Int) ≤ s) = false := by simpa using h3
    clear he
    go_enter Try.func48, Try.ntmps48
    go_wp2_with fail
    go_ret
    exact ⟨rfl, rfl⟩
  by_cases h4 : (n : Int) ≤ t
  · have he : pairE n s t = 4 := by unfold pairE; rw [if_pos (by omega)]
    rw [he]
    have d1 : decide ((n : Int) ≤ s) = false := by simpa using h3
    have d2 : decide ((n : Int) ≤ t) = true := by simpa using h4
    clear he
    go_enter Try.func48, Try.ntmps48
    go_wp2_with fail
    go_ret
    exact ⟨rfl, rfl⟩
  have d1 : decide ((n : Int) ≤ s) = false := by simpa using h3
  have d2 : decide ((n : Int) ≤ t) = false := by simpa using h4
  by_cases h5 : s = t
  · have he : pairE n s t = 6 := by unfold pairE; rw [if_neg (by omega), if_pos h5]
    rw [he]
    have d3 : (s == t) = true := by simpa using h5
    clear he
    go_enter Try.func48, Try.ntmps48
    go_wp2_with fail
    go_ret
    exact ⟨rfl, rfl⟩
  have he : pairE n s t = 0 := by unfold pairE; rw [if_neg (by omega), if_neg h5]
  rw [he]
  have d3 : (s == t) = false := by simpa using h5
  clear he
  go_enter Try.func48, Try.ntmps48
  go_wp2_with fail
  go_ret
  exact ⟨rfl, rfl⟩
theorem nilRow9 {w0 w : World} {L : List Part} (h : Sep w0 w L) (e size : Nat) : Sep w0 w (Row e size 0 (.slice none 0 0) [] :: L) :=
  h.add (P := Row e size 0 (.slice none 0 0) []) (Mod.refl _ _) (F := []) ⟨World.ownsRow_nil w 0 _ size, by simp [Value.ownBlock]⟩ (by simp)
def pairA (u v : Int) (k : Nat) : List Int := (List.range k).map (pairV u v)
theorem pairA_len (u v : Int) (k : Nat) : (pairA u v k).length = k := by simp [pairA]
theorem pairA_snoc (u v : Int) (k : Nat) : i64s (pairA u v (k + 1)) = i64s (pairA u v k) ++ [.int .i64 (pairV u v k)] := by
  unfold pairA
  rw [List.range_succ, List.map_append, i64s_append]
  rfl
theorem pairA_all (n : Nat) (u v : Int) : pairA u v n = pairN n u v := rfl
set_option maxRecDepth 100000 in
set_option maxHeartbeats 8000000 in
theorem rpair_any (n : Nat) (hn4 : n ≤ 4096) (u v : Int) (hu : 0 ≤ u ∧ u < n) (hv : 0 ≤ v ∧ v < n) (h5 : u ≠ v) (w : World) :
    Calls Try.prog 49 #[.int .i64 n, .int .i64 u, .int .i64 v] w fun e w' => ∃ a c, e = .returned (.slice a n c) ∧ Made w w' 3 1 a n c (i64s (pairN n u v)) := by
  have hst0 : Hid (Sep w w [Row 3 1 0 (.slice none 0 0) (i64s (pairA u v 0))]) := Lib.hid (nilRow9 (Sep.empty w) 3 1)
  have hsn := Lib.hid (pairA_snoc u v)
  rcases (show u < v ∨ v < u by omega) with hlt0 | hlt0
  · have hval : Hid (∀ x : Nat, pairV u v x = if (x : Int) = v then u else if v < (x : Int) then (x : Int) - 1 else (x : Int)) := Lib.hid (fun x => by unfold pairV; rw [show max u v = v by omega, show min u v = u by omega])
    have tm1 : min u v = u := by omega
    have tm2 : max u v = v := by omega
    clear h5
    go_enter Try.func49, Try.ntmps49
    go_wp2_with fail
    go_loopw [7, 8] (fun s7 i wr => ∃ (k : Nat) (a : Option Addr) (c : Nat), k ≤ n ∧ i = .int .i64 k ∧ s7 = .slice a k c ∧ Hid (Sep w wr [Row 3 1 k (.slice a k c) (i64s (pairA u v k))])) (fun _ i _ => n - (intOf i).toNat)
    case atStart => exact ⟨0, none, 0, Nat.zero_le _, rfl, rfl, hst0⟩
    case round =>
      clear hst0
      obtain ⟨k, a, c, hk, rfl, rfl, hS⟩ := hrel
      by_cases hlt : k < n
      · have hlt1 : (k : Int) < n := by omega
        have hv2 := hval.out k
        have hst := hsn.out k
        rw [hv2] at hst
        by_cases c1 : (k : Int) = v
        · have d1 : ((k : Int) == v) = true := by simpa using c1
          rw [if_pos c1] at hst
          have hst' := Lib.hid hst
          clear hst c1 hv2
          go_wp2_with (at_builtin; refine app_own rfl (.tmp 24) (.tmp 28) 29 3 _ 1 8 rfl Try.underlying29 infoInt0 rfl (by omega) (by omega) (.slice a k c) k 1 (i64s (pairA u v k)) [.int .i64 u] rfl rfl (by simp [World.setCell]) rfl (by simp [Value.oneCell']) (hS.out.rowAt 0 rfl) (by omega) ?_; intro a1 c1 w6 ho6 hm6 hb6; rw [← hst'.out] at ho6; have hS6 := Lib.hid (hS.out.growAt 0 rfl ho6 hm6 hb6); clear ho6 hm6 hb6)
          go_roundw
          case rel => exact ⟨k + 1, a1, c1, by omega, by go_num, rfl, hS6⟩
          case measure => simp [intOf]; omega
        · have d1 : ((k : Int) == v) = false := by simpa using c1
          rw [if_neg c1] at hst
          by_cases c2 : v < (k : Int)
          · rw [if_pos c2] at hst
            have hst' := Lib.hid hst
            have hk0 : (0 : Int) < (k : Int) := by omega
            have d2 : decide (v < (k : Int)) = true := by simpa using c2
            clear hst c1 hv2
            go_wp2_with (at_builtin; refine app_own rfl (.tmp 36) (.tmp 39) 29 3 _ 1 8 rfl Try.underlying29 infoInt0 rfl (by omega) (by omega) (.slice a k c) k 1 (i64s (pairA u v k)) [.int .i64 ((k : Int) - 1)] rfl rfl (by simp [World.setCell]) rfl (by simp [Value.oneCell']) (hS.out.rowAt 0 rfl) (by omega) ?_; intro a1 c1 w6 ho6 hm6 hb6; rw [← hst'.out] at ho6; have hS6 := Lib.hid (hS.out.growAt 0 rfl ho6 hm6 hb6); clear ho6 hm6 hb6)
            go_roundw
            case rel => exact ⟨k + 1, a1, c1, by omega, by go_num, rfl, hS6⟩
            case measure => simp [intOf]; omega
          · rw [if_neg c2] at hst
            have hst' := Lib.hid hst
            have d2 : decide (v < (k : Int)) = false := by simpa using c2
            clear hst c1 hv2
            go_wp2_with (at_builtin; refine app_own rfl (.tmp 14) (.tmp 16) 29 3 _ 1 8 rfl Try.underlying29 infoInt0 rfl (by omega) (by omega) (.slice a k c) k 1 (i64s (pairA u v k)) [.int .i64 (k : Int)] rfl rfl (by simp [World.setCell]) rfl (by simp [Value.oneCell']) (hS.out.rowAt 0 rfl) (by omega) ?_; intro a1 c1 w6 ho6 hm6 hb6; rw [← hst'.out] at ho6; have hS6 := Lib.hid (hS.out.growAt 0 rfl ho6 hm6 hb6); clear ho6 hm6 hb6)
            go_roundw
            case rel => exact ⟨k + 1, a1, c1, by omega, by go_num, rfl, hS6⟩
            case measure => simp [intOf]; omega
      · have hkn : k = n := by omega
        have hfin := Lib.hid (show Made w wr 3 1 a n c (i64s (pairN n u v)) by
          have h6 := hS.out.toMade
          rw [hkn, pairA_all] at h6
          exact h6)
        have hkn' := Lib.hid hkn
        clear hS hk hkn
        go_wp2_with fail
        go_ret
        exact ⟨a, c, by rw [hkn'.out]; rfl, hfin.out⟩
  · have hval : Hid (∀ x : Nat, pairV u v x = if (x : Int) = u then v else if u < (x : Int) then (x : Int) - 1 else (x : Int)) := Lib.hid (fun x => by unfold pairV; rw [show max u v = u by omega, show min u v = v by omega])
    have tm1 : min u v = v := by omega
    have tm2 : max u v = u := by omega
    clear h5
    go_enter Try.func49, Try.ntmps49
    go_wp2_with fail
    go_loopw [7, 8] (fun s7 i wr => ∃ (k : Nat) (a : Option Addr) (c : Nat), k ≤ n ∧ i = .int .i64 k ∧ s7 = .slice a k c ∧ Hid (Sep w wr [Row 3 1 k (.slice a k c) (i64s (pairA u v k))])) (fun _ i _ => n - (intOf i).toNat)
    case atStart => exact ⟨0, none, 0, Nat.zero_le _, rfl, rfl, hst0⟩
    case round =>
      clear hst0
      obtain ⟨k, a, c, hk, rfl, rfl, hS⟩ := hrel
      by_cases hlt : k < n
      · have hlt1 : (k : Int) < n := by omega
        have hv2 := hval.out k
        have hst := hsn.out k
        rw [hv2] at hst
        by_cases c1 : (k : Int) = u
        · have d1 : ((k : Int) == u) = true := by simpa using c1
          rw [if_pos c1] at hst
          have hst' := Lib.hid hst
          clear hst c1 hv2
          go_wp2_with (at_builtin; refine app_own rfl (.tmp 24) (.tmp 28) 29 3 _ 1 8 rfl Try.underlying29 infoInt0 rfl (by omega) (by omega) (.slice a k c) k 1 (i64s (pairA u v k)) [.int .i64 v] rfl rfl (by simp [World.setCell]) rfl (by simp [Value.oneCell']) (hS.out.rowAt 0 rfl) (by omega) ?_; intro a1 c1 w6 ho6 hm6 hb6; rw [← hst'.out] at ho6; have hS6 := Lib.hid (hS.out.growAt 0 rfl ho6 hm6 hb6); clear ho6 hm6 hb6)
          go_roundw
          case rel => exact ⟨k + 1, a1, c1, by omega, by go_num, rfl, hS6⟩
          case measure => simp [intOf]; omega
        · have d1 : ((k : Int) == u) = false := by simpa using c1
          rw [if_neg c1] at hst
          by_cases c2 : u < (k : Int)
          · rw [if_pos c2] at hst
            have hst' := Lib.hid hst
            have hk0 : (0 : Int) < (k : Int) := by omega
            have d2 : decide (u < (k : Int)) = true := by simpa using c2
            clear hst c1 hv2
            go_wp2_with (at_builtin; refine app_own rfl (.tmp 36) (.tmp 39) 29 3 _ 1 8 rfl Try.underlying29 infoInt0 rfl (by omega) (by omega) (.slice a k c) k 1 (i64s (pairA u v k)) [.int .i64 ((k : Int) - 1)] rfl rfl (by simp [World.setCell]) rfl (by simp [Value.oneCell']) (hS.out.rowAt 0 rfl) (by omega) ?_; intro a1 c1 w6 ho6 hm6 hb6; rw [← hst'.out] at ho6; have hS6 := Lib.hid (hS.out.growAt 0 rfl ho6 hm6 hb6); clear ho6 hm6 hb6)
            go_roundw
            case rel => exact ⟨k + 1, a1, c1, by omega, by go_num, rfl, hS6⟩
            case measure => simp [intOf]; omega
          · rw [if_neg c2] at hst
            have hst' := Lib.hid hst
            have d2 : decide (u < (k : Int)) = false := by simpa using c2
            clear hst c1 hv2
            go_wp2_with (at_builtin; refine app_own rfl (.tmp 14) (.tmp 16) 29 3 _ 1 8 rfl Try.underlying29 infoInt0 rfl (by omega) (by omega) (.slice a k c) k 1 (i64s (pairA u v k)) [.int .i64 (k : Int)] rfl rfl (by simp [World.setCell]) rfl (by simp [Value.oneCell']) (hS.out.rowAt 0 rfl) (by omega) ?_; intro a1 c1 w6 ho6 hm6 hb6; rw [← hst'.out] at ho6; have hS6 := Lib.hid (hS.out.growAt 0 rfl ho6 hm6 hb6); clear ho6 hm6 hb6)
            go_roundw
            case rel => exact ⟨k + 1, a1, c1, by omega, by go_num, rfl, hS6⟩
            case measure => simp [intOf]; omega
      · have hkn : k = n := by omega
        have hfin := Lib.hid (show Made w wr 3 1 a n c (i64s (pairN n u v)) by
          have h6 := hS.out.toMade
          rw [hkn, pairA_all] at h6
          exact h6)
        have hkn' := Lib.hid hkn
        clear hS hk hkn
        go_wp2_with fail
        go_ret
        exact ⟨a, c, by rw [hkn'.out]; rfl, hfin.out⟩
end Edge
end Go.Proofs.Ytkhbnopmeapfjaa
