/- Mark: what both readers do with bytes that must stand next; bytes.Equal, bytes.HasPrefix, a string as bytes. -/
import Derived.Test.YtmkbinbggiocaaaRefRead6
import Derived.Laws.IdiomStrings
set_option linter.unusedVariables false
set_option linter.unusedSimpArgs false
namespace Go.Proofs.Ytmkbinbggiocaaa
open Go.RowKit
namespace Code
/-- A string's bytes. -/
def bytesI (s : ByteArray) : List Int := s.data.toList.map fun b => ((b.toNat : Nat) : Int)
theorem bytesI_len (s : ByteArray) : (bytesI s).length = s.size := by rw [bytesI, List.length_map, Array.length_toList]; rfl
theorem bytesI_byte (s : ByteArray) : ∀ x ∈ bytesI s, 0 ≤ x ∧ x < 256 := by
  intro x hx
  simp only [bytesI, List.mem_map] at hx
  obtain ⟨b, _, rfl⟩ := hx
  have := b.toNat_lt
  omega
theorem str_bytesI (s : ByteArray) : strOfNums (bytesI s) = s := by
  apply ByteArray.ext
  apply Array.ext'
  simp only [strOfNums, bytesI, List.map_map]
  rw [List.toList_toArray]
  conv => rhs; rw [← List.map_id s.data.toList]
  apply List.map_congr_left
  intro b _
  simp
/-- Do these bytes stand ahead? -/
def isPre (xs ys : List Int) : Bool := decide (ys = xs.take ys.length)
theorem str_beq {a b : List Int} (ha : ∀ x ∈ a, 0 ≤ x ∧ x < 256) (hb : ∀ x ∈ b, 0 ≤ x ∧ x < 256) : ((strOfNums a).toList == (strOfNums b).toList) = decide (a = b) := by
  by_cases h : a = b
  · subst h; simp
  · rw [decide_eq_false h]
    simp only [beq_eq_false_iff_ne]
    exact fun e => h (str_inj ha hb e)
set_option maxHeartbeats 1000000 in
theorem equal_any {w : World} {va vb : Value} {xs ys : List Int} (ha : Rd w 1 va xs.length (u8s xs)) (hb : Rd w 1 vb ys.length (u8s ys)) (hx : ∀ x ∈ xs, 0 ≤ x ∧ x < 256) (hy : ∀ x ∈ ys, 0 ≤ x ∧ x < 256) :
    Calls Try.prog 183 #[va, vb] w fun e w' => e = .returned (.bool (decide (xs = ys))) ∧ w = w' := by
  have h1 := conv_rd ha
  have h2 := conv_rd hb
  have h3 := Lib.hid (str_beq hx hy)
  obtain ⟨a1, c1, rfl⟩ := ha.val
  obtain ⟨a2, c2, rfl⟩ := hb.val
  clear ha hb hx hy
  generalize strOfNums xs = sx at *
  generalize strOfNums ys = sy at *
  go_enter Try.func183, Try.ntmps183
  go_wp2_with fail
  go_ret
  exact ⟨by rw [← h3.out]; rfl, rfl⟩
set_option maxHeartbeats 1000000 in
theorem hasP_any {w : World} {va vb : Value} {xs ys : List Int} (ha : Rd w 1 va xs.length (u8s xs)) (hb : Rd w 1 vb ys.length (u8s ys)) (hx : ∀ x ∈ xs, 0 ≤ x ∧ x < 256) (hy : ∀ x ∈ ys, 0 ≤ x ∧ x < 256) :
    Calls Try.prog 157 #[va, vb] w fun e w' => e = .returned (.bool (isPre xs ys)) ∧ w = w' := by
  obtain ⟨a1, c1, rfl⟩ := ha.val
  obtain ⟨a2, c2, rfl⟩ := hb.val
  by_cases hle : ys.length ≤ xs.length
  · have t1 : decide ((ys.length : Int) ≤ (xs.length : Int)) = true := by simp; omega
    have t1' : decide (ys.length ≤ xs.length) = true := by simpa using hle
    have hmc : ys.length ≤ c1 := by
      rcases ha.2 with ⟨he, hz⟩ | ⟨ad, c', he, hz, _⟩
      · omega
      · simp only [Value.slice.injEq, true_and] at he
        obtain ⟨_, rfl⟩ := he
        omega
    have hsl := slice_to (P := Try.prog) (size := 1) 45 (by kernel_rfl) (fun w => by kernel_rfl) a1 xs.length c1 ys.length hmc
    have hr := Rd_to ha hle
    have htl : (xs.take ys.length).length = ys.length := by rw [List.length_take]; omega
    have he := equal_any (xs := xs.take ys.length) (ys := ys) (by rw [htl]; exact hr) hb (fun x h => hx x (List.mem_of_mem_take h)) hy
    have he' := Lib.hid he
    have hp : isPre xs ys = decide (xs.take ys.length = ys) := by
      unfold isPre
      by_cases h : ys = xs.take ys.length
      · rw [decide_eq_true h, decide_eq_true h.symm]
      · rw [decide_eq_false h, decide_eq_false (fun e => h e.symm)]
    rw [hp]
    clear ha hb hx hy hr htl he hp
    generalize decide (xs.take ys.length = ys) = q at *
    go_enter Try.func157, Try.ntmps157
    go_wp2_with fail
    refine he'.out.mono ?_
    rintro e w1 ⟨rfl, rfl⟩
    dsimp only
    go_wp2_with fail
    go_ret
    exact ⟨rfl, rfl⟩
  · have t1 : decide ((ys.length : Int) ≤ (xs.length : Int)) = false := by simp; omega
    have t1' : decide (ys.length ≤ xs.length) = false := by simpa using hle
    have hp : isPre xs ys = false := by
      unfold isPre
      rw [decide_eq_false]
      intro h
      have := congrArg List.length h
      rw [List.length_take] at this
      omega
    rw [hp]
    clear ha hb hx hy hp hle
    go_enter Try.func157, Try.ntmps157
    go_wp2_with fail
    go_ret
    exact ⟨rfl, rfl⟩
/-- A string as bytes. -/
theorem conv_str (s : ByteArray) (hs : s.size ≤ 9223372036854775807) (w : World) : ∃ c w', (convert 9 45 (.string s)).run Try.prog w = .ok (.slice (some ⟨w.heap.size, 0, none⟩) s.size c) w' ∧ Mod [] w w' ∧ Rd w' 1 (.slice (some ⟨w.heap.size, 0, none⟩) s.size c) (bytesI s).length (u8s (bytesI s)) := by
  refine ⟨_, _, run_bytes_of_string w 9 45 5 s Try.underlying9 Try.underlying45 Try.underlying5, ((Mod.refl [] w).drew).alloc _, ?_⟩
  refine ⟨by rw [u8s_length]; omega, .inr ⟨_, _, by rw [bytesI_len], by rw [bytesI_len]; exact grownCap_ge _ _ _ _, grownCap_le_maxLen _ _ _ _ (by simp only [maxLen]; omega), fun j u hu => ?_⟩⟩
  have hj : j < s.size := by
    rcases Nat.lt_or_ge j s.size with h' | h'
    · exact h'
    · rw [List.getElem?_eq_none (by rw [u8s_length, bytesI_len]; omega)] at hu; simp at hu
  rw [Addr.add_lit, Nat.zero_add]
  unfold World.cell?
  rw [show (w.drew.alloc (.cells (bytesRow s (grownCap w s.size 0 5)) 5 ((bytesRow s (grownCap w s.size 0 5)).size, (bytesRow s (grownCap w s.size 0 5)).size + 1))).heap[(⟨w.heap.size, j, none⟩ : Addr).block]? = _ from heap_alloc_new w.drew _]
  rw [← hu]
  have hd : j < s.data.size := hj
  simp [bytesRow, u8s, bytesI, Array.getElem?_append]
  rw [if_pos hj]
  rfl
def cvC (s : ByteArray) (w : World) : Nat := grownCap w s.size 0 5
def cvW (s : ByteArray) (w : World) : World := w.drew.alloc (.cells (bytesRow s (grownCap w s.size 0 5)) 5 ((bytesRow s (grownCap w s.size 0 5)).size, (bytesRow s (grownCap w s.size 0 5)).size + 1))
theorem conv_run (s : ByteArray) (w : World) : (convert 9 45 (.string s)).run Try.prog w = .ok (.slice (some ⟨w.heap.size, 0, none⟩) s.size (cvC s w)) (cvW s w) :=
  run_bytes_of_string w 9 45 5 s Try.underlying9 Try.underlying45 Try.underlying5
theorem cvW_mod (s : ByteArray) (w : World) : Mod [] w (cvW s w) := ((Mod.refl [] w).drew).alloc _
theorem cvW_rd (s : ByteArray) (hs : s.size ≤ 9223372036854775807) (w : World) : Rd (cvW s w) 1 (.slice (some ⟨w.heap.size, 0, none⟩) s.size (cvC s w)) (bytesI s).length (u8s (bytesI s)) := by
  obtain ⟨c, w', h1, h2, h3⟩ := conv_str s hs w
  rw [conv_run] at h1
  simp only [Result.ok.injEq, Value.slice.injEq, true_and] at h1
  obtain ⟨rfl, rfl⟩ := h1
  exact h3
theorem cvW_size (s : ByteArray) (w : World) : (cvW s w).heap.size = w.heap.size + 1 := by simp [cvW]
end Code
end Go.Proofs.Ytmkbinbggiocaaa
