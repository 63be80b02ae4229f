/- The reader's first methods: New, left, take, nat, Nat, Int, At, End. -/
import Derived.Test.YtmkbinbggiocaaaReadLaw
import Derived.Test.YtmkbinbggiocaaaInts
set_option linter.unusedVariables false
set_option linter.unusedSimpArgs false
namespace Go.Proofs.Ytmkbinbggiocaaa
open Go.RowKit
namespace Code
/-- A reader at block r: its bytes, where it is, whether it has stopped. -/
structure RAt (w : World) (r : Nat) (a : Option Addr) (c : Nat) (bs : List Int) (k : Nat) (stop : Bool) : Prop where
  has : Has w r [.slice a bs.length c, .int .i64 k, .bool stop] 160
  own : w.ownsRow 0 5 1 (.slice a bs.length c) bs.length (u8s bs)
  ne : ∀ b, (Value.slice a bs.length c).ownBlock = some b → b ≠ r
  le : k ≤ bs.length
  big : bs.length ≤ 1000000
theorem RAt.still {w w' : World} {r c k : Nat} {a : Option Addr} {bs : List Int} {stop : Bool} (h : RAt w r a c bs k stop) (m : Mod [] w w') : RAt w' r a c bs k stop :=
  ⟨h.has.keep m (by simp), own_keep h.own m (by simp), h.ne, h.le, h.big⟩
theorem RAt.moved {w w' : World} {r c k : Nat} {a : Option Addr} {bs : List Int} {stop : Bool} (h : RAt w r a c bs k stop) (m : Mod [r] w w') {k' : Nat} {s' : Bool} (hh : Has w' r [.slice a bs.length c, .int .i64 k', .bool s'] 160) (hk : k' ≤ bs.length) : RAt w' r a c bs k' s' :=
  ⟨hh, own_keep h.own m (fun g hg hm => h.ne g hg (by simpa using hm)), h.ne, hk, h.big⟩
set_option maxHeartbeats 1000000 in
theorem new_any {w : World} {vb : Value} {bs : List Int} (hb : Rd w 1 vb bs.length (u8s bs)) (hlen : bs.length ≤ 1000000) :
    Calls Try.prog 42 #[vb] w fun e w' => ∃ r a c, e = .returned (.pointer (some ⟨r, 0, none⟩)) ∧ RAt w' r a c bs 0 false ∧ Mod [] w w' ∧ w.heap.size ≤ r ∧ ∀ b, (Value.slice a bs.length c).ownBlock = some b → w.heap.size ≤ b := by
  have hc := Lib.hid (clone_any hb hlen)
  clear hb
  go_enter Try.func42, Try.ntmps42
  go_wp2_with fail
  refine hc.out.mono ?_
  rintro e w1 ⟨a1, c1, rfl, hm⟩
  dsimp only
  have hfin : ∀ o, o = Obj.cells #[.slice a1 bs.length c1, .int .i64 0, .bool false] 160 → RAt (w1.alloc o) w1.heap.size a1 c1 bs 0 false ∧ Mod [] w (w1.alloc o) := by
    rintro o rfl
    refine ⟨⟨Has.new _ _ _, own_keep hm.own ((Mod.refl [] w1).alloc _) (by simp), fun b hb => ?_, Nat.zero_le _, hlen⟩, hm.mod.alloc _⟩
    exact Nat.ne_of_lt (own_lt hm.own hb)
  have hfin' := Lib.hid hfin
  have hsz := Lib.hid hm.mod.size
  have hnw := Lib.hid hm.new
  clear hfin hm
  go_wp2_with fail
  go_ret
  obtain ⟨h1, h2⟩ := hfin'.out _ rfl
  exact ⟨_, _, _, rfl, h1, h2, hsz.out, hnw.out⟩
/-- What is left. -/
def LeftOut (xs : List Int) (w : World) (e : Ending) (w' : World) : Prop :=
  ∃ v, e = .returned v ∧ Drawn w w' ∧ Rd w' 1 v xs.length (u8s xs)
theorem slice_nil {P : Program} {size : Nat} (t : TypeId) (ht : P.underlying t = some (.slice (P.elem t))) (hs : ∀ w : World, (sizeOf (P.elem t)).run P w = .ok size w) : ∀ w : World, (Instr.slice t (.slice none 0 0) (some (.int .i64 0)) none none).run P w = .ok (.slice none 0 0) w := by
  intro w
  have := run_slice_l w t none 0 0 ht .i64 0 (by omega) (by omega)
  rw [this, hs]
  simp [Result.andThen, sliced]
set_option maxHeartbeats 1000000 in
theorem left_any {w : World} {r c k : Nat} {a : Option Addr} {bs : List Int} {stop : Bool} (h : RAt w r a c bs k stop) :
    Calls Try.prog 103 #[.pointer (some ⟨r, 0, none⟩)] w (LeftOut (bs.drop k) w) := by
  have c0 := h.has.cell 0 rfl
  have c1 := h.has.cell 1 rfl
  have hlen : (bs.drop k).length = bs.length - k := List.length_drop
  have hlen' := Lib.hid hlen
  clear hlen
  have hs : ∀ w : World, (sizeOf (Try.prog.elem 45)).run Try.prog w = .ok 1 w := fun w => by kernel_rfl
  rcases h.own.2 with ⟨hv, h0⟩ | ⟨g, c', cur, hv, _, _, hnc, hcm, _⟩
  · simp only [Value.slice.injEq] at hv
    obtain ⟨rfl, _, rfl⟩ := hv
    have hbs : bs = [] := List.eq_nil_of_length_eq_zero h0
    subst hbs
    have hk : k = 0 := by have := h.le; simpa using this
    subst hk
    have hsl := slice_nil (P := Try.prog) 45 (by kernel_rfl) hs
    clear h hs h0
    go_enter Try.func103, Try.ntmps103
    go_wp2_with fail
    go_quiet (fail)
    go_wp2_with fail
    go_ret
    exact ⟨_, rfl, ⟨_, rfl⟩, Rd.nil _ _⟩
  · simp only [Value.slice.injEq, true_and] at hv
    obtain ⟨rfl, rfl⟩ := hv
    have hk := h.le
    have hsl := slice_from (P := Try.prog) 45 5 1 (by kernel_rfl) hs g 0 bs.length c k k rfl hk
    have hcells : ∀ w' : World, Mod [] w w' → Rd w' 1 (.slice (some ⟨g, offAt c k 0 1, none⟩) (bs.length - k) (c - k)) (bs.drop k).length (u8s (bs.drop k)) := fun w' m => by
      refine ⟨by simp [u8s], .inr ⟨_, _, by rw [hlen'.out], by rw [hlen'.out]; omega, by omega, fun j u hu => ?_⟩⟩
      have hj : j < bs.length - k := by
        rcases Nat.lt_or_ge j (bs.length - k) with h' | h'
        · exact h'
        · rw [List.getElem?_eq_none (by rw [u8s_length, hlen'.out]; exact h')] at hu; simp at hu
      have hu' : (u8s bs)[k + j]? = some u := by rw [← hu, u8s, u8s, List.map_drop, List.getElem?_drop]
      have hc := (Rd.own (own_keep h.own m (by simp))).cellAt (k + j) hu'
      rw [Addr.add_lit]
      rw [← hc]
      unfold offAt
      rw [if_neg (by omega)]
      simp [Nat.add_assoc, Nat.add_comm]
    have hcells' := Lib.hid hcells
    generalize hoff : offAt c k 0 1 = off at *
    clear hcells h hs hoff
    go_enter Try.func103, Try.ntmps103
    go_wp2_with fail
    go_quiet (fail)
    go_wp2_with fail
    go_ret
    exact ⟨_, rfl, ⟨_, rfl⟩, hcells'.out _ ((Mod.refl [] w).drewN _)⟩
set_option maxHeartbeats 1000000 in
theorem take_no {w : World} {r c k : Nat} {a : Option Addr} {bs : List Int} {stop : Bool} (h : RAt w r a c bs k stop) (size : Int) (ok : Bool) (hs : stop = true ∨ ok = false) :
    Calls Try.prog 102 #[.pointer (some ⟨r, 0, none⟩), .int .i64 size, .bool ok] w fun e w' => e = .returned (.bool false) ∧ RAt w' r a c bs k true ∧ Mod [r] w w' := by
  have c2 := h.has.cell 2 rfl
  have fr := h.has.free 2
  have hfin : ∀ w1, w1 = w.setCell ⟨r, 2, none⟩ (.bool true) → RAt w1 r a c bs k true ∧ Mod [r] w w1 := by
    rintro w1 rfl
    have m : Mod [r] w (w.setCell ⟨r, 2, none⟩ (.bool true)) := (Mod.refl [r] w).setCell _ _ (by simp)
    exact ⟨h.moved m (h.has.set 2 (.bool true)) h.le, m⟩
  have hfin' := Lib.hid hfin
  have hlt := h.has.lt
  clear hfin h
  cases stop with
  | true =>
    clear hs
    go_enter Try.func102, Try.ntmps102
    go_wp2_with fail
    go_ret
    exact ⟨rfl, hfin'.out _ rfl⟩
  | false =>
    have ho : ok = false := by simpa using hs
    subst ho
    clear hs
    go_enter Try.func102, Try.ntmps102
    go_wp2_with fail
    go_ret
    exact ⟨rfl, hfin'.out _ rfl⟩
set_option maxHeartbeats 1000000 in
theorem take_yes {w : World} {r c k : Nat} {a : Option Addr} {bs : List Int} (h : RAt w r a c bs k false) (size : Nat) (hs : k + size ≤ bs.length) :
    Calls Try.prog 102 #[.pointer (some ⟨r, 0, none⟩), .int .i64 size, .bool true] w fun e w' => e = .returned (.bool true) ∧ RAt w' r a c bs (k + size) false ∧ Mod [r] w w' := by
  have c2 := h.has.cell 2 rfl
  have c1 := h.has.cell 1 rfl
  have fr := h.has.free 1
  have hb := h.big
  have hfin : ∀ w1, w1 = w.setCell ⟨r, 1, none⟩ (.int .i64 ((k : Int) + size)) → RAt w1 r a c bs (k + size) false ∧ Mod [r] w w1 := by
    rintro w1 rfl
    have m : Mod [r] w (w.setCell ⟨r, 1, none⟩ (.int .i64 ((k : Int) + size))) := (Mod.refl [r] w).setCell _ _ (by simp)
    have h2 := h.has.set 1 (.int .i64 ((k : Int) + size))
    exact ⟨h.moved m (by simpa using h2) hs, m⟩
  have hfin' := Lib.hid hfin
  have hlt := h.has.lt
  clear hfin h
  go_enter Try.func102, Try.ntmps102
  go_wp2_with fail
  go_ret
  exact ⟨rfl, hfin'.out _ (by go_num)⟩
theorem and127 (x : Int) (h0 : 0 ≤ x) (h1 : x < 256) : bits .and .u8 x 127 = (((x % 128).toNat : Nat) : Int) := by
  have h : ∀ y : Fin 256, bits .and .u8 ((y.val : Nat) : Int) 127 = ((y.val % 128 : Nat) : Int) := by decide +kernel
  have h2 := h ⟨x.toNat, by omega⟩
  simp only at h2
  rw [show ((x.toNat : Nat) : Int) = x from by omega] at h2
  rw [h2]; omega
/-- What stands next. -/
def NatOut (xs : List Int) (w : World) (e : Ending) (w' : World) : Prop :=
  ∃ (n sz : Nat) (ok : Bool), e = .returned (.tuple #[.int .u64 n, .int .i64 sz, .bool ok]) ∧ Drawn w w' ∧ natP 0 xs = if ok then some (n, sz) else none
set_option maxHeartbeats 4000000 in
theorem nat_walk {w : World} {r c k : Nat} {a : Option Addr} {bs : List Int} {stop : Bool} (h : RAt w r a c bs k stop) (hbb : ∀ x ∈ bs, 0 ≤ x ∧ x < 256) :
    Calls Try.prog 101 #[.pointer (some ⟨r, 0, none⟩)] w (NatOut (bs.drop k) w) := by
  have hleft := left_any h
  have hbig := h.big
  have hxb : Hid (∀ x ∈ bs.drop k, 0 ≤ x ∧ x < 256) := fun x hx => hbb x (List.mem_of_mem_drop hx)
  have hxl : (bs.drop k).length ≤ 1000000 := by rw [List.length_drop]; omega
  clear h hbb hbig
  generalize bs.drop k = xs at *
  have hleft := Lib.hid hleft
  go_enter Try.func101, Try.ntmps101
  go_wp2_with fail
  refine hleft.out.mono ?_
  rintro e w1 ⟨v, rfl, hd, hrd⟩
  dsimp only
  clear hleft
  obtain ⟨al, cl, rfl⟩ := hrd.val
  have hrd' := Lib.hid hrd
  have hd' := Lib.hid hd
  clear hrd hd
  go_wp2_with fail
  go_loopw [5, 12] (fun acc i wr => ∃ (j m : Nat), j ≤ xs.length ∧ i = .int .i64 j ∧ acc = .int .u64 m ∧ wr = w1 ∧ m < 128 ^ j ∧ j ≤ 10 ∧ natP 0 xs = (natP j (xs.drop j)).map fun p => (m + 128 ^ j * p.1, p.2 + j)) (fun acc i _ => xs.length - (intOf i).toNat)
  case atStart => exact ⟨0, 0, Nat.zero_le _, rfl, rfl, rfl, by simp, by omega, by simp⟩
  case round =>
    obtain ⟨j, m, hj, rfl, rfl, rfl, hm, hj10, hP⟩ := hrel
    by_cases hlt : j < xs.length
    · obtain ⟨x, hx⟩ : ∃ x, xs[j]? = some x := ⟨xs[j], List.getElem?_eq_getElem hlt⟩
      have hx01 := hxb.out x (List.mem_of_getElem? hx)
      obtain ⟨g, o, rfl, _, _, hcell⟩ := hrd'.out.at (by rw [u8s_length]; omega)
      have hc := hcell j _ (u8s_get hx)
      have hdr : xs.drop j = x :: xs.drop (j + 1) := by
        rw [List.drop_eq_getElem_cons hlt]; congr 1; rw [List.getElem?_eq_getElem hlt] at hx; simpa using hx
      rw [hdr] at hP
      rw [natP_cons] at hP
      have hP' := Lib.hid hP
      have hm' := Lib.hid hm
      clear hP hm hcell hdr hx
      obtain ⟨p, hp⟩ : ∃ p : Nat, p = (x % 128).toNat := ⟨_, rfl⟩
      have hand : bits .and .u8 x 127 = (p : Int) := by rw [hp]; exact and127 x hx01.1 hx01.2
      have hwr : IntKind.u64.wrap (p : Int) = (p : Int) := by rw [IntKind.wrap_u64]; omega
      have hp' := Lib.hid hp
      have hx0 := hx01.1
      have hx1 := hx01.2
      clear hp hx01
      by_cases h10 : 9 < j
      · have t1 : decide (9 < (j : Int)) = true := by simp; omega
        have t1' : decide (9 < j) = true := by simp; omega
        go_wp2_with fail
        refine bodyPost_ret (v := .tuple #[.int .u64 0, .int .i64 0, .bool false]) (by simp [results, Try.results101, go_sem]) rfl ?_
        have := hP'.out
        rw [if_pos (.inl h10)] at this
        exact ⟨0, 0, false, rfl, hd'.out, by simpa using this⟩
      · have t1 : decide (9 < (j : Int)) = false := by simp; omega
        have t1' : decide (9 < j) = false := by simp; omega
        have hpx : p < 128 := by rw [hp'.out]; omega
        have hpx2 : x % 128 = (p : Int) := by rw [hp'.out]; omega
        by_cases h9 : j = 9
        · have t2 : decide (j = 9) = true := by simpa using h9
          have t3 : ((j : Int) == 9) = true := by simp; omega
          have h9' := Lib.hid h9
          clear h9
          by_cases hp1 : 1 < p
          · have t4 : decide (1 < (p : Int)) = true := by simp; omega
            have t4' : decide (1 < p) = true := by simpa using hp1
            go_wp2_with fail
            refine bodyPost_ret (v := .tuple #[.int .u64 0, .int .i64 0, .bool false]) (by simp [results, Try.results101, go_sem]) rfl ?_
            have h := hP'.out
            rw [if_pos (.inr ⟨h9'.out, by omega⟩)] at h
            exact ⟨0, 0, false, rfl, hd'.out, by simpa using h⟩
          · have t4 : decide (1 < (p : Int)) = false := by simp; omega
            have t4' : decide (1 < p) = false := by simpa using hp1
            have hb128 : m + p * 128 ^ j < 18446744073709551616 := by
              have h1 := hm'.out
              rw [h9'.out] at h1 ⊢
              have h3 : p * 128 ^ 9 ≤ 1 * 128 ^ 9 := Nat.mul_le_mul_right _ (by omega)
              omega
            have hno : Hid (¬ (9 < j ∨ (j = 9 ∧ 1 < x % 128))) := by rintro (h | ⟨h, h'⟩) <;> omega
            have hor := or_shift m p j hm'.out (by omega) (by omega)
            clear hb128
            by_cases h128 : x < 128
            · have t5 : decide (x < 128) = true := by simpa using h128
              by_cases hz : j = 0
              · have t6 : ((j : Int) == 0) = true := by simp; omega
                have hz' := Lib.hid hz
                clear hz
                go_wp2_with fail
                refine bodyPost_ret (v := .tuple #[.int .u64 ((m : Int) + (p : Int) * 128 ^ j), .int .i64 ((j : Int) + 1), .bool (true)]) (by simp [results, Try.results101, go_sem]) rfl ?_
                refine ⟨m + p * 128 ^ j, j + 1, true, by simp, hd'.out, ?_⟩
                have h := hP'.out
                rw [if_neg hno.out, if_pos h128] at h
                rw [h]
                have ep : x.toNat = p := by rw [hp'.out]; omega
                rw [if_pos (.inl hz'.out), ep, Nat.mul_comm p, Nat.add_comm j]
                rfl
              · have t6 : ((j : Int) == 0) = false := by simp; omega
                go_wp2_with fail
                refine bodyPost_ret (v := .tuple #[.int .u64 ((m : Int) + (p : Int) * 128 ^ j), .int .i64 ((j : Int) + 1), .bool (decide (0 < x))]) (by simp [results, Try.results101, go_sem]) rfl ?_
                refine ⟨m + p * 128 ^ j, j + 1, decide (0 < x), by simp, hd'.out, ?_⟩
                have h := hP'.out
                rw [if_neg hno.out, if_pos h128] at h
                rw [h]
                have ep : x.toNat = p := by rw [hp'.out]; omega
                by_cases hx00 : 0 < x
                · rw [if_pos (.inr hx00), decide_eq_true hx00, ep, Nat.mul_comm p, Nat.add_comm j]
                  rfl
                · rw [if_neg (by omega), decide_eq_false hx00]
                  rfl
            · have t5 : decide (x < 128) = false := by simpa using h128
              go_wp2_with fail
              go_roundw
              case rel =>
                refine ⟨j + 1, m + p * 128 ^ j, by omega, by go_num, by simp, by simp, ?_, by omega, ?_⟩
                · have h1 := hm'.out
                  have h2 : p < 128 := by rw [hp'.out]; omega
                  have h3 : p * 128 ^ j ≤ 127 * 128 ^ j := Nat.mul_le_mul_right _ (by omega)
                  rw [Nat.pow_succ]; omega
                · have h := hP'.out
                  rw [if_neg hno.out, if_neg h128] at h
                  rw [h, Option.map_map]
                  congr 1
                  funext q
                  simp only [Function.comp, ← hp'.out, Nat.pow_succ, Prod.mk.injEq]
                  refine ⟨?_, by omega⟩
                  rw [Nat.mul_add, ← Nat.mul_assoc, Nat.mul_comm (128 ^ j) p, Nat.add_assoc]
              case measure => simp [intOf]; omega
        · have t2 : decide (j = 9) = false := by simpa using h9
          have t3 : ((j : Int) == 9) = false := by simp; omega
          have hb128 : m + p * 128 ^ j < 18446744073709551616 := by
            have h1 := hm'.out
            have h3 : p * 128 ^ j ≤ 127 * 128 ^ j := Nat.mul_le_mul_right _ (by omega)
            have h4 : 128 ^ j ≤ 128 ^ 8 := Nat.pow_le_pow_right (by omega) (by omega)
            omega
          have hno : Hid (¬ (9 < j ∨ (j = 9 ∧ 1 < x % 128))) := by rintro (h | ⟨h, h'⟩) <;> omega
          have hor := or_shift m p j hm'.out (by omega) (by omega)
          clear hb128
          by_cases h128 : x < 128
          · have t5 : decide (x < 128) = true := by simpa using h128
            by_cases hz : j = 0
            · have t6 : ((j : Int) == 0) = true := by simp; omega
              have hz' := Lib.hid hz
              clear hz
              go_wp2_with fail
              refine bodyPost_ret (v := .tuple #[.int .u64 ((m : Int) + (p : Int) * 128 ^ j), .int .i64 ((j : Int) + 1), .bool (true)]) (by simp [results, Try.results101, go_sem]) rfl ?_
              refine ⟨m + p * 128 ^ j, j + 1, true, by simp, hd'.out, ?_⟩
              have h := hP'.out
              rw [if_neg hno.out, if_pos h128] at h
              rw [h]
              have ep : x.toNat = p := by rw [hp'.out]; omega
              rw [if_pos (.inl hz'.out), ep, Nat.mul_comm p, Nat.add_comm j]
              rfl
            · have t6 : ((j : Int) == 0) = false := by simp; omega
              go_wp2_with fail
              refine bodyPost_ret (v := .tuple #[.int .u64 ((m : Int) + (p : Int) * 128 ^ j), .int .i64 ((j : Int) + 1), .bool (decide (0 < x))]) (by simp [results, Try.results101, go_sem]) rfl ?_
              refine ⟨m + p * 128 ^ j, j + 1, decide (0 < x), by simp, hd'.out, ?_⟩
              have h := hP'.out
              rw [if_neg hno.out, if_pos h128] at h
              rw [h]
              have ep : x.toNat = p := by rw [hp'.out]; omega
              by_cases hx00 : 0 < x
              · rw [if_pos (.inr hx00), decide_eq_true hx00, ep, Nat.mul_comm p, Nat.add_comm j]
                rfl
              · rw [if_neg (by omega), decide_eq_false hx00]
                rfl
          · have t5 : decide (x < 128) = false := by simpa using h128
            go_wp2_with fail
            go_roundw
            case rel =>
              refine ⟨j + 1, m + p * 128 ^ j, by omega, by go_num, by simp, by simp, ?_, by omega, ?_⟩
              · have h1 := hm'.out
                have h2 : p < 128 := by rw [hp'.out]; omega
                have h3 : p * 128 ^ j ≤ 127 * 128 ^ j := Nat.mul_le_mul_right _ (by omega)
                rw [Nat.pow_succ]; omega
              · have h := hP'.out
                rw [if_neg hno.out, if_neg h128] at h
                rw [h, Option.map_map]
                congr 1
                funext q
                simp only [Function.comp, ← hp'.out, Nat.pow_succ, Prod.mk.injEq]
                refine ⟨?_, by omega⟩
                rw [Nat.mul_add, ← Nat.mul_assoc, Nat.mul_comm (128 ^ j) p, Nat.add_assoc]
            case measure => simp [intOf]; omega
    · have hje : j = xs.length := by omega
      subst hje
      rw [List.drop_length] at hP
      simp only [natP, Option.map_none] at hP
      have hP' := Lib.hid hP
      clear hP hm
      go_wp2_with fail
      refine bodyPost_ret (v := .tuple #[.int .u64 0, .int .i64 0, .bool false]) (by simp [results, Try.results101, go_sem]) rfl ?_
      exact ⟨0, 0, false, rfl, hd'.out, by simpa using hP'.out⟩
end Code
end Go.Proofs.Ytmkbinbggiocaaa
