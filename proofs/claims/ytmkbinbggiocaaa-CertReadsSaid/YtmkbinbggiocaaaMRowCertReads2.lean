/- The numbers that are given: both arenas tell the same ones. Whether two slices hold the same numbers. The reader's first methods: New, left, take, nat, Nat, Int, At, End. The reader: Nat, Int, At, End. math/bits.TrailingZeros8, and the walk of a set's bytes. Regions that draw their order and hold calls: operations that yield the same in every later world are taken first, stage by stage; a call comes up alone. The reader: Count. Lists of numbers as bytes: code.list, Nats, Ints; the reference's Nat, Sign, Nats, Ints. The reference's numbers as bytes: Nat, Sign, Nats, Ints. A row that make lays. -/
import Derived.OrdersHeld
import Derived.Deep.Quiet
import Derived.BigQuiet
import Derived.Deep.RegionHeld3
import Derived.Laws.MakeOwn
import Derived.Test.YtmkbinbggiocaaaMRowCertReads1
import Derived.Test.YtmkbinbggiocaaaMRowCertReads0
set_option linter.unusedVariables false
set_option linter.unusedSimpArgs false
namespace Go.Proofs.Ytmkbinbggiocaaa
open Go.RowKit Arena
namespace ArI
def liveTo {E : Type} (A : Ar E) (k : Nat) : List Nat := (List.range k).filter fun i => (A.cells[i]?).join.isSome
def live {E : Type} (A : Ar E) : List Nat := liveTo A A.cells.length
theorem liveTo_len {E : Type} (A : Ar E) (k : Nat) : (liveTo A k).length ≤ k := by
  have := List.length_filter_le (fun i => (A.cells[i]?).join.isSome) (List.range k)
  simpa [liveTo] using this
theorem liveTo_yes {E : Type} {A : Ar E} {k : Nat} {x : E} (h : A.cells[k]? = some (some x)) : liveTo A (k + 1) = liveTo A k ++ [k] := by
  simp [liveTo, List.range_succ, List.filter_append, h]
theorem liveTo_no {E : Type} {A : Ar E} {k : Nat} (h : A.cells[k]? = some none) : liveTo A (k + 1) = liveTo A k := by
  simp [liveTo, List.range_succ, List.filter_append, h]
set_option maxHeartbeats 400000 in
theorem live_nil (w : World) :
    Calls Try.prog 30 #[.pointer none] w fun e w' => e = .returned (.slice none 0 0) ∧ w = w' := by
  go_enter Try.func30, Try.ntmps30
  go_wp2
  go_ret
  exact ⟨rfl, rfl⟩
set_option maxHeartbeats 1000000 in
theorem live_at {w : World} {ba : Nat} {A : Ar Int} {F : List Nat} (H : At w ba A F) :
    Calls Try.prog 30 #[.pointer (some ⟨ba, 0, none⟩)] w (RowOut 3 1 (live A).length (Ref11.nats (live A)) w) := by
  obtain ⟨sv, C, f, hfit, hb, hrow, hne, hF⟩ := H.out
  have hlen := hfit.len
  have hc := count_le hfit
  obtain ⟨a, c, hsv⟩ : ∃ a c, sv = .slice a C.length c := by
    rcases row_cases hrow with ⟨rfl, rfl⟩ | ⟨g, cap, rfl⟩
    · exact ⟨none, 0, rfl⟩
    · exact ⟨_, _, rfl⟩
  subst hsv
  have hb1 := hb.cell 1 rfl
  have hl := hb.lt
  have hCl : C.length ≤ 1048576 := by omega
  have K : Hid (∀ wr, Mod [] w wr → wr.cell? ⟨ba, 1, none⟩ = some (.slice a C.length c)) := fun wr m => (hb.keep m (by simp)).cell 1 rfl
  have hlen' := Lib.hid hlen
  clear hb hc hne hF H hlen
  go_enter Try.func30, Try.ntmps30
  go_wp2
  go_loopw [3, 12] (fun v i wr => ∃ (k : Nat) (av : Option Addr) (cv : Nat), k ≤ C.length ∧ i = .int .i64 k ∧ v = .slice av (liveTo A k).length cv ∧ wr.ownsRow 0 3 1 (.slice av (liveTo A k).length cv) (liveTo A k).length (Ref11.nats (liveTo A k)) ∧ Mod [] w wr ∧ ∀ b, (Value.slice av (liveTo A k).length cv).ownBlock = some b → w.heap.size ≤ b) (fun _ i _ => C.length - (intOf i).toNat)
  case atStart => exact ⟨0, none, 0, Nat.zero_le _, rfl, rfl, World.ownsRow_nil _ _ _ _, Mod.refl _ _, by simp [Value.ownBlock]⟩
  case round =>
    obtain ⟨k, av, cv, hk, rfl, rfl, hown, hm, hfr⟩ := hrel
    obtain ⟨wo, hwo⟩ : ∃ wo : World, wo = wr := ⟨_, rfl⟩
    have hb1r := K.out _ hm
    have hll := liveTo_len A k
    by_cases hlt : k < C.length
    · obtain ⟨g, cap, hsv⟩ : ∃ g cap, a = some ⟨g, 0, none⟩ ∧ c = cap := by
        rcases hrow.2 with ⟨h, _⟩ | ⟨g, cap, cur, h, _⟩
        · injection h with h1 h2; omega
        · injection h with h1 h2 h3; exact ⟨g, c, h1, rfl⟩
      obtain ⟨rfl, rfl⟩ := hsv
      have hrw := own_keep hrow hm (by simp)
      rcases hfit.given hlt with ⟨x, hx, hcx⟩ | ⟨hx, nx, hcx⟩
      · have hcell := (row_cell hrw _ hcx).2.1
        have hy := liveTo_yes hx
        have hfin : ∀ (a1 : Option Addr) (c1 : Nat) (w1 : World), w1.ownsRow 0 3 1 (.slice a1 ((liveTo A k).length + 1) c1) ((liveTo A k).length + 1) (Ref11.nats (liveTo A k) ++ [.int .i64 k]) →
            Mod (Value.slice av (liveTo A k).length cv).ownBlock.toList wr w1 → ((Value.slice a1 ((liveTo A k).length + 1) c1).ownBlock = (Value.slice av (liveTo A k).length cv).ownBlock ∨ ∃ b, (Value.slice a1 ((liveTo A k).length + 1) c1).ownBlock = some b ∧ wr.heap.size ≤ b) →
            ∃ (k' : Nat) (av' : Option Addr) (cv' : Nat), k' ≤ C.length ∧ Value.int .i64 ((k : Int) + 1) = .int .i64 k' ∧ Value.slice a1 ((liveTo A k).length + 1) c1 = .slice av' (liveTo A k').length cv' ∧ w1.ownsRow 0 3 1 (.slice av' (liveTo A k').length cv') (liveTo A k').length (Ref11.nats (liveTo A k')) ∧ Mod [] w w1 ∧ ∀ b, (Value.slice av' (liveTo A k').length cv').ownBlock = some b → w.heap.size ≤ b := by
          intro a1 c1 w1 h1 h2 h3
          refine ⟨k + 1, a1, c1, by omega, by simp, ?_⟩
          rw [hy, List.length_append, show [k].length = 1 from rfl]
          exact ⟨rfl, by simpa [Ref11.nats] using h1, hm.ge h2 hfr, ge_of_old _ hfr h3 hm.size⟩
        have hfin' := Lib.hid hfin
        have hmeas : C.length - (k + 1) < C.length - k := by omega
        clear hfin hy hx hcx hrw hwo hlen'
        go_wp2_with (at_builtin; refine app_own rfl (.tmp 23) (.tmp 25) 36 3 _ 1 8 rfl Try.underlying36 Ref11.infoI rfl (by omega) (by omega) (.slice av (liveTo A k).length cv) (liveTo A k).length 1 (Ref11.nats (liveTo A k)) [.int .i64 k] rfl rfl (by simp) rfl (by simp [Value.oneCell']) hown (by omega) ?_; intro aA cA wA hownA hmA hvA)
        go_roundw
        case rel => exact hfin'.out _ _ _ hownA hmA hvA
        case measure => simp [intOf]; omega
      · have hcell := (row_cell hrw _ hcx).2.1
        have hy := liveTo_no hx
        have hfin : ∃ (k' : Nat) (av' : Option Addr) (cv' : Nat), k' ≤ C.length ∧ Value.int .i64 ((k : Int) + 1) = .int .i64 k' ∧ Value.slice av (liveTo A k).length cv = .slice av' (liveTo A k').length cv' ∧ wr.ownsRow 0 3 1 (.slice av' (liveTo A k').length cv') (liveTo A k').length (Ref11.nats (liveTo A k')) ∧ Mod [] w wr ∧ ∀ b, (Value.slice av' (liveTo A k').length cv').ownBlock = some b → w.heap.size ≤ b := by
          refine ⟨k + 1, av, cv, by omega, by simp, ?_⟩
          rw [hy]
          exact ⟨rfl, hown, hm, hfr⟩
        have hfin' := Lib.hid hfin
        clear hfin hy hx hcx hrw hwo hlen'
        go_wp2_with fail
        go_roundw
        case rel => exact hfin'.out
        case measure => simp [intOf]; omega
    · have hk' : k = C.length := by omega
      have hfin : liveTo A k = live A := by unfold live; rw [← hlen'.out, hk']
      have hfin' := Lib.hid hfin
      clear hfin hwo hlen' hk'
      go_wp2_with fail
      go_ret
      rw [hfin'.out] at hown hfr ⊢
      exact ⟨av, cv, rfl, hown, hm, hfr⟩

end ArI
namespace Ref11
set_option maxHeartbeats 1000000 in
theorem live_at {w : World} {bx : Nat} {A : Ar Int} {F : List Nat} (H : At w bx A F) (ok : Ok A) :
    Calls Try.prog 26 #[.pointer (some ⟨bx, 0, none⟩)] w (RowOut 3 1 (ArI.live A).length (nats (ArI.live A)) w) := by
  obtain ⟨sx, si, sf, X, I, hs, hb, hx, hi, hf, _⟩ := H.out
  have e1 := hs.lx
  have e2 := hs.li
  have e3 := ok.fits
  have e4 := ok.most
  obtain ⟨ax, cx, rfl⟩ := slice_val hx
  have hXl : X.length ≤ 1048576 := by omega
  have K : Hid (∀ wr, Mod [] w wr → wr.cell? ⟨bx, 1, none⟩ = some (.slice ax X.length cx) ∧ wr.cell? ⟨bx, 2, none⟩ = some si) := fun wr m => ⟨(hb.keep m (by simp)).cell 1 rfl, (hb.keep m (by simp)).cell 2 rfl⟩
  have K2 : Hid (∀ k v, I[k]? = some v → ∀ wr, Mod [] w wr → ∃ gi cap, si = .slice (some ⟨gi, 0, none⟩) I.length cap ∧ wr.cell? ⟨gi, k, none⟩ = some (.bool v)) := by
    intro k v hv wr m
    have hk := (List.getElem?_eq_some_iff.1 hv).1
    obtain ⟨gi, cap, rfl⟩ := row_form hi (i := k) hk
    exact ⟨gi, cap, rfl, row_at (own_keep hi m (by simp)) _ (bools_get hv)⟩
  have hl := hb.lt
  have e1' := Lib.hid e1
  have e2' := Lib.hid e2
  clear hb hx hi hf H e1 e2
  go_enter Try.func26, Try.ntmps26
  go_wp2
  go_loopw [3, 4] (fun v i wr => ∃ (k : Nat) (av : Option Addr) (cv : Nat), k ≤ X.length ∧ i = .int .i64 k ∧ v = .slice av (ArI.liveTo A k).length cv ∧ wr.ownsRow 0 3 1 (.slice av (ArI.liveTo A k).length cv) (ArI.liveTo A k).length (nats (ArI.liveTo A k)) ∧ Mod [] w wr ∧ ∀ b, (Value.slice av (ArI.liveTo A k).length cv).ownBlock = some b → w.heap.size ≤ b) (fun _ i _ => X.length - (intOf i).toNat)
  case atStart => exact ⟨0, none, 0, Nat.zero_le _, rfl, rfl, World.ownsRow_nil _ _ _ _, Mod.refl _ _, by simp [Value.ownBlock]⟩
  case round =>
    obtain ⟨k, av, cv, hk, rfl, rfl, hown, hm, hfr⟩ := hrel
    obtain ⟨q1, q2⟩ := K.out _ hm
    have hll := ArI.liveTo_len A k
    by_cases hlt : k < X.length
    · have hkc : k < A.cells.length := by rw [← e1'.out]; exact hlt
      have hlI : (k : Int) < I.length := by have := e2'.out; omega
      have hlI2 : I.length ≤ 1048576 := by have := e2'.out; omega
      cases hx : A.cells[k] with
      | some x =>
        have hx' : A.cells[k]? = some (some x) := by rw [List.getElem?_eq_getElem hkc, hx]
        obtain ⟨gi, cap, rfl, hcell⟩ := K2.out k true (hs.live _ _ hx').2 _ hm
        have hy := ArI.liveTo_yes hx'
        have hfin : ∀ (a1 : Option Addr) (c1 : Nat) (w1 : World), w1.ownsRow 0 3 1 (.slice a1 ((ArI.liveTo A k).length + 1) c1) ((ArI.liveTo A k).length + 1) (nats (ArI.liveTo A k) ++ [.int .i64 k]) →
            Mod (Value.slice av (ArI.liveTo A k).length cv).ownBlock.toList wr w1 → ((Value.slice a1 ((ArI.liveTo A k).length + 1) c1).ownBlock = (Value.slice av (ArI.liveTo A k).length cv).ownBlock ∨ ∃ b, (Value.slice a1 ((ArI.liveTo A k).length + 1) c1).ownBlock = some b ∧ wr.heap.size ≤ b) →
            ∃ (k' : Nat) (av' : Option Addr) (cv' : Nat), k' ≤ X.length ∧ Value.int .i64 ((k : Int) + 1) = .int .i64 k' ∧ Value.slice a1 ((ArI.liveTo A k).length + 1) c1 = .slice av' (ArI.liveTo A k').length cv' ∧ w1.ownsRow 0 3 1 (.slice av' (ArI.liveTo A k').length cv') (ArI.liveTo A k').length (nats (ArI.liveTo A k')) ∧ Mod [] w w1 ∧ ∀ b, (Value.slice av' (ArI.liveTo A k').length cv').ownBlock = some b → w.heap.size ≤ b := by
          intro a1 c1 w1 h1 h2 h3
          refine ⟨k + 1, a1, c1, by omega, by simp, ?_⟩
          rw [hy, List.length_append, show [k].length = 1 from rfl]
          exact ⟨rfl, by simpa [nats] using h1, hm.ge h2 hfr, ge_of_old _ hfr h3 hm.size⟩
        have hfin' := Lib.hid hfin
        clear hfin hy hx hx' K2
        go_wp2_with (at_builtin; refine app_own rfl (.tmp 21) (.tmp 23) 36 3 _ 1 8 rfl Try.underlying36 Ref11.infoI rfl (by omega) (by omega) (.slice av (ArI.liveTo A k).length cv) (ArI.liveTo A k).length 1 (nats (ArI.liveTo A k)) [.int .i64 k] rfl rfl (by simp) rfl (by simp [Value.oneCell']) hown (by omega) ?_; intro aA cA wA hownA hmA hvA)
        go_roundw
        case rel => exact hfin'.out _ _ _ hownA hmA hvA
        case measure => simp [intOf]; omega
      | none =>
        have hx' : A.cells[k]? = some none := by rw [List.getElem?_eq_getElem hkc, hx]
        obtain ⟨gi, cap, rfl, hcell⟩ := K2.out k false (hs.dead _ hx') _ hm
        have hy := ArI.liveTo_no hx'
        have hfin : ∃ (k' : Nat) (av' : Option Addr) (cv' : Nat), k' ≤ X.length ∧ Value.int .i64 ((k : Int) + 1) = .int .i64 k' ∧ Value.slice av (ArI.liveTo A k).length cv = .slice av' (ArI.liveTo A k').length cv' ∧ wr.ownsRow 0 3 1 (.slice av' (ArI.liveTo A k').length cv') (ArI.liveTo A k').length (nats (ArI.liveTo A k')) ∧ Mod [] w wr ∧ ∀ b, (Value.slice av' (ArI.liveTo A k').length cv').ownBlock = some b → w.heap.size ≤ b := by
          refine ⟨k + 1, av, cv, by omega, by simp, ?_⟩
          rw [hy]
          exact ⟨rfl, hown, hm, hfr⟩
        have hfin' := Lib.hid hfin
        clear hfin hy hx hx' K2
        go_wp2_with fail
        go_roundw
        case rel => exact hfin'.out
        case measure => simp [intOf]; omega
    · have hk' : k = X.length := by omega
      have hfin : ArI.liveTo A k = ArI.live A := by unfold ArI.live; rw [← e1'.out, hk']
      have hfin' := Lib.hid hfin
      clear hfin hk' K2
      go_wp2_with fail
      go_ret
      rw [hfin'.out] at hown hfr ⊢
      exact ⟨av, cv, rfl, hown, hm, hfr⟩
end Ref11
end Go.Proofs.Ytmkbinbggiocaaa

set_option linter.unusedVariables false
set_option linter.unusedSimpArgs false
namespace Go.Proofs.Ytmkbinbggiocaaa
open Go.RowKit
/-- The same list of whole numbers? -/
def eqI (xs ys : List Int) : Bool := decide (xs = ys)
def intsV (l : List Int) : List Value := l.map fun x => .int .i64 x
/-- The world is the old one, but that some orders have been drawn. -/
def Drawn (w w' : World) : Prop := ∃ n, w' = w.drewN n
theorem Drawn.mod {w w' : World} (h : Drawn w w') : Mod [] w w' := by obtain ⟨n, rfl⟩ := h; exact (Mod.refl _ _).drewN n
def BoolOut (b : Bool) (w : World) (e : Ending) (w' : World) : Prop := e = .returned (.bool b) ∧ Drawn w w'

theorem reads_cell {w : World} {xs : List Int} {n k c : Nat} {a : Option Addr} (h : Reads w 1 (.slice a n c) n (intsV xs)) (hk : k < n) : ∃ g o, a = some ⟨g, o, none⟩ ∧ w.cell? ⟨g, o + k, none⟩ = some (.int .i64 (xs.getD k 0)) := by
  have hl : xs.length = n := by have := h.1; simpa [intsV] using this
  rcases h.cases with ⟨_, h0, _⟩ | ⟨g, o, c', he, _, _⟩
  · omega
  · injection he with he _ hc
    subst he
    refine ⟨g, o, rfl, h.cell k ?_⟩
    simp [intsV, List.getElem?_eq_getElem (show k < xs.length by omega), List.getD_eq_getElem?_getD]
theorem reads_slice {w : World} {size n : Nat} {xs : List Value} {v : Value} (h : Reads w size v n xs) : ∃ a c, v = .slice a n c := by
  rcases h.cases with ⟨rfl, rfl, _⟩ | ⟨g, o, c, rfl, _⟩
  · exact ⟨none, 0, rfl⟩
  · exact ⟨_, c, rfl⟩
theorem reads_len {w : World} {n : Nat} {xs : List Int} {v : Value} (h : Reads w 1 v n (intsV xs)) : xs.length = n ∧ n ≤ 9223372036854775807 := by
  have hl : xs.length = n := by have := h.1; simpa [intsV] using this
  refine ⟨hl, ?_⟩
  rcases h.cases with ⟨_, h0, _⟩ | ⟨g, o, c, rfl, h1, h2⟩
  · omega
  · simp only [maxLen] at h2; omega
set_option maxHeartbeats 1000000 in
theorem ints_any {w : World} {va vb : Value} {xs ys : List Int} (ha : Reads w 1 va xs.length (intsV xs)) (hb : Reads w 1 vb ys.length (intsV ys)) :
    Calls Try.prog 29 #[va, vb] w (BoolOut (eqI xs ys) w) := by
  obtain ⟨a1, c1, rfl⟩ := reads_slice ha
  obtain ⟨a2, c2, rfl⟩ := reads_slice hb
  obtain ⟨_, hm1⟩ := reads_len ha
  by_cases hlen : xs.length = ys.length
  · have hd : ((xs.length : Int) != (ys.length : Int)) = false := by simp [hlen]
    have hout : (∀ k, k < xs.length → xs.getD k 0 = ys.getD k 0) → eqI xs ys = true := by
      intro h
      unfold eqI
      rw [decide_eq_true_eq]
      refine List.ext_getElem hlen fun i h1 h2 => ?_
      have := h i h1
      simpa [List.getD_eq_getElem?_getD, h1, h2] using this
    have hno : ∀ k, k < xs.length → xs.getD k 0 ≠ ys.getD k 0 → eqI xs ys = false := by
      intro k _ hne
      unfold eqI
      rw [decide_eq_false_iff_not]
      intro e; subst e; exact hne rfl
    have hout' := Lib.hid hout
    have hno' := Lib.hid hno
    have hlen' := Lib.hid hlen
    clear hout hno hlen
    go_enter Try.func29, Try.ntmps29
    go_wp2
    go_loopw [5] (fun i wr => ∃ k n : Nat, k ≤ xs.length ∧ i = .int .i64 k ∧ wr = w.drewN n ∧ ∀ j, j < k → xs.getD j 0 = ys.getD j 0) (fun i _ => xs.length - (intOf i).toNat)
    case atStart => exact ⟨0, 0, Nat.zero_le _, rfl, rfl, fun j hj => by omega⟩
    case round =>
      obtain ⟨k, n, hk, rfl, rfl, heq⟩ := hrel
      by_cases hlt : k < xs.length
      · obtain ⟨g1, o1, rfl, hc1⟩ := reads_cell ha hlt
        obtain ⟨g2, o2, rfl, hc2⟩ := reads_cell (k := k) hb (by rw [← hlen'.out]; exact hlt)
        have hlt2 : (k : Int) < ys.length := by have := hlen'.out; omega
        have hlt1 : (k : Int) < xs.length := by omega
        by_cases hx : xs.getD k 0 = ys.getD k 0
        · have hfin : ∀ j, j < k + 1 → xs.getD j 0 = ys.getD j 0 := by
            intro j hj
            rcases Nat.lt_or_ge j k with h | h
            · exact heq j h
            · rw [show j = k from by omega]; exact hx
          have hx' : (xs.getD k 0 != ys.getD k 0) = false := by rw [hx]; simp
          have hfin' := Lib.hid hfin
          generalize xs.getD k 0 = u at *
          generalize ys.getD k 0 = v at *
          clear hfin heq hx
          go_wp2
          go_quiet (fail)
          go_wp2
          go_roundw
          case rel => exact ⟨k + 1, _, by omega, by go_num, rfl, hfin'.out⟩
          case measure => simp [intOf]; omega
        · have hf := hno'.out k hlt hx
          have hx' : (xs.getD k 0 != ys.getD k 0) = true := by simpa using hx
          have hf' := Lib.hid hf
          generalize xs.getD k 0 = u at *
          generalize ys.getD k 0 = v at *
          clear hf heq hx
          go_wp2
          go_quiet (fail)
          go_wp2
          go_ret
          exact ⟨by rw [hf'.out]; rfl, _, World.drewN_drewN _ _ _⟩
      · have hk' : k = xs.length := by omega
        have hf := hout'.out (by rw [← hk']; exact heq)
        have hf' := Lib.hid hf
        clear hf heq hk'
        go_wp2
        go_ret
        exact ⟨by rw [hf'.out]; rfl, _, rfl⟩
  · have hd : ((xs.length : Int) != (ys.length : Int)) = true := by simp; omega
    have hf : eqI xs ys = false := by
      unfold eqI
      rw [decide_eq_false_iff_not]
      intro e; subst e; exact hlen rfl
    have hf' := Lib.hid hf
    clear hf hlen
    go_enter Try.func29, Try.ntmps29
    go_wp2
    go_ret
    exact ⟨by rw [hf'.out]; rfl, 0, rfl⟩
end Go.Proofs.Ytmkbinbggiocaaa

set_option linter.unusedVariables false
set_option linter.unusedSimpArgs false
namespace Go.Proofs.Ytmkbinbggiocaaa
open Go.RowKit
namespace Code
/-- A reader at block r: its bytes, where it is, whether it has stopped. -/
structure RAt (w : World) (r : Nat) (a : Option Addr) (c : Nat) (bs : List Int) (k : Nat) (stop : Bool) : Prop where
  has : Has w r [.slice a bs.length c, .int .i64 k, .bool stop] 160
  own : w.ownsRow 0 5 1 (.slice a bs.length c) bs.length (u8s bs)
  ne : ∀ b, (Value.slice a bs.length c).ownBlock = some b → b ≠ r
  le : k ≤ bs.length
  big : bs.length ≤ 1000000
theorem RAt.still {w w' : World} {r c k : Nat} {a : Option Addr} {bs : List Int} {stop : Bool} (h : RAt w r a c bs k stop) (m : Mod [] w w') : RAt w' r a c bs k stop :=
  ⟨h.has.keep m (by simp), own_keep h.own m (by simp), h.ne, h.le, h.big⟩
theorem RAt.moved {w w' : World} {r c k : Nat} {a : Option Addr} {bs : List Int} {stop : Bool} (h : RAt w r a c bs k stop) (m : Mod [r] w w') {k' : Nat} {s' : Bool} (hh : Has w' r [.slice a bs.length c, .int .i64 k', .bool s'] 160) (hk : k' ≤ bs.length) : RAt w' r a c bs k' s' :=
  ⟨hh, own_keep h.own m (fun g hg hm => h.ne g hg (by simpa using hm)), h.ne, hk, h.big⟩
set_option maxHeartbeats 1000000 in
theorem new_any {w : World} {vb : Value} {bs : List Int} (hb : Rd w 1 vb bs.length (u8s bs)) (hlen : bs.length ≤ 1000000) :
    Calls Try.prog 42 #[vb] w fun e w' => ∃ r a c, e = .returned (.pointer (some ⟨r, 0, none⟩)) ∧ RAt w' r a c bs 0 false ∧ Mod [] w w' ∧ w.heap.size ≤ r ∧ ∀ b, (Value.slice a bs.length c).ownBlock = some b → w.heap.size ≤ b := by
  have hc := Lib.hid (clone_any hb hlen)
  clear hb
  go_enter Try.func42, Try.ntmps42
  go_wp2_with fail
  refine hc.out.mono ?_
  rintro e w1 ⟨a1, c1, rfl, hm⟩
  dsimp only
  have hfin : ∀ o, o = Obj.cells #[.slice a1 bs.length c1, .int .i64 0, .bool false] 160 → RAt (w1.alloc o) w1.heap.size a1 c1 bs 0 false ∧ Mod [] w (w1.alloc o) := by
    rintro o rfl
    refine ⟨⟨Has.new _ _ _, own_keep hm.own ((Mod.refl [] w1).alloc _) (by simp), fun b hb => ?_, Nat.zero_le _, hlen⟩, hm.mod.alloc _⟩
    exact Nat.ne_of_lt (own_lt hm.own hb)
  have hfin' := Lib.hid hfin
  have hsz := Lib.hid hm.mod.size
  have hnw := Lib.hid hm.new
  clear hfin hm
  go_wp2_with fail
  go_ret
  obtain ⟨h1, h2⟩ := hfin'.out _ rfl
  exact ⟨_, _, _, rfl, h1, h2, hsz.out, hnw.out⟩
/-- What is left. -/
def LeftOut (xs : List Int) (w : World) (e : Ending) (w' : World) : Prop :=
  ∃ v, e = .returned v ∧ Drawn w w' ∧ Rd w' 1 v xs.length (u8s xs)
theorem slice_nil {P : Program} {size : Nat} (t : TypeId) (ht : P.underlying t = some (.slice (P.elem t))) (hs : ∀ w : World, (sizeOf (P.elem t)).run P w = .ok size w) : ∀ w : World, (Instr.slice t (.slice none 0 0) (some (.int .i64 0)) none none).run P w = .ok (.slice none 0 0) w := by
  intro w
  have := run_slice_l w t none 0 0 ht .i64 0 (by omega) (by omega)
  rw [this, hs]
  simp [Result.andThen, sliced]
set_option maxHeartbeats 1000000 in
theorem left_any {w : World} {r c k : Nat} {a : Option Addr} {bs : List Int} {stop : Bool} (h : RAt w r a c bs k stop) :
    Calls Try.prog 103 #[.pointer (some ⟨r, 0, none⟩)] w (LeftOut (bs.drop k) w) := by
  have c0 := h.has.cell 0 rfl
  have c1 := h.has.cell 1 rfl
  have hlen : (bs.drop k).length = bs.length - k := List.length_drop
  have hlen' := Lib.hid hlen
  clear hlen
  have hs : ∀ w : World, (sizeOf (Try.prog.elem 45)).run Try.prog w = .ok 1 w := fun w => by kernel_rfl
  rcases h.own.2 with ⟨hv, h0⟩ | ⟨g, c', cur, hv, _, _, hnc, hcm, _⟩
  · simp only [Value.slice.injEq] at hv
    obtain ⟨rfl, _, rfl⟩ := hv
    have hbs : bs = [] := List.eq_nil_of_length_eq_zero h0
    subst hbs
    have hk : k = 0 := by have := h.le; simpa using this
    subst hk
    have hsl := slice_nil (P := Try.prog) 45 (by kernel_rfl) hs
    clear h hs h0
    go_enter Try.func103, Try.ntmps103
    go_wp2_with fail
    go_quiet (fail)
    go_wp2_with fail
    go_ret
    exact ⟨_, rfl, ⟨_, rfl⟩, Rd.nil _ _⟩
  · simp only [Value.slice.injEq, true_and] at hv
    obtain ⟨rfl, rfl⟩ := hv
    have hk := h.le
    have hsl := slice_from (P := Try.prog) 45 5 1 (by kernel_rfl) hs g 0 bs.length c k k rfl hk
    have hcells : ∀ w' : World, Mod [] w w' → Rd w' 1 (.slice (some ⟨g, offAt c k 0 1, none⟩) (bs.length - k) (c - k)) (bs.drop k).length (u8s (bs.drop k)) := fun w' m => by
      refine ⟨by simp [u8s], .inr ⟨_, _, by rw [hlen'.out], by rw [hlen'.out]; omega, by omega, fun j u hu => ?_⟩⟩
      have hj : j < bs.length - k := by
        rcases Nat.lt_or_ge j (bs.length - k) with h' | h'
        · exact h'
        · rw [List.getElem?_eq_none (by rw [u8s_length, hlen'.out]; exact h')] at hu; simp at hu
      have hu' : (u8s bs)[k + j]? = some u := by rw [← hu, u8s, u8s, List.map_drop, List.getElem?_drop]
      have hc := (Rd.own (own_keep h.own m (by simp))).cellAt (k + j) hu'
      rw [Addr.add_lit]
      rw [← hc]
      unfold offAt
      rw [if_neg (by omega)]
      simp [Nat.add_assoc, Nat.add_comm]
    have hcells' := Lib.hid hcells
    generalize hoff : offAt c k 0 1 = off at *
    clear hcells h hs hoff
    go_enter Try.func103, Try.ntmps103
    go_wp2_with fail
    go_quiet (fail)
    go_wp2_with fail
    go_ret
    exact ⟨_, rfl, ⟨_, rfl⟩, hcells'.out _ ((Mod.refl [] w).drewN _)⟩
set_option maxHeartbeats 1000000 in
theorem take_no {w : World} {r c k : Nat} {a : Option Addr} {bs : List Int} {stop : Bool} (h : RAt w r a c bs k stop) (size : Int) (ok : Bool) (hs : stop = true ∨ ok = false) :
    Calls Try.prog 102 #[.pointer (some ⟨r, 0, none⟩), .int .i64 size, .bool ok] w fun e w' => e = .returned (.bool false) ∧ RAt w' r a c bs k true ∧ Mod [r] w w' := by
  have c2 := h.has.cell 2 rfl
  have fr := h.has.free 2
  have hfin : ∀ w1, w1 = w.setCell ⟨r, 2, none⟩ (.bool true) → RAt w1 r a c bs k true ∧ Mod [r] w w1 := by
    rintro w1 rfl
    have m : Mod [r] w (w.setCell ⟨r, 2, none⟩ (.bool true)) := (Mod.refl [r] w).setCell _ _ (by simp)
    exact ⟨h.moved m (h.has.set 2 (.bool true)) h.le, m⟩
  have hfin' := Lib.hid hfin
  have hlt := h.has.lt
  clear hfin h
  cases stop with
  | true =>
    clear hs
    go_enter Try.func102, Try.ntmps102
    go_wp2_with fail
    go_ret
    exact ⟨rfl, hfin'.out _ rfl⟩
  | false =>
    have ho : ok = false := by simpa using hs
    subst ho
    clear hs
    go_enter Try.func102, Try.ntmps102
    go_wp2_with fail
    go_ret
    exact ⟨rfl, hfin'.out _ rfl⟩
set_option maxHeartbeats 1000000 in
theorem take_yes {w : World} {r c k : Nat} {a : Option Addr} {bs : List Int} (h : RAt w r a c bs k false) (size : Nat) (hs : k + size ≤ bs.length) :
    Calls Try.prog 102 #[.pointer (some ⟨r, 0, none⟩), .int .i64 size, .bool true] w fun e w' => e = .returned (.bool true) ∧ RAt w' r a c bs (k + size) false ∧ Mod [r] w w' := by
  have c2 := h.has.cell 2 rfl
  have c1 := h.has.cell 1 rfl
  have fr := h.has.free 1
  have hb := h.big
  have hfin : ∀ w1, w1 = w.setCell ⟨r, 1, none⟩ (.int .i64 ((k : Int) + size)) → RAt w1 r a c bs (k + size) false ∧ Mod [r] w w1 := by
    rintro w1 rfl
    have m : Mod [r] w (w.setCell ⟨r, 1, none⟩ (.int .i64 ((k : Int) + size))) := (Mod.refl [r] w).setCell _ _ (by simp)
    have h2 := h.has.set 1 (.int .i64 ((k : Int) + size))
    exact ⟨h.moved m (by simpa using h2) hs, m⟩
  have hfin' := Lib.hid hfin
  have hlt := h.has.lt
  clear hfin h
  go_enter Try.func102, Try.ntmps102
  go_wp2_with fail
  go_ret
  exact ⟨rfl, hfin'.out _ (by go_num)⟩
theorem and127 (x : Int) (h0 : 0 ≤ x) (h1 : x < 256) : bits .and .u8 x 127 = (((x % 128).toNat : Nat) : Int) := by
  have h : ∀ y : Fin 256, bits .and .u8 ((y.val : Nat) : Int) 127 = ((y.val % 128 : Nat) : Int) := by decide +kernel
  have h2 := h ⟨x.toNat, by omega⟩
  simp only at h2
  rw [show ((x.toNat : Nat) : Int) = x from by omega] at h2
  rw [h2]; omega
/-- What stands next. -/
def NatOut (xs : List Int) (w : World) (e : Ending) (w' : World) : Prop :=
  ∃ (n sz : Nat) (ok : Bool), e = .returned (.tuple #[.int .u64 n, .int .i64 sz, .bool ok]) ∧ Drawn w w' ∧ natP 0 xs = if ok then some (n, sz) else none
set_option maxHeartbeats 4000000 in
theorem nat_walk {w : World} {r c k : Nat} {a : Option Addr} {bs : List Int} {stop : Bool} (h : RAt w r a c bs k stop) (hbb : ∀ x ∈ bs, 0 ≤ x ∧ x < 256) :
    Calls Try.prog 101 #[.pointer (some ⟨r, 0, none⟩)] w (NatOut (bs.drop k) w) := by
  have hleft := left_any h
  have hbig := h.big
  have hxb : Hid (∀ x ∈ bs.drop k, 0 ≤ x ∧ x < 256) := fun x hx => hbb x (List.mem_of_mem_drop hx)
  have hxl : (bs.drop k).length ≤ 1000000 := by rw [List.length_drop]; omega
  clear h hbb hbig
  generalize bs.drop k = xs at *
  have hleft := Lib.hid hleft
  go_enter Try.func101, Try.ntmps101
  go_wp2_with fail
  refine hleft.out.mono ?_
  rintro e w1 ⟨v, rfl, hd, hrd⟩
  dsimp only
  clear hleft
  obtain ⟨al, cl, rfl⟩ := hrd.val
  have hrd' := Lib.hid hrd
  have hd' := Lib.hid hd
  clear hrd hd
  go_wp2_with fail
  go_loopw [5, 12] (fun acc i wr => ∃ (j m : Nat), j ≤ xs.length ∧ i = .int .i64 j ∧ acc = .int .u64 m ∧ wr = w1 ∧ m < 128 ^ j ∧ j ≤ 10 ∧ natP 0 xs = (natP j (xs.drop j)).map fun p => (m + 128 ^ j * p.1, p.2 + j)) (fun acc i _ => xs.length - (intOf i).toNat)
  case atStart => exact ⟨0, 0, Nat.zero_le _, rfl, rfl, rfl, by simp, by omega, by simp⟩
  case round =>
    obtain ⟨j, m, hj, rfl, rfl, rfl, hm, hj10, hP⟩ := hrel
    by_cases hlt : j < xs.length
    · obtain ⟨x, hx⟩ : ∃ x, xs[j]? = some x := ⟨xs[j], List.getElem?_eq_getElem hlt⟩
      have hx01 := hxb.out x (List.mem_of_getElem? hx)
      obtain ⟨g, o, rfl, _, _, hcell⟩ := hrd'.out.at (by rw [u8s_length]; omega)
      have hc := hcell j _ (u8s_get hx)
      have hdr : xs.drop j = x :: xs.drop (j + 1) := by
        rw [List.drop_eq_getElem_cons hlt]; congr 1; rw [List.getElem?_eq_getElem hlt] at hx; simpa using hx
      rw [hdr] at hP
      rw [natP_cons] at hP
      have hP' := Lib.hid hP
      have hm' := Lib.hid hm
      clear hP hm hcell hdr hx
      obtain ⟨p, hp⟩ : ∃ p : Nat, p = (x % 128).toNat := ⟨_, rfl⟩
      have hand : bits .and .u8 x 127 = (p : Int) := by rw [hp]; exact and127 x hx01.1 hx01.2
      have hwr : IntKind.u64.wrap (p : Int) = (p : Int) := by rw [IntKind.wrap_u64]; omega
      have hp' := Lib.hid hp
      have hx0 := hx01.1
      have hx1 := hx01.2
      clear hp hx01
      by_cases h10 : 9 < j
      · have t1 : decide (9 < (j : Int)) = true := by simp; omega
        have t1' : decide (9 < j) = true := by simp; omega
        go_wp2_with fail
        refine bodyPost_ret (v := .tuple #[.int .u64 0, .int .i64 0, .bool false]) (by simp [results, Try.results101, go_sem]) rfl ?_
        have := hP'.out
        rw [if_pos (.inl h10)] at this
        exact ⟨0, 0, false, rfl, hd'.out, by simpa using this⟩
      · have t1 : decide (9 < (j : Int)) = false := by simp; omega
        have t1' : decide (9 < j) = false := by simp; omega
        have hpx : p < 128 := by rw [hp'.out]; omega
        have hpx2 : x % 128 = (p : Int) := by rw [hp'.out]; omega
        by_cases h9 : j = 9
        · have t2 : decide (j = 9) = true := by simpa using h9
          have t3 : ((j : Int) == 9) = true := by simp; omega
          have h9' := Lib.hid h9
          clear h9
          by_cases hp1 : 1 < p
          · have t4 : decide (1 < (p : Int)) = true := by simp; omega
            have t4' : decide (1 < p) = true := by simpa using hp1
            go_wp2_with fail
            refine bodyPost_ret (v := .tuple #[.int .u64 0, .int .i64 0, .bool false]) (by simp [results, Try.results101, go_sem]) rfl ?_
            have h := hP'.out
            rw [if_pos (.inr ⟨h9'.out, by omega⟩)] at h
            exact ⟨0, 0, false, rfl, hd'.out, by simpa using h⟩
          · have t4 : decide (1 < (p : Int)) = false := by simp; omega
            have t4' : decide (1 < p) = false := by simpa using hp1
            have hb128 : m + p * 128 ^ j < 18446744073709551616 := by
              have h1 := hm'.out
              rw [h9'.out] at h1 ⊢
              have h3 : p * 128 ^ 9 ≤ 1 * 128 ^ 9 := Nat.mul_le_mul_right _ (by omega)
              omega
            have hno : Hid (¬ (9 < j ∨ (j = 9 ∧ 1 < x % 128))) := by rintro (h | ⟨h, h'⟩) <;> omega
            have hor := or_shift m p j hm'.out (by omega) (by omega)
            clear hb128
            by_cases h128 : x < 128
            · have t5 : decide (x < 128) = true := by simpa using h128
              by_cases hz : j = 0
              · have t6 : ((j : Int) == 0) = true := by simp; omega
                have hz' := Lib.hid hz
                clear hz
                go_wp2_with fail
                refine bodyPost_ret (v := .tuple #[.int .u64 ((m : Int) + (p : Int) * 128 ^ j), .int .i64 ((j : Int) + 1), .bool (true)]) (by simp [results, Try.results101, go_sem]) rfl ?_
                refine ⟨m + p * 128 ^ j, j + 1, true, by simp, hd'.out, ?_⟩
                have h := hP'.out
                rw [if_neg hno.out, if_pos h128] at h
                rw [h]
                have ep : x.toNat = p := by rw [hp'.out]; omega
                rw [if_pos (.inl hz'.out), ep, Nat.mul_comm p, Nat.add_comm j]
                rfl
              · have t6 : ((j : Int) == 0) = false := by simp; omega
                go_wp2_with fail
                refine bodyPost_ret (v := .tuple #[.int .u64 ((m : Int) + (p : Int) * 128 ^ j), .int .i64 ((j : Int) + 1), .bool (decide (0 < x))]) (by simp [results, Try.results101, go_sem]) rfl ?_
                refine ⟨m + p * 128 ^ j, j + 1, decide (0 < x), by simp, hd'.out, ?_⟩
                have h := hP'.out
                rw [if_neg hno.out, if_pos h128] at h
                rw [h]
                have ep : x.toNat = p := by rw [hp'.out]; omega
                by_cases hx00 : 0 < x
                · rw [if_pos (.inr hx00), decide_eq_true hx00, ep, Nat.mul_comm p, Nat.add_comm j]
                  rfl
                · rw [if_neg (by omega), decide_eq_false hx00]
                  rfl
            · have t5 : decide (x < 128) = false := by simpa using h128
              go_wp2_with fail
              go_roundw
              case rel =>
                refine ⟨j + 1, m + p * 128 ^ j, by omega, by go_num, by simp, by simp, ?_, by omega, ?_⟩
                · have h1 := hm'.out
                  have h2 : p < 128 := by rw [hp'.out]; omega
                  have h3 : p * 128 ^ j ≤ 127 * 128 ^ j := Nat.mul_le_mul_right _ (by omega)
                  rw [Nat.pow_succ]; omega
                · have h := hP'.out
                  rw [if_neg hno.out, if_neg h128] at h
                  rw [h, Option.map_map]
                  congr 1
                  funext q
                  simp only [Function.comp, ← hp'.out, Nat.pow_succ, Prod.mk.injEq]
                  refine ⟨?_, by omega⟩
                  rw [Nat.mul_add, ← Nat.mul_assoc, Nat.mul_comm (128 ^ j) p, Nat.add_assoc]
              case measure => simp [intOf]; omega
        · have t2 : decide (j = 9) = false := by simpa using h9
          have t3 : ((j : Int) == 9) = false := by simp; omega
          have hb128 : m + p * 128 ^ j < 18446744073709551616 := by
            have h1 := hm'.out
            have h3 : p * 128 ^ j ≤ 127 * 128 ^ j := Nat.mul_le_mul_right _ (by omega)
            have h4 : 128 ^ j ≤ 128 ^ 8 := Nat.pow_le_pow_right (by omega) (by omega)
            omega
          have hno : Hid (¬ (9 < j ∨ (j = 9 ∧ 1 < x % 128))) := by rintro (h | ⟨h, h'⟩) <;> omega
          have hor := or_shift m p j hm'.out (by omega) (by omega)
          clear hb128
          by_cases h128 : x < 128
          · have t5 : decide (x < 128) = true := by simpa using h128
            by_cases hz : j = 0
            · have t6 : ((j : Int) == 0) = true := by simp; omega
              have hz' := Lib.hid hz
              clear hz
              go_wp2_with fail
              refine bodyPost_ret (v := .tuple #[.int .u64 ((m : Int) + (p : Int) * 128 ^ j), .int .i64 ((j : Int) + 1), .bool (true)]) (by simp [results, Try.results101, go_sem]) rfl ?_
              refine ⟨m + p * 128 ^ j, j + 1, true, by simp, hd'.out, ?_⟩
              have h := hP'.out
              rw [if_neg hno.out, if_pos h128] at h
              rw [h]
              have ep : x.toNat = p := by rw [hp'.out]; omega
              rw [if_pos (.inl hz'.out), ep, Nat.mul_comm p, Nat.add_comm j]
              rfl
            · have t6 : ((j : Int) == 0) = false := by simp; omega
              go_wp2_with fail
              refine bodyPost_ret (v := .tuple #[.int .u64 ((m : Int) + (p : Int) * 128 ^ j), .int .i64 ((j : Int) + 1), .bool (decide (0 < x))]) (by simp [results, Try.results101, go_sem]) rfl ?_
              refine ⟨m + p * 128 ^ j, j + 1, decide (0 < x), by simp, hd'.out, ?_⟩
              have h := hP'.out
              rw [if_neg hno.out, if_pos h128] at h
              rw [h]
              have ep : x.toNat = p := by rw [hp'.out]; omega
              by_cases hx00 : 0 < x
              · rw [if_pos (.inr hx00), decide_eq_true hx00, ep, Nat.mul_comm p, Nat.add_comm j]
                rfl
              · rw [if_neg (by omega), decide_eq_false hx00]
                rfl
          · have t5 : decide (x < 128) = false := by simpa using h128
            go_wp2_with fail
            go_roundw
            case rel =>
              refine ⟨j + 1, m + p * 128 ^ j, by omega, by go_num, by simp, by simp, ?_, by omega, ?_⟩
              · have h1 := hm'.out
                have h2 : p < 128 := by rw [hp'.out]; omega
                have h3 : p * 128 ^ j ≤ 127 * 128 ^ j := Nat.mul_le_mul_right _ (by omega)
                rw [Nat.pow_succ]; omega
              · have h := hP'.out
                rw [if_neg hno.out, if_neg h128] at h
                rw [h, Option.map_map]
                congr 1
                funext q
                simp only [Function.comp, ← hp'.out, Nat.pow_succ, Prod.mk.injEq]
                refine ⟨?_, by omega⟩
                rw [Nat.mul_add, ← Nat.mul_assoc, Nat.mul_comm (128 ^ j) p, Nat.add_assoc]
            case measure => simp [intOf]; omega
    · have hje : j = xs.length := by omega
      subst hje
      rw [List.drop_length] at hP
      simp only [natP, Option.map_none] at hP
      have hP' := Lib.hid hP
      clear hP hm
      go_wp2_with fail
      refine bodyPost_ret (v := .tuple #[.int .u64 0, .int .i64 0, .bool false]) (by simp [results, Try.results101, go_sem]) rfl ?_
      exact ⟨0, 0, false, rfl, hd'.out, by simpa using hP'.out⟩
end Code
end Go.Proofs.Ytmkbinbggiocaaa

set_option linter.unusedVariables false
set_option linter.unusedSimpArgs false
namespace Go.Proofs.Ytmkbinbggiocaaa
open Go.RowKit
namespace Code
/-- What Nat reads, and where the reader is then. -/
def rNat (bs : List Int) (k : Nat) (stop : Bool) : Nat × Nat × Bool :=
  if stop then (0, k, true) else match natP 0 (bs.drop k) with
    | some (n, j) => (n, k + j, false)
    | none => (0, k, true)
theorem natP_len {xs : List Int} {n j : Nat} (hb : ∀ x ∈ xs, 0 ≤ x ∧ x < 256) (h : natP 0 xs = some (n, j)) : j ≤ xs.length ∧ n < 18446744073709551616 ∧ natB n = xs.take j ∧ 0 < j := by
  obtain ⟨h1, h2, _, _, h5⟩ := natP_sound xs 0 n j hb h
  have := congrArg List.length h1
  rw [List.length_take] at this
  refine ⟨by omega, by simpa using h5, h1, ?_⟩
  have := natB_ne n
  rw [h2]
  exact List.length_pos_iff.2 this
theorem mod2 {w w1 w2 : World} {r : Nat} (h : Drawn w w1) (k : Mod [r] w1 w2) : Mod [r] w w2 := h.mod.of0.trans k (by simp)
def RNatOut (w : World) (r : Nat) (a : Option Addr) (c : Nat) (bs : List Int) (k : Nat) (stop : Bool) (f : Nat → Value) (e : Ending) (w' : World) : Prop :=
  e = .returned (f (rNat bs k stop).1) ∧ RAt w' r a c bs (rNat bs k stop).2.1 (rNat bs k stop).2.2 ∧ Mod [r] w w'
set_option maxHeartbeats 2000000 in
theorem rdNat {w : World} {r c k : Nat} {a : Option Addr} {bs : List Int} {stop : Bool} (h : RAt w r a c bs k stop) (hbb : ∀ x ∈ bs, 0 ≤ x ∧ x < 256) :
    Calls Try.prog 48 #[.pointer (some ⟨r, 0, none⟩)] w (RNatOut w r a c bs k stop fun n => .int .u64 n) := by
  have hn := Lib.hid (nat_walk h hbb)
  have hbd : Hid (∀ x ∈ bs.drop k, 0 ≤ x ∧ x < 256) := fun x hx => hbb x (List.mem_of_mem_drop hx)
  have h' := Lib.hid h
  clear h hbb
  go_enter Try.func48, Try.ntmps48
  go_wp2_with fail
  refine hn.out.mono ?_
  rintro e w1 ⟨n, sz, ok, rfl, hd, hP⟩
  dsimp only
  have hP' := Lib.hid hP
  have hd' := Lib.hid hd
  clear hP hd hn
  by_cases hs : stop = true ∨ ok = false
  · have hs' := Lib.hid hs
    clear hs
    go_wp2_with fail
    refine (take_no (h'.out.still hd'.out.mod) sz ok hs'.out).mono ?_
    rintro e w2 ⟨rfl, hR, hm⟩
    dsimp only
    have hfin : RNatOut w r a c bs k stop (fun n => .int .u64 n) (.returned (.int .u64 0)) w2 := by
      have e1 : rNat bs k stop = (0, k, true) := by
        unfold rNat
        rcases hs'.out with h | h
        · simp [h]
        · have := hP'.out; rw [h] at this; simp at this; simp [this]
      unfold RNatOut
      rw [e1]
      exact ⟨by simp, hR, mod2 hd'.out hm⟩
    have hfin' := Lib.hid hfin
    clear hfin hR hm
    go_wp2_with fail
    go_ret
    exact hfin'.out
  · have hs1 : stop = false := by cases stop <;> simp_all
    have ho1 : ok = true := by cases ok <;> simp_all
    subst hs1 ho1
    have hQ0 : natP 0 (bs.drop k) = some (n, sz) := by simpa using hP'.out
    have hQ := Lib.hid hQ0
    clear hQ0
    have hl := natP_len hbd.out hQ.out
    have hl' := Lib.hid hl
    clear hs hl
    go_wp2_with fail
    refine (take_yes (h'.out.still hd'.out.mod) sz ?_).mono ?_
    · have := hl'.out.1; have := h'.out.le; rw [List.length_drop] at *; omega
    rintro e w2 ⟨rfl, hR, hm⟩
    dsimp only
    have hfin : RNatOut w r a c bs k false (fun n => .int .u64 n) (.returned (.int .u64 n)) w2 := by
      have e1 : rNat bs k false = (n, k + sz, false) := by
        unfold rNat
        rw [hQ.out]; simp
      unfold RNatOut
      rw [e1]
      exact ⟨rfl, hR, mod2 hd'.out hm⟩
    have hfin' := Lib.hid hfin
    clear hfin hR hm
    go_wp2_with fail
    go_ret
    exact hfin'.out
/-- A number with its sign. -/
def unsign (n : Nat) : Int := if n % 2 = 0 then (n / 2 : Nat) else -((n / 2 : Nat) : Int) - 1
theorem unsign_signN (x : Int) : unsign (signN x) = x := by
  unfold unsign signN
  split <;> split <;> omega
theorem xor0 (m : Nat) (h : m < 9223372036854775808) : bits .xor .i64 (m : Int) 0 = (m : Int) := by
  show IntKind.i64.wrap ((BitVec.ofInt 64 (m : Int) ^^^ BitVec.ofInt 64 0).toNat : Int) = _
  have h1 : BitVec.ofInt 64 0 = 0#64 := by decide
  rw [h1, BitVec.xor_zero, ofInt_u64 m (by omega)]
  simp [IntKind.wrap, IntKind.bits, IntKind.signed]
  omega
theorem xor1 (m : Nat) (h : m < 9223372036854775808) : bits .xor .i64 (m : Int) (-1) = -(m : Int) - 1 := by
  show IntKind.i64.wrap ((BitVec.ofInt 64 (m : Int) ^^^ BitVec.ofInt 64 (-1)).toNat : Int) = _
  have h1 : BitVec.ofInt 64 (-1) = BitVec.allOnes 64 := by decide
  rw [h1, BitVec.xor_allOnes, BitVec.toNat_not, ofInt_u64 m (by omega)]
  simp [IntKind.wrap, IntKind.bits, IntKind.signed]
  omega
theorem and1 (n : Nat) (h : n < 18446744073709551616) : bits .and .u64 (n : Int) 1 = ((n % 2 : Nat) : Int) := by
  have := u64_and (n : Int) 1 (by omega) (by omega) (by omega) (by omega)
  rw [this]
  simp [Nat.and_one_is_mod]
theorem rNat_lt {bs : List Int} {k : Nat} {stop : Bool} (hbb : ∀ x ∈ bs, 0 ≤ x ∧ x < 256) : (rNat bs k stop).1 < 18446744073709551616 := by
  unfold rNat
  split
  · simp
  · split
    · rename_i n j h
      exact (natP_len (fun x hx => hbb x (List.mem_of_mem_drop hx)) h).2.1
    · simp
set_option maxHeartbeats 2000000 in
theorem rdInt {w : World} {r c k : Nat} {a : Option Addr} {bs : List Int} {stop : Bool} (h : RAt w r a c bs k stop) (hbb : ∀ x ∈ bs, 0 ≤ x ∧ x < 256) :
    Calls Try.prog 44 #[.pointer (some ⟨r, 0, none⟩)] w (RNatOut w r a c bs k stop fun n => .int .i64 (unsign n)) := by
  have hn := Lib.hid (rdNat h hbb)
  have hlt := rNat_lt (k := k) (stop := stop) hbb
  clear h hbb
  go_enter Try.func44, Try.ntmps44
  go_wp2_with fail
  refine hn.out.mono ?_
  rintro e w1 ⟨rfl, hR, hm⟩
  dsimp only
  have hfin : ∀ v, v = unsign (rNat bs k stop).1 → RNatOut w r a c bs k stop (fun n => .int .i64 (unsign n)) (.returned (.int .i64 v)) w1 := fun v hv => ⟨by rw [hv], hR, hm⟩
  have hfin' := Lib.hid hfin
  clear hfin hR hm hn
  generalize (rNat bs k stop).1 = n at *
  have ha := and1 n hlt
  obtain ⟨q, hq⟩ : ∃ q, q = n / 2 := ⟨_, rfl⟩
  have hq1 : q < 9223372036854775808 := by omega
  have hd2 : (n : Int) / 2 = (q : Int) := by omega
  have e0 := xor0 q hq1
  have e1 := xor1 q hq1
  have hw : IntKind.i64.wrap (q : Int) = (q : Int) := IntWalk.i64_in _ (by omega)
  by_cases hp : n % 2 = 0
  · have hu0 : unsign n = (q : Int) := by unfold unsign; rw [if_pos hp, hq]
    have hu := Lib.hid hu0
    rw [hp] at ha
    clear hp hu0 hq
    go_wp2_with fail
    go_ret
    exact hfin'.out _ hu.out.symm
  · have hu0 : unsign n = -(q : Int) - 1 := by unfold unsign; rw [if_neg hp, hq]
    have hu := Lib.hid hu0
    have hp1 : n % 2 = 1 := by omega
    rw [hp1] at ha
    clear hp hp1 hu0 hq
    go_wp2_with fail
    go_ret
    exact hfin'.out _ hu.out.symm
set_option maxHeartbeats 1000000 in
theorem rdAt {w : World} {r c k : Nat} {a : Option Addr} {bs : List Int} {stop : Bool} (h : RAt w r a c bs k stop) :
    Calls Try.prog 49 #[.pointer (some ⟨r, 0, none⟩)] w fun e w' => e = .returned (.int .i64 k) ∧ w = w' := by
  have c1 := h.has.cell 1 rfl
  clear h
  go_enter Try.func49, Try.ntmps49
  go_wp2_with fail
  go_ret
  exact ⟨rfl, rfl⟩
/-- Is all read? -/
def rEnd (bs : List Int) (k : Nat) (stop : Bool) : Int := if stop || decide (k < bs.length) then 17 else 0
set_option maxHeartbeats 1000000 in
theorem rdEnd {w : World} {r c k : Nat} {a : Option Addr} {bs : List Int} {stop : Bool} (h : RAt w r a c bs k stop) :
    Calls Try.prog 47 #[.pointer (some ⟨r, 0, none⟩)] w fun e w' => e = .returned (.int .i64 (rEnd bs k stop)) ∧ Mod [] w w' := by
  have c2 := h.has.cell 2 rfl
  have hl := Lib.hid (left_any h)
  have hle := h.le
  have hlen : (bs.drop k).length = bs.length - k := List.length_drop
  have hm0 := Lib.hid (Mod.refl [] w)
  clear h
  cases stop with
  | true =>
    go_enter Try.func47, Try.ntmps47
    go_wp2_with fail
    go_ret
    exact ⟨rfl, hm0.out⟩
  | false =>
    by_cases hk : k < bs.length
    · have e1 : rEnd bs k false = 17 := by simp [rEnd, hk]
      rw [e1]
      generalize hxs : bs.drop k = xs at *
      have h0 : decide (0 < (xs.length : Int)) = true := by simp; omega
      have h0' : decide (0 < xs.length) = true := by simp; omega
      clear hxs hlen hk e1 hle
      go_enter Try.func47, Try.ntmps47
      go_wp2_with fail
      refine hl.out.mono ?_
      rintro e w1 ⟨v, rfl, hd, hr⟩
      obtain ⟨al, cl, rfl⟩ := hr.val
      have hfin := Lib.hid hd.mod
      clear hl hd hr
      dsimp only
      go_wp2_with fail
      go_ret
      exact ⟨rfl, hfin.out⟩
    · have e1 : rEnd bs k false = 0 := by simp [rEnd]; omega
      rw [e1]
      generalize hxs : bs.drop k = xs at *
      have h0 : decide (0 < (xs.length : Int)) = false := decide_eq_false (by omega)
      have h0' : decide (0 < xs.length) = false := decide_eq_false (by omega)
      clear hxs hlen hk e1 hle
      go_enter Try.func47, Try.ntmps47
      go_wp2_with fail
      refine hl.out.mono ?_
      rintro e w1 ⟨v, rfl, hd, hr⟩
      obtain ⟨al, cl, rfl⟩ := hr.val
      have hfin := Lib.hid hd.mod
      clear hl hd hr
      dsimp only
      go_wp2_with fail
      go_ret
      exact ⟨rfl, hfin.out⟩
end Code
end Go.Proofs.Ytmkbinbggiocaaa

set_option linter.unusedVariables false
set_option linter.unusedSimpArgs false
namespace Go.Proofs.Ytmkbinbggiocaaa
open Go.RowKit
namespace Code
set_option maxRecDepth 100000 in
set_option maxHeartbeats 1000000 in
theorem tz_any (b : Nat) (hb : b < 256) (w : World) : Calls Try.prog 104 #[.int .u8 b] w fun e w' => e = .returned (.int .i64 (((low b).head?.getD 8 : Nat) : Int)) ∧ w = w' := by
  have hb0 : (0 : Int) ≤ (b : Int) := by omega
  have hb1 : (b : Int) < 256 := by omega
  go_enter Try.func104, Try.ntmps104
  go_wp2_with fail
  go_ret
  refine ⟨congrArg (fun x => Ending.returned (Value.int .i64 x)) ?_, rfl⟩
  revert b
  decide +kernel
end Code
end Go.Proofs.Ytmkbinbggiocaaa

set_option linter.unusedVariables false
set_option linter.unusedSimpArgs false
namespace Go.Proofs.Ytmkbinbggiocaaa
open Go.RowKit
/-- A world that may come behind w. -/
structure Fut (G : World → World → Prop) (w : World) where
  v : World
  of : G w v
instance (F : List Nat) (w : World) : Nonempty (Fut (Mod F) w) := ⟨⟨w, Mod.refl F w⟩⟩
def Cls (G : World → World → Prop) (w : World) : World → Prop := fun w' => ∃ m : Fut G w, w' = m.v
/-- Operations that yield a value and nothing else. -/
def stillOp (o : Oper) : Bool := match o.op with
  | .call ⟨.builtin .len, _, _⟩ => true
  | .nilCheck _ => true
  | .move _ | .assign _ | .pick .. | .load .. | .binOp .. | .unOp .. | .convert .. | .slice .. | .fieldAddr .. | .field .. | .indexAddr .. | .extract .. | .build .. | .makeInterface .. => true
  | _ => false
theorem andThen_ok {α β : Type} {r : Result α} {k : α → World → Result β} {n : β} {w' : World} (h : r.andThen k = .ok n w') : ∃ a w1, k a w1 = .ok n w' := by
  cases r with
  | ok a w1 => exact ⟨a, w1, h⟩
  | halt x w1 => exact absurd h (by simp [Result.andThen])
theorem value_one {r : Result Value} {n : Next} {w' : World} (h : (r.andThen fun a w' => Result.ok (Next.value a) w') = .ok n w') : ∃ u, n = .value u := by
  obtain ⟨a, w1, h⟩ := andThen_ok h
  simp only [Result.ok.injEq] at h
  exact ⟨_, h.1.symm⟩
section
variable {P : Program} {ops : Array Oper} {md : Region.Mode} {G : World → World → Prop} {Q : Exit → Act → World → Prop}
theorem held_mono {S S' : World → Prop} (h : ∀ w, S' w → S w) : ∀ (fuel : Nat) (listed : Array Bool) (a : Act) (w : World), wpAnyH P md ops Q S' fuel listed a w → wpAnyH P md ops Q S fuel listed a w
  | 0, _, _, _, k => k
  | fuel + 1, _, _, _, k => ⟨k.1, fun i hi => wpOp_mono (fun a' w' k' => ⟨h _ k'.1, held_mono h fuel _ a' w' k'.2⟩) (k.2 i hi)⟩
def wpSched (P : Program) (ops : Array Oper) (G : World → World → Prop) (Q : Exit → Act → World → Prop) : List (List Oper × Oper) → List Oper → Act → World → Prop
  | [], last, a, w => wpQuiet P ops (Cls G w) (fun a' => Q .normal a' w) last a
  | (seg, b) :: rest, last, a, w => wpQuiet P ops (Cls G w) (fun a' => ∀ K : Act → World → Prop, Hid (∀ a'' w'', G w w'' → wpSched P ops G Q rest last a'' w'' → K a'' w'') → if Region.wanted b (yielded ops a'.tmps) = true then b.wp P a' w K Q else K (a'.put b.dst undef) w) seg a
def segB (md : Region.Mode) (ops : Array Oper) : List Nat → Array Bool → Option (Array Bool)
  | [], listed => some listed
  | i :: is, listed => if (Region.ready md ops listed).contains i && Region.free md ops listed i && ((ops[i]?).map stillOp).getD false then segB md ops is (listed.setIfInBounds i true) else none
def schedB (md : Region.Mode) (ops : Array Oper) : List (List Nat × Nat) → List Nat → Array Bool → Bool
  | [], last, listed => match segB md ops last listed with
    | some l' => (Region.ready md ops l').isEmpty
    | none => false
  | (is, b) :: rest, last, listed => match segB md ops is listed with
    | some l' => (Region.ready md ops l' == [b]) && ((ops[b]?).isSome) && schedB md ops rest last (l'.setIfInBounds b true)
    | none => false
theorem len_value {P : Program} {o : Oper} {xs : Array Operand} {ts : Array TypeId} (ho : o.op = .call ⟨.builtin .len, xs, ts⟩) {ρ : Operand → Value} {w w' : World} {n : Next} (h : (execOp ρ o).run P w = .ok n w') : ∃ u, n = .value u := by
  have e : (execOp ρ o).run P w = ((Builtin.len_ ts o.type (xs.map ρ)).run P w).andThen fun a w' => .ok (.value a) w' := by
    have e1 : execOp ρ o = resolve ρ ⟨.builtin .len, xs, ts⟩ o.type >>= fun d => invoke d.target d.args := by
      unfold execOp
      rw [ho]
    rw [e1, Sem.run_bind]
    have e2 : (resolve ρ ⟨.builtin .len, xs, ts⟩ o.type).run P w = .ok { target := .builtin .len ts o.type (xs.map fun | .const _ => true | _ => false), args := xs.map ρ } w := rfl
    rw [e2]
    have e3 : ∀ cs, invoke (.builtin .len ts o.type cs) (xs.map ρ) = Builtin.len_ ts o.type (xs.map ρ) >>= fun v => pure (.value v) := fun cs => rfl
    simp only [Result.andThen, e3, Sem.run_bind]
    rfl
  rw [e] at h
  exact value_one h
theorem nil_value {P : Program} {o : Oper} {x : Operand} (ho : o.op = .nilCheck x) {ρ : Operand → Value} {w w' : World} {n : Next} (h : (execOp ρ o).run P w = .ok n w') : ∃ u, n = .value u := by
  unfold execOp at h
  rw [ho] at h
  simp only at h
  split at h
  · simp [go_sem] at h
  · simp [go_sem] at h
  · simp [go_sem] at h
  · split at h
    · simp [go_sem] at h
    · simp only [Sem.run_bind] at h
      obtain ⟨a, w1, h⟩ := andThen_ok h
      obtain ⟨b, w2, h⟩ := andThen_ok h
      split at h
      · simp only [Sem.run_bind] at h
        obtain ⟨c, w3, h⟩ := andThen_ok h
        simp only [Sem.run_pure, Result.ok.injEq] at h
        exact ⟨_, h.1.symm⟩
      · simp only [Sem.run_pure, Result.ok.injEq] at h
        exact ⟨_, h.1.symm⟩
    · simp only [Sem.run_pure, Result.ok.injEq] at h
      exact ⟨_, h.1.symm⟩
  · simp only [Sem.run_pure, Result.ok.injEq] at h
    exact ⟨_, h.1.symm⟩
theorem still_value {o : Oper} (hs : stillOp o = true) {ρ : Operand → Value} {w w' : World} {n : Next} (h : (execOp ρ o).run P w = .ok n w') : ∃ u, n = .value u := by
  by_cases hl : ∃ xs ts, o.op = .call ⟨.builtin .len, xs, ts⟩
  · obtain ⟨xs, ts, ho⟩ := hl
    exact len_value ho h
  by_cases hn : ∃ x, o.op = .nilCheck x
  · obtain ⟨x, ho⟩ := hn
    exact nil_value ho h
  unfold stillOp at hs
  unfold execOp at h
  split at h <;> simp_all <;> first
    | exact value_one h
    | exact ⟨_, h.1.symm⟩
    | (obtain ⟨a, w1, h⟩ := andThen_ok h; first | exact value_one h | (simp only [Result.ok.injEq] at h; exact ⟨_, h.1.symm⟩))
theorem yields_of {o : Oper} (hs : stillOp o = true) {v : Value} {a : Act} {w : World} (hw : Region.wanted o (yielded ops a.tmps) = true) (h : ∀ w', Cls G w w' → o.quietAt P a (Cls G w) w' v) : YieldsIf P ops (G w) o v a := by
  refine .inl ⟨hw, fun w' hw' => ?_⟩
  have h1 := h w' ⟨⟨w', hw'⟩, rfl⟩
  unfold Oper.quietAt at h1
  cases hr : (execOp a.eval o).run P w' with
  | ok n w'' =>
    rw [hr] at h1
    obtain ⟨u, rfl⟩ := still_value hs hr
    simp only [Oper.quietUpon] at h1
    obtain ⟨rfl, rfl⟩ := h1
    rfl
  | halt x w'' => rw [hr] at h1; simp [Oper.quietUpon] at h1
theorem seg_take (hs : Region.noSelect ops = true) (hQ : ∀ c a d v w, Q (.panic c) (Act.put a d v) w → Q (.panic c) a w) (hG : ∀ w, G w w) {Kq : Act → Prop} {w : World} :
    ∀ (is : List Nat) (listed listed' : Array Bool) (fuel : Nat) (a : Act), segB md ops is listed = some listed' → wpQuiet P ops (Cls G w) Kq (is.filterMap (ops[·]?)) a →
      (∀ a', Kq a' → wpAnyH P md ops Q (G w) fuel listed' a' w) → wpAnyH P md ops Q (G w) (fuel + is.length) listed a w
  | [], listed, listed', fuel, a, hB, h, hK => by
    simp only [segB, Option.some.injEq] at hB
    subst hB
    exact hK _ h
  | i :: is, listed, listed', fuel, a, hB, h, hK => by
    unfold segB at hB
    split at hB
    case isFalse => exact absurd hB (by simp)
    rename_i hc
    simp only [Bool.and_eq_true] at hc
    obtain ⟨⟨hr, hf⟩, hst⟩ := hc
    obtain ⟨o, ho⟩ : ∃ o, ops[i]? = some o := by
      cases hx : ops[i]? with
      | none => simp [hx] at hst
      | some o => exact ⟨o, rfl⟩
    simp only [ho, Option.map_some, Option.getD_some] at hst
    simp only [List.filterMap_cons, ho] at h
    unfold wpQuiet at h
    have ih : ∀ v, wpQuiet P ops (Cls G w) Kq (is.filterMap (ops[·]?)) (a.put o.dst v) → wpAnyH P md ops Q (G w) (fuel + is.length) (listed.setIfInBounds i true) (a.put o.dst v) w :=
      fun v hv => seg_take hs hQ hG is _ listed' fuel _ hB hv hK
    rw [List.length_cons, ← Nat.add_assoc]
    by_cases hw : Region.wanted o (yielded ops a.tmps) = true
    · rw [if_pos hw] at h
      obtain ⟨v, h1, h2⟩ := h
      exact wpAnyH_take ho hs hf hr (fun c a w => hQ c a _ _ w) (yields_of hst hw h1) (hG w) (ih v h2)
    · rw [if_neg hw] at h
      exact wpAnyH_take ho hs hf hr (fun c a w => hQ c a _ _ w) (.inr ⟨by simpa using hw, rfl⟩) (hG w) (ih undef h)
def countS : List (List Nat × Nat) → Nat
  | [] => 0
  | (is, _) :: rest => countS rest + 1 + is.length
theorem sched_held (hs : Region.noSelect ops = true) (hQ : ∀ c a d v w, Q (.panic c) (Act.put a d v) w → Q (.panic c) a w) (hG : ∀ w, G w w) (hT : ∀ w1 w2 w3, G w1 w2 → G w2 w3 → G w1 w3) (last : List Nat) :
    ∀ (ps : List (List Nat × Nat)) (listed : Array Bool) (a : Act) (w : World), schedB md ops ps last listed = true →
      wpSched P ops G Q (ps.map fun p => (p.1.filterMap (ops[·]?), (ops[p.2]?).getD default)) (last.filterMap (ops[·]?)) a w →
      wpAnyH P md ops Q (G w) (countS ps + last.length) listed a w
  | [], listed, a, w, hB, h => by
    unfold schedB at hB
    split at hB
    case h_2 => exact absurd hB (by simp)
    rename_i l' hl'
    simp only [countS]
    exact seg_take hs hQ hG last listed l' 0 a hl' h (fun a' hk => wpAnyH_done (by simpa using hB) hk _)
  | (is, b) :: rest, listed, a, w, hB, h => by
    unfold schedB at hB
    split at hB
    case h_2 => exact absurd hB (by simp)
    rename_i l' hl'
    simp only [Bool.and_eq_true, beq_iff_eq] at hB
    obtain ⟨⟨hr, hsm⟩, hB⟩ := hB
    obtain ⟨o, ho⟩ := Option.isSome_iff_exists.1 hsm
    simp only [List.map_cons, ho, Option.getD_some] at h
    unfold wpSched at h
    have e : countS ((is, b) :: rest) + last.length = (countS rest + last.length + 1) + is.length := by simp only [countS]; omega
    rw [e]
    refine seg_take hs hQ hG is listed l' _ a hl' h (fun a' hk => ?_)
    refine wpAnyH_all hr (by simp) fun i hi => ?_
    rw [List.mem_singleton] at hi
    subst hi
    have h2 := hk (fun a' w' => G w w' ∧ wpAnyH P md ops Q (G w) (countS rest + last.length) (l'.setIfInBounds i true) a' w')
      (show Hid _ from fun a'' w'' hg hw => ⟨hg, held_mono (fun w3 h3 => hT _ _ _ hg h3) _ _ _ _ (sched_held hs hQ hG hT last rest _ a'' w'' hB hw)⟩)
    unfold Go.wpOp
    simp only [ho]
    by_cases hw : Region.wanted o (yielded ops a'.tmps) = true
    · rw [if_pos hw] at h2 ⊢
      exact .inl h2
    · rw [if_neg hw] at h2 ⊢
      exact h2
/-- The operations of a stage. -/
def nthO : List Oper → Nat → List Oper
  | o :: _, 0 => [o]
  | _ :: l, n + 1 => nthO l n
  | [], _ => []
def pickO (l : List Oper) : List Nat → List Oper
  | [] => []
  | i :: is => nthO l i ++ pickO l is
def headO : List Oper → Oper
  | o :: _ => o
  | [] => default
def stages (l : List Oper) : List (List Nat × Nat) → List (List Oper × Oper)
  | [] => []
  | (is, b) :: rest => (pickO l is, headO (nthO l b)) :: stages l rest
theorem nthO_get : ∀ (l : List Oper) (i : Nat), nthO l i = (l[i]?).toList
  | [], _ => by simp [nthO]
  | o :: _, 0 => by simp [nthO]
  | _ :: l, n + 1 => by simp [nthO, nthO_get l n]
theorem pickO_eq (l : List Oper) : ∀ is : List Nat, pickO l is = is.filterMap (l.toArray[·]?)
  | [] => rfl
  | i :: is => by
    rw [pickO, nthO_get, pickO_eq l is, List.filterMap_cons]
    simp only [List.getElem?_toArray]
    cases l[i]? <;> rfl
theorem stages_eq (l : List Oper) : ∀ ps : List (List Nat × Nat), stages l ps = ps.map fun p => (p.1.filterMap (l.toArray[·]?), (l.toArray[p.2]?).getD default)
  | [] => rfl
  | (is, b) :: rest => by
    rw [stages, stages_eq l rest, pickO_eq, nthO_get]
    simp only [List.map_cons, List.getElem?_toArray]
    cases l[b]? <;> rfl
theorem region_sched {id : Nat} {a : Act} {w : World} {l : List Oper} (ps : List (List Nat × Nat)) (last : List Nat) (hm : P.follows .mixedOrders = true) (hs : Region.noSelect l.toArray = true) (hB : schedB .any l.toArray ps last (Array.replicate l.length false) = true) (hc : countS ps + last.length = l.length)
    (hG : ∀ w, G w w) (hT : ∀ w1 w2 w3, G w1 w2 → G w2 w3 → G w1 w3)
    (h : wpSched P l.toArray G (NoPanic Q) (stages l ps) (pickO l last) a w.drew) : (Code.region id l.toArray true).wp P Q a w := by
  refine wp_region_noPanic ?_
  refine wp_region_held (S := G w.drew) hm ?_
  rw [stages_eq, pickO_eq] at h
  have := sched_held hs (fun _ _ _ _ _ h => h) hG hT last ps _ a w.drew hB h
  rw [hc] at this
  simpa using this
theorem sched_step {seg : List Oper} {b : Oper} {rest : List (List Oper × Oper)} {last : List Oper} {a : Act} {w : World}
    (h : wpQuiet P ops (fun w' => ∃ m : Fut G w, w' = m.v) (fun a' => ∀ K : Act → World → Prop, Hid (∀ a'' w'', G w w'' → wpSched P ops G Q rest last a'' w'' → K a'' w'') → if Region.wanted b (yielded ops a'.tmps) = true then b.wp P a' w K Q else K (a'.put b.dst undef) w) seg a) :
    wpSched P ops G Q ((seg, b) :: rest) last a w := h
theorem sched_last {last : List Oper} {a : Act} {w : World}
    (h : wpQuiet P ops (fun w' => ∃ m : Fut G w, w' = m.v) (fun a' => Q .normal a' w) last a) : wpSched P ops G (NoPanic Q) [] last a w := h
end
end Go.Proofs.Ytmkbinbggiocaaa

set_option linter.unusedVariables false
set_option linter.unusedSimpArgs false
namespace Go.Proofs.Ytmkbinbggiocaaa
open Go.RowKit
namespace Code
/-- What Count reads, and where the reader is then. -/
def rCount (bs : List Int) (k : Nat) (stop : Bool) : Nat × Nat × Bool :=
  if stop then (0, k, true) else match natP 0 (bs.drop k) with
    | some (n, j) => if n ≤ bs.length - k - j then (n, k + j, false) else (0, k, true)
    | none => (0, k, true)
def RCountOut (w : World) (r : Nat) (a : Option Addr) (c : Nat) (bs : List Int) (k : Nat) (stop : Bool) (e : Ending) (w' : World) : Prop :=
  e = .returned (.int .i64 (rCount bs k stop).1) ∧ RAt w' r a c bs (rCount bs k stop).2.1 (rCount bs k stop).2.2 ∧ Mod [r] w w'
theorem trM (r : Nat) (w1 w2 w3 : World) (h1 : Mod [r] w1 w2) (h2 : Mod [r] w2 w3) : Mod [r] w1 w3 := h1.trans h2 (fun b hb _ => hb)
set_option maxHeartbeats 2000000 in
theorem rdCount {w : World} {r c k : Nat} {a : Option Addr} {bs : List Int} {stop : Bool} (h : RAt w r a c bs k stop) (hbb : ∀ x ∈ bs, 0 ≤ x ∧ x < 256) :
    Calls Try.prog 43 #[.pointer (some ⟨r, 0, none⟩)] w (RCountOut w r a c bs k stop) := by
  have hn := Lib.hid (nat_walk h hbb)
  have hbd : Hid (∀ x ∈ bs.drop k, 0 ≤ x ∧ x < 256) := fun x hx => hbb x (List.mem_of_mem_drop hx)
  have h' := Lib.hid h
  have hbig := h.big
  have hdl : (bs.drop k).length = bs.length - k := List.length_drop
  have hdl' := Lib.hid hdl
  clear h hbb hdl
  go_enter Try.func43, Try.ntmps43
  go_wp2_with fail
  refine hn.out.mono ?_
  rintro e w1 ⟨n, sz, ok, rfl, hd, hP⟩
  dsimp only
  have hP' := Lib.hid hP
  have hd' := Lib.hid hd
  clear hP hd hn
  cases ok with
  | false =>
    go_wp2_with fail
    refine region_sched (G := Mod [r]) [([0,1,2,3,4,5,6,7,8,9,12],10), ([11,13,14,15,16],17)] [18] (by kernel_rfl) (by kernel_rfl) (by kernel_rfl) rfl (Mod.refl [r]) (trM r) ?_
    simp only [stages, pickO, nthO, headO, List.cons_append, List.nil_append]
    refine sched_step ?_
    repeat (go_big_quiet_step (fail))
    refine wpQuiet_nil ?_
    intro K hK
    rw [if_neg (by exact Bool.false_ne_true)]
    refine hK.out _ _ (Mod.refl [r] _) ?_
    clear hK K
    simp only [Act.put, List.setIfInBounds_toArray, List.set_cons_zero, List.set_cons_succ]
    refine sched_step ?_
    repeat (go_big_quiet_step (fail))
    refine wpQuiet_nil ?_
    intro K hK
    rw [if_pos (by rfl)]
    go_simp
    refine (take_no ((h'.out.still hd'.out.mod).still (Mod.refl [] _).drew) sz false (.inr rfl)).mono ?_
    rintro e w2 ⟨rfl, hR, hm⟩
    dsimp only
    refine hK.out _ _ hm ?_
    clear hK K
    refine sched_last ?_
    repeat (go_big_quiet_step (fail))
    refine wpQuiet_nil ?_
    have hfin : RCountOut w r a c bs k stop (.returned (.int .i64 0)) w2 := by
      have e1 : rCount bs k stop = (0, k, true) := by
        unfold rCount
        have h0 := hP'.out
        simp at h0
        simp [h0]
      unfold RCountOut
      rw [e1]
      exact ⟨by simp, hR, mod2 hd'.out ((Mod.refl [r] _).drew.trans hm (fun b hb _ => hb))⟩
    have hfin' := Lib.hid hfin
    clear hfin hR hm
    go_wp2_with fail
    go_ret
    exact hfin'.out
  | true =>
    have hQ0 : natP 0 (bs.drop k) = some (n, sz) := by simpa using hP'.out
    have hl := natP_len hbd.out hQ0
    have hQ := Lib.hid hQ0
    have hl2 := Lib.hid hl
    have hszl : sz ≤ bs.length - k := by have := hl.1; rw [hdl'.out] at this; exact this
    clear hQ0 hl
    go_wp2_with fail
    refine region_sched (G := Mod [r]) [([0,1,2,3,4,5,6,7,8,9,12],10), ([11,13,14,15,16],17)] [18] (by kernel_rfl) (by kernel_rfl) (by kernel_rfl) rfl (Mod.refl [r]) (trM r) ?_
    simp only [stages, pickO, nthO, headO, List.cons_append, List.nil_append]
    refine sched_step ?_
    repeat (go_big_quiet_step (fail))
    refine wpQuiet_nil ?_
    intro K hK
    rw [if_pos (by rfl)]
    go_simp
    have hR1 := (h'.out.still hd'.out.mod).still (Mod.refl [] _).drew
    refine (left_any hR1).mono ?_
    rintro e w2 ⟨v, rfl, hd2, hr2⟩
    obtain ⟨al, cl, rfl⟩ := hr2.val
    dsimp only
    refine hK.out _ _ hd2.mod.of0 ?_
    clear hK K hr2
    have hR2 := Lib.hid (hR1.still hd2.mod)
    have hd2' := Lib.hid hd2
    clear hd2 hR1
    rw [hdl'.out]
    obtain ⟨L, hL⟩ : ∃ L, L = bs.length - k := ⟨_, rfl⟩
    rw [← hL] at hszl ⊢
    have hL1 : L ≤ 1000000 := by omega
    have hL' := Lib.hid hL
    clear hL
    obtain ⟨q, hq⟩ : ∃ q, q = L - sz := ⟨_, rfl⟩
    have hw1 : IntKind.i64.wrap ((L : Int) - (sz : Int)) = (q : Int) := by rw [IntWalk.i64_in _ (by omega)]; omega
    have hw2 : IntKind.u64.wrap (q : Int) = (q : Int) := by rw [IntKind.wrap_u64]; omega
    have hq' := Lib.hid hq
    clear hq
    by_cases hle : n ≤ q
    · have t1 : decide ((n : Int) ≤ (q : Int)) = true := by simp; omega
      have t1' : decide (n ≤ q) = true := by simpa using hle
      have hle' := Lib.hid hle
      clear hle
      refine sched_step ?_
      repeat (go_big_quiet_step (fail))
      refine wpQuiet_nil ?_
      intro K hK
      rw [if_pos (by rfl)]
      go_simp
      cases stop with
      | true =>
        refine (take_no hR2.out sz true (.inl rfl)).mono ?_
        rintro e w3 ⟨rfl, hR, hm⟩
        dsimp only
        refine hK.out _ _ hm ?_
        clear hK K
        refine sched_last ?_
        repeat (go_big_quiet_step (fail))
        refine wpQuiet_nil ?_
        have hfin : RCountOut w r a c bs k true (.returned (.int .i64 0)) w3 := by
          have e1 : rCount bs k true = (0, k, true) := by simp [rCount]
          unfold RCountOut
          rw [e1]
          exact ⟨by simp, hR, mod2 hd'.out ((Mod.refl [r] _).drew.trans (mod2 hd2'.out hm) (fun b hb _ => hb))⟩
        have hfin' := Lib.hid hfin
        clear hfin hR hm
        go_wp2_with fail
        go_ret
        exact hfin'.out
      | false =>
        refine (take_yes hR2.out sz ?_).mono ?_
        · have := hL'.out; have := h'.out.le; omega
        rintro e w3 ⟨rfl, hR, hm⟩
        dsimp only
        refine hK.out _ _ hm ?_
        clear hK K
        refine sched_last ?_
        repeat (go_big_quiet_step (fail))
        refine wpQuiet_nil ?_
        have hfin : RCountOut w r a c bs k false (.returned (.int .i64 n)) w3 := by
          have e1 : rCount bs k false = (n, k + sz, false) := by
            have := hle'.out; have h5 := hq'.out; rw [hL'.out] at h5
            simp only [rCount, hQ.out]
            rw [if_neg (by simp), if_pos (by omega)]
          unfold RCountOut
          rw [e1]
          exact ⟨rfl, hR, mod2 hd'.out ((Mod.refl [r] _).drew.trans (mod2 hd2'.out hm) (fun b hb _ => hb))⟩
        have hfin' := Lib.hid hfin
        have hnn : IntKind.i64.wrap (n : Int) = (n : Int) := IntWalk.i64_in _ (by have := hle'.out; have := hq'.out; omega)
        clear hfin hR hm hw1 hw2
        go_wp2_with fail
        go_ret
        exact hfin'.out
    · have t1 : decide ((n : Int) ≤ (q : Int)) = false := by simp; omega
      have t1' : decide (n ≤ q) = false := by simpa using hle
      have hle' := Lib.hid hle
      clear hle
      refine sched_step ?_
      repeat (go_big_quiet_step (fail))
      refine wpQuiet_nil ?_
      intro K hK
      rw [if_pos (by rfl)]
      go_simp
      refine (take_no hR2.out sz false (.inr rfl)).mono ?_
      rintro e w3 ⟨rfl, hR, hm⟩
      dsimp only
      refine hK.out _ _ hm ?_
      clear hK K
      refine sched_last ?_
      repeat (go_big_quiet_step (fail))
      refine wpQuiet_nil ?_
      have hfin : RCountOut w r a c bs k stop (.returned (.int .i64 0)) w3 := by
        have e1 : rCount bs k stop = (0, k, true) := by
          have := hle'.out; have h5 := hq'.out; rw [hL'.out] at h5
          unfold rCount
          split
          · rfl
          · rw [hQ.out]; simp only; rw [if_neg (by omega)]
        unfold RCountOut
        rw [e1]
        exact ⟨by simp, hR, mod2 hd'.out ((Mod.refl [r] _).drew.trans (mod2 hd2'.out hm) (fun b hb _ => hb))⟩
      have hfin' := Lib.hid hfin
      clear hfin hR hm
      go_wp2_with fail
      go_ret
      exact hfin'.out
end Code
end Go.Proofs.Ytmkbinbggiocaaa

set_option linter.unusedVariables false
set_option linter.unusedSimpArgs false
namespace Go.Proofs.Ytmkbinbggiocaaa
open Go.RowKit
namespace Code
def listB {α : Type} (f : α → Nat) (l : List α) : List Int := natB l.length ++ l.flatMap fun x => natB (f x)
theorem natB_len10 {n : Nat} (h : n < 18446744073709551616) : (natB n).length ≤ 10 := natB_len 10 n (by omega) (by omega)
theorem flatB_len {α : Type} (f : α → Nat) (l : List α) (h : ∀ x ∈ l, f x < 18446744073709551616) : (l.flatMap fun x => natB (f x)).length ≤ 10 * l.length := by
  induction l with
  | nil => simp
  | cons a l ih =>
    have h1 := natB_len10 (h a (by simp))
    have h2 := ih fun x hx => h x (List.mem_cons_of_mem _ hx)
    simp only [List.flatMap_cons, List.length_append, List.length_cons]; omega
theorem flat_take {α β : Type} (f : α → List β) (l : List α) (k : Nat) (x : α) (h : l[k]? = some x) : (l.take (k + 1)).flatMap f = (l.take k).flatMap f ++ f x := by
  rw [List.take_add_one, h]; simp
theorem u8s_nil : u8s [] = [] := rfl

/-! ### list[uint64] -/
def vu64 (l : List Nat) : List Value := l.map fun (x : Nat) => Value.int .u64 (x : Int)
theorem vu64_get {l : List Nat} {i : Nat} {x : Nat} (h : l[i]? = some x) : (vu64 l)[i]? = some (.int .u64 x) := by simp [vu64, h]
theorem vu64_len (l : List Nat) : (vu64 l).length = l.length := by simp [vu64]
set_option maxHeartbeats 1000000 in
theorem list_u64 {w : World} {vb vl : Value} {bs : List Int} (l : List Nat) (hl : ∀ x ∈ l, x < 18446744073709551616) (hb : Rd w 1 vb bs.length (u8s bs)) (hlen : bs.length ≤ 100000) (hr : Rd w 1 vl l.length (vu64 l)) (hll : l.length ≤ 10000) :
    Calls Try.prog 99 #[vb, vl, .func (.func 32) #[] #[]] w (MadeOut 5 1 (bs ++ listB id l).length (u8s (bs ++ listB id l)) w) := by
  obtain ⟨al, cl, rfl⟩ := hr.val
  have htot : ∀ k, (bs ++ natB l.length ++ (l.take k).flatMap fun x => natB (id x)).length ≤ 200010 := by
    intro k
    have h1 := natB_len10 (n := l.length) (by omega)
    have h2 := flatB_len id (l.take k) (fun x hx => hl x (List.mem_of_mem_take hx))
    have h3 : (l.take k).length ≤ l.length := by rw [List.length_take]; omega
    rw [List.length_append, List.length_append]; omega
  have htot' := Lib.hid htot
  have hr' := Lib.hid hr
  have hl' := Lib.hid hl
  clear htot hr hl
  go_enter Try.func99, Try.ntmps99
  go_wp2_with fail
  refine (nat_any l.length (by omega) hb (by omega)).mono ?_
  rintro e w1 ⟨a1, c1, rfl, hm⟩
  dsimp only
  clear hb
  generalize hz0 : bs ++ natB l.length = zs0 at *
  have hz0' := Lib.hid hz0
  clear hz0
  go_wp2_with fail
  go_loopw [7, 17] (fun v i wr => ∃ (k : Nat) (zs : List Int) (av : Option Addr) (cv : Nat), k ≤ l.length ∧ i = .int .i64 k ∧ v = .slice av zs.length cv ∧ zs = zs0 ++ (l.take k).flatMap (fun x => natB (id x)) ∧ Made w wr 5 1 av zs.length cv (u8s zs)) (fun _ i _ => l.length - (intOf i).toNat)
  case atStart => exact ⟨0, _, a1, c1, Nat.zero_le _, rfl, rfl, by simp, hm⟩
  case round =>
    clear hm
    obtain ⟨k, zs, av, cv, hk, rfl, rfl, hzs, hm⟩ := hrel
    obtain ⟨wo, hwo⟩ : ∃ wo : World, wo = wr := ⟨_, rfl⟩
    clear hwo
    have hzs' := Lib.hid hzs
    clear hzs
    by_cases hlt : k < l.length
    · obtain ⟨x, hx⟩ : ∃ x, l[k]? = some x := ⟨l[k], List.getElem?_eq_getElem hlt⟩
      have hxm : x ∈ l := List.mem_of_getElem? hx
      obtain ⟨g, o, rfl, _, _, hcell⟩ := (hr'.out.still hm.mod).at (by rw [vu64_len]; omega)
      have hc := hcell k _ (vu64_get hx)
      have e : zs ++ natB (id x) = zs0 ++ (l.take (k + 1)).flatMap (fun x => natB (id x)) := by rw [flat_take _ l k x hx, hzs'.out]; simp
      have hb2 := htot'.out (k + 1)
      rw [← e] at hb2
      rw [List.length_append] at hb2
      have e' := Lib.hid e
      have hput := nat_any (w := wr) (vb := .slice none 0 0) (bs := []) (id x) (hl'.out x hxm) (Rd.nil wr 1) (by simp)
      rw [List.nil_append] at hput
      clear e hx hcell
      go_wp2_with fail
      refine hput.mono ?_
      rintro e w2 ⟨a2, c2, rfl, hm2⟩
      dsimp only
      clear hput
      have hmm := hm.still hm2.mod
      generalize hN : natB (id x) = ns at *
      have hN' := Lib.hid hN
      clear hN
      go_wp2_with (at_builtin; refine app_rd rfl (.tmp 21) (.tmp 24) 45 5 _ 1 1 rfl Try.underlying45 infoU8 rfl (by omega) (by omega) (.slice av zs.length cv) (.slice a2 ns.length c2) zs.length ns.length (u8s zs) (u8s ns) rfl rfl (u8s_one _) hmm.own (Rd.own hm2.own) (by omega) ?_; intro aA cA wA hA mA vA)
      go_roundw
      case rel => exact ⟨k + 1, zs ++ ns, aA, cA, by omega, by go_num, by rw [List.length_append], by rw [← hN'.out] at e' ⊢; exact e'.out, by rw [List.length_append, u8s_append]; exact hmm.push hA mA vA⟩
      case measure => simp [intOf]; omega
    · have hk' : k = l.length := by omega
      have e : zs = bs ++ listB id l := by rw [hzs'.out, hk', List.take_length, ← hz0'.out]; simp [listB]
      have e' := Lib.hid e
      clear e hk'
      go_wp2_with fail
      go_ret
      rw [← e'.out]
      exact ⟨av, cv, rfl, hm⟩
set_option maxHeartbeats 1000000 in
theorem nats_any {w : World} {vb vl : Value} {bs : List Int} (l : List Nat) (hl : ∀ x ∈ l, x < 18446744073709551616) (hb : Rd w 1 vb bs.length (u8s bs)) (hlen : bs.length ≤ 100000) (hr : Rd w 1 vl l.length (vu64 l)) (hll : l.length ≤ 10000) :
    Calls Try.prog 38 #[vb, vl] w (MadeOut 5 1 (bs ++ listB id l).length (u8s (bs ++ listB id l)) w) := by
  have h := list_u64 l hl hb hlen hr hll
  clear hl hb hr
  go_enter Try.func38, Try.ntmps38
  go_wp2_with fail
  refine h.mono ?_
  rintro e w1 ⟨a1, c1, rfl, hm⟩
  dsimp only
  go_wp2_with fail
  go_ret
  exact ⟨a1, c1, rfl, hm⟩

/-! ### list[int64] -/
def vi64 (l : List Int) : List Value := l.map fun (x : Int) => Value.int .i64 (x : Int)
theorem vi64_get {l : List Int} {i : Nat} {x : Int} (h : l[i]? = some x) : (vi64 l)[i]? = some (.int .i64 x) := by simp [vi64, h]
theorem vi64_len (l : List Int) : (vi64 l).length = l.length := by simp [vi64]
set_option maxHeartbeats 1000000 in
theorem list_i64 {w : World} {vb vl : Value} {bs : List Int} (l : List Int) (hl : ∀ x ∈ l, -9223372036854775808 ≤ x ∧ x ≤ 9223372036854775807) (hb : Rd w 1 vb bs.length (u8s bs)) (hlen : bs.length ≤ 100000) (hr : Rd w 1 vl l.length (vi64 l)) (hll : l.length ≤ 10000) :
    Calls Try.prog 100 #[vb, vl, .func (.func 34) #[] #[]] w (MadeOut 5 1 (bs ++ listB signN l).length (u8s (bs ++ listB signN l)) w) := by
  obtain ⟨al, cl, rfl⟩ := hr.val
  have htot : ∀ k, (bs ++ natB l.length ++ (l.take k).flatMap fun x => natB (signN x)).length ≤ 200010 := by
    intro k
    have h1 := natB_len10 (n := l.length) (by omega)
    have h2 := flatB_len signN (l.take k) (fun x hx => signN_lt x (hl x (List.mem_of_mem_take hx)).1 (hl x (List.mem_of_mem_take hx)).2)
    have h3 : (l.take k).length ≤ l.length := by rw [List.length_take]; omega
    rw [List.length_append, List.length_append]; omega
  have htot' := Lib.hid htot
  have hr' := Lib.hid hr
  have hl' := Lib.hid hl
  clear htot hr hl
  go_enter Try.func100, Try.ntmps100
  go_wp2_with fail
  refine (nat_any l.length (by omega) hb (by omega)).mono ?_
  rintro e w1 ⟨a1, c1, rfl, hm⟩
  dsimp only
  clear hb
  generalize hz0 : bs ++ natB l.length = zs0 at *
  have hz0' := Lib.hid hz0
  clear hz0
  go_wp2_with fail
  go_loopw [7, 17] (fun v i wr => ∃ (k : Nat) (zs : List Int) (av : Option Addr) (cv : Nat), k ≤ l.length ∧ i = .int .i64 k ∧ v = .slice av zs.length cv ∧ zs = zs0 ++ (l.take k).flatMap (fun x => natB (signN x)) ∧ Made w wr 5 1 av zs.length cv (u8s zs)) (fun _ i _ => l.length - (intOf i).toNat)
  case atStart => exact ⟨0, _, a1, c1, Nat.zero_le _, rfl, rfl, by simp, hm⟩
  case round =>
    clear hm
    obtain ⟨k, zs, av, cv, hk, rfl, rfl, hzs, hm⟩ := hrel
    obtain ⟨wo, hwo⟩ : ∃ wo : World, wo = wr := ⟨_, rfl⟩
    clear hwo
    have hzs' := Lib.hid hzs
    clear hzs
    by_cases hlt : k < l.length
    · obtain ⟨x, hx⟩ : ∃ x, l[k]? = some x := ⟨l[k], List.getElem?_eq_getElem hlt⟩
      have hxm : x ∈ l := List.mem_of_getElem? hx
      obtain ⟨g, o, rfl, _, _, hcell⟩ := (hr'.out.still hm.mod).at (by rw [vi64_len]; omega)
      have hc := hcell k _ (vi64_get hx)
      have e : zs ++ natB (signN x) = zs0 ++ (l.take (k + 1)).flatMap (fun x => natB (signN x)) := by rw [flat_take _ l k x hx, hzs'.out]; simp
      have hb2 := htot'.out (k + 1)
      rw [← e] at hb2
      rw [List.length_append] at hb2
      have e' := Lib.hid e
      have hput := int_any (w := wr) (vb := .slice none 0 0) (bs := []) x (hl'.out x hxm).1 (hl'.out x hxm).2 (Rd.nil wr 1) (by simp)
      rw [List.nil_append] at hput
      clear e hx hcell
      go_wp2_with fail
      refine hput.mono ?_
      rintro e w2 ⟨a2, c2, rfl, hm2⟩
      dsimp only
      clear hput
      have hmm := hm.still hm2.mod
      generalize hN : natB (signN x) = ns at *
      have hN' := Lib.hid hN
      clear hN
      go_wp2_with (at_builtin; refine app_rd rfl (.tmp 21) (.tmp 24) 45 5 _ 1 1 rfl Try.underlying45 infoU8 rfl (by omega) (by omega) (.slice av zs.length cv) (.slice a2 ns.length c2) zs.length ns.length (u8s zs) (u8s ns) rfl rfl (u8s_one _) hmm.own (Rd.own hm2.own) (by omega) ?_; intro aA cA wA hA mA vA)
      go_roundw
      case rel => exact ⟨k + 1, zs ++ ns, aA, cA, by omega, by go_num, by rw [List.length_append], by rw [← hN'.out] at e' ⊢; exact e'.out, by rw [List.length_append, u8s_append]; exact hmm.push hA mA vA⟩
      case measure => simp [intOf]; omega
    · have hk' : k = l.length := by omega
      have e : zs = bs ++ listB signN l := by rw [hzs'.out, hk', List.take_length, ← hz0'.out]; simp [listB]
      have e' := Lib.hid e
      clear e hk'
      go_wp2_with fail
      go_ret
      rw [← e'.out]
      exact ⟨av, cv, rfl, hm⟩
set_option maxHeartbeats 1000000 in
theorem ints_any {w : World} {vb vl : Value} {bs : List Int} (l : List Int) (hl : ∀ x ∈ l, -9223372036854775808 ≤ x ∧ x ≤ 9223372036854775807) (hb : Rd w 1 vb bs.length (u8s bs)) (hlen : bs.length ≤ 100000) (hr : Rd w 1 vl l.length (vi64 l)) (hll : l.length ≤ 10000) :
    Calls Try.prog 40 #[vb, vl] w (MadeOut 5 1 (bs ++ listB signN l).length (u8s (bs ++ listB signN l)) w) := by
  have h := list_i64 l hl hb hlen hr hll
  clear hl hb hr
  go_enter Try.func40, Try.ntmps40
  go_wp2_with fail
  refine h.mono ?_
  rintro e w1 ⟨a1, c1, rfl, hm⟩
  dsimp only
  go_wp2_with fail
  go_ret
  exact ⟨a1, c1, rfl, hm⟩
end Code
end Go.Proofs.Ytmkbinbggiocaaa

set_option linter.unusedVariables false
set_option linter.unusedSimpArgs false
namespace Go.Proofs.Ytmkbinbggiocaaa
open Go.RowKit
namespace Code
theorem made_lit (w : World) (e : Nat) (cs : List Value) (h : cs.length ≤ 1000) : Made w (w.alloc (.cells cs.toArray e)) e 1 (some ⟨w.heap.size, 0, none⟩) cs.length cs.length cs := by
  have h1 := World.ownsRow_lit (base := 0) (e := e) (size := 1) w cs.toArray cs.length (Nat.zero_le _) (by simp only [maxLen]; omega) (by simp)
  exact ⟨by simpa using h1, (Mod.refl _ _).alloc _, by simp [Value.ownBlock]⟩
set_option maxHeartbeats 1000000 in
theorem refNat (k : Nat) : ∀ (n : Nat) (w : World), n < 128 ^ k → 0 < k → k ≤ 11 → n < 18446744073709551616 →
    Calls Try.prog 33 #[.int .u64 n] w (MadeOut 5 1 (natB n).length (u8s (natB n)) w) := by
  induction k with
  | zero => intro n w _ h; omega
  | succ k ih =>
    intro n w hn _ hk hm
    by_cases h : n < 128
    · have hd : decide ((n : Int) < 128) = true := by simp; omega
      have hfin := made_lit w 5 [.int .u8 n] (by simp)
      have hfin' := Lib.hid hfin
      clear hfin ih hn
      go_enter Try.func33, Try.ntmps33
      go_wp2_with fail
      go_ret
      rw [natB_small h]
      exact ⟨_, _, rfl, hfin'.out⟩
    · have hd : decide ((n : Int) < 128) = false := by simp; omega
      have h1 : n / 128 < 128 ^ k := by rw [Nat.div_lt_iff_lt_mul (by omega)]; rw [Nat.pow_succ] at hn; omega
      have hk0 : 0 < k := by
        rcases Nat.eq_zero_or_pos k with rfl | h'
        · simp at h1; omega
        · exact h'
      have hl := natB_len10 (n := n / 128) (by omega)
      have hrec : ∀ w, Calls Try.prog 33 #[.int .u64 ((n : Int) / 128)] w (MadeOut 5 1 (natB (n / 128)).length (u8s (natB (n / 128))) w) := fun w => by
        rw [show ((n : Int) / 128) = ((n / 128 : Nat) : Int) from by simp]
        exact ih (n / 128) w h1 hk0 (by omega) (by omega)
      have hrec' := Lib.hid hrec
      have e : natB n = [(n : Int) % 128 + 128] ++ natB (n / 128) := by rw [natB_big h]; simp
      have e' := Lib.hid e
      have hmade := made_lit w 5 (u8s [(n : Int) % 128 + 128]) (by simp [u8s])
      have hmade' := Lib.hid hmade
      generalize natB (n / 128) = ns at *
      clear ih hrec hn h1 e hmade
      go_enter Try.func33, Try.ntmps33
      go_wp2_with fail
      refine (hrec'.out _).mono ?_
      rintro e w2 ⟨a2, c2, rfl, hm2⟩
      dsimp only
      have hmm := hmade'.out.still hm2.mod
      go_wp2_with (at_builtin; refine app_rd rfl (.tmp 14) (.tmp 17) 45 5 _ 1 1 rfl Try.underlying45 infoU8 rfl (by omega) (by omega) (.slice (some ⟨w.heap.size, 0, none⟩) 1 1) (.slice a2 ns.length c2) 1 ns.length (u8s [(n : Int) % 128 + 128]) (u8s ns) rfl rfl (u8s_one _) hmm.own (Rd.own hm2.own) (by omega) ?_; intro aA cA wA hA mA vA)
      go_ret
      rw [e'.out, List.length_append, u8s_append]
      exact ⟨aA, cA, rfl, hmm.push hA mA vA⟩
theorem refNat_any (n : Nat) (w : World) (h : n < 18446744073709551616) :
    Calls Try.prog 33 #[.int .u64 n] w (MadeOut 5 1 (natB n).length (u8s (natB n)) w) := refNat 10 n w (by omega) (by omega) (by omega) h
set_option maxHeartbeats 1000000 in
theorem refSign (n : Int) (w : World) (h0 : -9223372036854775808 ≤ n) (h1 : n ≤ 9223372036854775807) :
    Calls Try.prog 35 #[.int .i64 n] w fun e w' => e = .returned (.int .u64 (signN n)) ∧ w = w' := by
  by_cases h : n < 0
  · have hd : decide (n < 0) = true := by simpa using h
    have e : ((signN n : Nat) : Int) = -(n + 1) * 2 + 1 := by unfold signN; rw [if_neg (by omega)]; omega
    have e' := Lib.hid e
    clear e
    go_enter Try.func35, Try.ntmps35
    go_wp2
    go_ret
    rw [e'.out]
    exact ⟨rfl, rfl⟩
  · have hd : decide (n < 0) = false := by simp; omega
    have h' : 0 ≤ n := by omega
    have e : ((signN n : Nat) : Int) = n * 2 := by unfold signN; rw [if_pos (by omega)]; omega
    have e' := Lib.hid e
    clear e
    go_enter Try.func35, Try.ntmps35
    go_wp2
    go_ret
    rw [e'.out]
    exact ⟨rfl, rfl⟩
set_option maxHeartbeats 1000000 in
theorem refNats {w : World} {vl : Value} (l : List Nat) (hl : ∀ x ∈ l, x < 18446744073709551616) (hr : Rd w 1 vl l.length (vu64 l)) (hll : l.length ≤ 10000) :
    Calls Try.prog 39 #[vl] w (MadeOut 5 1 (listB id l).length (u8s (listB id l)) w) := by
  obtain ⟨al, cl, rfl⟩ := hr.val
  have htot : ∀ k, (natB l.length ++ (l.take k).flatMap fun x => natB (id x)).length ≤ 200010 := by
    intro k
    have h1 := natB_len10 (n := l.length) (by omega)
    have h2 := flatB_len id (l.take k) (fun x hx => hl x (List.mem_of_mem_take hx))
    have h3 : (l.take k).length ≤ l.length := by rw [List.length_take]; omega
    rw [List.length_append]; omega
  have htot' := Lib.hid htot
  have hr' := Lib.hid hr
  have hl' := Lib.hid hl
  clear htot hr hl
  go_enter Try.func39, Try.ntmps39
  go_wp2_with fail
  refine (refNat_any l.length w (by omega)).mono ?_
  rintro e w1 ⟨a1, c1, rfl, hm⟩
  dsimp only
  generalize hz0 : natB l.length = zs0 at *
  have hz0' := Lib.hid hz0
  clear hz0
  go_wp2_with fail
  go_loopw [3, 4] (fun v i wr => ∃ (k : Nat) (zs : List Int) (av : Option Addr) (cv : Nat), k ≤ l.length ∧ i = .int .i64 k ∧ v = .slice av zs.length cv ∧ zs = zs0 ++ (l.take k).flatMap (fun x => natB (id x)) ∧ Made w wr 5 1 av zs.length cv (u8s zs)) (fun _ i _ => l.length - (intOf i).toNat)
  case atStart => exact ⟨0, _, a1, c1, Nat.zero_le _, rfl, rfl, by simp, hm⟩
  case round =>
    clear hm
    obtain ⟨k, zs, av, cv, hk, rfl, rfl, hzs, hm⟩ := hrel
    obtain ⟨wo, hwo⟩ : ∃ wo : World, wo = wr := ⟨_, rfl⟩
    clear hwo
    have hzs' := Lib.hid hzs
    clear hzs
    by_cases hlt : k < l.length
    · obtain ⟨x, hx⟩ : ∃ x, l[k]? = some x := ⟨l[k], List.getElem?_eq_getElem hlt⟩
      have hxm : x ∈ l := List.mem_of_getElem? hx
      obtain ⟨g, o, rfl, _, _, hcell⟩ := (hr'.out.still hm.mod).at (by rw [vu64_len]; omega)
      have hc := hcell k _ (vu64_get hx)
      have e : zs ++ natB (id x) = zs0 ++ (l.take (k + 1)).flatMap (fun x => natB (id x)) := by rw [flat_take _ l k x hx, hzs'.out]; simp
      have hb2 := htot'.out (k + 1)
      rw [← e] at hb2
      rw [List.length_append] at hb2
      have e' := Lib.hid e
      have hput := refNat_any (id x) wr (hl'.out x hxm)
      clear e hx hcell
      go_wp2_with fail
      refine hput.mono ?_
      rintro e w2 ⟨a2, c2, rfl, hm2⟩
      dsimp only
      clear hput
      have hmm := hm.still hm2.mod
      generalize hN : natB (id x) = ns at *
      have hN' := Lib.hid hN
      clear hN
      go_wp2_with (at_builtin; refine app_rd rfl (.tmp 15) (.tmp 20) 45 5 _ 1 1 rfl Try.underlying45 infoU8 rfl (by omega) (by omega) (.slice av zs.length cv) (.slice a2 ns.length c2) zs.length ns.length (u8s zs) (u8s ns) rfl rfl (u8s_one _) hmm.own (Rd.own hm2.own) (by omega) ?_; intro aA cA wA hA mA vA)
      go_roundw
      case rel => exact ⟨k + 1, zs ++ ns, aA, cA, by omega, by go_num, by rw [List.length_append], by rw [← hN'.out] at e' ⊢; exact e'.out, by rw [List.length_append, u8s_append]; exact hmm.push hA mA vA⟩
      case measure => simp [intOf]; omega
    · have hk' : k = l.length := by omega
      have e : zs = listB id l := by rw [hzs'.out, hk', List.take_length, ← hz0'.out]; simp [listB]
      have e' := Lib.hid e
      clear e hk'
      go_wp2_with fail
      go_ret
      rw [← e'.out]
      exact ⟨av, cv, rfl, hm⟩
theorem infoU64 : (Try.prog.info? 50).map (fun i => (i.zero, i.size, i.bytes)) = some (some (.int .u64 0), 1, 8) := by kernel_rfl
theorem vu64_append (l m : List Nat) : vu64 (l ++ m) = vu64 l ++ vu64 m := by simp [vu64]
theorem listB_map (l : List Int) : listB id (l.map signN) = listB signN l := by simp [listB, List.flatMap_map]
set_option maxHeartbeats 1000000 in
theorem refInts {w : World} {vl : Value} (l : List Int) (hl : ∀ x ∈ l, -9223372036854775808 ≤ x ∧ x ≤ 9223372036854775807) (hr : Rd w 1 vl l.length (vi64 l)) (hll : l.length ≤ 10000) :
    Calls Try.prog 41 #[vl] w (MadeOut 5 1 (listB signN l).length (u8s (listB signN l)) w) := by
  obtain ⟨al, cl, rfl⟩ := hr.val
  have hr' := Lib.hid hr
  have hl' := Lib.hid hl
  clear hr hl
  go_enter Try.func41, Try.ntmps41
  go_wp2_with fail
  go_loopw [3, 4] (fun v i wr => ∃ (k : Nat) (av : Option Addr) (cv : Nat), k ≤ l.length ∧ i = .int .i64 k ∧ v = .slice av k cv ∧ Made w wr 50 1 av k cv (vu64 ((l.take k).map signN))) (fun _ i _ => l.length - (intOf i).toNat)
  case atStart => exact ⟨0, none, 0, Nat.zero_le _, rfl, rfl, World.ownsRow_nil _ _ _ _, Mod.refl _ _, by simp [Value.ownBlock]⟩
  case round =>
    obtain ⟨k, av, cv, hk, rfl, rfl, hm⟩ := hrel
    obtain ⟨wo, hwo⟩ : ∃ wo : World, wo = wr := ⟨_, rfl⟩
    clear hwo
    by_cases hlt : k < l.length
    · obtain ⟨x, hx⟩ : ∃ x, l[k]? = some x := ⟨l[k], List.getElem?_eq_getElem hlt⟩
      have hxm : x ∈ l := List.mem_of_getElem? hx
      obtain ⟨g, o, rfl, _, _, hcell⟩ := (hr'.out.still hm.mod).at (by rw [vi64_len]; omega)
      have hc := hcell k _ (vi64_get hx)
      have e : vu64 ((l.take (k + 1)).map signN) = vu64 ((l.take k).map signN) ++ [.int .u64 (signN x)] := by rw [List.take_add_one, hx]; simp [vu64]
      have e' := Lib.hid e
      have hs := refSign x wr (hl'.out x hxm).1 (hl'.out x hxm).2
      clear e hx hcell
      go_wp2_with fail
      refine hs.mono ?_
      rintro e w2 ⟨rfl, rfl⟩
      dsimp only
      clear hs
      go_wp2_with (at_builtin; refine app_own rfl (.tmp 11) (.tmp 17) 49 50 _ 1 8 rfl Try.underlying49 infoU64 rfl (by omega) (by omega) (.slice av k cv) k 1 (vu64 ((l.take k).map signN)) [.int .u64 (signN x)] rfl rfl (by simp) rfl (by simp [Value.oneCell']) hm.own (by omega) ?_; intro aA cA wA hA mA vA)
      go_roundw
      case rel => exact ⟨k + 1, aA, cA, by omega, by go_num, rfl, by rw [e'.out]; exact hm.push hA mA vA⟩
      case measure => simp [intOf]; omega
    · have hk' : k = l.length := by omega
      have e : (l.take k).map signN = l.map signN := by rw [hk', List.take_length]
      rw [e] at hm
      have hlen : (l.map signN).length = k := by simp [hk']
      have hn := refNats (w := wr) (vl := .slice av k cv) (l.map signN) (fun y hy => by
        obtain ⟨x, hx, rfl⟩ := List.mem_map.1 hy
        exact signN_lt x (hl'.out x hx).1 (hl'.out x hx).2) (by rw [hlen]; exact Rd.own hm.own) (by rw [hlen]; omega)
      rw [listB_map] at hn
      clear e hk' hlen
      go_wp2_with fail
      refine hn.mono ?_
      rintro e w2 ⟨a2, c2, rfl, hm2⟩
      dsimp only
      clear hn
      go_wp2_with fail
      go_ret
      exact ⟨a2, c2, rfl, hm2.before hm.mod⟩
end Code
end Go.Proofs.Ytmkbinbggiocaaa

set_option linter.unusedVariables false
set_option linter.unusedSimpArgs false
namespace Go.Proofs.Ytmkbinbggiocaaa
open Go.RowKit
/-- make([]T, m), T of one cell: laid ahead of go_enter, the walk takes it as a rule. -/
theorem make_run {P : Program} (t e : TypeId) (z : Value) (bytes : Nat) (ht : P.underlying t = some (.slice e)) (hinfo : (P.info? e).map (fun i => (i.zero, i.size, i.bytes)) = some (some z, 1, bytes)) (hz : z.cells = #[z]) (hb0 : 0 < bytes)
    (m : Nat) (hn : m * bytes ≤ 281474976710656) :
    ∀ W : World, (Instr.makeSlice t (.int .i64 (m : Int)) (.int .i64 (m : Int))).run P W = .ok (.slice (some ⟨W.heap.size, 0, none⟩) m m) (W.alloc (.cells (madeCells #[z] m) e)) := by
  intro W
  have hm : m ≤ 281474976710656 := Nat.le_trans (Nat.le_mul_of_pos_right _ hb0) hn
  exact run_make_row' t e z bytes ht hinfo hz .i64 .i64 m (by rw [Nat.mul_comm]; exact hn) (by omega) W
theorem made_made (w : World) (e : Nat) (z : Value) (m : Nat) (hm : m ≤ 1000000000) : Made w (w.alloc (.cells (madeCells #[z] m) e)) e 1 (some ⟨w.heap.size, 0, none⟩) m m (List.replicate m z) := by
  have h := World.ownsRow_lit (base := 0) (e := e) (size := 1) w (madeCells #[z] m) m (Nat.zero_le _) (by simp only [maxLen]; omega) (by simp [size_madeCells])
  have hl : (madeCells #[z] m).toList = List.replicate m z := by
    apply List.ext_getElem
    · simp [madeCells]
    · intro i h1 h2; simp [madeCells, Nat.mod_one]
  rw [hl] at h
  exact ⟨h, (Mod.refl _ _).alloc _, by simp [Value.ownBlock]⟩
theorem Made.form {w w' : World} {e n c : Nat} {a : Option Addr} {xs : List Value} (h : Made w w' e 1 a n c xs) (hn : 0 < n) : ∃ g, a = some ⟨g, 0, none⟩ := by
  rcases h.own.2 with ⟨he, h0⟩ | ⟨g, cap, cur, he, _⟩
  · omega
  · injection he with he; exact ⟨g, he⟩
/-- A cell of an own row is stored. -/
theorem Made.store {w w' : World} {e n c g : Nat} {xs : List Value} (h : Made w w' e 1 (some ⟨g, 0, none⟩) n c xs) (j : Nat) (u : Value) : Made w (w'.setCell ⟨g, j, none⟩ u) e 1 (some ⟨g, 0, none⟩) n c (xs.set j u) := by
  have hg := h.new g rfl
  exact ⟨(h.own.stored j u).1, h.mod.setCell _ _ (fun hlt => by simp only at hlt; omega), h.new⟩
theorem Made.cell {w w' : World} {e n c g : Nat} {xs : List Value} (h : Made w w' e 1 (some ⟨g, 0, none⟩) n c xs) (j : Nat) {u : Value} (hu : xs[j]? = some u) : w'.cell? ⟨g, j, none⟩ = some u := by
  have hj := (List.getElem?_eq_some_iff.1 hu).1
  rw [h.own.cellAt j (by rw [← h.own.1]; exact hj), hu]
theorem Made.drewN {w w' : World} {e size n c : Nat} {a : Option Addr} {xs : List Value} (h : Made w w' e size a n c xs) (k : Nat) : Made w (w'.drewN k) e size a n c xs := h.still ((Mod.refl _ _).drewN k)
end Go.Proofs.Ytmkbinbggiocaaa
