/- The numbers that are given: both arenas tell the same ones. -/
import Derived.Test.YtmkbinbggiocaaaRef11c
import Derived.Test.YtmkbinbggiocaaaKit2
set_option linter.unusedVariables false
set_option linter.unusedSimpArgs false
namespace Go.Proofs.Ytmkbinbggiocaaa
open Go.RowKit Arena
namespace ArI
def liveTo {E : Type} (A : Ar E) (k : Nat) : List Nat := (List.range k).filter fun i => (A.cells[i]?).join.isSome
def live {E : Type} (A : Ar E) : List Nat := liveTo A A.cells.length
theorem liveTo_len {E : Type} (A : Ar E) (k : Nat) : (liveTo A k).length ≤ k := by
  have := List.length_filter_le (fun i => (A.cells[i]?).join.isSome) (List.range k)
  simpa [liveTo] using this
theorem liveTo_yes {E : Type} {A : Ar E} {k : Nat} {x : E} (h : A.cells[k]? = some (some x)) : liveTo A (k + 1) = liveTo A k ++ [k] := by
  simp [liveTo, List.range_succ, List.filter_append, h]
theorem liveTo_no {E : Type} {A : Ar E} {k : Nat} (h : A.cells[k]? = some none) : liveTo A (k + 1) = liveTo A k := by
  simp [liveTo, List.range_succ, List.filter_append, h]
set_option maxHeartbeats 400000 in
theorem live_nil (w : World) :
    Calls Try.prog 30 #[.pointer none] w fun e w' => e = .returned (.slice none 0 0) ∧ w = w' := by
  go_enter Try.func30, Try.ntmps30
  go_wp2
  go_ret
  exact ⟨rfl, rfl⟩
set_option maxHeartbeats 1000000 in
theorem live_at {w : World} {ba : Nat} {A : Ar Int} {F : List Nat} (H : At w ba A F) :
    Calls Try.prog 30 #[.pointer (some ⟨ba, 0, none⟩)] w (RowOut 3 1 (live A).length (Ref11.nats (live A)) w) := by
  obtain ⟨sv, C, f, hfit, hb, hrow, hne, hF⟩ := H.out
  have hlen := hfit.len
  have hc := count_le hfit
  obtain ⟨a, c, hsv⟩ : ∃ a c, sv = .slice a C.length c := by
    rcases row_cases hrow with ⟨rfl, rfl⟩ | ⟨g, cap, rfl⟩
    · exact ⟨none, 0, rfl⟩
    · exact ⟨_, _, rfl⟩
  subst hsv
  have hb1 := hb.cell 1 rfl
  have hl := hb.lt
  have hCl : C.length ≤ 1048576 := by omega
  have K : Hid (∀ wr, Mod [] w wr → wr.cell? ⟨ba, 1, none⟩ = some (.slice a C.length c)) := fun wr m => (hb.keep m (by simp)).cell 1 rfl
  have hlen' := Lib.hid hlen
  clear hb hc hne hF H hlen
  go_enter Try.func30, Try.ntmps30
  go_wp2
  go_loopw [3, 12] (fun v i wr => ∃ (k : Nat) (av : Option Addr) (cv : Nat), k ≤ C.length ∧ i = .int .i64 k ∧ v = .slice av (liveTo A k).length cv ∧ wr.ownsRow 0 3 1 (.slice av (liveTo A k).length cv) (liveTo A k).length (Ref11.nats (liveTo A k)) ∧ Mod [] w wr ∧ ∀ b, (Value.slice av (liveTo A k).length cv).ownBlock = some b → w.heap.size ≤ b) (fun _ i _ => C.length - (intOf i).toNat)
  case atStart => exact ⟨0, none, 0, Nat.zero_le _, rfl, rfl, World.ownsRow_nil _ _ _ _, Mod.refl _ _, by simp [Value.ownBlock]⟩
  case round =>
    obtain ⟨k, av, cv, hk, rfl, rfl, hown, hm, hfr⟩ := hrel
    obtain ⟨wo, hwo⟩ : ∃ wo : World, wo = wr := ⟨_, rfl⟩
    have hb1r := K.out _ hm
    have hll := liveTo_len A k
    by_cases hlt : k < C.length
    · obtain ⟨g, cap, hsv⟩ : ∃ g cap, a = some ⟨g, 0, none⟩ ∧ c = cap := by
        rcases hrow.2 with ⟨h, _⟩ | ⟨g, cap, cur, h, _⟩
        · injection h with h1 h2; omega
        · injection h with h1 h2 h3; exact ⟨g, c, h1, rfl⟩
      obtain ⟨rfl, rfl⟩ := hsv
      have hrw := own_keep hrow hm (by simp)
      rcases hfit.given hlt with ⟨x, hx, hcx⟩ | ⟨hx, nx, hcx⟩
      · have hcell := (row_cell hrw _ hcx).2.1
        have hy := liveTo_yes hx
        have hfin : ∀ (a1 : Option Addr) (c1 : Nat) (w1 : World), w1.ownsRow 0 3 1 (.slice a1 ((liveTo A k).length + 1) c1) ((liveTo A k).length + 1) (Ref11.nats (liveTo A k) ++ [.int .i64 k]) →
            Mod (Value.slice av (liveTo A k).length cv).ownBlock.toList wr w1 → ((Value.slice a1 ((liveTo A k).length + 1) c1).ownBlock = (Value.slice av (liveTo A k).length cv).ownBlock ∨ ∃ b, (Value.slice a1 ((liveTo A k).length + 1) c1).ownBlock = some b ∧ wr.heap.size ≤ b) →
            ∃ (k' : Nat) (av' : Option Addr) (cv' : Nat), k' ≤ C.length ∧ Value.int .i64 ((k : Int) + 1) = .int .i64 k' ∧ Value.slice a1 ((liveTo A k).length + 1) c1 = .slice av' (liveTo A k').length cv' ∧ w1.ownsRow 0 3 1 (.slice av' (liveTo A k').length cv') (liveTo A k').length (Ref11.nats (liveTo A k')) ∧ Mod [] w w1 ∧ ∀ b, (Value.slice av' (liveTo A k').length cv').ownBlock = some b → w.heap.size ≤ b := by
          intro a1 c1 w1 h1 h2 h3
          refine ⟨k + 1, a1, c1, by omega, by simp, ?_⟩
          rw [hy, List.length_append, show [k].length = 1 from rfl]
          exact ⟨rfl, by simpa [Ref11.nats] using h1, hm.ge h2 hfr, ge_of_old _ hfr h3 hm.size⟩
        have hfin' := Lib.hid hfin
        have hmeas : C.length - (k + 1) < C.length - k := by omega
        clear hfin hy hx hcx hrw hwo hlen'
        go_wp2_with (at_builtin; refine app_own rfl (.tmp 23) (.tmp 25) 36 3 _ 1 8 rfl Try.underlying36 Ref11.infoI rfl (by omega) (by omega) (.slice av (liveTo A k).length cv) (liveTo A k).length 1 (Ref11.nats (liveTo A k)) [.int .i64 k] rfl rfl (by simp) rfl (by simp [Value.oneCell']) hown (by omega) ?_; intro aA cA wA hownA hmA hvA)
        go_roundw
        case rel => exact hfin'.out _ _ _ hownA hmA hvA
        case measure => simp [intOf]; omega
      · have hcell := (row_cell hrw _ hcx).2.1
        have hy := liveTo_no hx
        have hfin : ∃ (k' : Nat) (av' : Option Addr) (cv' : Nat), k' ≤ C.length ∧ Value.int .i64 ((k : Int) + 1) = .int .i64 k' ∧ Value.slice av (liveTo A k).length cv = .slice av' (liveTo A k').length cv' ∧ wr.ownsRow 0 3 1 (.slice av' (liveTo A k').length cv') (liveTo A k').length (Ref11.nats (liveTo A k')) ∧ Mod [] w wr ∧ ∀ b, (Value.slice av' (liveTo A k').length cv').ownBlock = some b → w.heap.size ≤ b := by
          refine ⟨k + 1, av, cv, by omega, by simp, ?_⟩
          rw [hy]
          exact ⟨rfl, hown, hm, hfr⟩
        have hfin' := Lib.hid hfin
        clear hfin hy hx hcx hrw hwo hlen'
        go_wp2_with fail
        go_roundw
        case rel => exact hfin'.out
        case measure => simp [intOf]; omega
    · have hk' : k = C.length := by omega
      have hfin : liveTo A k = live A := by unfold live; rw [← hlen'.out, hk']
      have hfin' := Lib.hid hfin
      clear hfin hwo hlen' hk'
      go_wp2_with fail
      go_ret
      rw [hfin'.out] at hown hfr ⊢
      exact ⟨av, cv, rfl, hown, hm, hfr⟩

end ArI
namespace Ref11
set_option maxHeartbeats 1000000 in
theorem live_at {w : World} {bx : Nat} {A : Ar Int} {F : List Nat} (H : At w bx A F) (ok : Ok A) :
    Calls Try.prog 26 #[.pointer (some ⟨bx, 0, none⟩)] w (RowOut 3 1 (ArI.live A).length (nats (ArI.live A)) w) := by
  obtain ⟨sx, si, sf, X, I, hs, hb, hx, hi, hf, _⟩ := H.out
  have e1 := hs.lx
  have e2 := hs.li
  have e3 := ok.fits
  have e4 := ok.most
  obtain ⟨ax, cx, rfl⟩ := slice_val hx
  have hXl : X.length ≤ 1048576 := by omega
  have K : Hid (∀ wr, Mod [] w wr → wr.cell? ⟨bx, 1, none⟩ = some (.slice ax X.length cx) ∧ wr.cell? ⟨bx, 2, none⟩ = some si) := fun wr m => ⟨(hb.keep m (by simp)).cell 1 rfl, (hb.keep m (by simp)).cell 2 rfl⟩
  have K2 : Hid (∀ k v, I[k]? = some v → ∀ wr, Mod [] w wr → ∃ gi cap, si = .slice (some ⟨gi, 0, none⟩) I.length cap ∧ wr.cell? ⟨gi, k, none⟩ = some (.bool v)) := by
    intro k v hv wr m
    have hk := (List.getElem?_eq_some_iff.1 hv).1
    obtain ⟨gi, cap, rfl⟩ := row_form hi (i := k) hk
    exact ⟨gi, cap, rfl, row_at (own_keep hi m (by simp)) _ (bools_get hv)⟩
  have hl := hb.lt
  have e1' := Lib.hid e1
  have e2' := Lib.hid e2
  clear hb hx hi hf H e1 e2
  go_enter Try.func26, Try.ntmps26
  go_wp2
  go_loopw [3, 4] (fun v i wr => ∃ (k : Nat) (av : Option Addr) (cv : Nat), k ≤ X.length ∧ i = .int .i64 k ∧ v = .slice av (ArI.liveTo A k).length cv ∧ wr.ownsRow 0 3 1 (.slice av (ArI.liveTo A k).length cv) (ArI.liveTo A k).length (nats (ArI.liveTo A k)) ∧ Mod [] w wr ∧ ∀ b, (Value.slice av (ArI.liveTo A k).length cv).ownBlock = some b → w.heap.size ≤ b) (fun _ i _ => X.length - (intOf i).toNat)
  case atStart => exact ⟨0, none, 0, Nat.zero_le _, rfl, rfl, World.ownsRow_nil _ _ _ _, Mod.refl _ _, by simp [Value.ownBlock]⟩
  case round =>
    obtain ⟨k, av, cv, hk, rfl, rfl, hown, hm, hfr⟩ := hrel
    obtain ⟨q1, q2⟩ := K.out _ hm
    have hll := ArI.liveTo_len A k
    by_cases hlt : k < X.length
    · have hkc : k < A.cells.length := by rw [← e1'.out]; exact hlt
      have hlI : (k : Int) < I.length := by have := e2'.out; omega
      have hlI2 : I.length ≤ 1048576 := by have := e2'.out; omega
      cases hx : A.cells[k] with
      | some x =>
        have hx' : A.cells[k]? = some (some x) := by rw [List.getElem?_eq_getElem hkc, hx]
        obtain ⟨gi, cap, rfl, hcell⟩ := K2.out k true (hs.live _ _ hx').2 _ hm
        have hy := ArI.liveTo_yes hx'
        have hfin : ∀ (a1 : Option Addr) (c1 : Nat) (w1 : World), w1.ownsRow 0 3 1 (.slice a1 ((ArI.liveTo A k).length + 1) c1) ((ArI.liveTo A k).length + 1) (nats (ArI.liveTo A k) ++ [.int .i64 k]) →
            Mod (Value.slice av (ArI.liveTo A k).length cv).ownBlock.toList wr w1 → ((Value.slice a1 ((ArI.liveTo A k).length + 1) c1).ownBlock = (Value.slice av (ArI.liveTo A k).length cv).ownBlock ∨ ∃ b, (Value.slice a1 ((ArI.liveTo A k).length + 1) c1).ownBlock = some b ∧ wr.heap.size ≤ b) →
            ∃ (k' : Nat) (av' : Option Addr) (cv' : Nat), k' ≤ X.length ∧ Value.int .i64 ((k : Int) + 1) = .int .i64 k' ∧ Value.slice a1 ((ArI.liveTo A k).length + 1) c1 = .slice av' (ArI.liveTo A k').length cv' ∧ w1.ownsRow 0 3 1 (.slice av' (ArI.liveTo A k').length cv') (ArI.liveTo A k').length (nats (ArI.liveTo A k')) ∧ Mod [] w w1 ∧ ∀ b, (Value.slice av' (ArI.liveTo A k').length cv').ownBlock = some b → w.heap.size ≤ b := by
          intro a1 c1 w1 h1 h2 h3
          refine ⟨k + 1, a1, c1, by omega, by simp, ?_⟩
          rw [hy, List.length_append, show [k].length = 1 from rfl]
          exact ⟨rfl, by simpa [nats] using h1, hm.ge h2 hfr, ge_of_old _ hfr h3 hm.size⟩
        have hfin' := Lib.hid hfin
        clear hfin hy hx hx' K2
        go_wp2_with (at_builtin; refine app_own rfl (.tmp 21) (.tmp 23) 36 3 _ 1 8 rfl Try.underlying36 Ref11.infoI rfl (by omega) (by omega) (.slice av (ArI.liveTo A k).length cv) (ArI.liveTo A k).length 1 (nats (ArI.liveTo A k)) [.int .i64 k] rfl rfl (by simp) rfl (by simp [Value.oneCell']) hown (by omega) ?_; intro aA cA wA hownA hmA hvA)
        go_roundw
        case rel => exact hfin'.out _ _ _ hownA hmA hvA
        case measure => simp [intOf]; omega
      | none =>
        have hx' : A.cells[k]? = some none := by rw [List.getElem?_eq_getElem hkc, hx]
        obtain ⟨gi, cap, rfl, hcell⟩ := K2.out k false (hs.dead _ hx') _ hm
        have hy := ArI.liveTo_no hx'
        have hfin : ∃ (k' : Nat) (av' : Option Addr) (cv' : Nat), k' ≤ X.length ∧ Value.int .i64 ((k : Int) + 1) = .int .i64 k' ∧ Value.slice av (ArI.liveTo A k).length cv = .slice av' (ArI.liveTo A k').length cv' ∧ wr.ownsRow 0 3 1 (.slice av' (ArI.liveTo A k').length cv') (ArI.liveTo A k').length (nats (ArI.liveTo A k')) ∧ Mod [] w wr ∧ ∀ b, (Value.slice av' (ArI.liveTo A k').length cv').ownBlock = some b → w.heap.size ≤ b := by
          refine ⟨k + 1, av, cv, by omega, by simp, ?_⟩
          rw [hy]
          exact ⟨rfl, hown, hm, hfr⟩
        have hfin' := Lib.hid hfin
        clear hfin hy hx hx' K2
        go_wp2_with fail
        go_roundw
        case rel => exact hfin'.out
        case measure => simp [intOf]; omega
    · have hk' : k = X.length := by omega
      have hfin : ArI.liveTo A k = ArI.live A := by unfold ArI.live; rw [← e1'.out, hk']
      have hfin' := Lib.hid hfin
      clear hfin hk' K2
      go_wp2_with fail
      go_ret
      rw [hfin'.out] at hown hfr ⊢
      exact ⟨av, cv, rfl, hown, hm, hfr⟩
end Ref11
end Go.Proofs.Ytmkbinbggiocaaa
