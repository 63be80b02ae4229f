/- Whether names are a naming. -/
import Derived.Test.YtkhbnopmeapfjaaConLaw
import Derived.Test.YtkhbnopmeapfjaaSepAt
import Derived.Test.YtkhbnopmeapfjaaStepApp
import Derived.Test.YtkhbnopmeapfjaaKit3
import Derived.Laws.EntriesVeiled
import Derived.Test.YtkhbnopmeapfjaaFork
import Derived.StillTailTactics
import Derived.Deep.Cut
set_option linter.unusedVariables false
set_option linter.unusedSimpArgs false
namespace Go.Proofs.Ytkhbnopmeapfjaa
open Go.RowKit
namespace Edge
def bools (l : List Bool) : List Value := l.map Value.bool
theorem bools_got {l : List Bool} {i : Nat} {b : Bool} (h : l[i]? = some b) : (bools l)[i]? = some (.bool b) := by simp [bools, h]
theorem bools_set (l : List Bool) (i : Nat) (b : Bool) : (bools l).set i (.bool b) = bools (l.set i b) := by simp [bools, List.map_set]
theorem infoB : (Try.prog.info? 4).map (fun i => (i.zero, i.size, i.bytes)) = some (some (.bool false), 1, 1) := by kernel_rfl
/-- A name is seen that may be one. -/
theorem see_in {w0 w : World} {bk bc bl gc K x : Nat} {left : Int} {fs : List Bool} {b : Bool} {R : List Part} (hS : Sep w0 w (Blk bk [.int .i64 (K : Int)] 3 :: Blk bc [.slice (some ⟨gc, 0, none⟩) K K] 116 :: Blk bl [.int .i64 left] 3 :: Row 4 1 K (.slice (some ⟨gc, 0, none⟩) K K) (bools fs) :: R))
    (hx : x < K) (hK : K ≤ 4096) (hb : fs[x]? = some b) (hl0 : -4096 ≤ left) (hl1 : left ≤ 4096) :
    Calls Try.prog 93 #[.int .i64 (x : Int), .pointer (some ⟨bk, 0, none⟩), .pointer (some ⟨bc, 0, none⟩), .pointer (some ⟨bl, 0, none⟩)] w fun e w' => e = .returned (.bool true) ∧
      Sep w0 w' (Blk bk [.int .i64 (K : Int)] 3 :: Blk bc [.slice (some ⟨gc, 0, none⟩) K K] 116 :: Blk bl [.int .i64 (if b = true then left else left - 1)] 3 :: Row 4 1 K (.slice (some ⟨gc, 0, none⟩) K K) (bools (fs.set x true)) :: R) := by
  have k0 := (hS.blkAt 0 rfl).cell 0 rfl
  have kl := (hS.blkAt 0 rfl).lt
  have c0 := (hS.blkAt 1 rfl).cell 0 rfl
  have cl := (hS.blkAt 1 rfl).lt
  have l0 := (hS.blkAt 2 rfl).cell 0 rfl
  have ll := (hS.blkAt 2 rfl).lt
  have lf := (hS.blkAt 2 rfl).free 0
  have g0 : w.cell? ⟨gc, x, none⟩ = some (.bool b) := by
    have := (hS.rowAt 3 rfl).cellAt x (by omega)
    rw [bools_got hb] at this
    exact this
  have gf := (hS.rowAt 3 rfl).frozenAt x
  have gl := own_lt (hS.rowAt 3 rfl) (g := gc) rfl
  have hx1 : (x : Int) < K := by omega
  cases b with
  | true =>
    have hfin : Hid (fs.set x true = fs) := Lib.hid (by
      apply List.ext_getElem?
      intro i
      rw [List.getElem?_set]
      by_cases c : x = i
      · subst c
        rw [if_pos rfl, if_pos (List.getElem?_eq_some_iff.1 hb).1, hb]
      · rw [if_neg c])
    have hS' := Lib.hid hS
    clear hS hb
    go_enter Try.func93, Try.ntmps93
    go_wp2_with fail
    go_ret
    exact ⟨rfl, by rw [hfin.out]; exact hS'.out⟩
  | false =>
    have hS1 := Lib.hid (hS.rowsetAt 3 rfl x (.bool true))
    rw [bools_set] at hS1
    clear hS hb
    go_enter Try.func93, Try.ntmps93
    go_upto_region 5 with fail
    generalize w.setCell ⟨gc, x, none⟩ (.bool true) = w1 at *
    clear k0 kl c0 cl l0 ll lf g0 gf gl
    have l0 := (hS1.out.blkAt 2 rfl).cell 0 rfl
    have ll := (hS1.out.blkAt 2 rfl).lt
    have lf := (hS1.out.blkAt 2 rfl).free 0
    have hS2 := Lib.hid (hS1.out.setAt 2 rfl 0 (.int .i64 (left - 1)))
    clear hS1
    go_wp2_with fail
    go_ret
    exact ⟨rfl, hS2.out⟩
/-- A name is seen that may be none. -/
theorem see_out {w : World} {bk bc bl K : Nat} {x : Int} (hk : w.cell? ⟨bk, 0, none⟩ = some (.int .i64 (K : Int))) (kl : bk < w.heap.size) (hx : x < 0 ∨ (K : Int) ≤ x) :
    Calls Try.prog 93 #[.int .i64 x, .pointer (some ⟨bk, 0, none⟩), .pointer (some ⟨bc, 0, none⟩), .pointer (some ⟨bl, 0, none⟩)] w fun e w' => e = .returned (.bool false) ∧ w' = w := by
  by_cases h0 : x < 0
  · clear hx
    go_enter Try.func93, Try.ntmps93
    go_wp2_with fail
    go_ret
    exact ⟨rfl, rfl⟩
  · have h1 : (K : Int) ≤ x := by omega
    have t1 : decide ((K : Int) ≤ x) = true := by simpa using h1
    clear hx
    go_enter Try.func93, Try.ntmps93
    go_wp2_with fail
    go_ret
    exact ⟨rfl, rfl⟩
theorem naming_start (w : World) (K : Nat) (name : List Int) (hK : K ≤ 4096) : Sep w ((((w.alloc (.cells #[.int .i64 (K : Int)] 3)).alloc (.cells (madeCells #[.bool false] K) 4)).alloc (.cells #[.slice (some ⟨w.heap.size + 1, 0, none⟩) K K] 116)).alloc (.cells #[.int .i64 (K : Int)] 3))
    [Blk w.heap.size [.int .i64 (K : Int)] 3, Blk (w.heap.size + 1 + 1) [.slice (some ⟨w.heap.size + 1, 0, none⟩) K K] 116, Blk (w.heap.size + 1 + 1 + 1) [.int .i64 ((K : Int) - (cntN K name 0 : Nat))] 3, Row 4 1 K (.slice (some ⟨w.heap.size + 1, 0, none⟩) K K) (bools (cameN K name 0))] := by
  have h1 := (((Sep.empty w).box [.int .i64 (K : Int)] 3).made (made_made _ 4 (.bool false) K (by omega))).box [.slice (some ⟨w.heap.size + 1, 0, none⟩) K K] 116 |>.box [.int .i64 (K : Int)] 3
  simp only [World.size_alloc] at h1
  rw [cntN_zero, cameN_zero]
  have e : bools (List.replicate K false) = List.replicate K (.bool false) := by simp [bools]
  rw [e]
  simp only [Int.natCast_zero, Int.sub_zero, Int.cast_ofNat_Int]
  exact ((h1.pick 3 (by simp)).perm (List.Perm.cons _ (List.Perm.swap _ _ _)))
/-- What naming answers. -/
structure NamOut (k : Int) (name : List Int) (w : World) (e : Ending) (w' : World) : Prop where
  mk ::
  out : ∃ b : Bool, (b = true ↔ isN k name) ∧ e = .returned (.bool b) ∧ Mod [] w w'
set_option maxRecDepth 100000 in
set_option maxHeartbeats 8000000 in
theorem naming_any (k : Int) {name : List Int} {va : Value} {w : World} (h : Rd w 1 va name.length (i64s name)) :
    Calls Try.prog 77 #[.int .i64 k, va] w (NamOut k name w) := by
  obtain ⟨a, c, rfl⟩ := h.val
  have hle := h.le
  have hmod := Lib.hid ((Mod.refl [] w).alloc (.cells #[.int .i64 k] 3))
  have hB := Has.new w [.int .i64 k] 3
  have b0 := hB.cell 0 rfl
  have bl := hB.lt
  by_cases h0 : k < 0
  · have hn : Hid (¬ isN k name) := Lib.hid (fun hh => by have := hh.1.1; omega)
    clear h hB
    go_enter Try.func77, Try.ntmps77
    go_wp2_with fail
    go_ret
    exact ⟨⟨false, ⟨by simp, fun hh => absurd hh hn.out⟩, rfl, hmod.out⟩⟩
  by_cases h1 : 4096 < k
  · have hn : Hid (¬ isN k name) := Lib.hid (fun hh => by have := hh.1.2.1; omega)
    clear h hB
    go_enter Try.func77, Try.ntmps77
    go_wp2_with fail
    go_ret
    exact ⟨⟨false, ⟨by simp, fun hh => absurd hh hn.out⟩, rfl, hmod.out⟩⟩
  by_cases h2 : 4096 < name.length
  · have hn : Hid (¬ isN k name) := Lib.hid (fun hh => by have := hh.1.2.2; omega)
    have h3 : (4096 : Int) < name.length := by omega
    clear h hB
    go_enter Try.func77, Try.ntmps77
    go_wp2_with fail
    go_ret
    exact ⟨⟨false, ⟨by simp, fun hh => absurd hh hn.out⟩, rfl, hmod.out⟩⟩
  obtain ⟨K, rfl⟩ := Int.eq_ofNat_of_zero_le (show 0 ≤ k by omega)
  have hK : K ≤ 4096 := by omega
  have h3 : ¬ (4096 : Int) < name.length := by omega
  have hmk := make_run (P := Try.prog) 116 4 (.bool false) 1 Try.underlying116 infoB rfl (by omega) K (by omega)
  have hfin := Lib.hid (fun (hh : (∀ x ∈ name, 0 ≤ x ∧ x < (K : Int)) ∧ cntN K name name.length = K) => show isN (K : Int) name from ⟨⟨by omega, by omega, by omega⟩, hh.1, fun v hv => cntN_all.1 hh.2 v (by omega)⟩)
  have hfin2 := Lib.hid (fun (hh : isN (K : Int) name) => show cntN K name name.length = K from cntN_all.2 (fun v hv => hh.2.2 v (by omega)))
  have h' := Lib.hid h
  clear h hB hmod
  go_enter Try.func77, Try.ntmps77
  go_upto_region 6 with fail
  clear b0 bl hmk
  have hS := Lib.hid (naming_start w K name hK)
  generalize hW1 : (((w.alloc (.cells #[.int .i64 (K : Int)] 3)).alloc (.cells (madeCells #[.bool false] K) 4)).alloc (.cells #[.slice (some ⟨w.heap.size + 1, 0, none⟩) K K] 116)).alloc (.cells #[.int .i64 (K : Int)] 3) = W1 at *
  clear hW1
  generalize w.heap.size + 1 + 1 + 1 = bl at *
  generalize w.heap.size + 1 + 1 = bc at *
  generalize w.heap.size + 1 = gc at *
  generalize w.heap.size = bk at *
  go_wp2_with fail
  go_loopw [27] (fun i wr => ∃ k : Nat, k ≤ name.length ∧ i = .int .i64 k ∧ Hid (∀ x ∈ name.take k, 0 ≤ x ∧ x < (K : Int)) ∧ Hid (Sep w wr [Blk bk [.int .i64 (K : Int)] 3, Blk bc [.slice (some ⟨gc, 0, none⟩) K K] 116, Blk bl [.int .i64 ((K : Int) - (cntN K name k : Nat))] 3, Row 4 1 K (.slice (some ⟨gc, 0, none⟩) K K) (bools (cameN K name k))])) (fun i _ => name.length - (intOf i).toNat)
  case atStart => exact ⟨0, Nat.zero_le _, rfl, Lib.hid (by simp), hS⟩
  case round =>
    clear hS
    obtain ⟨k, hk, rfl, hal, hS⟩ := hrel
    have hcl := cntN_le K name k
    by_cases hlt : k < name.length
    · have hlt1 : (k : Int) < name.length := by omega
      obtain ⟨g, o, rfl, hgl0, hcell⟩ := rd_cell h'.out hlt
      have q0 := hcell wr k (.int .i64 name[k]) hS.out.mod (i64s_get hlt)
      have hgl : g < wr.heap.size := Nat.lt_of_lt_of_le hgl0 hS.out.mod.size
      by_cases hin : 0 ≤ name[k] ∧ name[k] < (K : Int)
      · obtain ⟨x, hx⟩ := Int.eq_ofNat_of_zero_le hin.1
        have hxK : x < K := by omega
        have hal2 : Hid (∀ y ∈ name.take (k + 1), 0 ≤ y ∧ y < (K : Int)) := Lib.hid (fun y hy => by
          rw [take_mem hlt] at hy
          rcases hy with hy | rfl
          · exact hal.out y hy
          · exact hin)
        have hsee := see_in hS.out hxK hK (cameN_get hxK) (by omega) (by omega)
        have hnext : Hid (Sep w wr [Blk bk [.int .i64 (K : Int)] 3] → True) := Lib.hid (fun _ => trivial)
        have hst : Hid ((if decide ((x : Int) ∈ name.take k) = true then (K : Int) - (cntN K name k : Nat) else (K : Int) - (cntN K name k : Nat) - 1) = (K : Int) - (cntN K name (k + 1) : Nat) ∧ (cameN K name k).set x true = cameN K name (k + 1)) := Lib.hid (by
          by_cases hm : name[k] ∈ name.take k
          · obtain ⟨e1, e2⟩ := cameN_old (K := K) hlt hm
            rw [hx] at hm
            rw [e2, e1, if_pos (by simpa using hm)]
            refine ⟨rfl, ?_⟩
            apply List.ext_getElem?
            intro i
            rw [List.getElem?_set]
            by_cases c : x = i
            · subst c
              rw [if_pos rfl, if_pos (by rw [cameN_len]; exact hxK), cameN_get hxK]
              simp [hm]
            · rw [if_neg c]
          · obtain ⟨e1, e2⟩ := cameN_new (K := K) hlt hx hxK hm
            rw [hx] at hm
            rw [e2, e1, if_neg (by simpa using hm)]
            exact ⟨by omega, rfl⟩)
        rw [hst.out.1, hst.out.2] at hsee
        have hsee' := Lib.hid hsee
        rw [hx] at q0
        clear hsee hst hnext hS hcell hal hin hx
        go_wp2_with fail
        refine hsee'.out.mono ?_
        rintro e w5 ⟨rfl, hS5⟩
        have hS6 := Lib.hid hS5
        clear hS5 hsee'
        try dsimp only
        go_wp2_with fail
        go_roundw
        case rel => exact ⟨k + 1, by omega, by go_num, hal2, hS6⟩
        case measure => simp [intOf]; omega
      · have hno : Hid (¬ isN (K : Int) name) := Lib.hid (fun hh => hin (hh.2.1 _ (List.getElem_mem hlt)))
        have k0 := (hS.out.blkAt 0 rfl).cell 0 rfl
        have kl := (hS.out.blkAt 0 rfl).lt
        have hsee := Lib.hid (see_out (bc := bc) (bl := bl) k0 kl (x := name[k]) (by omega))
        have hmod := Lib.hid hS.out.mod
        generalize name[k] = x at *
        clear hS hcell hal hin k0 kl
        go_wp2_with fail
        refine hsee.out.mono ?_
        rintro e w5 ⟨rfl, hw5⟩
        subst w5
        try dsimp only
        go_wp2_with fail
        go_ret
        exact ⟨⟨false, ⟨by simp, fun hh => absurd hh hno.out⟩, rfl, hmod.out⟩⟩
    · have hkl : k = name.length := by omega
      have l0 := (hS.out.blkAt 2 rfl).cell 0 rfl
      have ll := (hS.out.blkAt 2 rfl).lt
      have hmod := Lib.hid hS.out.mod
      have hal' := hal.out
      rw [hkl, List.take_length] at hal'
      have hal2 := Lib.hid hal'
      have hcn : Hid (cntN K name k = cntN K name name.length) := Lib.hid (by rw [hkl])
      generalize cntN K name k = cn at *
      clear hS hal hal' hkl hk
      by_cases hz : cn = K
      · have t1 : ((K : Int) - (cn : Int) == 0) = true := by simp; omega
        have hyes : Hid (isN (K : Int) name) := Lib.hid (hfin.out ⟨hal2.out, by rw [← hcn.out]; exact hz⟩)
        clear hz
        go_wp2_with fail
        go_ret
        exact ⟨⟨true, ⟨fun _ => hyes.out, fun _ => rfl⟩, rfl, hmod.out⟩⟩
      · have t1 : ((K : Int) - (cn : Int) == 0) = false := by simp; omega
        have hno : Hid (¬ isN (K : Int) name) := Lib.hid (fun hh => hz (by rw [hcn.out]; exact hfin2.out hh))
        clear hz
        go_wp2_with fail
        go_ret
        exact ⟨⟨false, ⟨by simp, fun hh => absurd hh hno.out⟩, rfl, hmod.out⟩⟩
end Edge
end Go.Proofs.Ytkhbnopmeapfjaa
