/- A pairing heap: cut. -/
import Derived.Test.YtmkbinbggiocaaaHp3
set_option linter.unusedVariables false
set_option linter.unusedSimpArgs false
namespace Go.Proofs.Ytmkbinbggiocaaa
open Go.RowKit Arena
namespace Hp
open Go.Proofs.Ytmkbinbggiocaaa.Code
def cutA (H : Hp) (x : Nd) : Option Hp := if x.next = -1 then some H else (H.A.get x.next).map fun y => H.put x.next { y with prev := x.prev }
def cutB (H : Hp) (n : Int) (x : Nd) : Option Hp := if x.prev = -1 then some H else (H.A.get x.prev).map fun y => H.put x.prev (unlink n x y)
def cutT (H : Hp) (n : Int) : Option Hp :=
  (H.A.get n).bind fun x => (cutA H x).bind fun H1 => (cutB H1 n x).bind fun H2 => (H2.A.get n).map fun y => H2.put n { y with prev := -1, next := -1 }
theorem cutT_some {H H' : Hp} {n : Int} (h : cutT H n = some H') : ∃ x H1 H2 y, H.A.get n = some x ∧ cutA H x = some H1 ∧ cutB H1 n x = some H2 ∧ H2.A.get n = some y ∧ H' = H2.put n { y with prev := -1, next := -1 } := by
  unfold cutT at h
  simp only [Option.bind_eq_some_iff, Option.map_eq_some_iff] at h
  obtain ⟨x, hx, H1, h1, H2, h2, y, hy, rfl⟩ := h
  exact ⟨x, H1, H2, y, hx, h1, h2, hy, rfl⟩
theorem cutA_some {H H' : Hp} {x : Nd} (h : cutA H x = some H') : (x.next = -1 ∧ H' = H) ∨ (x.next ≠ -1 ∧ ∃ y, H.A.get x.next = some y ∧ H' = H.put x.next { y with prev := x.prev }) := by
  unfold cutA at h
  split at h
  · rename_i hc; simp only [Option.some.injEq] at h; exact .inl ⟨hc, h.symm⟩
  · rename_i hc; simp only [Option.map_eq_some_iff] at h; obtain ⟨y, hy, rfl⟩ := h; exact .inr ⟨hc, y, hy, rfl⟩
theorem cutB_some {H H' : Hp} {n : Int} {x : Nd} (h : cutB H n x = some H') : (x.prev = -1 ∧ H' = H) ∨ (x.prev ≠ -1 ∧ ∃ y, H.A.get x.prev = some y ∧ H' = H.put x.prev (unlink n x y)) := by
  unfold cutB at h
  split at h
  · rename_i hc; simp only [Option.some.injEq] at h; exact .inl ⟨hc, h.symm⟩
  · rename_i hc; simp only [Option.map_eq_some_iff] at h; obtain ⟨y, hy, rfl⟩ := h; exact .inr ⟨hc, y, hy, rfl⟩
set_option maxHeartbeats 4000000 in
theorem cut_any {w : World} {bh : Nat} {H H' : Hp} {F : List Nat} (h : HAt w bh H F) (n : Int) (hT : cutT H n = some H') :
    Calls Try.prog 138 #[.pointer (some ⟨bh, 0, none⟩), .int .i64 n] w fun e w' => e = .returned (.tuple #[]) ∧ HAt w' bh H' F ∧ Mod F w w' := by
  have hmf : ∀ (fn : Fn) (first cap : Array Value) (w : World), (Instr.makeFunc fn first cap).run Try.prog w = .ok (.func fn first cap) w := fun _ _ _ _ => rfl
  obtain ⟨x, H1, H2, y, hx, hA, hB, hy, rfl⟩ := cutT_some hT
  have wayA := Lib.hid (cutA_some hA)
  have wayB := Lib.hid (cutB_some hB)
  have hy' := Lib.hid hy
  obtain ⟨wc, hwc⟩ : ∃ wc, wc = w.alloc (.cells #[.int .i64 n] 3) := ⟨_, rfl⟩
  obtain ⟨B, hBb⟩ : ∃ B, B = w.heap.size := ⟨_, rfl⟩
  have m0 : Mod [] w wc := by rw [hwc]; exact (Mod.refl [] w).alloc _
  have k1 : Has wc B [.int .i64 n] 3 := by rw [hwc, hBb]; exact Has.new w _ _
  have hg := Lib.hid (get_any (h.still m0) n x hx)
  have hBF : ∀ c ∈ F, c < B := fun c hc => by rw [hBb]; exact h.lt c hc
  have h' := Lib.hid (h.still m0)
  have hwc' := Lib.hid hwc
  have hBb' := Lib.hid hBb
  have k1' := Lib.hid k1
  have m0' := Lib.hid m0
  clear hwc hBb k1 m0 hx hA hB hy h hT
  go_enter Try.func138, Try.ntmps138
  go_wp2_with fail
  rw [← hBb'.out, ← hwc'.out]
  refine hg.out.mono ?_
  rintro e w1 ⟨rfl, hm⟩
  try dsimp only
  unfold Nd.val
  have n1 := (h'.out.still hm).still ((Mod.refl [] w1).alloc (.cells #[.int .i64 x.v, .int .i64 x.key, .int .i64 x.child, .int .i64 x.next, .int .i64 x.prev] 187))
  have n2 := (k1'.out.keep hm (by simp)).alloc (.cells #[.int .i64 x.v, .int .i64 x.key, .int .i64 x.child, .int .i64 x.next, .int .i64 x.prev] 187)
  have n3 : Has (w1.alloc (.cells #[.int .i64 x.v, .int .i64 x.key, .int .i64 x.child, .int .i64 x.next, .int .i64 x.prev] 187)) w1.heap.size x.vals 187 := Has.new w1 x.vals _
  have n4 := Lib.hid (show Mod F w _ from (m0'.out.trans hm (by simp)).of0.alloc (.cells #[.int .i64 x.v, .int .i64 x.key, .int .i64 x.child, .int .i64 x.next, .int .i64 x.prev] 187))
  have hCF : ∀ c ∈ F, c < w1.heap.size := fun c hc => (h'.out.still hm).lt c hc
  go_upto_region 2 with fail
  generalize w1.alloc (.cells #[.int .i64 x.v, .int .i64 x.key, .int .i64 x.child, .int .i64 x.next, .int .i64 x.prev] 187) = w2 at *
  generalize w1.heap.size = C at *
  have dB : B ∉ F := fun hc => by have := hBF B hc; omega
  have dC : C ∉ F := fun hc => by have := hCF C hc; omega
  have c3 := n3.cell 3 rfl
  have c4 := n3.cell 4 rfl
  have cl := n3.lt
  have n1' := Lib.hid n1
  have n2' := Lib.hid n2
  have n3' := Lib.hid n3
  clear n1 n2 n3 hCF hBF hg h' k1' m0' hwc' hBb' hm
  rcases wayA.out with ⟨hn, rfl⟩ | ⟨hn, z, hz, rfl⟩
  case' inl =>
    have hn1 : (x.next != -1) = false := by simp [hn]
    clear hn
    go_upto_region 4 with fail
    have n4 := n4
  case' inr =>
    have hn1 : (x.next != -1) = true := by simpa using hn
    have ht := Lib.hid (turn_any n1'.out x.next z _ hz 169 #[.pointer (some ⟨C, 0, none⟩)] (fun B w => by simp [go_sem]) (cut1_makes n3'.out z))
    clear hn hz
    go_wp2_with fail
    refine ht.out.mono ?_
    rintro e w3 ⟨rfl, hH3, hm3⟩
    try dsimp only
    have o1 := Lib.hid hH3
    have o2 := Lib.hid (n2'.out.keep hm3 dB)
    have o3 := Lib.hid (n3'.out.keep hm3 dC)
    have o4 := Lib.hid (n4.out.trans hm3 (fun b hb _ => hb))
    clear n1' n2' n3' n4 c3 c4 cl hH3 hm3 ht
    have n1' := o1
    have n2' := o2
    have n3' := o3
    have n4 := o4
    have c4 := n3'.out.cell 4 rfl
    have cl := n3'.out.lt
    clear o1 o2 o3 o4
    go_upto_region 4 with fail
  all_goals
    clear wayA
    rcases wayB.out with ⟨hp, rfl⟩ | ⟨hp, z2, hz2, rfl⟩
    · have hp1 : (x.prev != -1) = false := by simp [hp]
      clear hp wayB
      have b0 := n2'.out.cell 0 rfl
      have bl := n2'.out.lt
      have ht3 := Lib.hid (turn_any n1'.out n y _ hy'.out 171 #[] (fun B w => by simp [go_sem]) (cut3_makes _ y))
      clear hy'
      go_wp2_with fail
      refine ht3.out.mono ?_
      rintro e w6 ⟨rfl, hH6, hm6⟩
      try dsimp only
      have hfin := Lib.hid (show _ ∧ Mod F w w6 from ⟨hH6, n4.out.trans hm6 (fun b hb _ => hb)⟩)
      clear hH6 hm6 ht3 b0 bl
      go_wp2_with fail
      exact bodyPost_end (v := .tuple #[]) (by simp [results, Try.results138, go_sem]) rfl ⟨rfl, hfin.out⟩
    · have hp1 : (x.prev != -1) = true := by simpa using hp
      have ht2 := Lib.hid (turn_any n1'.out x.prev z2 _ hz2 170 #[.pointer (some ⟨B, 0, none⟩), .pointer (some ⟨C, 0, none⟩)] (fun B w => by simp [go_sem]) (cut2_makes ⟨n2'.out⟩ n3'.out z2))
      clear hp hz2 wayB
      go_wp2_with fail
      refine ht2.out.mono ?_
      rintro e w5 ⟨rfl, hH5, hm5⟩
      try dsimp only
      have o1 := Lib.hid hH5
      have o2 := Lib.hid (n2'.out.keep hm5 dB)
      have o4 := Lib.hid (n4.out.trans hm5 (fun b hb _ => hb))
      clear n1' n2' n3' n4 c4 cl hH5 hm5 ht2
      have b0 := o2.out.cell 0 rfl
      have bl := o2.out.lt
      have ht3 := Lib.hid (turn_any o1.out n y _ hy'.out 171 #[] (fun B w => by simp [go_sem]) (cut3_makes _ y))
      clear hy'
      go_wp2_with fail
      refine ht3.out.mono ?_
      rintro e w6 ⟨rfl, hH6, hm6⟩
      try dsimp only
      have hfin := Lib.hid (show _ ∧ Mod F w w6 from ⟨hH6, o4.out.trans hm6 (fun b hb _ => hb)⟩)
      clear hH6 hm6 ht3 b0 bl
      go_wp2_with fail
      exact bodyPost_end (v := .tuple #[]) (by simp [results, Try.results138, go_sem]) rfl ⟨rfl, hfin.out⟩
end Hp
end Go.Proofs.Ytmkbinbggiocaaa
