/- A pairing heap: link. -/
import Derived.Test.YtmkbinbggiocaaaHp2
set_option linter.unusedVariables false
set_option linter.unusedSimpArgs false
namespace Go.Proofs.Ytmkbinbggiocaaa
open Go.RowKit Arena
namespace Hp
open Go.Proofs.Ytmkbinbggiocaaa.Code
def link1 (H : Hp) (p q : Int) (xp y : Nd) : Hp := ({ H with links := H.links + 1 } : Hp).put q { y with prev := p, next := xp.child }
/-- q becomes the first child of p, whose node is xp. -/
def joinT (H : Hp) (p q : Int) (xp : Nd) : Option (Hp × Int) :=
  (H.A.get q).bind fun y =>
    (if xp.child = -1 then some (link1 H p q xp y) else ((link1 H p q xp y).A.get xp.child).map fun z => (link1 H p q xp y).put xp.child { z with prev := q }).bind fun H2 =>
      (H2.A.get p).map fun xa => (H2.put p { xa with child := q }, p)
def linkT (H : Hp) (a b : Int) : Option (Hp × Int) :=
  if a = -1 then some (H, b) else if b = -1 then some (H, a) else
    (H.A.get a).bind fun x => (H.A.get b).bind fun y => if aheadT y x then joinT H b a y else joinT H a b x
theorem joinT_some {H H' : Hp} {p q r : Int} {xp : Nd} (h : joinT H p q xp = some (H', r)) :
    r = p ∧ ∃ y, H.A.get q = some y ∧ ((xp.child = -1 ∧ ∃ xa, (link1 H p q xp y).A.get p = some xa ∧ H' = (link1 H p q xp y).put p { xa with child := q }) ∨
      (xp.child ≠ -1 ∧ ∃ z xa, (link1 H p q xp y).A.get xp.child = some z ∧ ((link1 H p q xp y).put xp.child { z with prev := q }).A.get p = some xa ∧ H' = ((link1 H p q xp y).put xp.child { z with prev := q }).put p { xa with child := q })) := by
  unfold joinT at h
  simp only [Option.bind_eq_some_iff, Option.map_eq_some_iff] at h
  obtain ⟨y, hy, H2, h2, xa, hxa, e⟩ := h
  simp only [Prod.mk.injEq] at e
  obtain ⟨rfl, rfl⟩ := e
  refine ⟨rfl, y, hy, ?_⟩
  split at h2
  · rename_i hc
    simp only [Option.some.injEq] at h2
    subst h2
    exact .inl ⟨hc, xa, hxa, rfl⟩
  · rename_i hc
    simp only [Option.map_eq_some_iff] at h2
    obtain ⟨z, hz, rfl⟩ := h2
    exact .inr ⟨hc, z, xa, hz, hxa, rfl⟩
theorem linkT_some {H H' : Hp} {a b r : Int} (ha : a ≠ -1) (hb : b ≠ -1) (h : linkT H a b = some (H', r)) :
    ∃ x y, H.A.get a = some x ∧ H.A.get b = some y ∧ ((aheadT y x = true ∧ joinT H b a y = some (H', r)) ∨ (aheadT y x = false ∧ joinT H a b x = some (H', r))) := by
  unfold linkT at h
  rw [if_neg ha, if_neg hb] at h
  simp only [Option.bind_eq_some_iff] at h
  obtain ⟨x, hx, y, hy, h⟩ := h
  refine ⟨x, y, hx, hy, ?_⟩
  cases hc : aheadT y x with
  | true => rw [hc, if_pos rfl] at h; exact .inl ⟨rfl, h⟩
  | false => rw [hc] at h; exact .inr ⟨rfl, h⟩
theorem HAt.links {w : World} {bh : Nat} {H : Hp} {F : List Nat} (h : HAt w bh H F) (l : Int) : HAt (w.setCell ⟨bh, 4, none⟩ (.int .i64 l)) bh { H with links := l } F := by
  obtain ⟨ba, ga, Fa, h1, h2, h3, h4, h5, h6, rfl, h7⟩ := h.out
  have m : Mod [bh] w (w.setCell ⟨bh, 4, none⟩ (.int .i64 l)) := (Mod.refl _ _).setCell _ _ (by simp)
  exact ⟨ba, ga, Fa, h1.set 4 _, h2.keep m (fun b hb => by simp only [List.mem_singleton]; rintro rfl; exact h5 hb), h3.keep m (by simp [h4.symm]), h4, h5, h6, rfl, h7⟩
theorem HAt.root {w : World} {bh : Nat} {H : Hp} {F : List Nat} (h : HAt w bh H F) (l : Int) : HAt (w.setCell ⟨bh, 3, none⟩ (.int .i64 l)) bh { H with root := l } F := by
  obtain ⟨ba, ga, Fa, h1, h2, h3, h4, h5, h6, rfl, h7⟩ := h.out
  have m : Mod [bh] w (w.setCell ⟨bh, 3, none⟩ (.int .i64 l)) := (Mod.refl _ _).setCell _ _ (by simp)
  exact ⟨ba, ga, Fa, h1.set 3 _, h2.keep m (fun b hb => by simp only [List.mem_singleton]; rintro rfl; exact h5 hb), h3.keep m (by simp [h4.symm]), h4, h5, h6, rfl, h7⟩
/-- The heap's own cells. -/
theorem HAt.head {w : World} {bh : Nat} {H : Hp} {F : List Nat} (h : HAt w bh H F) : ∃ ba ga : Nat, w.cell? ⟨bh, 0, none⟩ = some (.int .i64 H.room) ∧ w.cell? ⟨bh, 1, none⟩ = some (.pointer (some ⟨ba, 0, none⟩)) ∧ w.cell? ⟨bh, 2, none⟩ = some (.slice (some ⟨ga, 0, none⟩) H.at_.length H.at_.length) ∧
    w.cell? ⟨bh, 3, none⟩ = some (.int .i64 H.root) ∧ w.cell? ⟨bh, 4, none⟩ = some (.int .i64 H.links) ∧ (∀ i, w.frozen? ⟨bh, i, none⟩ = false) ∧ bh < w.heap.size ∧ bh ∈ F := by
  obtain ⟨ba, ga, Fa, h1, h2, h3, h4, h5, h6, rfl, h7⟩ := h.out
  exact ⟨ba, ga, h1.cell 0 rfl, h1.cell 1 rfl, h1.cell 2 rfl, h1.cell 3 rfl, h1.cell 4 rfl, h1.free, h1.lt, by simp⟩
set_option maxHeartbeats 4000000 in
theorem link_any {w : World} {bh : Nat} {H H' : Hp} {F : List Nat} (h : HAt w bh H F) (a b r : Int) (hT : linkT H a b = some (H', r)) (hl0 : 0 ≤ H.links) (hl1 : H.links < 4611686018427387904) :
    Calls Try.prog 133 #[.pointer (some ⟨bh, 0, none⟩), .int .i64 a, .int .i64 b] w fun e w' => e = .returned (.int .i64 r) ∧ HAt w' bh H' F ∧ Mod F w w' := by
  have hmf : ∀ (fn : Fn) (first cap : Array Value) (w : World), (Instr.makeFunc fn first cap).run Try.prog w = .ok (.func fn first cap) w := fun _ _ _ _ => rfl
  have h' := Lib.hid h
  have hT' := Lib.hid hT
  clear h hT
  by_cases ha : a = -1
  · subst ha
    have e := hT'.out
    unfold linkT at e
    rw [if_pos rfl] at e
    simp only [Option.some.injEq, Prod.mk.injEq] at e
    obtain ⟨rfl, rfl⟩ := e
    go_enter Try.func133, Try.ntmps133
    go_wp2_with fail
    go_ret
    have m : Mod [] w ((w.alloc (.cells #[.int .i64 (-1)] 3)).alloc (.cells #[.int .i64 b] 3)) := ((Mod.refl _ _).alloc _).alloc _
    exact ⟨rfl, h'.out.still m, m.of0⟩
  by_cases hb : b = -1
  · subst hb
    have e := hT'.out
    unfold linkT at e
    rw [if_neg ha, if_pos rfl] at e
    simp only [Option.some.injEq, Prod.mk.injEq] at e
    obtain ⟨rfl, rfl⟩ := e
    have ha1 : (a == -1) = false := by simpa using ha
    clear ha
    go_enter Try.func133, Try.ntmps133
    go_wp2_with fail
    go_ret
    have m : Mod [] w ((w.alloc (.cells #[.int .i64 a] 3)).alloc (.cells #[.int .i64 (-1)] 3)) := ((Mod.refl _ _).alloc _).alloc _
    exact ⟨rfl, h'.out.still m, m.of0⟩
  obtain ⟨x, y, hx, hy, hways⟩ := linkT_some ha hb hT'.out
  have ha1 : (a == -1) = false := by simpa using ha
  have hb1 : (b == -1) = false := by simpa using hb
  have hways' := Lib.hid hways
  obtain ⟨wc, hwc⟩ : ∃ wc, wc = (w.alloc (.cells #[.int .i64 a] 3)).alloc (.cells #[.int .i64 b] 3) := ⟨_, rfl⟩
  obtain ⟨B, hBb⟩ : ∃ B, B = w.heap.size := ⟨_, rfl⟩
  have m0 : Mod [] w wc := by rw [hwc]; exact ((Mod.refl [] w).alloc _).alloc _
  have k1 : Has wc B [.int .i64 a] 3 := by rw [hwc, hBb]; exact (Has.new w _ _).alloc _
  have k2 : Has wc (B + 1) [.int .i64 b] 3 := by
    have := Has.new (w.alloc (.cells #[.int .i64 a] 3)) [.int .i64 b] 3
    rw [World.size_alloc] at this
    rw [hwc, hBb]; exact this
  have hah := Lib.hid (ahead_any (h'.out.still m0) b a y x hy hx)
  have hwc' := Lib.hid hwc
  have hBb' := Lib.hid hBb
  have k1' := Lib.hid k1
  have k2' := Lib.hid k2
  have m0' := Lib.hid m0
  have hx' := Lib.hid hx
  have hy' := Lib.hid hy
  clear hwc hBb k1 k2 m0 hx hy hways ha hb hT'
  go_enter Try.func133, Try.ntmps133
  go_wp2_with fail
  rw [← hBb'.out, ← hwc'.out]
  refine hah.out.mono ?_
  rintro e w1 ⟨rfl, hm⟩
  try dsimp only
  have hm1 := Lib.hid (m0'.out.trans hm (by simp))
  have q1 := k1'.out.keep hm (by simp)
  have q2 := k2'.out.keep hm (by simp)
  have q1' := Lib.hid q1
  have q2' := Lib.hid q2
  have hlinks : IntKind.i64.wrap (H.links + 1) = H.links + 1 := IntWalk.i64_in _ (by omega)
  have hlinks2 : wrap64 (H.links + 1) = H.links + 1 := by unfold wrap64; omega
  have hBF : ∀ c ∈ F, c < B := fun c hc => by rw [hBb'.out]; exact h'.out.lt c hc
  clear hah hwc' k1' k2' m0' hm
  cases hc : aheadT y x
  case' true =>
    have hj : H.joinT b a y = some (H', r) := by
      rcases hways'.out with h | h
      · exact h.2
      · rw [hc] at h; cases h.1
    have e0 := q1.cell 0 rfl
    have e1 := q2.cell 0 rfl
    have ez0 := q1.free 0
    have ez1 := q2.free 0
    have el0 := q1.lt
    have el1 := q2.lt
    have g1 := (q1.set 0 (.int .i64 b)).other ⟨B + 1, 0, none⟩ (.int .i64 a) (by simp)
    have g2 := (q2.other ⟨B, 0, none⟩ (.int .i64 b) (by simp)).set 0 (.int .i64 a)
    have gm : Mod [] w ((w1.setCell ⟨B, 0, none⟩ (.int .i64 b)).setCell ⟨B + 1, 0, none⟩ (.int .i64 a)) := (hm1.out.setCell ⟨B, 0, none⟩ _ (fun hlt => by have := hBb'.out; simp only at hlt; omega)).setCell ⟨B + 1, 0, none⟩ _ (fun hlt => by have := hBb'.out; simp only at hlt; omega)
    have key := Lib.hid (show ∃ p q xp, Has _ B [.int .i64 p] 3 ∧ Has _ (B + 1) [.int .i64 q] 3 ∧ Mod [] w _ ∧ H.A.get p = some xp ∧ H.joinT p q xp = some (H', r) from ⟨b, a, y, g1, g2, gm, hy'.out, hj⟩)
    clear q1 q2 q1' q2' hm1 hc hways' hj g1 g2 gm
    go_upto_region 8 with fail
    clear e0 e1 ez0 ez1 el0 el1
    generalize (w1.setCell ⟨B, 0, none⟩ (.int .i64 b)).setCell ⟨B + 1, 0, none⟩ (.int .i64 a) = w2 at *
  case' false =>
    have hj : H.joinT a b x = some (H', r) := by
      rcases hways'.out with h | h
      · rw [hc] at h; cases h.1
      · exact h.2
    have key := Lib.hid (show ∃ p q xp, Has _ B [.int .i64 p] 3 ∧ Has _ (B + 1) [.int .i64 q] 3 ∧ Mod [] w _ ∧ H.A.get p = some xp ∧ H.joinT p q xp = some (H', r) from ⟨a, b, x, q1, q2, hm1.out, hx'.out, hj⟩)
    clear q1 q2 q1' q2' hm1 hc hways' hj
    go_upto_region 8 with fail
    generalize w1 = w2 at *
  all_goals
    obtain ⟨p, q, xp, kp, kq, km, kx, kj⟩ := key.out
    clear key hx' hy'
    have hH := h'.out.still km
    obtain ⟨ba, ga, c0, c1, c2, c3, c4, cz, cl, cF⟩ := hH.head
    have hbB := hBF bh cF
    have kx' := Lib.hid kx
    have kj' := Lib.hid kj
    have l1 := Lib.hid (hH.links (H.links + 1))
    have l2 := Lib.hid (kp.other ⟨bh, 4, none⟩ (.int .i64 (H.links + 1)) (show B ≠ bh by omega))
    have l3 := Lib.hid (kq.other ⟨bh, 4, none⟩ (.int .i64 (H.links + 1)) (show B + 1 ≠ bh by omega))
    have l4 := Lib.hid (show Mod F w _ from km.of0.setCell ⟨bh, 4, none⟩ (.int .i64 (H.links + 1)) (fun _ => cF))
    clear kp kq km kx kj hH c0 c1 c2 c3
    go_upto_region 9 with fail
    generalize w2.setCell ⟨bh, 4, none⟩ (.int .i64 (H.links + 1)) = w3 at *
    clear c4 cz cl
    obtain ⟨rfl, y2, hy2, hend⟩ := joinT_some kj'.out
    have hend' := Lib.hid hend
    have hy2' := Lib.hid hy2
    have p0 := l2.out.cell 0 rfl
    have pl := l2.out.lt
    have hg := Lib.hid (get_any l1.out r xp kx'.out)
    clear hend hy2 kj'
    go_wp2_with fail
    refine hg.out.mono ?_
    rintro e w4 ⟨rfl, hm4⟩
    try dsimp only
    unfold Nd.val
    have m1 := Lib.hid (l1.out.still hm4)
    have m2 := Lib.hid (l2.out.keep hm4 (by simp))
    have m3 := Lib.hid (l3.out.keep hm4 (by simp))
    have m4 := Lib.hid (l4.out.trans hm4 (by simp))
    clear l1 l2 l3 l4 p0 pl hm4 hg
    go_upto_region 10 with fail
    have n1 := m1.out.still ((Mod.refl [] w4).alloc (.cells #[.int .i64 xp.child] 3))
    have n2 := m2.out.alloc (.cells #[.int .i64 xp.child] 3)
    have n3 := m3.out.alloc (.cells #[.int .i64 xp.child] 3)
    have n5 : Has (w4.alloc (.cells #[.int .i64 xp.child] 3)) w4.heap.size [.int .i64 xp.child] 3 := Has.new w4 _ _
    have n4 := Lib.hid (m4.out.trans ((Mod.refl [] w4).alloc (.cells #[.int .i64 xp.child] 3)) (by simp))
    have hCF : ∀ c ∈ F, c < w4.heap.size := fun c hc => m1.out.lt c hc
    generalize w4.alloc (.cells #[.int .i64 xp.child] 3) = w5 at *
    generalize w4.heap.size = C at *
    have dB : B ∉ F := fun hc => by have := hBF B hc; omega
    have dB1 : B + 1 ∉ F := fun hc => by have := hBF (B + 1) hc; omega
    have dC : C ∉ F := fun hc => by have := hCF C hc; omega
    have q0 := n3.cell 0 rfl
    have ql := n3.lt
    have ht1 := Lib.hid (turn_any n1 q y2 _ hy2'.out 164 #[.pointer (some ⟨B, 0, none⟩), .pointer (some ⟨C, 0, none⟩)] (fun B w => by simp [go_sem]) (link1_makes ⟨n2⟩ ⟨n5⟩ y2))
    have n1' := Lib.hid n1
    have n2' := Lib.hid n2
    have n3' := Lib.hid n3
    have n5' := Lib.hid n5
    clear m1 m2 m3 m4 hCF n1 n2 n3 n5
    go_wp2_with fail
    refine ht1.out.mono ?_
    rintro e w6 ⟨rfl, hH6, hm6⟩
    try dsimp only
    have o1 := Lib.hid (show HAt w6 bh (link1 H r q xp y2) F from hH6)
    have o2 := n2'.out.keep hm6 dB
    have o3 := n3'.out.keep hm6 dB1
    have o5 := n5'.out.keep hm6 dC
    have o4 := Lib.hid (n4.out.trans hm6 (fun b hb _ => hb))
    have c0 := o5.cell 0 rfl
    have cl := o5.lt
    have o2' := Lib.hid o2
    have o3' := Lib.hid o3
    clear n1' n2' n3' n5' hH6 hm6 ht1 q0 ql o2 o3 o5 n4
    rcases hend'.out with ⟨hch, xa, hxa, rfl⟩ | ⟨hch, z, xa, hz, hxa, rfl⟩
    · have hch1 : (xp.child != -1) = false := by simp [hch]
      have ht2 := Lib.hid (turn_any o1.out r xa _ hxa 166 #[.pointer (some ⟨B + 1, 0, none⟩)] (fun B w => by simp [go_sem]) (link3_makes ⟨o3'.out⟩ xa))
      have a0 := o2'.out.cell 0 rfl
      have al := o2'.out.lt
      clear hend' hxa hch
      go_wp2_with fail
      refine ht2.out.mono ?_
      rintro e w7 ⟨rfl, hH7, hm7⟩
      try dsimp only
      have a2 := (o2'.out.keep hm7 dB).cell 0 rfl
      have al2 := (o2'.out.keep hm7 dB).lt
      have hfin := Lib.hid (show _ ∧ Mod F w w7 from ⟨hH7, o4.out.trans hm7 (fun b hb _ => hb)⟩)
      clear hH7 hm7 ht2 c0 cl a0 al
      go_wp2_with fail
      go_ret
      exact ⟨rfl, hfin.out⟩
    · have hch1 : (xp.child != -1) = true := by simpa using hch
      have ht2 := Lib.hid (turn_any o1.out xp.child z _ hz 165 #[.pointer (some ⟨B + 1, 0, none⟩)] (fun B w => by simp [go_sem]) (link2_makes ⟨o3'.out⟩ z))
      clear hend' hz hch
      go_wp2_with fail
      refine ht2.out.mono ?_
      rintro e w7 ⟨rfl, hH7, hm7⟩
      try dsimp only
      have b2 := o2'.out.keep hm7 dB
      have b3 := o3'.out.keep hm7 dB1
      have b4 := Lib.hid (o4.out.trans hm7 (fun b hb _ => hb))
      have a0 := b2.cell 0 rfl
      have al := b2.lt
      have b2' := Lib.hid b2
      have ht3 := Lib.hid (turn_any hH7 r xa _ hxa 166 #[.pointer (some ⟨B + 1, 0, none⟩)] (fun B w => by simp [go_sem]) (link3_makes ⟨b3⟩ xa))
      clear hH7 hm7 ht2 c0 cl b2 b3 o1 o2' o3' o4 hxa
      go_wp2_with fail
      refine ht3.out.mono ?_
      rintro e w8 ⟨rfl, hH8, hm8⟩
      try dsimp only
      have a2 := (b2'.out.keep hm8 dB).cell 0 rfl
      have al2 := (b2'.out.keep hm8 dB).lt
      have hfin := Lib.hid (show _ ∧ Mod F w w8 from ⟨hH8, b4.out.trans hm8 (fun b hb _ => hb)⟩)
      clear hH8 hm8 ht3 a0 al
      go_wp2_with fail
      go_ret
      exact ⟨rfl, hfin.out⟩
end Hp
end Go.Proofs.Ytmkbinbggiocaaa
