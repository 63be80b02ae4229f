/- The law of the arena: any calls, one behind the other. -/
import Derived.Test.YtmkbinbggiocaaaBoth
import Derived.Test.YtmkbinbggiocaaaAwake11
import Derived.Deep.RegionWith
import Derived.Deep.DeepCutAuto
import Derived.Deep.CutBlock
set_option linter.unusedVariables false
set_option linter.unusedSimpArgs false
namespace Go.Proofs.Ytmkbinbggiocaaa
open Go.RowKit Arena
abbrev OpV := Int × Int × Int
def encOp (o : OpV) : List Value := [.int .i64 o.1, .int .i64 o.2.1, .int .i64 o.2.2]
theorem encOp_len (o : OpV) : (encOp o).length = 3 := rfl
theorem op_cells {w : World} {ops : List OpV} {a : Option Addr} {c k : Nat} (h : Reads w 3 (.slice a ops.length c) ops.length (flat encOp ops)) (hk : k < ops.length) :
    ∃ g o K N X, a = some ⟨g, o, none⟩ ∧ g < w.heap.size ∧ ∀ w', Mod [] w w' → w'.cell? ⟨g, o + k * 3, none⟩ = some (.int .i64 K) ∧ w'.cell? ⟨g, o + k * 3 + 1, none⟩ = some (.int .i64 N) ∧ w'.cell? ⟨g, o + k * 3 + 2, none⟩ = some (.int .i64 X) := by
  rcases h.cases with ⟨_, h0, _⟩ | ⟨g, o, c', he, _, _⟩
  · omega
  · injection he with he _ hc
    subst he
    have k0 := flat_get encOp_len ops k 0 hk (by omega)
    have k1 := flat_get encOp_len ops k 1 hk (by omega)
    have k2 := flat_get encOp_len ops k 2 hk (by omega)
    refine ⟨g, o, ops[k].1, ops[k].2.1, ops[k].2.2, rfl, World.block_lt_of_cell? w ⟨g, o + (k * 3 + 0), none⟩ (h.cell (k * 3 + 0) (by rw [k0]; rfl)), fun w' m => ?_⟩
    have h' := h.keep m (by simp)
    exact ⟨by have := h'.cell (k * 3 + 0) (u := .int .i64 ops[k].1) (by rw [k0]; rfl); simpa using this, by have := h'.cell (k * 3 + 1) (u := .int .i64 ops[k].2.1) (by rw [k1]; rfl); simpa [Nat.add_assoc] using this, by have := h'.cell (k * 3 + 2) (u := .int .i64 ops[k].2.2) (by rw [k2]; rfl); simpa [Nat.add_assoc] using this⟩

theorem nats_ints (l : List Nat) : Ref11.nats l = intsV (l.map fun (x : Nat) => (x : Int)) := by simp [Ref11.nats, intsV]
theorem ints_same {w : World} {l : List Nat} {a b : Option Addr} {c d : Nat} (ha : Reads w 1 (.slice a l.length c) l.length (Ref11.nats l)) (hb : Reads w 1 (.slice b l.length d) l.length (Ref11.nats l)) :
    Calls Try.prog 29 #[.slice a l.length c, .slice b l.length d] w fun e w' => e = .returned (.bool true) ∧ Mod [] w w' := by
  rw [nats_ints] at ha hb
  have e : l.length = (l.map fun (x : Nat) => (x : Int)).length := by simp
  have h := ints_any (w := w) (va := .slice a l.length c) (vb := .slice b l.length d) (xs := l.map fun (x : Nat) => (x : Int)) (ys := l.map fun (x : Nat) => (x : Int)) (by rw [← e]; exact ha) (by rw [← e]; exact hb)
  refine h.mono ?_
  rintro e w' ⟨rfl, hd⟩
  exact ⟨by simp [eqI], hd.mod⟩

def Yes (w : World) (e : Ending) (w' : World) : Prop := e = .returned (.bool true) ∧ Mod [] w w'
set_option maxRecDepth 100000 in
set_option maxHeartbeats 4000000 in
theorem plays_any (room : Int) (a : Option Addr) (c : Nat) (ops : List OpV) (w : World) (hl0 : 0 < ops.length → Reads w 3 (.slice a ops.length c) ops.length (flat encOp ops)) :
    Calls Try.prog 3 #[.int .i64 room, .slice a ops.length c] w (Yes w) := by
  have hl := Lib.hid hl0
  clear hl0
  by_cases hlen : 200 < ops.length
  · have hlen' : (200 : Int) < ops.length := by omega
    go_enter Try.func3, Try.ntmps3
    go_wp2_with (go_at_call 15; refine (ArI.awake_true _).mono ?_; rintro e w' ⟨rfl, hm⟩)
    go_ret
    exact ⟨rfl, hm⟩
  · have hlen1 : (ops.length : Int) ≤ 200 := by omega
    have hlen2 : ops.length ≤ 200 := by omega
    clear hlen
    go_enter Try.func3, Try.ntmps3
    go_wp2_with fail
    refine (ArI.new_at room w).mono ?_
    rintro e w1 ⟨rfl, h1, m1⟩
    dsimp only
    generalize hba : w.heap.size = ba at *
    have hba' := Lib.hid hba
    clear hba
    go_wp2_with fail
    refine (Ref11.new_at room w1).mono ?_
    rintro e w2 ⟨rfl, h2, m2⟩
    dsimp only
    generalize hbx : w1.heap.size = bx at *
    have hbx' := Lib.hid hbx
    clear hbx
    have hB : Both w w2 ba ⟨ArI.roomOf room, [], []⟩ bx ⟨ArI.roomOf room, [], []⟩ [] := by
      have l1 := h1.lt ba (by simp)
      have e1 := hbx'.out
      have e2 := hba'.out
      have s1 := m1.size
      exact ⟨[ba], [bx], h1.mod m2 (by simp), h2, by simp; omega, by simp; omega, by simp; omega, m1.trans m2 (by simp), by simp⟩
    clear h1 m1 h2 m2 hba' hbx'
    go_wp2_with fail
    go_loopw [7] (fun i wr => ∃ (k : Nat) (A : Ar Int), k ≤ ops.length ∧ i = .int .i64 k ∧ Both w wr ba A bx A []) (fun i _ => ops.length - (intOf i).toNat)
    case atStart => exact ⟨0, _, Nat.zero_le _, rfl, hB⟩
    case round =>
      clear hB
      obtain ⟨k, A, hk, rfl, hB⟩ := hrel
      obtain ⟨wo, hwo⟩ : ∃ wo : World, wo = wr := ⟨_, rfl⟩
      by_cases hlt : k < ops.length
      · obtain ⟨g, o, K, N, X, rfl, hg, hcells⟩ := op_cells (hl.out (by omega)) hlt
        obtain ⟨q0, q1, q2⟩ := hcells _ hB.mod
        have hgl : g < wr.heap.size := Nat.lt_of_lt_of_le hg hB.mod.size
        have hmeas := Lib.hid hlt
        clear hwo
        have hB2 := (hB.add [.int .i64 K, .int .i64 N, .int .i64 X] 29).add [.int .i64 0, .bool false] 31
        simp only [World.size_alloc] at hB2
        obtain ⟨bo, hbo⟩ : ∃ bo, bo = wr.heap.size := ⟨_, rfl⟩
        go_upto_block 2 with fail
        go_cut [9, 10] (fun s9 s10 wc => ∃ (A' : Ar Int) (n : Int) (ok : Bool), s9 = .int .i64 n ∧ s10 = .bool ok ∧ Both w wc ba A' bx A' [(wr.heap.size + 1, [.int .i64 n, .bool ok], 31)])
        case first =>
          have ok0 := hB2.ok
          have o0 := hB2.snd.cell 0 rfl
          have o1 := hB2.snd.cell 1 rfl
          have o2 := hB2.snd.cell 2 rfl
          clear hbo hcells q0 q1 q2 hB hl
          generalize hW : (wr.alloc _).alloc _ = W at *
          have hW' := Lib.hid hW
          clear hW
          generalize hbo : wr.heap.size = bo at *
          by_cases h0 : K = 0
          · subst h0
            go_wp2_with fail
            refine (giveA hB2 X).mono ?_
            rintro e w3 ⟨rfl, hB3⟩
            dsimp only
            have p2 := hB3.snd.cell 2 rfl
            go_wp2_with fail
            refine (giveX hB3 ok0 X).mono ?_
            rintro e w4 ⟨rfl, hB4⟩
            dsimp only
            have p0 := hB4.fst.cell 0 rfl
            have p1 := hB4.fst.cell 1 rfl
            have pf := hB4.fst.free
            go_wp2_with fail
            go_meet
            exact ⟨_, _, _, rfl, rfl, (hB4.one.set (by simp) 0 _).set (by simp) 1 _⟩
          · have t0 : (K == 0) = false := by simpa using h0
            clear h0
            by_cases h1 : K = 1
            · subst h1
              clear t0
              go_wp2_with fail
              refine (freeA hB2 N).mono ?_
              rintro e w3 ⟨rfl, hB3⟩
              dsimp only
              have p2 := hB3.snd.cell 1 rfl
              go_wp2_with fail
              refine (dropX hB3 ok0 N).mono ?_
              rintro e w4 ⟨rfl, hB4⟩
              dsimp only
              have p0 := hB4.fst.cell 0 rfl
              have p1 := hB4.fst.cell 1 rfl
              have pf := hB4.fst.free
              go_wp2_with fail
              go_meet
              exact ⟨_, _, _, rfl, rfl, (hB4.one.set (by simp) 0 _).set (by simp) 1 _⟩
            · have t1 : (K == 1) = false := by simpa using h1
              clear h1
              by_cases h2 : K = 2
              · subst h2
                clear t0 t1
                go_wp2_with fail
                refine (setA hB2 N X).mono ?_
                rintro e w3 ⟨rfl, hB3⟩
                dsimp only
                have p1 := hB3.snd.cell 1 rfl
                have p2 := hB3.snd.cell 2 rfl
                go_wp2_with fail
                refine (setX hB3 ok0 N X).mono ?_
                rintro e w4 ⟨rfl, hB4⟩
                dsimp only
                have p0 := hB4.fst.cell 0 rfl
                have p1 := hB4.fst.cell 1 rfl
                have pf := hB4.fst.free
                go_wp2_with fail
                go_meet
                exact ⟨_, 0, _, rfl, rfl, hB4.one.set (by simp) 1 _⟩
              · have t2 : (K == 2) = false := by simpa using h2
                clear h2
                go_wp2_with fail
                refine (atA hB2 N).mono ?_
                rintro e w3 ⟨rfl, hB3⟩
                dsimp only
                have p2 := hB3.snd.cell 1 rfl
                go_wp2_with fail
                refine (atX hB3 ok0 N).mono ?_
                rintro e w4 ⟨rfl, hB4⟩
                dsimp only
                have p0 := hB4.fst.cell 0 rfl
                have p1 := hB4.fst.cell 1 rfl
                have pf := hB4.fst.free
                go_wp2_with fail
                go_meet
                exact ⟨_, _, _, rfl, rfl, (hB4.one.set (by simp) 0 _).set (by simp) 1 _⟩
        case rest =>
          obtain ⟨A', n, ok, rfl, rfl, hB5⟩ := hcut
          clear hB2 hB hbo hcells q0 q1 q2
          have ok1 := hB5.ok
          go_wp2_with fail
          refine (liveX hB5 ok1).mono ?_
          rintro e w6 ⟨ax, cx, rfl, hx, mx⟩
          dsimp only
          have hB6 := hB5.still mx
          have p0 := hB6.fst.cell 0 rfl
          have p1 := hB6.fst.cell 1 rfl
          have pr := roomX hB6
          have hcnt : ((A'.count : Int) != ((ArI.live A').length : Int)) = false := by rw [count_live ok1]; simp
          go_upto_region 25 with fail
          go_cut [117] (fun s117 wc => s117 = .bool false ∧ Mod [] w6 wc)
          case first =>
            go_region_with (first
              | (go_at_call 27; refine (lenA (hB6.still ?_)).mono ?_; exact (Mod.refl _ _).drew; rintro e w7 ⟨rfl, rfl⟩)
              | (go_at_call 28; refine (roomA (hB6.still ?_)).mono ?_; exact (Mod.refl _ _).drew; rintro e w7 ⟨rfl, rfl⟩)
              | (go_at_call 30; refine (liveA (hB6.still ?_)).mono ?_; exact (Mod.refl _ _).drew; rintro e w7 ⟨aa, ca, rfl, ha, ma⟩)
              | (go_at_call 29; refine (ints_same ha (hx.keep ((Mod.refl [] _).drew.trans ma (by simp)) (by simp))).mono ?_; rintro e w8 ⟨rfl, md⟩))
            all_goals
              go_wp2_with fail
              go_meet
              exact ⟨rfl, ((Mod.refl [] w6).drew.trans ma (by simp)).trans md (by simp)⟩
          case rest =>
            obtain ⟨rfl, mc⟩ := hcut
            have hB7 := (hB6.still mc).drop (L' := []) (by simp)
            clear hB6 hB5 hx
            go_wp2_with fail
            go_roundw
            case rel => exact ⟨k + 1, A', by omega, by go_num, hB7⟩
            case measure => simp [intOf]; omega
      · clear hwo
        go_wp2_with (go_at_call 15; refine (ArI.awake_true _).mono ?_; rintro e w' ⟨rfl, hm⟩)
        go_ret
        exact ⟨rfl, hB.mod.trans hm (by simp)⟩
end Go.Proofs.Ytmkbinbggiocaaa
