/- The law of the arena: cells that are given have unlike numbers, and keep what is in them. -/
import Derived.Test.YtmkbinbggiocaaaBoth
import Derived.Test.YtmkbinbggiocaaaAwake11
import Derived.Test.YtmkbinbggiocaaaRead
set_option linter.unusedVariables false
set_option linter.unusedSimpArgs false
namespace Go.Proofs.Ytmkbinbggiocaaa
open Go.RowKit Arena
namespace Apart11
def full (l : List Int) (k : Nat) : Ar Int := ⟨l.length, (l.take k).map some, []⟩
theorem full_len (l : List Int) {k : Nat} (h : k ≤ l.length) : (full l k).cells.length = k := by simp [full, h]
theorem full_give (l : List Int) {k : Nat} (h : k < l.length) (x : Int) (hx : l[k]? = some x) : ((full l k).give x).1 = full l (k + 1) := by
  have h1 : min k l.length = k := by omega
  have e : l.take (k + 1) = l.take k ++ [x] := by rw [List.take_add_one, hx]; rfl
  simp [Ar.give, full, h1, h, e]
theorem full_get (l : List Int) (i : Nat) (x : Int) (hx : l[i]? = some x) : (full l l.length).get (i : Int) = some x := by
  simp [Ar.get, full, hx]
/-- The arena and the row of numbers so far, each in blocks of its own. -/
structure St (w0 w : World) (ba : Nat) (l : List Int) (k : Nat) (av : Option Addr) (cv : Nat) : Prop where
  mk ::
  out : ∃ F, ArI.At w ba (full l k) F ∧ Mod [] w0 w ∧ (∀ b ∈ F, w0.heap.size ≤ b) ∧ w.ownsRow 0 3 1 (.slice av k cv) k (Ref11.nats (List.range k)) ∧ ∀ g, (Value.slice av k cv).ownBlock = some g → g ∉ F ∧ w0.heap.size ≤ g
theorem St.mod {w0 w : World} {ba : Nat} {l : List Int} {k : Nat} {av : Option Addr} {cv : Nat} (h : St w0 w ba l k av cv) : Mod [] w0 w := by
  obtain ⟨F, _, hm, _⟩ := h.out
  exact hm
theorem St.push {w0 w w' : World} {ba : Nat} {l : List Int} {k : Nat} {av av' : Option Addr} {cv cv' : Nat} {F : List Nat} (ha : ArI.At w ba (full l (k + 1)) F) (hm : Mod [] w0 w) (hF : ∀ b ∈ F, w0.heap.size ≤ b) (hg : ∀ g, (Value.slice av k cv).ownBlock = some g → g ∉ F ∧ w0.heap.size ≤ g)
    (h1 : w'.ownsRow 0 3 1 (.slice av' (k + 1) cv') (k + 1) (Ref11.nats (List.range k) ++ [.int .i64 k])) (h2 : Mod (Value.slice av k cv).ownBlock.toList w w') (h3 : (Value.slice av' (k + 1) cv').ownBlock = (Value.slice av k cv).ownBlock ∨ ∃ b, (Value.slice av' (k + 1) cv').ownBlock = some b ∧ w.heap.size ≤ b) :
    St w0 w' ba l (k + 1) av' cv' := by
  refine ⟨F, ha.mod h2 (fun b hb hb' => (hg b (by simpa using hb')).1 hb), hm.trans h2 (fun b hb hlt => ?_), hF, ?_, fun g hg' => ?_⟩
  · have := (hg b (by simpa using hb)).2; omega
  · simpa [Ref11.nats, List.range_succ] using h1
  · rcases h3 with h3 | ⟨b, h3, hle⟩
    · rw [h3] at hg'; exact hg g hg'
    · rw [hg'] at h3; injection h3 with e; subst e
      exact ⟨fun hh => by have := ha.lt _ hh; omega, Nat.le_trans hm.size hle⟩

set_option maxRecDepth 100000 in
set_option maxHeartbeats 4000000 in
theorem apart_any (a : Option Addr) (c : Nat) (l : List Int) (n : Int) (w : World) (hl0 : ArgRow w 1 a l.length c (intsV l)) :
    Calls Try.prog 4 #[.slice a l.length c, .int .i64 n] w fun e w' => e = .returned (.bool true) ∧ Mod [] w w' := by
  have hl : Hid (ArgRow w 1 a l.length c (intsV l)) := hl0
  clear hl0
  by_cases hlen : 100 < l.length
  · have hlen' : (100 : Int) < l.length := by omega
    go_enter Try.func4, Try.ntmps4
    go_wp2_with (go_at_call 15; refine (ArI.awake_true _).mono ?_; rintro e w' ⟨rfl, hm⟩)
    go_ret
    exact ⟨rfl, hm⟩
  · have hlen1 : (l.length : Int) ≤ 100 := by omega
    have hlen2 : l.length ≤ 100 := by omega
    clear hlen
    go_enter Try.func4, Try.ntmps4
    go_wp2_with fail
    refine (ArI.new_at l.length w).mono ?_
    rintro e w1 ⟨rfl, h1, m1⟩
    dsimp only
    have hS : St w w1 w.heap.size l 0 none 0 := by
      refine ⟨[w.heap.size], ?_, m1, by simp, World.ownsRow_nil _ _ _ _, by simp [Value.ownBlock]⟩
      have e : ArI.roomOf l.length = l.length := by unfold ArI.roomOf; omega
      rw [e] at h1
      simpa [full] using h1
    clear h1 m1
    generalize w.heap.size = ba at *
    go_wp2_with fail
    go_loopw [7, 8] (fun v i wr => ∃ (k : Nat) (av : Option Addr) (cv : Nat), k ≤ l.length ∧ i = .int .i64 k ∧ v = .slice av k cv ∧ St w wr ba l k av cv) (fun _ i _ => l.length - (intOf i).toNat)
    case atStart => exact ⟨0, none, 0, Nat.zero_le _, rfl, rfl, hS⟩
    case round =>
      clear hS
      obtain ⟨k, av, cv, hk, rfl, rfl, hS⟩ := hrel
      obtain ⟨wo, hwo⟩ : ∃ wo : World, wo = wr := ⟨_, rfl⟩
      clear hwo
      by_cases hlt : k < l.length
      · obtain ⟨g, o, rfl, hcell⟩ := reads_cell ((hl.out (by omega)).keep hS.mod (by simp)) hlt
        have hx : l[k]? = some (l.getD k 0) := by simp [List.getD_eq_getElem?_getD, List.getElem?_eq_getElem hlt]
        generalize l.getD k 0 = x at *
        obtain ⟨F, ha, hm, hF, hrow, hg⟩ := hS.out
        have hgive := ArI.give_new ha x rfl (by rw [full_len l hk]; exact hlt)
        rw [full_give l hlt x hx, full_len l hk] at hgive
        have hrow' := Lib.hid hrow
        have hs0 := hm.size
        clear hS ha hrow
        go_wp2_with fail
        refine hgive.mono ?_
        rintro e w2 ⟨rfl, hleft⟩
        dsimp only
        obtain ⟨F', hat, hm', hs⟩ := hleft.out
        have hrow2 := own_keep hrow'.out hm' (fun g hg' => (hg g hg').1)
        have hm2 : Mod [] w w2 := hm.trans hm' (fun b hb hlt => absurd (hF b hb) (by omega))
        have hF2 : ∀ b ∈ F', w.heap.size ≤ b := fun b hb => by
          rcases hs b hb with h | h
          · exact hF b h
          · omega
        have hg2 : ∀ g, (Value.slice av k cv).ownBlock = some g → g ∉ F' ∧ w.heap.size ≤ g := fun g hg' => ⟨fun hh => by
          rcases hs g hh with h | h
          · exact (hg g hg').1 h
          · have := own_lt hrow'.out hg'; omega, (hg g hg').2⟩
        have K : Hid (∀ j, j < k → ∃ g', av = some ⟨g', 0, none⟩ ∧ w2.cell? ⟨g', j, none⟩ = some (.int .i64 (j : Int))) := by
          intro j hj
          obtain ⟨g', cap, he⟩ := Ref11.row_form hrow2 hj
          injection he with he1 he2 he3
          subst he1; subst he3
          exact ⟨g', rfl, Ref11.row_at hrow2 j (Ref11.nats_get (by simp [hj]))⟩
        clear hg hm hF hm' hs hgive hrow'
        go_wp2_with fail
        go_loop [11] (fun j => ∃ j' : Nat, j' ≤ k ∧ j = .int .i64 j') (fun j => k - (intOf j).toNat)
        case atStart => exact ⟨0, Nat.zero_le _, rfl⟩
        case round =>
          obtain ⟨j, hj, rfl⟩ := hrel
          by_cases hjk : j < k
          · obtain ⟨g', rfl, hcj⟩ := K.out j hjk
            have hne : ((j : Int) == (k : Int)) = false := by simp; omega
            go_wp2_with fail
            go_round
            case rel => exact ⟨j + 1, by omega, by go_num⟩
            case measure => simp [intOf]; omega
          · have hkl : k ≤ 100 := by omega
            clear K
            go_wp2_with (at_builtin; refine app_own rfl (.tmp 59) (.tmp 61) 36 3 _ 1 8 rfl Try.underlying36 Ref11.infoI rfl (by omega) (by omega) (.slice av k cv) k 1 (Ref11.nats (List.range k)) [.int .i64 k] rfl rfl (by simp) rfl (by simp [Value.oneCell']) hrow2 (by omega) ?_; intro aA cA wA hownA hmA hvA)
            go_roundw
            case rel => exact ⟨k + 1, aA, cA, by omega, by go_num, rfl, St.push hat hm2 hF2 hg2 hownA hmA hvA⟩
            case measure => simp [intOf]; omega
      · have hkn : k = l.length := by omega
        subst hkn
        obtain ⟨F, ha, hm, hF, hrow, hg⟩ := hS.out
        have K : Hid (∀ j, j < l.length → ∃ g' g o x, av = some ⟨g', 0, none⟩ ∧ wr.cell? ⟨g', j, none⟩ = some (.int .i64 (j : Int)) ∧ a = some ⟨g, o, none⟩ ∧ wr.cell? ⟨g, o + j, none⟩ = some (.int .i64 x) ∧ (full l l.length).get (j : Int) = some x) := by
          intro j hj
          obtain ⟨g', cap, he⟩ := Ref11.row_form hrow hj
          injection he with he1 he2 he3
          subst he1; subst he3
          obtain ⟨g, o, rfl, hcell⟩ := reads_cell ((hl.out (by omega)).keep hm (by simp)) hj
          exact ⟨g', g, o, _, rfl, Ref11.row_at hrow j (Ref11.nats_get (by simp [hj])), rfl, hcell, full_get l j _ (by simp [List.getD_eq_getElem?_getD, List.getElem?_eq_getElem hj])⟩
        have hfull := ArI.give_full ha 0 rfl (by rw [full_len l (Nat.le_refl _)]; exact Nat.le_refl _)
        clear hrow hg hS
        go_wp2_with fail
        go_loop [12] (fun j => ∃ j' : Nat, j' ≤ l.length ∧ j = .int .i64 j') (fun j => l.length - (intOf j).toNat)
        case atStart => exact ⟨0, Nat.zero_le _, rfl⟩
        case round =>
          obtain ⟨j, hj, rfl⟩ := hrel
          by_cases hjk : j < l.length
          · obtain ⟨g', g, o, x, rfl, hcj, rfl, hcl, hget⟩ := K.out j hjk
            have hat := ArI.at_some ha (j : Int) x hget
            clear K hfull ha hget
            go_wp2_with fail
            refine hat.mono ?_
            rintro e w2 ⟨rfl, rfl⟩
            dsimp only
            clear hat
            go_wp2_with fail
            go_round
            case rel => exact ⟨j + 1, by omega, by go_num⟩
            case measure => simp [intOf]; omega
          · clear K ha
            go_wp2_with fail
            refine hfull.mono ?_
            rintro e w2 ⟨rfl, hleft⟩
            dsimp only
            obtain ⟨F', _, hm', _⟩ := hleft.out
            have hm2 : Mod [] w w2 := hm.trans hm' (fun b hb hlt => absurd (hF b hb) (by omega))
            clear hfull hleft hm' hm hF
            go_wp2_with fail
            refine (ArI.give_nil n w2).mono ?_
            rintro e w3 ⟨rfl, rfl⟩
            dsimp only
            go_wp2_with fail
            refine (ArI.free_nil n w2).mono ?_
            rintro e w3 ⟨rfl, rfl⟩
            dsimp only
            go_wp2_with fail
            refine (ArI.at_nil n w2).mono ?_
            rintro e w3 ⟨rfl, rfl⟩
            dsimp only
            go_wp2_with fail
            refine (ArI.set_nil n n w2).mono ?_
            rintro e w3 ⟨rfl, rfl⟩
            dsimp only
            go_wp2_with fail
            refine (ArI.len_nil w2).mono ?_
            rintro e w3 ⟨rfl, rfl⟩
            dsimp only
            go_wp2_with fail
            refine (ArI.room_nil w2).mono ?_
            rintro e w3 ⟨rfl, rfl⟩
            dsimp only
            go_wp2_with fail
            refine (ArI.live_nil w2).mono ?_
            rintro e w3 ⟨rfl, rfl⟩
            dsimp only
            go_wp2_with fail
            refine (ArI.awake_true w2).mono ?_
            rintro e w3 ⟨rfl, hma⟩
            dsimp only
            go_wp2_with fail
            go_ret
            exact ⟨rfl, hm2.trans hma (by simp)⟩
end Apart11
end Go.Proofs.Ytmkbinbggiocaaa
