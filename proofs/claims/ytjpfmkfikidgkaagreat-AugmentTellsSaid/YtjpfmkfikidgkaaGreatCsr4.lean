/- The arcs of a vertex are sorted by their heads. -/
import Derived.Test.YtjpfmkfikidgkaaGreatCsr3
import Derived.Test.YtjpfmkfikidgkaaGreatSortWin
import Derived.Test.YtjpfmkfikidgkaaGreatSepAt
import Derived.Test.YtjpfmkfikidgkaaGreatMerge3
import Derived.Test.YtjpfmkfikidgkaaGreatShelf
set_option linter.unusedVariables false
set_option linter.unusedSimpArgs false
namespace Go.Proofs.YtjpfmkfikidgkaaGreat
open Go.RowKit
namespace Edge
theorem cmpI_lt {x y : Int} : cmpI x y < 0 ↔ x < y := by
  unfold cmpI
  split
  · omega
  · split <;> omega
set_option maxRecDepth 100000 in
set_option maxHeartbeats 2000000 in
theorem cmp_arcs {w : World} {pa b m : Nat} {x1 x2 : Value} {aa : Option Addr} {ca : Nat} {L : List Ed} {t : TypeId} (hp : Has w pa [.pointer (some ⟨b, 0, none⟩)] t) (hb : Has w b [.slice aa m ca, x1, x2] 184) (hr : w.ownsRow 0 198 2 (.slice aa m ca) m (flat encA (arcsL L))) (hm : (arcsL L).length = m) (hl : m ≤ 2097152) {x y : Nat} (hx : x < m) (hy : y < m) :
    Calls Tryz.prog 176 #[.int .i64 x, .int .i64 y, .pointer (some ⟨pa, 0, none⟩)] w fun e w' => e = .returned (.int .i64 (cmpI (headE L x) (headE L y))) ∧ ∃ q, w' = w.drewN q := by
  have p0 := hp.cell 0 rfl
  have pl := hp.lt
  have b0 := hb.cell 0 rfl
  have bl := hb.lt
  obtain ⟨g, rfl, hg, q0, q8⟩ := arc_row hr hm hx
  clear q8
  obtain ⟨g', e', q7, q1, q8⟩ := arc_row hr hm hy
  clear q8 q7
  simp only [Option.some.injEq, Addr.mk.injEq, and_true] at e'
  subst e'
  rw [arcs_at hm hx] at q0
  rw [arcs_at hm hy] at q1
  have hx1 : (x : Int) < m := by omega
  have hy1 : (y : Int) < m := by omega
  have hc := Lib.hid (fun w => compare_any (headE L x) (headE L y) w)
  generalize cmpI (headE L x) (headE L y) = r at *
  generalize headE L x = hx at *
  generalize headE L y = hy at *
  clear hp hb hr hm
  go_enter Tryz.func176, Tryz.ntmps176
  go_wp2_with fail
  go_quiet ((go_at_call 177; exact Calls.quiet_of_same (hc.out _)))
  go_wp2_with fail
  go_ret
  exact ⟨rfl, _, rfl⟩
section
open Go.Sort Go.Shelf
theorem sort_win {w : World} {pa b m go cgo : Nat} {x1 x2 : Value} {aa : Option Addr} {ca : Nat} {L : List Ed} {t : TypeId} (hp : Has w pa [.pointer (some ⟨b, 0, none⟩)] t) (hb : Has w b [.slice aa m ca, x1, x2] 184) (hr : w.ownsRow 0 198 2 (.slice aa m ca) m (flat encA (arcsL L))) (hm : (arcsL L).length = m) (hl : m ≤ 2097152)
    {A B : List Int} {d : List Nat} (ho : w.ownsRow 0 3 1 (.slice (some ⟨go, 0, none⟩) m cgo) m (i64s (A ++ ints d ++ B))) (hd : ∀ i ∈ d, i < m) (n1 : pa ≠ go) (n2 : b ≠ go) (n3 : (Value.slice aa m ca).ownBlock ≠ some go) :
    Calls Tryz.prog 175 #[winV go A.length d.length, .func (.func 176) #[] #[.pointer (some ⟨pa, 0, none⟩)]] w fun e w' => e = .returned (.tuple #[]) ∧ ∃ d' : List Nat, d'.Perm d ∧ (d'.Pairwise fun x y => headE L x ≤ headE L y) ∧ w'.ownsRow 0 3 1 (.slice (some ⟨go, 0, none⟩) m cgo) m (i64s (A ++ ints d' ++ B)) ∧ Mod [go] w w' := by
  rcases Nat.eq_zero_or_pos d.length with h0 | h0
  · have hd0 := List.eq_nil_of_length_eq_zero h0
    subst hd0
    refine Calls.mono (show Calls Tryz.prog 175 _ _ _ from AnyF.slices_SortFunc_none { Sh.sortFI with } _ _ _ w) ?_
    rintro e w' ⟨rfl, rfl⟩
    exact ⟨rfl, [], List.Perm.refl _, List.Pairwise.nil, ho, Mod.refl _ _⟩
  have hm0 : 0 < m := by
    have := hd (d[0]'h0) (List.getElem_mem _)
    omega
  haveI : Inhabited (Fin m) := ⟨⟨0, hm0⟩⟩
  obtain ⟨D, hD1, hD2⟩ : ∃ D : Array (Fin m), D.size = d.length ∧ D.toList.map (fun i => i.1) = d := by
    refine ⟨(d.attach.map fun i => (⟨i.1, hd i.1 i.2⟩ : Fin m)).toArray, by simp, ?_⟩
    simp
  have henc : i64s (A ++ ints d ++ B) = i64s A ++ D.toList.map (fun i : Fin m => Value.int .i64 ((i.1 : Nat) : Int)) ++ i64s B := by
    rw [i64s_append, i64s_append, ← hD2]
    simp [i64s, ints]
  rw [henc] at ho
  have hAl : (i64s A).length = A.length := i64s_len A
  have eg : ∀ args w, (callFunc 176 args).run Tryz.prog w = .ok (.enter 176 args) w := enters_of Tryz.func176 (by kernel_rfl) rfl
  have hlt : ∀ x y : Fin m, ltOf (fun x y : Fin m => cmpI (headE L x.1) (headE L y.1)) x y = decide (headE L x.1 < headE L y.1) := fun x y => by
    unfold ltOf
    rw [decide_eq_decide]
    exact cmpI_lt
  have hO : SWO (ltOf fun x y : Fin m => cmpI (headE L x.1) (headE L y.1)) := {
    irrefl := fun x => by rw [hlt, decide_eq_false_iff_not]; omega
    trans := fun x y z h1 h2 => by rw [hlt, decide_eq_true_eq] at *; omega
    ntrans := fun x y z h1 h2 => by rw [hlt, decide_eq_false_iff_not] at *; omega }
  have hlays : CmpLays1 Tryz.prog 176 #[.pointer (some ⟨pa, 0, none⟩)] (fun i : Fin m => Value.int .i64 ((i.1 : Nat) : Int)) (fun x y : Fin m => cmpI (headE L x.1) (headE L y.1)) go (i64s A).length D.size w := by
    intro k os dk _ x y
    have hM := put_mod (fun i : Fin m => Value.int .i64 ((i.1 : Nat) : Int)) w go (i64s A).length k dk os
    refine (cmp_arcs (hp.keep hM (by simpa using n1)) (hb.keep hM (by simpa using n2)) (own_keep hr hM (fun g hg => by intro hh; simp only [List.mem_singleton] at hh; subst hh; exact n3 hg)) hm hl x.2 y.2).mono ?_
    rintro e w' ⟨rfl, q, rfl⟩
    exact ⟨rfl, q, #[], by rw [grow_empty]⟩
  have hcon := Any.slices_SortFunc Sh.sortFI (fun i : Fin m => Value.int .i64 ((i.1 : Nat) : Int)) (fun _ => rfl) (fun x y : Fin m => cmpI (headE L x.1) (headE L y.1)) hO 176 #[.pointer (some ⟨pa, 0, none⟩)] go (i64s A).length d.length D w eg hlays (own_holds_at ho) (own_lt ho rfl) (by have := (ho.1); simp at this; omega)
  rw [hD1, hAl] at hcon
  have hwv : winV go A.length d.length = .slice (some ⟨go, A.length, none⟩) d.length d.length := by unfold winV; rw [if_neg (by omega)]
  rw [hwv]
  refine Calls.mono (show Calls Tryz.prog 175 _ _ _ from hcon) ?_
  rintro e w' ⟨rfl, d', n, os, ⟨p1, p2, p3⟩, hs, rfl⟩
  have hperm : d'.toList.Perm D.toList := by
    have e1 : (d'.extract 0 d.length).toList = d'.toList := by rw [← hD1, ← p1, Array.extract_size]
    have e2 : (D.extract 0 d.length).toList = D.toList := by rw [← hD1, Array.extract_size]
    rw [e1, e2] at p3
    exact p3
  refine ⟨rfl, d'.toList.map (fun i => i.1), by rw [← hD2]; exact hperm.map _, ?_, ?_, put_mod _ _ _ _ _ _ _⟩
  · rw [List.pairwise_map, List.pairwise_iff_getElem]
    intro i j hi hj hij
    simp only [Array.length_toList] at hi hj
    have h4 := hs i j (Nat.zero_le _) hij (by omega)
    rw [getElem!_pos d' j hj, getElem!_pos d' i hi, hlt, decide_eq_false_iff_not] at h4
    simp only [Array.getElem_toList]
    omega
  · have := own_put_at (m := n) (enc := fun i : Fin m => Value.int .i64 ((i.1 : Nat) : Int)) ho d' (by simp [p1, hD1]) os
    rw [hAl] at this
    have e2 : i64s (A ++ ints (d'.toList.map fun i => i.1) ++ B) = i64s A ++ d'.toList.map (fun i : Fin m => Value.int .i64 ((i.1 : Nat) : Int)) ++ i64s B := by
      rw [i64s_append, i64s_append]
      simp [i64s, ints]
    rw [e2]
    exact this
end
end Edge
end Go.Proofs.YtjpfmkfikidgkaaGreat
