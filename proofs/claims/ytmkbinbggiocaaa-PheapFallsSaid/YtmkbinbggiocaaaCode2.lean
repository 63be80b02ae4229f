/- Lists of numbers as bytes: code.list, Nats, Ints; the reference's Nat, Sign, Nats, Ints. -/
import Derived.Test.YtmkbinbggiocaaaCode1
set_option linter.unusedVariables false
set_option linter.unusedSimpArgs false
namespace Go.Proofs.Ytmkbinbggiocaaa
open Go.RowKit
namespace Code
def listB {α : Type} (f : α → Nat) (l : List α) : List Int := natB l.length ++ l.flatMap fun x => natB (f x)
theorem natB_len10 {n : Nat} (h : n < 18446744073709551616) : (natB n).length ≤ 10 := natB_len 10 n (by omega) (by omega)
theorem flatB_len {α : Type} (f : α → Nat) (l : List α) (h : ∀ x ∈ l, f x < 18446744073709551616) : (l.flatMap fun x => natB (f x)).length ≤ 10 * l.length := by
  induction l with
  | nil => simp
  | cons a l ih =>
    have h1 := natB_len10 (h a (by simp))
    have h2 := ih fun x hx => h x (List.mem_cons_of_mem _ hx)
    simp only [List.flatMap_cons, List.length_append, List.length_cons]; omega
theorem flat_take {α β : Type} (f : α → List β) (l : List α) (k : Nat) (x : α) (h : l[k]? = some x) : (l.take (k + 1)).flatMap f = (l.take k).flatMap f ++ f x := by
  rw [List.take_add_one, h]; simp
theorem u8s_nil : u8s [] = [] := rfl

/-! ### list[uint64] -/
def vu64 (l : List Nat) : List Value := l.map fun (x : Nat) => Value.int .u64 (x : Int)
theorem vu64_get {l : List Nat} {i : Nat} {x : Nat} (h : l[i]? = some x) : (vu64 l)[i]? = some (.int .u64 x) := by simp [vu64, h]
theorem vu64_len (l : List Nat) : (vu64 l).length = l.length := by simp [vu64]
set_option maxHeartbeats 1000000 in
theorem list_u64 {w : World} {vb vl : Value} {bs : List Int} (l : List Nat) (hl : ∀ x ∈ l, x < 18446744073709551616) (hb : Rd w 1 vb bs.length (u8s bs)) (hlen : bs.length ≤ 100000) (hr : Rd w 1 vl l.length (vu64 l)) (hll : l.length ≤ 10000) :
    Calls Try.prog 99 #[vb, vl, .func (.func 32) #[] #[]] w (MadeOut 5 1 (bs ++ listB id l).length (u8s (bs ++ listB id l)) w) := by
  obtain ⟨al, cl, rfl⟩ := hr.val
  have htot : ∀ k, (bs ++ natB l.length ++ (l.take k).flatMap fun x => natB (id x)).length ≤ 200010 := by
    intro k
    have h1 := natB_len10 (n := l.length) (by omega)
    have h2 := flatB_len id (l.take k) (fun x hx => hl x (List.mem_of_mem_take hx))
    have h3 : (l.take k).length ≤ l.length := by rw [List.length_take]; omega
    rw [List.length_append, List.length_append]; omega
  have htot' := Lib.hid htot
  have hr' := Lib.hid hr
  have hl' := Lib.hid hl
  clear htot hr hl
  go_enter Try.func99, Try.ntmps99
  go_wp2_with fail
  refine (nat_any l.length (by omega) hb (by omega)).mono ?_
  rintro e w1 ⟨a1, c1, rfl, hm⟩
  dsimp only
  clear hb
  generalize hz0 : bs ++ natB l.length = zs0 at *
  have hz0' := Lib.hid hz0
  clear hz0
  go_wp2_with fail
  go_loopw [7, 17] (fun v i wr => ∃ (k : Nat) (zs : List Int) (av : Option Addr) (cv : Nat), k ≤ l.length ∧ i = .int .i64 k ∧ v = .slice av zs.length cv ∧ zs = zs0 ++ (l.take k).flatMap (fun x => natB (id x)) ∧ Made w wr 5 1 av zs.length cv (u8s zs)) (fun _ i _ => l.length - (intOf i).toNat)
  case atStart => exact ⟨0, _, a1, c1, Nat.zero_le _, rfl, rfl, by simp, hm⟩
  case round =>
    clear hm
    obtain ⟨k, zs, av, cv, hk, rfl, rfl, hzs, hm⟩ := hrel
    obtain ⟨wo, hwo⟩ : ∃ wo : World, wo = wr := ⟨_, rfl⟩
    clear hwo
    have hzs' := Lib.hid hzs
    clear hzs
    by_cases hlt : k < l.length
    · obtain ⟨x, hx⟩ : ∃ x, l[k]? = some x := ⟨l[k], List.getElem?_eq_getElem hlt⟩
      have hxm : x ∈ l := List.mem_of_getElem? hx
      obtain ⟨g, o, rfl, _, _, hcell⟩ := (hr'.out.still hm.mod).at (by rw [vu64_len]; omega)
      have hc := hcell k _ (vu64_get hx)
      have e : zs ++ natB (id x) = zs0 ++ (l.take (k + 1)).flatMap (fun x => natB (id x)) := by rw [flat_take _ l k x hx, hzs'.out]; simp
      have hb2 := htot'.out (k + 1)
      rw [← e] at hb2
      rw [List.length_append] at hb2
      have e' := Lib.hid e
      have hput := nat_any (w := wr) (vb := .slice none 0 0) (bs := []) (id x) (hl'.out x hxm) (Rd.nil wr 1) (by simp)
      rw [List.nil_append] at hput
      clear e hx hcell
      go_wp2_with fail
      refine hput.mono ?_
      rintro e w2 ⟨a2, c2, rfl, hm2⟩
      dsimp only
      clear hput
      have hmm := hm.still hm2.mod
      generalize hN : natB (id x) = ns at *
      have hN' := Lib.hid hN
      clear hN
      go_wp2_with (at_builtin; refine app_rd rfl (.tmp 21) (.tmp 24) 45 5 _ 1 1 rfl Try.underlying45 infoU8 rfl (by omega) (by omega) (.slice av zs.length cv) (.slice a2 ns.length c2) zs.length ns.length (u8s zs) (u8s ns) rfl rfl (u8s_one _) hmm.own (Rd.own hm2.own) (by omega) ?_; intro aA cA wA hA mA vA)
      go_roundw
      case rel => exact ⟨k + 1, zs ++ ns, aA, cA, by omega, by go_num, by rw [List.length_append], by rw [← hN'.out] at e' ⊢; exact e'.out, by rw [List.length_append, u8s_append]; exact hmm.push hA mA vA⟩
      case measure => simp [intOf]; omega
    · have hk' : k = l.length := by omega
      have e : zs = bs ++ listB id l := by rw [hzs'.out, hk', List.take_length, ← hz0'.out]; simp [listB]
      have e' := Lib.hid e
      clear e hk'
      go_wp2_with fail
      go_ret
      rw [← e'.out]
      exact ⟨av, cv, rfl, hm⟩
set_option maxHeartbeats 1000000 in
theorem nats_any {w : World} {vb vl : Value} {bs : List Int} (l : List Nat) (hl : ∀ x ∈ l, x < 18446744073709551616) (hb : Rd w 1 vb bs.length (u8s bs)) (hlen : bs.length ≤ 100000) (hr : Rd w 1 vl l.length (vu64 l)) (hll : l.length ≤ 10000) :
    Calls Try.prog 38 #[vb, vl] w (MadeOut 5 1 (bs ++ listB id l).length (u8s (bs ++ listB id l)) w) := by
  have h := list_u64 l hl hb hlen hr hll
  clear hl hb hr
  go_enter Try.func38, Try.ntmps38
  go_wp2_with fail
  refine h.mono ?_
  rintro e w1 ⟨a1, c1, rfl, hm⟩
  dsimp only
  go_wp2_with fail
  go_ret
  exact ⟨a1, c1, rfl, hm⟩

/-! ### list[int64] -/
def vi64 (l : List Int) : List Value := l.map fun (x : Int) => Value.int .i64 (x : Int)
theorem vi64_get {l : List Int} {i : Nat} {x : Int} (h : l[i]? = some x) : (vi64 l)[i]? = some (.int .i64 x) := by simp [vi64, h]
theorem vi64_len (l : List Int) : (vi64 l).length = l.length := by simp [vi64]
set_option maxHeartbeats 1000000 in
theorem list_i64 {w : World} {vb vl : Value} {bs : List Int} (l : List Int) (hl : ∀ x ∈ l, -9223372036854775808 ≤ x ∧ x ≤ 9223372036854775807) (hb : Rd w 1 vb bs.length (u8s bs)) (hlen : bs.length ≤ 100000) (hr : Rd w 1 vl l.length (vi64 l)) (hll : l.length ≤ 10000) :
    Calls Try.prog 100 #[vb, vl, .func (.func 34) #[] #[]] w (MadeOut 5 1 (bs ++ listB signN l).length (u8s (bs ++ listB signN l)) w) := by
  obtain ⟨al, cl, rfl⟩ := hr.val
  have htot : ∀ k, (bs ++ natB l.length ++ (l.take k).flatMap fun x => natB (signN x)).length ≤ 200010 := by
    intro k
    have h1 := natB_len10 (n := l.length) (by omega)
    have h2 := flatB_len signN (l.take k) (fun x hx => signN_lt x (hl x (List.mem_of_mem_take hx)).1 (hl x (List.mem_of_mem_take hx)).2)
    have h3 : (l.take k).length ≤ l.length := by rw [List.length_take]; omega
    rw [List.length_append, List.length_append]; omega
  have htot' := Lib.hid htot
  have hr' := Lib.hid hr
  have hl' := Lib.hid hl
  clear htot hr hl
  go_enter Try.func100, Try.ntmps100
  go_wp2_with fail
  refine (nat_any l.length (by omega) hb (by omega)).mono ?_
  rintro e w1 ⟨a1, c1, rfl, hm⟩
  dsimp only
  clear hb
  generalize hz0 : bs ++ natB l.length = zs0 at *
  have hz0' := Lib.hid hz0
  clear hz0
  go_wp2_with fail
  go_loopw [7, 17] (fun v i wr => ∃ (k : Nat) (zs : List Int) (av : Option Addr) (cv : Nat), k ≤ l.length ∧ i = .int .i64 k ∧ v = .slice av zs.length cv ∧ zs = zs0 ++ (l.take k).flatMap (fun x => natB (signN x)) ∧ Made w wr 5 1 av zs.length cv (u8s zs)) (fun _ i _ => l.length - (intOf i).toNat)
  case atStart => exact ⟨0, _, a1, c1, Nat.zero_le _, rfl, rfl, by simp, hm⟩
  case round =>
    clear hm
    obtain ⟨k, zs, av, cv, hk, rfl, rfl, hzs, hm⟩ := hrel
    obtain ⟨wo, hwo⟩ : ∃ wo : World, wo = wr := ⟨_, rfl⟩
    clear hwo
    have hzs' := Lib.hid hzs
    clear hzs
    by_cases hlt : k < l.length
    · obtain ⟨x, hx⟩ : ∃ x, l[k]? = some x := ⟨l[k], List.getElem?_eq_getElem hlt⟩
      have hxm : x ∈ l := List.mem_of_getElem? hx
      obtain ⟨g, o, rfl, _, _, hcell⟩ := (hr'.out.still hm.mod).at (by rw [vi64_len]; omega)
      have hc := hcell k _ (vi64_get hx)
      have e : zs ++ natB (signN x) = zs0 ++ (l.take (k + 1)).flatMap (fun x => natB (signN x)) := by rw [flat_take _ l k x hx, hzs'.out]; simp
      have hb2 := htot'.out (k + 1)
      rw [← e] at hb2
      rw [List.length_append] at hb2
      have e' := Lib.hid e
      have hput := int_any (w := wr) (vb := .slice none 0 0) (bs := []) x (hl'.out x hxm).1 (hl'.out x hxm).2 (Rd.nil wr 1) (by simp)
      rw [List.nil_append] at hput
      clear e hx hcell
      go_wp2_with fail
      refine hput.mono ?_
      rintro e w2 ⟨a2, c2, rfl, hm2⟩
      dsimp only
      clear hput
      have hmm := hm.still hm2.mod
      generalize hN : natB (signN x) = ns at *
      have hN' := Lib.hid hN
      clear hN
      go_wp2_with (at_builtin; refine app_rd rfl (.tmp 21) (.tmp 24) 45 5 _ 1 1 rfl Try.underlying45 infoU8 rfl (by omega) (by omega) (.slice av zs.length cv) (.slice a2 ns.length c2) zs.length ns.length (u8s zs) (u8s ns) rfl rfl (u8s_one _) hmm.own (Rd.own hm2.own) (by omega) ?_; intro aA cA wA hA mA vA)
      go_roundw
      case rel => exact ⟨k + 1, zs ++ ns, aA, cA, by omega, by go_num, by rw [List.length_append], by rw [← hN'.out] at e' ⊢; exact e'.out, by rw [List.length_append, u8s_append]; exact hmm.push hA mA vA⟩
      case measure => simp [intOf]; omega
    · have hk' : k = l.length := by omega
      have e : zs = bs ++ listB signN l := by rw [hzs'.out, hk', List.take_length, ← hz0'.out]; simp [listB]
      have e' := Lib.hid e
      clear e hk'
      go_wp2_with fail
      go_ret
      rw [← e'.out]
      exact ⟨av, cv, rfl, hm⟩
set_option maxHeartbeats 1000000 in
theorem ints_any {w : World} {vb vl : Value} {bs : List Int} (l : List Int) (hl : ∀ x ∈ l, -9223372036854775808 ≤ x ∧ x ≤ 9223372036854775807) (hb : Rd w 1 vb bs.length (u8s bs)) (hlen : bs.length ≤ 100000) (hr : Rd w 1 vl l.length (vi64 l)) (hll : l.length ≤ 10000) :
    Calls Try.prog 40 #[vb, vl] w (MadeOut 5 1 (bs ++ listB signN l).length (u8s (bs ++ listB signN l)) w) := by
  have h := list_i64 l hl hb hlen hr hll
  clear hl hb hr
  go_enter Try.func40, Try.ntmps40
  go_wp2_with fail
  refine h.mono ?_
  rintro e w1 ⟨a1, c1, rfl, hm⟩
  dsimp only
  go_wp2_with fail
  go_ret
  exact ⟨a1, c1, rfl, hm⟩
end Code
end Go.Proofs.Ytmkbinbggiocaaa
