/- Graphs as plain things: which edges may be, what a graph tells of its vertices; the program's way and the reference's. -/
import Derived.Test.YtjpfmkfikidgkaaGreatMergeLaw
set_option linter.unusedVariables false
set_option linter.unusedSimpArgs false
namespace Go.Proofs.YtjpfmkfikidgkaaGreat
namespace Edge
/-- May an edge be? 0: yes; 4: no such vertex; 5: no such weight. -/
def checkE (n : Int) (e : Ed) : Int := if e.1 < 0 ∨ n ≤ e.1 ∨ e.2.1 < 0 ∨ n ≤ e.2.1 then 4 else if e.2.2 < 0 ∨ 2147483648 < e.2.2 then 5 else 0
/-- The first one that may not, from the number k on. -/
def checksE (n : Int) : Nat → List Ed → Int × Int
  | _, [] => (0, 0)
  | k, e :: l => if checkE n e = 0 then checksE n (k + 1) l else (checkE n e, k)
def newE (n : Int) (l : List Ed) : Int × Int := if n < 0 then (1, 0) else if 4096 < n ∨ 1048576 < l.length then (3, 0) else checksE n 0 l
theorem checkE_ok {n : Int} {e : Ed} : checkE n e = 0 ↔ 0 ≤ e.1 ∧ e.1 < n ∧ 0 ≤ e.2.1 ∧ e.2.1 < n ∧ 0 ≤ e.2.2 ∧ e.2.2 ≤ 2147483648 := by
  unfold checkE
  split
  · omega
  · split <;> omega
theorem checksE_ok {n : Int} : ∀ {l : List Ed} {k : Nat}, (checksE n k l).1 = 0 ↔ ∀ e ∈ l, checkE n e = 0
  | [], k => by simp [checksE]
  | e :: l, k => by
    unfold checksE
    by_cases h : checkE n e = 0
    · rw [if_pos h, checksE_ok]; simp [h]
    · rw [if_neg h]; simp [h]
theorem checksE_at {n : Int} : ∀ {l : List Ed} {k : Nat}, (checksE n k l).1 = 0 → checksE n k l = (0, 0)
  | [], k, _ => rfl
  | e :: l, k, h => by
    unfold checksE at h ⊢
    by_cases h1 : checkE n e = 0
    · rw [if_pos h1] at h ⊢; exact checksE_at h
    · rw [if_neg h1] at h; exact absurd h h1
/-- What all weigh. -/
def total : List Ed → Int
  | [] => 0
  | e :: l => e.2.2 + total l
theorem total_append : ∀ l m : List Ed, total (l ++ m) = total l + total m
  | [], m => by simp [total]
  | e :: l, m => by simp only [List.cons_append, total, total_append l m]; omega
def weight : List Ed → Int → Int → Int
  | [], _, _ => 0
  | e :: l, u, v => if e.1 = min u v ∧ e.2.1 = max u v then e.2.2 else weight l u v
theorem weight_wt {u v : Int} : ∀ {L : List Ed}, Apart L → weight L u v = wt (min u v, max u v) L
  | [], _ => rfl
  | e :: l, h => by
    obtain ⟨h1, h2⟩ := List.pairwise_cons.1 h
    unfold weight wt
    by_cases e1 : e.1 = min u v ∧ e.2.1 = max u v
    · have e2 : key e = (min u v, max u v) := Prod.ext e1.1 e1.2
      rw [if_pos e1, if_pos e2, wt_away (fun x hx => by rw [← e2]; exact (h1 x hx).symm)]
      omega
    · have e2 : key e ≠ (min u v, max u v) := fun e2 => e1 ⟨congrArg Prod.fst e2, congrArg Prod.snd e2⟩
      rw [if_neg e1, if_neg e2, weight_wt h2]
      omega
theorem weight_comm (L : List Ed) (u v : Int) : weight L u v = weight L v u := by
  induction L with
  | nil => rfl
  | cons e l ih =>
    unfold weight
    rw [ih, show min u v = min v u by omega, show max u v = max v u by omega]
/-- A graph of n vertices: its edges in order. -/
structure GOk (n : Nat) (L : List Ed) : Prop where
  le : n ≤ 4096
  rising : Rising L
  ends : ∀ e ∈ L, 0 ≤ e.1 ∧ e.1 < e.2.1 ∧ e.2.1 < n
  pos : ∀ e ∈ L, 0 < e.2.2
  tot : total L ≤ 2251799813685248
  len : L.length ≤ 1048576
theorem wt_some {k : Int × Int} : ∀ {l : List Ed}, wt k l ≠ 0 → ∃ e ∈ l, key e = k
  | [], h => absurd rfl h
  | e :: l, h => by
    by_cases e1 : key e = k
    · exact ⟨e, by simp, e1⟩
    · simp only [wt] at h
      rw [if_neg e1] at h
      obtain ⟨x, hx, e2⟩ := wt_some (k := k) (l := l) (by omega)
      exact ⟨x, by simp [hx], e2⟩
theorem wt_nonneg {k : Int × Int} : ∀ {l : List Ed}, (∀ e ∈ l, 0 ≤ e.2.2) → 0 ≤ wt k l
  | [], _ => Int.le_refl _
  | e :: l, h => by
    have h1 := h e (by simp)
    have h2 := wt_nonneg (k := k) (l := l) (fun x hx => h x (List.mem_cons_of_mem _ hx))
    simp only [wt]
    split <;> omega
theorem addR_total {e : Ed} : ∀ {l : List Ed}, Rising l → total (addR false l e) = total l + e.2.2
  | [], _ => by simp [addR, total]
  | x :: l, h => by
    obtain ⟨h1, h2⟩ := List.pairwise_cons.1 h
    unfold addR
    by_cases e1 : key x = key e
    · rw [if_pos e1, addR_done (fun y hy e2 => by have := h1 y hy; rw [e1, e2] at this; exact before_irrefl _ this)]
      simp only [total]; omega
    · rw [if_neg e1]
      by_cases e2 : before (key e) (key x)
      · rw [if_pos ⟨rfl, e2⟩, addR_done (fun y hy e3 => by have := before_trans e2 (h1 y hy); rw [e3] at this; exact before_irrefl _ this)]
        simp only [total]; omega
      · rw [if_neg (fun hh => e2 hh.2)]
        simp only [total, addR_total h2]; omega
theorem foldR_total : ∀ (l : List Ed) (s : List Ed), Rising s → total (l.foldl (addR false) s) = total s + total l
  | [], s, h => by simp [total]
  | e :: l, s, h => by
    rw [List.foldl_cons, foldR_total l _ (addR_rising h), addR_total h, total]; omega
theorem addR_len {e : Ed} : ∀ {l : List Ed} {d : Bool}, (addR d l e).length ≤ l.length + (if d then 0 else 1)
  | [], d => by cases d <;> simp [addR]
  | x :: l, d => by
    unfold addR
    by_cases e1 : key x = key e
    · rw [if_pos e1]
      have := addR_len (e := e) (l := l) (d := true)
      simp only [List.length_cons, if_true] at this ⊢
      split <;> omega
    · rw [if_neg e1]
      by_cases e2 : d = false ∧ before (key e) (key x)
      · rw [if_pos e2]
        have := addR_len (e := e) (l := l) (d := true)
        rw [e2.1]
        simp only [List.length_cons, if_true, Bool.false_eq_true, if_false] at this ⊢
        omega
      · rw [if_neg e2]
        have := addR_len (e := e) (l := l) (d := d)
        simp only [List.length_cons] at this ⊢
        omega
theorem foldR_len : ∀ (l : List Ed) (s : List Ed), (l.foldl (addR false) s).length ≤ s.length + l.length
  | [], s => by simp
  | e :: l, s => by
    have h1 := foldR_len l (addR false s e)
    have h2 := addR_len (e := e) (l := s) (d := false)
    simp only [Bool.false_eq_true, if_false] at h2
    simp only [List.foldl_cons, List.length_cons]
    omega
theorem total_heavy : ∀ l : List Ed, total (heavy l) = total l
  | [] => rfl
  | e :: l => by
    have := total_heavy l
    unfold heavy at this ⊢
    rw [List.filter_cons]
    by_cases h : e.2.2 = 0
    · rw [if_neg (by simpa using h)]; simp only [total, this, h]; omega
    · rw [if_pos (by simpa using h)]; simp only [total, this]
theorem norm_w (e : Ed) : (norm e).2.2 = e.2.2 := by unfold norm; split <;> rfl
theorem norm_ends {e : Ed} (h : e.1 ≠ e.2.1) : (norm e).1 < (norm e).2.1 ∧ (norm e).1 = min e.1 e.2.1 ∧ (norm e).2.1 = max e.1 e.2.1 := by
  unfold norm
  split
  · show e.2.1 < e.1 ∧ e.2.1 = _ ∧ e.1 = _
    omega
  · omega
theorem mem_ins {l : List Ed} {x : Ed} (h : x ∈ ins l) : ∃ e ∈ l, e.1 ≠ e.2.1 ∧ x = norm e := by
  unfold ins at h
  obtain ⟨e, he, rfl⟩ := List.mem_map.1 h
  obtain ⟨h1, h2⟩ := List.mem_filter.1 he
  exact ⟨e, h1, by simpa using h2, rfl⟩
theorem ins_len (l : List Ed) : (ins l).length ≤ l.length := by unfold ins; rw [List.length_map]; exact List.length_filter_le _ _
theorem total_le : ∀ {l : List Ed}, (∀ e ∈ l, 0 ≤ e.2.2 ∧ e.2.2 ≤ 2147483648) → 0 ≤ total l ∧ total l ≤ 2147483648 * l.length
  | [], _ => by simp [total]
  | e :: l, h => by
    have h1 := h e (by simp)
    have h2 := total_le (l := l) (fun x hx => h x (List.mem_cons_of_mem _ hx))
    simp only [total, List.length_cons]
    omega
/-- Of edges that may be comes a graph. -/
theorem merged_ok {n : Nat} {l : List Ed} (hn : n ≤ 4096) (hl : l.length ≤ 1048576) (hc : ∀ e ∈ l, checkE n e = 0) : GOk n (merged l) := by
  have hi : ∀ x ∈ ins l, 0 ≤ x.1 ∧ x.1 < x.2.1 ∧ x.2.1 < n ∧ 0 ≤ x.2.2 ∧ x.2.2 ≤ 2147483648 := by
    intro x hx
    obtain ⟨e, he, h1, rfl⟩ := mem_ins hx
    have h2 := checkE_ok.1 (hc e he)
    obtain ⟨h3, h4, h5⟩ := norm_ends h1
    have h6 := norm_w e
    omega
  have hm : ∀ e ∈ merged l, wt (key e) (ins l) = e.2.2 ∧ e.2.2 ≠ 0 := by
    intro e he
    obtain ⟨r1, r2⟩ := foldR (ins l) [] List.Pairwise.nil
    unfold merged allR at he
    rw [mem_heavy r1.apart, r2] at he
    simpa [wt] using he
  refine ⟨hn, merged_rising l, fun e he => ?_, fun e he => ?_, ?_, ?_⟩
  · obtain ⟨h1, h2⟩ := hm e he
    obtain ⟨x, hx, e1⟩ := wt_some (k := key e) (l := ins l) (by omega)
    have h3 := hi x hx
    have e2 : (key x).1 = (key e).1 := by rw [e1]
    have e3 : (key x).2 = (key e).2 := by rw [e1]
    unfold key at e2 e3
    simp only at e2 e3
    omega
  · obtain ⟨h1, h2⟩ := hm e he
    have := wt_nonneg (k := key e) (l := ins l) (fun x hx => (hi x hx).2.2.2.1)
    omega
  · unfold merged allR
    rw [total_heavy, foldR_total _ _ List.Pairwise.nil]
    have h1 := total_le (l := ins l) (fun x hx => (hi x hx).2.2.2)
    have h2 := ins_len l
    simp only [total]
    omega
  · have h1 : (merged l).length ≤ (allR l).length := List.length_filter_le _ _
    have h2 := foldR_len (ins l) []
    have h3 := ins_len l
    unfold allR at h1
    simp only [List.length_nil] at h2
    omega
/-! ### degrees and neighbours -/
/-- What an edge adds to a vertex's degree. -/
def degree (L : List Ed) (v : Int) : Int := match L with
  | [] => 0
  | e :: l => (if e.1 = v then e.2.2 else 0) + (if e.2.1 = v then e.2.2 else 0) + degree l v
theorem degree_append (v : Int) : ∀ l m : List Ed, degree (l ++ m) v = degree l v + degree m v
  | [], m => by simp [degree]
  | e :: l, m => by simp only [List.cons_append, degree, degree_append v l m]; omega
theorem degree_le {v : Int} : ∀ {L : List Ed}, (∀ e ∈ L, e.1 < e.2.1) → (∀ e ∈ L, 0 < e.2.2) → 0 ≤ degree L v ∧ degree L v ≤ total L
  | [], _, _ => by simp [degree, total]
  | e :: l, h1, h2 => by
    have a := h1 e (by simp)
    have b := h2 e (by simp)
    have c := degree_le (v := v) (L := l) (fun x hx => h1 x (List.mem_cons_of_mem _ hx)) (fun x hx => h2 x (List.mem_cons_of_mem _ hx))
    simp only [degree, total]
    split <;> split <;> omega
/-- Who comes next to a vertex, edge by edge. -/
def nexts (L : List Ed) (v : Int) : List Int := match L with
  | [] => []
  | e :: l => (if e.1 = v then [e.2.1] else []) ++ (if e.2.1 = v then [e.1] else []) ++ nexts l v
theorem nexts_append (v : Int) : ∀ l m : List Ed, nexts (l ++ m) v = nexts l v ++ nexts m v
  | [], m => rfl
  | e :: l, m => by simp only [List.cons_append, nexts, nexts_append v l m, List.append_assoc]
theorem nexts_len {v : Int} : ∀ {L : List Ed}, (∀ e ∈ L, e.1 < e.2.1) → (nexts L v).length ≤ L.length
  | [], _ => Nat.le_refl _
  | e :: l, h1 => by
    have a := h1 e (by simp)
    have c := nexts_len (v := v) (L := l) (fun x hx => h1 x (List.mem_cons_of_mem _ hx))
    simp only [nexts, List.length_append, List.length_cons]
    split <;> split <;> simp <;> omega
/-- All up to n of which something holds. -/
def upto (n : Nat) (p : Int → Bool) : List Int := ((List.range n).map fun (u : Nat) => (u : Int)).filter p
def near (n : Nat) (L : List Ed) (v : Int) : List Int := upto n fun u => decide (0 < weight L u v)
def sumTo (f : Int → Int) : Nat → Int
  | 0 => 0
  | k + 1 => sumTo f k + f k
theorem sumTo_add (f g : Int → Int) : ∀ k, sumTo (fun u => f u + g u) k = sumTo f k + sumTo g k
  | 0 => rfl
  | k + 1 => by simp only [sumTo, sumTo_add f g k]; omega
theorem sumTo_zero {f : Int → Int} : ∀ {k : Nat}, (∀ u : Nat, u < k → f u = 0) → sumTo f k = 0
  | 0, _ => rfl
  | k + 1, h => by simp only [sumTo]; rw [sumTo_zero (fun u hu => h u (by omega)), h k (by omega)]; rfl
theorem sumTo_one {a : Nat} {c : Int} : ∀ {k : Nat}, sumTo (fun u => if u = (a : Int) then c else 0) k = if a < k then c else 0
  | 0 => by simp [sumTo]
  | k + 1 => by
    simp only [sumTo]
    rw [sumTo_one]
    by_cases h1 : a < k
    · rw [if_pos h1, if_neg (by omega), if_pos (by omega)]; omega
    · by_cases h2 : (k : Int) = a
      · rw [if_neg h1, if_pos h2, if_pos (by omega)]; omega
      · rw [if_neg h1, if_neg h2, if_neg (by omega)]; omega
theorem sumTo_congr {f g : Int → Int} : ∀ {k : Nat}, (∀ u : Nat, u < k → f u = g u) → sumTo f k = sumTo g k
  | 0, _ => rfl
  | k + 1, h => by simp only [sumTo]; rw [sumTo_congr (fun u hu => h u (by omega)), h k (by omega)]
/-- The degree is the sum of all weights. -/
theorem degree_sum {n : Nat} {v : Int} : ∀ {L : List Ed}, Apart L → (∀ e ∈ L, 0 ≤ e.1 ∧ e.1 < e.2.1 ∧ e.2.1 < n) → sumTo (fun u => weight L u v) n = degree L v
  | [], _, _ => sumTo_zero (fun _ _ => rfl)
  | e :: l, h, hb => by
    obtain ⟨h1, h2⟩ := List.pairwise_cons.1 h
    obtain ⟨b0, b1, b2⟩ := hb e (by simp)
    have ih := degree_sum (v := v) h2 (fun x hx => hb x (List.mem_cons_of_mem _ hx))
    have hw : ∀ u : Nat, u < n → weight (e :: l) u v = ((if (u : Int) = (e.2.1.toNat : Int) then (if e.1 = v then e.2.2 else 0) else 0) + (if (u : Int) = (e.1.toNat : Int) then (if e.2.1 = v then e.2.2 else 0) else 0)) + weight l u v := by
      intro u hu
      conv => lhs; unfold weight
      by_cases c : e.1 = min (u : Int) v ∧ e.2.1 = max (u : Int) v
      · have hz : weight l u v = 0 := by
          rw [weight_wt h2]
          refine wt_away (fun x hx e2 => ?_)
          exact h1 x hx (by rw [e2]; exact Prod.ext c.1 c.2)
        rw [if_pos c, hz]
        repeat' split
        all_goals omega
      · rw [if_neg c]
        repeat' split
        all_goals omega
    rw [sumTo_congr (g := fun u => ((if u = (e.2.1.toNat : Int) then (if e.1 = v then e.2.2 else 0) else 0) + (if u = (e.1.toNat : Int) then (if e.2.1 = v then e.2.2 else 0) else 0)) + weight l u v) hw, sumTo_add, sumTo_add, ih, sumTo_one, sumTo_one, if_pos (show e.2.1.toNat < n by omega), if_pos (show e.1.toNat < n by omega)]
    simp only [degree]
theorem weight_out {n : Nat} {L : List Ed} (hb : ∀ e ∈ L, 0 ≤ e.1 ∧ e.1 < e.2.1 ∧ e.2.1 < n) {u v : Int} (h : v < 0 ∨ n ≤ v ∨ u < 0 ∨ n ≤ u ∨ u = v) : weight L u v = 0 := by
  induction L with
  | nil => rfl
  | cons e l ih =>
    have := hb e (by simp)
    unfold weight
    rw [if_neg (by omega), ih (fun x hx => hb x (List.mem_cons_of_mem _ hx))]
theorem degree_out {n : Nat} {L : List Ed} (hb : ∀ e ∈ L, 0 ≤ e.1 ∧ e.1 < e.2.1 ∧ e.2.1 < n) {v : Int} (h : v < 0 ∨ n ≤ v) : degree L v = 0 := by
  induction L with
  | nil => rfl
  | cons e l ih =>
    have := hb e (by simp)
    unfold degree
    rw [if_neg (by omega), if_neg (by omega), ih (fun x hx => hb x (List.mem_cons_of_mem _ hx))]
    rfl
theorem mem_nexts {v u : Int} : ∀ {L : List Ed}, u ∈ nexts L v ↔ ∃ e ∈ L, (e.1 = v ∧ e.2.1 = u) ∨ (e.2.1 = v ∧ e.1 = u)
  | [] => by simp [nexts]
  | e :: l => by
    unfold nexts
    rw [List.mem_append, List.mem_append, mem_nexts]
    constructor
    · rintro ((h | h) | ⟨x, hx, h⟩)
      · split at h
        · exact ⟨e, by simp, .inl ⟨‹_›, (List.mem_singleton.1 h).symm⟩⟩
        · simp at h
      · split at h
        · exact ⟨e, by simp, .inr ⟨‹_›, (List.mem_singleton.1 h).symm⟩⟩
        · simp at h
      · exact ⟨x, by simp [hx], h⟩
    · rintro ⟨x, hx, h⟩
      rcases List.mem_cons.1 hx with rfl | hx
      · rcases h with ⟨h1, h2⟩ | ⟨h1, h2⟩
        · exact .inl (.inl (by rw [if_pos h1]; simp [h2]))
        · exact .inl (.inr (by rw [if_pos h1]; simp [h2]))
      · exact .inr ⟨x, hx, h⟩
theorem weight_pos {L : List Ed} (ha : Apart L) (hp : ∀ e ∈ L, 0 < e.2.2) (hlt : ∀ e ∈ L, e.1 < e.2.1) {u v : Int} : 0 < weight L u v ↔ u ∈ nexts L v := by
  rw [mem_nexts, weight_wt ha]
  constructor
  · intro h
    obtain ⟨e, he, e1⟩ := wt_some (k := (min u v, max u v)) (l := L) (by omega)
    have e2 : e.1 = min u v := congrArg Prod.fst e1
    have e3 : e.2.1 = max u v := congrArg Prod.snd e1
    have := hlt e he
    exact ⟨e, he, by omega⟩
  · rintro ⟨e, he, h⟩
    have := hlt e he
    have e1 : key e = (min u v, max u v) := Prod.ext (show e.1 = min u v by omega) (show e.2.1 = max u v by omega)
    rw [← e1, wt_mem ha e he]
    exact hp e he
theorem nexts_apart {v : Int} : ∀ {L : List Ed}, Apart L → (∀ e ∈ L, e.1 < e.2.1) → (nexts L v).Nodup
  | [], _, _ => List.nodup_nil
  | e :: l, h, hlt => by
    obtain ⟨h1, h2⟩ := List.pairwise_cons.1 h
    have ih := nexts_apart (v := v) h2 (fun x hx => hlt x (List.mem_cons_of_mem _ hx))
    have a := hlt e (by simp)
    unfold nexts
    have away : ∀ x ∈ nexts l v, ¬ (e.1 = v ∧ e.2.1 = x) ∧ ¬ (e.2.1 = v ∧ e.1 = x) := by
      intro x hx
      obtain ⟨y, hy, h⟩ := mem_nexts.1 hx
      have hne := h1 y hy
      have b := hlt y (List.mem_cons_of_mem _ hy)
      unfold key at hne
      have hne2 : ¬ (e.1 = y.1 ∧ e.2.1 = y.2.1) := fun hh => hne (Prod.ext hh.1 hh.2)
      omega
    by_cases c1 : e.1 = v
    · rw [if_pos c1, if_neg (by omega)]
      simp only [List.append_nil, List.cons_append, List.nil_append, List.nodup_cons]
      exact ⟨fun hx => (away _ hx).1 ⟨c1, rfl⟩, ih⟩
    · rw [if_neg c1]
      by_cases c2 : e.2.1 = v
      · rw [if_pos c2]
        simp only [List.nil_append, List.cons_append, List.nodup_cons]
        exact ⟨fun hx => (away _ hx).2 ⟨c2, rfl⟩, ih⟩
      · rw [if_neg c2]; exact ih
/-- Two ascending lists of the same members are one. -/
theorem asc_eq : ∀ {l m : List Int}, l.Pairwise (· < ·) → m.Pairwise (· < ·) → (∀ x, x ∈ l ↔ x ∈ m) → l = m
  | [], [], _, _, _ => rfl
  | [], y :: m, _, _, h => by have := (h y).2 (by simp); simp at this
  | x :: l, [], _, _, h => by have := (h x).1 (by simp); simp at this
  | x :: l, y :: m, h1, h2, h => by
    obtain ⟨a1, a2⟩ := List.pairwise_cons.1 h1
    obtain ⟨b1, b2⟩ := List.pairwise_cons.1 h2
    have e : x = y := by
      have hx := (h x).1 (by simp)
      have hy := (h y).2 (by simp)
      rcases List.mem_cons.1 hx with e | hx
      · exact e
      rcases List.mem_cons.1 hy with e | hy
      · exact e.symm
      have := a1 y hy
      have := b1 x hx
      omega
    subst e
    rw [asc_eq a2 b2 (fun e => ?_)]
    constructor
    · intro he
      rcases List.mem_cons.1 ((h e).1 (by simp [he])) with rfl | h3
      · have := a1 e he; omega
      · exact h3
    · intro he
      rcases List.mem_cons.1 ((h e).2 (by simp [he])) with rfl | h3
      · have := b1 e he; omega
      · exact h3
theorem upto_asc (n : Nat) (p : Int → Bool) : (upto n p).Pairwise (· < ·) := by
  unfold upto
  refine List.Pairwise.filter _ ?_
  rw [List.pairwise_map]
  exact List.Pairwise.imp (fun {a b} h => by omega) (List.pairwise_lt_range)
theorem mem_upto {n : Nat} {p : Int → Bool} {x : Int} : x ∈ upto n p ↔ (0 ≤ x ∧ x < n) ∧ p x = true := by
  unfold upto
  rw [List.mem_filter, List.mem_map]
  constructor
  · rintro ⟨⟨u, hu, rfl⟩, h⟩
    rw [List.mem_range] at hu
    exact ⟨by omega, h⟩
  · rintro ⟨⟨h1, h2⟩, h⟩
    exact ⟨⟨x.toNat, by rw [List.mem_range]; omega, by omega⟩, h⟩
/-- What is sorted of the neighbours is what the reference has. -/
theorem near_same {n : Nat} {L : List Ed} (hG : GOk n L) {v : Int} {m : List Int} (hp : m.Perm (nexts L v)) (hs : m.Pairwise (· ≤ ·)) : m = near n L v := by
  have hlt : ∀ e ∈ L, e.1 < e.2.1 := fun e he => (hG.ends e he).2.1
  have hnd : m.Nodup := hp.nodup_iff.2 (nexts_apart hG.rising.apart hlt)
  have hs2 : m.Pairwise (· < ·) := by
    have := hs.and hnd
    exact List.Pairwise.imp (fun {a b} h => by obtain ⟨h1, h2⟩ := h; omega) this
  refine asc_eq hs2 (upto_asc _ _) (fun x => ?_)
  rw [hp.mem_iff, near, mem_upto, decide_eq_true_eq, weight_pos hG.rising.apart hG.pos hlt]
  constructor
  · intro h
    refine ⟨?_, h⟩
    obtain ⟨e, he, h2⟩ := mem_nexts.1 h
    have := hG.ends e he
    omega
  · exact fun h => h.2
end Edge
end Go.Proofs.YtjpfmkfikidgkaaGreat
