/- The reference's graph: Degree, Near. -/
import Derived.Test.YtjpfmkfikidgkaaGreatRefN2
import Derived.Test.YtjpfmkfikidgkaaGreatStepApp
set_option linter.unusedVariables false
set_option linter.unusedSimpArgs false
namespace Go.Proofs.YtjpfmkfikidgkaaGreat
open Go.RowKit
namespace Edge
theorem degree_part {n : Nat} {L : List Ed} (hG : GOk n L) (v : Int) {k : Nat} (hk : k ≤ n) : 0 ≤ sumTo (fun u => weight L u v) k ∧ sumTo (fun u => weight L u v) k ≤ 2251799813685248 := by
  have h1 := sumTo_mono (f := fun u => weight L u v) (fun u => weight_nonneg hG u v) hk
  have h2 := degree_sum (v := v) hG.rising.apart hG.ends
  have h3 := (degree_le (v := v) (L := L) (fun e he => (hG.ends e he).2.1) hG.pos).2
  have h4 := hG.tot
  omega
theorem upto_len (n : Nat) (p : Int → Bool) : (upto n p).length ≤ n := by
  unfold upto
  refine Nat.le_trans (List.length_filter_le _ _) ?_
  simp
theorem infoN : (Tryz.prog.info? 3).map (fun i => (i.zero, i.size, i.bytes)) = some (some (.int .i64 0), 1, 8) := by kernel_rfl
end Edge
end Go.Proofs.YtjpfmkfikidgkaaGreat
