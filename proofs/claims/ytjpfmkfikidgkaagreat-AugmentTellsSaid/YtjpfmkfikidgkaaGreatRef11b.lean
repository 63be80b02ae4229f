/- What the calls on the reference's arena do, part 2: Set, Drop, Give. -/
import Derived.Test.YtjpfmkfikidgkaaGreatRef11
import Derived.Test.YtjpfmkfikidgkaaGreatKit2
set_option linter.unusedVariables false
set_option linter.unusedSimpArgs false
namespace Go.Proofs.YtjpfmkfikidgkaaGreat
open Go.RowKit Arena
namespace Ref11

/-! ### Set -/
/-! ### Drop -/
theorem infoI : (Tryz.prog.info? 3).map (fun i => (i.zero, i.size, i.bytes)) = some (some (.int .i64 0), 1, 8) := by kernel_rfl
theorem infoB : (Tryz.prog.info? 4).map (fun i => (i.zero, i.size, i.bytes)) = some (some (.bool false), 1, 1) := by kernel_rfl
end Ref11
end Go.Proofs.YtjpfmkfikidgkaaGreat
