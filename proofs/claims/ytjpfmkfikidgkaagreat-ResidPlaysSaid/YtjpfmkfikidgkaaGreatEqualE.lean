/- slices.Equal of edges. -/
import Derived.Test.YtjpfmkfikidgkaaGreatRefE4
import Derived.Laws.StructEq
set_option linter.unusedVariables false
set_option linter.unusedSimpArgs false
namespace Go.Proofs.YtjpfmkfikidgkaaGreat
open Go.RowKit
namespace Edge
end Edge
end Go.Proofs.YtjpfmkfikidgkaaGreat
