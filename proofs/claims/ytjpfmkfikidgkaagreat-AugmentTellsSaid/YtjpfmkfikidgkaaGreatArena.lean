/- What the calls on an arena of whole numbers do: walked through once, told of the plain arena. -/
import Derived.Test.YtjpfmkfikidgkaaGreatKit
import Derived.Test.YtjpfmkfikidgkaaGreatFlat
import Derived.Test.YtjpfmkfikidgkaaGreatArenaLaw
set_option linter.unusedVariables false
set_option linter.unusedSimpArgs false
namespace Go.Proofs.YtjpfmkfikidgkaaGreat
open Go.RowKit Arena
namespace ArI

def encC (c : RC Int) : List Value := [.int .i64 c.1, .bool c.2.1, .int .i64 c.2.2]
theorem encC_len (c : RC Int) : (encC c).length = 3 := rfl

/-! ### cell -/
end ArI
end Go.Proofs.YtjpfmkfikidgkaaGreat
