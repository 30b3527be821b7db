import Derived.Test.YtfgohaghjaeafaaN1p
import Derived.Test.YtfgohaghjaeafaaProg
namespace Go.Av
open Go Go.Proofs
set_option linter.unusedVariables false
set_option linter.unusedSimpArgs false



end Go.Av