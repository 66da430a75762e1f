/- Contracts and plain laws of this seat; no condition. -/
import Derived.Test.YtboolngaahifdaaGreatQ32
import Derived.Test.YtboolngaahifdaaGreatQ33
import Derived.Test.YtboolngaahifdaaGreatQ34
set_option linter.unusedVariables false
set_option linter.unusedSimpArgs false
set_option maxRecDepth 100000
namespace Go.Proofs.YtboolngaahifdaaGreatD
open Go Go.Proofs
attribute [local irreducible] fresh uAll eqs eqE frI flg nx top
end Go.Proofs.YtboolngaahifdaaGreatD
