/- Stacks: the last object of the call's own, a row, is cut to its first elements; no other handle leads to it. No Go text in it. -/
import Derived.Test.YtkjfdacjjogpcaaPiNest
set_option linter.unusedVariables false
set_option linter.unusedSimpArgs false
namespace Go.Proofs.YtkjfdacjjogpcaaPi
variable {P : Program}

end Go.Proofs.YtkjfdacjjogpcaaPi

