/- A drawn statement of which only the first operations are in no order: the others, each of which waits for all before, run one behind the other. No Go text in it. -/
import Derived.Test.YtkjfdacjjogpcaaPiSim
set_option linter.unusedVariables false
set_option linter.unusedSimpArgs false
set_option linter.unusedSectionVars false
namespace Go.Proofs.YtkjfdacjjogpcaaPi
variable {P : Program}
end Go.Proofs.YtkjfdacjjogpcaaPi

