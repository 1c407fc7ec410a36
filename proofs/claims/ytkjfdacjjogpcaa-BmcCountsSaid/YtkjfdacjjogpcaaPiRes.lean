/- Results read out of a cell, with the call's own objects behind the caller's. No Go text in it. -/
import Derived.Test.YtkjfdacjjogpcaaPiGo
set_option linter.unusedVariables false
set_option linter.unusedSimpArgs false
set_option maxRecDepth 100000
namespace Go.Proofs.YtkjfdacjjogpcaaPi
variable {P : Program} {n : Nat} {Q : Exit → ASt → Prop} {st : ASt}
end Go.Proofs.YtkjfdacjjogpcaaPi

