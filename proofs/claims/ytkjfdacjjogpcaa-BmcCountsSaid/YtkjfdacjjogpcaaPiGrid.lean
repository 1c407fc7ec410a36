/- A slice whose elements are rows that grow: it is made as a box of empty handles, which then are given rows. No Go text in it. -/
import Derived.Test.YtkjfdacjjogpcaaPiGo
set_option linter.unusedVariables false
set_option linter.unusedSimpArgs false
set_option maxRecDepth 4000
namespace Go.Proofs.YtkjfdacjjogpcaaPi
variable {P : Program} {n : Nat} {Q : Exit → ASt → Prop} {st : ASt}
theorem Ghost.keepE {e : List (Nat × PV)} (h : ehas st.env e) : Ghost n st { st with env := e } := Ghost.env fun t v hv => ehas_mem h _ (eget_mem hv)
theorem Ghost.cut {e : List (Nat × PV)} {L : List AObj} {o : List AObj} {up : Frs} {env : List (Nat × PV)} (h : ehas env e) (h2 : unders L.length (e.map (·.2)) = true) (h3 : L.all (AObj.under L.length) = true) : Ghost n ⟨env, L ++ o, up⟩ ⟨e, L, up⟩ := by
 have := Ghost.shape (n := n) (st := ⟨env, L ++ o, up⟩) e L.length (ehas_mem h) h2 (by simpa using h3)
 simpa using this
end Go.Proofs.YtkjfdacjjogpcaaPi

