/- Results read out of a cell, with the call's own objects behind the caller's. No Go text in it. -/
import Derived.Test.YtdgpmopcmacicaaPiGo
set_option linter.unusedVariables false
set_option linter.unusedSimpArgs false
set_option maxRecDepth 100000
set_option maxRecDepth 100000
namespace Go.Proofs.YtdgpmopcmacicaaPi
variable {P : Program} {n : Nat} {Q : Exit → ASt → Prop} {st : ASt}
theorem Run.resX {k : List KF} {m : Nat} {rs : List ResultVar} {R : PV → Frs → Prop} {xs : List PV} {f : List AObj} {rest : Frs} (hQ : ∀ e s, RetX P m rs R e s → Q e s) (h3 : R ((oneOrTup xs).mg f.length) (mgF st.loc f rest)) (h1 : ressPV P st rs = some xs := by (try simp only [fx, ressPV, resPV, lookupV, updateV, lookupK, updateK, slicePV, pe0, pe1, pe2, pe3, pe4, pe5, pe6, pe7, pr0, pr1, Nat.reduceAdd, Nat.reduceMul, Nat.reduceLeDiff, Nat.reduceLT, Nat.reduceEqDiff, Nat.reduceBEq, Nat.reduceSub, reduceCtorEq, reduceIte, Int.reduceToNat, Int.reduceLE, Int.reduceEq, Int.reduceNe, Int.reduceBEq, Int.reduceBNe, Int.reduceLT, Int.reduceGT, Int.reduceGE, Int.reduceNeg]); rfl) (hup : st.up = f :: rest := by rfl) : Run P n Q k .ret st :=
  Run.ret (hQ _ _ ⟨.inr rfl, xs, h1, f, rest, hup, h3⟩)
end Go.Proofs.YtdgpmopcmacicaaPi
