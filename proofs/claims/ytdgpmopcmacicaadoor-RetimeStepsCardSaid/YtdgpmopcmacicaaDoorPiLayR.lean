/- Results that are three new rows, laid into spare places of the caller's frame: the rule for walks. No Go text in it. -/
import Derived.Test.YtdgpmopcmacicaaDoorPiGo
import Derived.Test.YtdgpmopcmacicaaDoorPiLay
set_option linter.unusedVariables false
set_option linter.unusedSimpArgs false
set_option maxRecDepth 100000
namespace Go.Proofs.YtdgpmopcmacicaaDoorPi
variable {P : Program} {n : Nat} {Q : Exit → ASt → Prop} {st : ASt}
theorem Run.resL {kk : List KF} {m k0 k1 k2 : Nat} {rs : List ResultVar} {R : PV → Frs → Prop} {xs : List PV} {y : PV} {t0 s0 z0 t1 s1 z1 t2 s2 z2 : Nat} {r0 r1 r2 : List (List Im)} {j0 j1 j2 : Nat} (hQ : ∀ e s, RetL P m rs [(j0, k0), (j1, k1), (j2, k2)] R e s → Q e s)
    (hk0 : fget st.up 0 k0 = some .dead) (hk1 : fget st.up 0 k1 = some .dead) (hk2 : fget st.up 0 k2 = some .dead) (m01 : k0 ≠ k1) (m02 : k0 ≠ k2) (m12 : k1 ≠ k2)
    (h3 : R y (fset (fset (fset st.up 0 k0 (.row t0 s0 r0 z0)) 0 k1 (.row t1 s1 r1 z1)) 0 k2 (.row t2 s2 r2 z2)))
    (h1 : ressPV P st rs = some xs := by (try simp only [fx, ressPV, resPV, lookupV, updateV, lookupK, updateK, slicePV, pe0, pe1, pe2, pe3, pe4, pe5, pe6, pe7, pr0, pr1, Nat.reduceAdd, Nat.reduceMul, Nat.reduceLeDiff, Nat.reduceLT, Nat.reduceEqDiff, Nat.reduceBEq, Nat.reduceSub, reduceCtorEq, reduceIte, Int.reduceToNat, Int.reduceLE, Int.reduceEq, Int.reduceNe, Int.reduceBEq, Int.reduceBNe, Int.reduceLT, Int.reduceGT, Int.reduceGE, Int.reduceNeg]); rfl) (hj0 : st.loc[j0]? = some (.row t0 s0 r0 z0) := by rfl) (hj1 : st.loc[j1]? = some (.row t1 s1 r1 z1) := by rfl) (hj2 : st.loc[j2]? = some (.row t2 s2 r2 z2) := by rfl)
    (h2 : (oneOrTup xs).lay [(j0, k0), (j1, k1), (j2, k2)] = some y := by rfl) (n01 : j0 ≠ j1 := by decide) (n02 : j0 ≠ j2 := by decide) (n12 : j1 ≠ j2 := by decide) : Run P n Q kk .ret st := by
  obtain ⟨f, rest, hup⟩ : ∃ f rest, st.up = f :: rest := by
    cases hu : st.up with
    | nil => rw [hu] at hk0; simp [fget] at hk0
    | cons f rest => exact ⟨f, rest, rfl⟩
  rw [hup] at hk0 hk1 hk2 h3
  exact Run.ret (hQ _ _ ⟨.inr rfl, xs, h1, f, _, rest, y, hup, LaidF.three hj0 hj1 hj2 (by simpa using hk0) (by simpa using hk1) (by simpa using hk2) n01 n02 n12 m01 m02 m12, h2, h3⟩)
end Go.Proofs.YtdgpmopcmacicaaDoorPi
