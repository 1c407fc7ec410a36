/- Parts of a string that the program names. No Go text in it. -/
import Derived.Test.YtdgpmopcmacicaaDoorPiSim
set_option linter.unusedVariables false
set_option linter.unusedSimpArgs false
namespace Go.Proofs.YtdgpmopcmacicaaDoorPi
variable {P : Program} {n : Nat} {Q : Exit → ASt → Prop} {st : ASt}
theorem GOps.strSlice {dst : Option Nat} {gd : Option (Nat × Bool)} {gs : List GO} {t : TypeId} {S : ByteArray} {lo hi : Operand} {k1 k2 : IntKind} (l h : Nat) (v : ByteArray) (hk : GOps P n gs Q (st.put dst (.im (.str v)))) (hsz : h ≤ S.size) (hv : S.extract l h = v) (hlh : l ≤ h)
    (hlo : evalPV st lo = some (.im (.int k1 (l : Int)))) (hhi : evalPV st hi = some (.im (.int k2 (h : Int)))) (hT : stringT P t = true := by rfl) (hg : guardA st.env gd = some true := by rfl) (hd : okDst n dst = true := by rfl) :
    GOps P n (⟨dst, .slice t (.const (.string S)) (some lo) (some hi) none, gd⟩ :: gs) Q st := by
  refine GOps.step hg (stepV_ok (z := .im (.str v)) (st1 := st) ?_) hd hk
  have e : evalPV st (.const (.string S)) = some (.im (.str S)) := rfl
  simp only [stepV, e, hlo, hhi, Option.toList, evalsPV, List.head?_cons, List.head?_nil, PV.solid, imPV, slicePV, hT, boundPV, if_true, Int.natCast_nonneg, Int.toNat_natCast]
  rw [if_pos ⟨hlh, hsz⟩, hv]
  rfl
end Go.Proofs.YtdgpmopcmacicaaDoorPi
