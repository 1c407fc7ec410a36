/- Rows that become boxes: a row of the call's own whose cells are to hold handles, too. No Go text in it. -/
import Derived.Test.YtkjfdacjjogpcaaPiLit
import Derived.Test.YtkjfdacjjogpcaaPiGrid
set_option linter.unusedVariables false
set_option linter.unusedSimpArgs false
namespace Go.Proofs.YtkjfdacjjogpcaaPi
variable {P : Program}

theorem boxCell_ok {F : Fz} {bs : Bns} {fr : Frs} {w : World} (hm : MRel F bs fr w) {j i : Nat} {cs : List PV} {ab : Bnd} (hl : look fr 0 j = some (.box cs)) (hab : bnd bs 0 j = some ab) (y : PV)
  (hy : ∀ q arr t v, ab.1 = some q → w.heap[q]? = some (.cells arr t (0, 0)) → arr.toList[i]? = some v → VRel F bs fr y v) :
  MRel F bs (fset fr 0 j (.box (cs.set i y))) w ∧ Evolve bs fr bs (fset fr 0 j (.box (cs.set i y))) ∧ Owns bs fr w bs (fset fr 0 j (.box (cs.set i y))) := by
 obtain ⟨q, arr, tt, k1, k2, k3, k4⟩ := hm.obj 0 j _ _ hl hab
 have hb : fset bs 0 j ab = bs := fset_self bs 0 j ab hab
 have hput := hm.put (F' := F) (w' := w) (o' := .box (cs.set i y)) (a' := ab) hl hab (fun _ _ _ => rfl) (Fz.le_refl F) (fun _ _ _ _ => rfl) (fun b q v _ hq => hm.fz b q v hq)
  (fun b hb' => .inr ⟨hb', trivial⟩) (by simp [AObj.becomes]) (by
   have hev : Evolve bs fr (fset bs 0 j ab) (fset fr 0 j (.box (cs.set i y))) := fun d' j' o1 a1 g1 g2 => by
    simp only [look, bnd, fget_fset]
    by_cases e : d' = 0 ∧ j' = j
    ·obtain ⟨rfl, rfl⟩ := e
     have e1 := hl.symm.trans g1
     have e2 := hab.symm.trans g2
     cases e1; cases e2
     refine ⟨.box (cs.set i y), ab, ?_, ?_, by simp [AObj.becomes]⟩
     ·rw [if_pos ⟨rfl, rfl⟩, show fget fr 0 j' = _ from hl]; rfl
     ·rw [if_pos ⟨rfl, rfl⟩, show fget bs 0 j' = _ from hab]; rfl
    ·exact ⟨o1, a1, by rw [if_neg e]; exact g1, by rw [if_neg e]; exact g2, o1.becomes_refl a1⟩
   refine ⟨q, arr, tt, k1, k2, ?_, k4⟩
   simp only [List.drop_zero] at k3 ⊢
   refine VRels.move (Fz.le_refl F) hev (VRels.mk (by simpa using k3.length) fun p z v hz hv => ?_)
   rw [List.getElem?_set] at hz
   split at hz
   ·rename_i e
    subst e
    split at hz
    ·simp only [Option.some.injEq] at hz
     subst hz
     exact hy q arr tt v k1 k2 hv
    ·simp at hz
   ·exact k3.get' hz hv)
 rw [hb] at hput
 exact hput
end Go.Proofs.YtkjfdacjjogpcaaPi

