/- Arrays as data: a struct laid into new memory that is never written, slices of arrays that are data, arrays of slices. No Go text in it. -/
import Derived.Test.YtkjfdacjjogpcaaPiGo
set_option linter.unusedVariables false
set_option linter.unusedSimpArgs false
namespace Go.Proofs.YtkjfdacjjogpcaaPi
variable {P : Program} {n : Nat} {Q : Exit → ASt → Prop} {st : ASt}

theorem new_data {F : Fz} {bs : Bns} {fr : Frs} {w : World} (hm : MRel F bs fr w) (arr : Array Value) (t : TypeId) {ims : List Im} (hl : ims.length = arr.size) (h : ∀ (j : Nat) (y : Im) (v : Value), ims[j]? = some y → arr[j]? = some v → IRel F y v) :
  ∃ F', MRel F' bs fr (w.alloc (.cells arr t)) ∧ CStep F bs fr w F' bs fr (w.alloc (.cells arr t)) ∧ ICells F' w.heap.size 0 ims := by
 have hnone : ∀ q, F w.heap.size q = none := fun q => by
  cases hq : F w.heap.size q with
  | none => rfl
  | some u =>
   have := World.block_lt_of_cell? w _ (hm.fz _ _ _ hq)
   simp at this
 let F' : Fz := fun b q => if b = w.heap.size then arr[q]? else F b q
 have hle : Fz.le F F' := fun b q u hq => by
  show (if b = w.heap.size then _ else F b q) = some u
  rw [if_neg (fun e => by rw [e, hnone] at hq; simp at hq)]
  exact hq
 have hmm := hm.change (F' := F') (w' := w.alloc (.cells arr t)) hm.shape hle (.refl _ _) (fun d j o a h1 h2 => .inl ⟨h1, h2, fun b hb hlv => by
   have hlt := hm.own_lt (d := d) (j := j) (b := b) ⟨o, a.2, h1, hlv, by rw [h2, ← hb]⟩
   exact ⟨heap_alloc_old w _ hlt, fun q => if_neg (by omega)⟩⟩) hm.inj (fun b q v hv => by
   by_cases hb : b = w.heap.size
   ·subst hb
    refine (cell_of_row (w.alloc (.cells arr t)) w.heap.size q arr t (0, 0) (heap_alloc_new w _)).trans ?_
    simpa only [F', if_true] using hv
   ·have hv' : F b q = some v := by simpa only [F', hb, if_false] using hv
    have hcell := hm.fz b q v hv'
    have hlt := World.block_lt_of_cell? w _ hcell
    rw [← hcell]
    exact World.cell?_of_block (heap_alloc_old w _ hlt))
 refine ⟨F', hmm, ⟨hle, .refl _ _, ⟨rfl, rfl, rfl, by simp, fun b hb _ => heap_alloc_old w _ hb⟩, .refl _ _ _⟩, ICells.mk fun j x hx => ?_⟩
 have hj := (List.getElem?_eq_some_iff.1 hx).1
 have ha : arr[j]? = some arr[j] := Array.getElem?_eq_getElem (by omega)
 refine ⟨arr[j], ?_, (h j x _ hx ha).mono hle⟩
 show (if w.heap.size = w.heap.size then arr[0 + j]? else _) = _
 rw [if_pos rfl, Nat.zero_add, ha]
theorem ICells.take {F : Fz} {b : Nat} {cs : List Im} {o : Nat} (h : ICells F b o cs) (m : Nat) : ICells F b o (cs.take m) := ICells.mk fun j x hx => by
 rw [List.getElem?_take] at hx
 split at hx
 ·exact h.get j x hx
 ·simp at hx
end Go.Proofs.YtkjfdacjjogpcaaPi

