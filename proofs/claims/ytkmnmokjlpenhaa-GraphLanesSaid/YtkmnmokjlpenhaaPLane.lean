/- Plain law: what a run of a graph shows depends on lane 0 of the state alone. -/
import Derived.Test.YtkmnmokjlpenhaaWQ
import Derived.Test.YtkmnmokjlpenhaaPBit0
set_option linter.unusedVariables false
set_option linter.unusedSimpArgs false
namespace Go.Proofs.YtkmnmokjlpenhaaPi

def same0 (v v' : List Int) : Prop := v.length = v'.length ∧ ∀ k, bit0 (v.getD k 0) = bit0 (v'.getD k 0)
theorem laneB_bit0 (v : List Int) : laneB v = v.map bit0 := by
  unfold laneB
  exact List.map_congr_left fun x _ => one_iff x
theorem same0_of {v v' : List Int} (h : same0 v v') (l : Int) : bit0 (ofV v l) = bit0 (ofV v' l) := by
  unfold ofV
  split
  · rw [vnot, vnot, bit0_not, bit0_not, h.2]
  · exact h.2 _
theorem same0_app {v v' w w' : List Int} (h : same0 v v') (k : same0 w w') : same0 (v ++ w) (v' ++ w') := by
  refine ⟨by simp [h.1, k.1], fun q => ?_⟩
  simp only [List.getD_eq_getElem?_getD, List.getElem?_append]
  rw [h.1]
  split
  · have := h.2 q
    simpa only [List.getD_eq_getElem?_getD] using this
  · have := k.2 (q - v'.length)
    simpa only [List.getD_eq_getElem?_getD] using this
theorem same0_refl (v : List Int) : same0 v v := ⟨rfl, fun _ => rfl⟩
theorem same0_one {x y : Int} (h : bit0 x = bit0 y) : same0 [x] [y] := ⟨rfl, fun k => by
  cases k with
  | zero => simpa using h
  | succ k => simp⟩
theorem same0_valsA : ∀ (ps : List (Int × Int)) {v v' : List Int}, same0 v v' → same0 (valsA ps v) (valsA ps v')
  | [], v, v', h => h
  | p :: ps, v, v', h => by
    simp only [valsA]
    refine same0_valsA ps (same0_app h (same0_one ?_))
    rw [bit0_and, bit0_and, same0_of h, same0_of h]
theorem same0_vals (g : LGraph) (inn : List Int) {st st' : List Int} (h : same0 st st') : same0 (graphVals g inn st) (graphVals g inn st') := same0_valsA _ (same0_app (same0_refl _) h)
theorem same0_map {α : Type} (l : List α) (f f' : α → Int) (h : ∀ x, bit0 (f x) = bit0 (f' x)) : same0 (l.map f) (l.map f') := by
  refine ⟨by simp, fun k => ?_⟩
  simp only [List.getD_eq_getElem?_getD, List.getElem?_map]
  cases l[k]? with
  | none => rfl
  | some x => exact h x
theorem same0_lane {v v' : List Int} (h : same0 v v') : laneB v = laneB v' := by
  rw [laneB_bit0, laneB_bit0]
  refine List.ext_getElem? fun k => ?_
  rw [List.getElem?_map, List.getElem?_map]
  have := h.2 k
  simp only [List.getD_eq_getElem?_getD] at this
  have hl := h.1
  by_cases hk : k < v.length
  · rw [List.getElem?_eq_getElem hk, List.getElem?_eq_getElem (by omega)] at this ⊢
    simpa using this
  · rw [List.getElem?_eq_none (by omega), List.getElem?_eq_none (by omega)]
theorem lane_same0 (v : List Int) : same0 v (lanes0 (laneB v)) := by
  refine ⟨by simp, fun k => ?_⟩
  rw [laneB_bit0]
  simp only [List.getD_eq_getElem?_getD, List.getElem?_map]
  cases v[k]? with
  | none => rfl
  | some x => exact (bit0_lane (bit0 x)).symm
theorem runG_same (g : LGraph) : ∀ (t : List (List Bool)) {st st' : List Int}, same0 st st' → runG g st t = runG g st' t
  | [], st, st', h => rfl
  | r :: t, st, st', h => by
    have hv := same0_vals g (lanes0 r) h
    have e1 : laneB (outsG g (graphVals g (lanes0 r) st)) = laneB (outsG g (graphVals g (lanes0 r) st')) := same0_lane (same0_map g.outs (ofV (graphVals g (lanes0 r) st)) (ofV (graphVals g (lanes0 r) st')) (fun x => same0_of hv x))
    have e2 : runG g (nextsG g (graphVals g (lanes0 r) st)) t = runG g (nextsG g (graphVals g (lanes0 r) st')) t := runG_same g t (same0_map g.regs (fun r' => ofV (graphVals g (lanes0 r) st) r'.next) (fun r' => ofV (graphVals g (lanes0 r) st') r'.next) (fun x => same0_of hv x.next))
    simp only [runG]
    rw [e1, e2]
theorem runG_lane (g : LGraph) (t : List (List Bool)) (st : List Int) : runG g st t = runG g (lanes0 (laneB st)) t := runG_same g t (lane_same0 st)
end Go.Proofs.YtkmnmokjlpenhaaPi
