/- Merged: PTidyA PTidyB PTab. -/
import Derived.Test.YtkmnmokjlpenhaaWGE
import Derived.Test.YtkmnmokjlpenhaaPLane
import Derived.Test.YtkmnmokjlpenhaaPWords
import Derived.Test.YtkmnmokjlpenhaaWTB
/- Plain law: Clean and Strash of graphs keep what a graph shows. -/
set_option linter.unusedVariables false
set_option linter.unusedSimpArgs false
namespace Go.Proofs.YtkmnmokjlpenhaaPi

/-- Lane 0 of a literal. -/
def lb (v : List Int) (l : Int) : Bool := bit0 (ofV v l)
theorem lb_litB (v : List Int) (l : Int) : lb v l = (litB v l).getLsbD 0 := by
  rw [← bv_of]; rfl
theorem lb_flip (v : List Int) (l : Int) (h : 0 ≤ l) : lb v (flipL l) = !lb v l := by
  rw [lb_litB, lb_litB, litB_flip v l h]
  simp
theorem lb_def (v : List Int) (l : Int) : lb v l = if l % 2 = 1 then !bit0 (v.getD (l / 2).toNat 0) else bit0 (v.getD (l / 2).toNat 0) := by
  unfold lb ofV
  split
  · rw [vnot, bit0_not]
  · rfl
theorem lb_even (v : List Int) (k : Nat) : lb v (2 * (k : Int)) = bit0 (v.getD k 0) := by
  rw [lb_def, if_neg (by omega), show (2 * (k : Int) / 2).toNat = k by omega]
theorem lb_app (v w : List Int) (l : Int) (h0 : 0 ≤ l) (h : l < 2 * (v.length : Int)) : lb (v ++ w) l = lb v l := by
  have e : (v ++ w).getD (l / 2).toNat 0 = v.getD (l / 2).toNat 0 := by
    simp only [List.getD_eq_getElem?_getD]
    rw [List.getElem?_append_left (by omega)]
  rw [lb_def, lb_def, e]
theorem lb_at {v v' to : List Int} (l : Int) (h0 : 0 ≤ to.getD (l / 2).toNat 0) (h : lb v' (to.getD (l / 2).toNat 0) = bit0 (v.getD (l / 2).toNat 0)) : lb v' (atV to l) = lb v l := by
  rw [lb_def v l]
  unfold atV
  split
  · rw [lb_flip _ _ h0, h]
  · exact h
theorem valsA_snoc (p : Int × Int) : ∀ (ps : List (Int × Int)) (v : List Int), valsA (ps ++ [p]) v = valsA ps v ++ [bits .and .u64 (ofV (valsA ps v) p.1) (ofV (valsA ps v) p.2)]
  | [], v => rfl
  | q :: ps, v => by
    rw [List.cons_append, valsA, valsA_snoc p ps, valsA]
theorem lb_last (w : List Int) (a b : Int) : lb (w ++ [bits .and .u64 (ofV w a) (ofV w b)]) (2 * (w.length : Int)) = (lb w a && lb w b) := by
  rw [lb_even]
  simp [bit0_and, lb]
theorem same0_mapM {α : Type} (l : List α) (f f' : α → Int) (h : ∀ x ∈ l, bit0 (f x) = bit0 (f' x)) : same0 (l.map f) (l.map f') := by
  refine ⟨by simp, fun k => ?_⟩
  simp only [List.getD_eq_getElem?_getD, List.getElem?_map]
  cases hk : l[k]? with
  | none => rfl
  | some x => exact h x (List.mem_of_getElem? hk)
theorem runG_moved (g : LGraph) (ands : List (Int × Int)) (to : List Int)
    (H : ∀ inn st : List Int, inn.length = g.inn.length → st.length = g.regs.length → ∀ l, (l ∈ g.outs ∨ ∃ r ∈ g.regs, l = r.next) → lb (graphVals (movedG g ands to) inn st) (atV to l) = lb (graphVals g inn st) l) :
    ∀ (t : List (List Bool)) (st : List Int), (∀ r ∈ t, r.length = g.inn.length) → st.length = g.regs.length → runG (movedG g ands to) st t = runG g st t
  | [], st, _, _ => rfl
  | r :: t, st, hr, hst => by
    have h1 := H (lanes0 r) st (by simpa using hr r (by simp)) hst
    generalize hv' : graphVals (movedG g ands to) (lanes0 r) st = v' at h1
    generalize hv : graphVals g (lanes0 r) st = v at h1
    simp only [runG, hv, hv']
    have e1 : laneB (outsG (movedG g ands to) v') = laneB (outsG g v) := by
      rw [laneB_bit0, laneB_bit0]
      simp only [outsG, movedG, List.map_map]
      exact List.map_congr_left fun x hx => h1 x (.inl hx)
    have e2 : same0 (nextsG (movedG g ands to) v') (nextsG g v) := by
      simp only [nextsG, movedG, List.map_map]
      exact same0_mapM g.regs _ _ fun x hx => h1 x.next (.inr ⟨x, hx, rfl⟩)
    rw [e1, runG_same _ t e2, runG_moved g ands to H t (nextsG g v) (fun x hx => hr x (by simp [hx])) (by simp [nextsG])]
theorem runI_moved (g : LGraph) (ands : List (Int × Int)) (to : List Int)
    (H : ∀ inn st : List Int, inn.length = g.inn.length → st.length = g.regs.length → ∀ l, (l ∈ g.outs ∨ ∃ r ∈ g.regs, l = r.next) → lb (graphVals (movedG g ands to) inn st) (atV to l) = lb (graphVals g inn st) l)
    (t : List (List Bool)) (hr : ∀ r ∈ t, r.length = g.inn.length) : runI (movedG g ands to) t = runI g t := by
  have e : initG (movedG g ands to) = initG g := by simp [initG, movedG]
  rw [runI, runI, e]
  exact runG_moved g ands to H t _ hr (by simp)
/-- The node's value. -/
theorem node_lb {g : LGraph} (hg : GraphOk g) {inn st : List Int} (h1 : inn.length = g.inn.length) (h2 : st.length = g.regs.length) (i : Nat) (p : Int × Int) (hp : g.ands[i]? = some p) : bit0 ((graphVals g inn st).getD (1 + g.inn.length + g.regs.length + i) 0) = (lb (graphVals g inn st) p.1 && lb (graphVals g inn st) p.2) := by
  have h := g_and hg h1 h2 i p hp
  rw [← lb_even, show (2 * ((1 + g.inn.length + g.regs.length + i : Nat) : Int)) = 2 * (1 + (g.inn.length : Int) + g.regs.length + i) by omega, lb_litB, h, lb_litB, lb_litB]
  simp
theorem movedG_ok {g : LGraph} (hg : GraphOk g) (ands : List (Int × Int)) (to : List Int) (h1 : ands.length ≤ 4000)
    (h2 : ∀ (i : Nat) (p : Int × Int), ands[i]? = some p → (0 ≤ p.1 ∧ p.1 < 2 * (1 + (g.inn.length : Int) + g.regs.length + i)) ∧ 0 ≤ p.2 ∧ p.2 < 2 * (1 + (g.inn.length : Int) + g.regs.length + i))
    (h3 : ∀ x ∈ to, 0 ≤ x ∧ x < 2 * (1 + (g.inn.length : Int) + g.regs.length + ands.length)) : GraphOk (movedG g ands to) := by
  have hn : (movedG g ands to).regs.map LReg.name = g.regs.map LReg.name := by simp [movedG]
  have hl : (movedG g ands to).regs.length = g.regs.length := by simp [movedG]
  have hr := fun l => atV_range h3 (by omega) l
  refine ⟨⟨hg.small.inn, hg.small.out, by rw [hl]; exact hg.small.regs, h1, by simp [movedG, hg.small.outs]⟩, ?_, ?_, hg.onames, hg.onodup, by simp [movedG, hg.olen], ?_, ?_, ?_⟩
  · rw [hn]; exact hg.names
  · rw [hn]; exact hg.nodup
  · rw [hl]; exact h2
  · rw [hl]
    intro r hr'
    simp only [movedG, List.mem_map] at hr'
    obtain ⟨r0, _, rfl⟩ := hr'
    exact hr _
  · rw [hl]
    intro x hx
    simp only [movedG, List.mem_map] at hx
    obtain ⟨l, _, rfl⟩ := hx
    exact hr l

/- The cone. -/
theorem set_getD (v : List Bool) (i k : Nat) : (v.set i true).getD k false = if i = k ∧ k < v.length then true else v.getD k false := by
  simp only [List.getD_eq_getElem?_getD, List.getElem?_set]
  by_cases h : i = k
  · subst h
    by_cases h2 : i < v.length
    · simp [h2]
    · simp [h2]
  · simp [h]
theorem set_mono {v : List Bool} {i k : Nat} (h : v.getD k false = true) : (v.set i true).getD k false = true := by
  rw [set_getD]
  split
  · rfl
  · exact h
theorem coneStep_mono (g : LGraph) {v : List Bool} (i : Nat) {k : Nat} (h : v.getD k false = true) : (coneStep g v i).getD k false = true := by
  unfold coneStep
  split
  · exact set_mono (set_mono h)
  · exact h
theorem coneDown_mono (g : LGraph) : ∀ (i : Nat) {v : List Bool} {k : Nat}, v.getD k false = true → (coneDown g i v).getD k false = true
  | 0, _, _, h => h
  | i + 1, _, _, h => coneDown_mono g i (coneStep_mono g i h)
theorem coneRoots_mono : ∀ (roots : List Int) {v : List Bool} {k : Nat}, v.getD k false = true → (coneRoots v roots).getD k false = true
  | [], _, _, h => h
  | l :: t, v, k, h => coneRoots_mono t (v := v.set (l / 2).toNat true) (set_mono h)
theorem coneRoots_in : ∀ (roots : List Int) {v : List Bool} (l : Int), l ∈ roots → (l / 2).toNat < v.length → (coneRoots v roots).getD (l / 2).toNat false = true
  | x :: t, v, l, h, hv => by
    rcases List.mem_cons.1 h with rfl | h
    · exact coneRoots_mono t (v := v.set (l / 2).toNat true) (by rw [set_getD, if_pos ⟨rfl, hv⟩])
    · exact coneRoots_in t (v := v.set (x / 2).toNat true) l h (by simpa using hv)
section
variable {g : LGraph} (hg : GraphOk g)
include hg
theorem coneStep_high (v : List Bool) (i : Nat) (hi : i < g.ands.length) (k : Nat) (hk : 1 + g.inn.length + g.regs.length + i ≤ k) : (coneStep g v i).getD k false = v.getD k false := by
  unfold coneStep
  obtain ⟨p, hp, _, _⟩ := node_at g.ands i hi
  obtain ⟨⟨p1, p2⟩, p3, p4⟩ := hg.ands i p hp
  have e : g.ands.getD i (0, 0) = p := by simp [hp]
  rw [e]
  split
  · rw [set_getD, if_neg (by omega), set_getD, if_neg (by omega)]
  · rfl
theorem coneDown_high : ∀ (i : Nat), i ≤ g.ands.length → ∀ (v : List Bool) (k : Nat), 1 + g.inn.length + g.regs.length + i ≤ k + 1 → (coneDown g i v).getD k false = v.getD k false
  | 0, _, _, _, _ => rfl
  | i + 1, hi, v, k, hk => by
    rw [coneDown, coneDown_high i (by omega) _ k (by omega), coneStep_high hg v i (by omega) k (by omega)]
theorem coneDown_closed : ∀ (i : Nat), i ≤ g.ands.length → ∀ (v : List Bool), v.length = nodesN g → ∀ (j : Nat) (p : Int × Int), j < i → g.ands[j]? = some p → (coneDown g i v).getD (1 + g.inn.length + g.regs.length + j) false = true →
    (coneDown g i v).getD (p.1 / 2).toNat false = true ∧ (coneDown g i v).getD (p.2 / 2).toNat false = true
  | 0, _, _, _, j, _, h, _, _ => absurd h (by omega)
  | i + 1, hi, v, hv, j, p, hj, hp, hn => by
    rw [coneDown] at hn ⊢
    by_cases hji : j < i
    · exact coneDown_closed i (by omega) _ (by rw [coneStep_len, hv]) j p hji hp hn
    have : j = i := by omega
    subst this
    rw [coneDown_high hg j (by omega) _ _ (by omega), coneStep_high hg v j (by omega) _ (by omega)] at hn
    have hlt := (List.getElem?_eq_some_iff.1 hp).1
    obtain ⟨⟨p1, p2⟩, p3, p4⟩ := hg.ands j p hp
    have e : g.ands.getD j (0, 0) = p := by simp [hp]
    have hs : coneStep g v j = (v.set (p.1 / 2).toNat true).set (p.2 / 2).toNat true := by rw [coneStep, if_pos hn, e]
    unfold nodesN at hv
    refine ⟨coneDown_mono g j ?_, coneDown_mono g j ?_⟩
    · rw [hs]
      exact set_mono (by rw [set_getD, if_pos ⟨rfl, by omega⟩])
    · rw [hs, set_getD, if_pos ⟨rfl, by rw [List.length_set]; omega⟩]
/-- What the graph shows needs. -/
theorem cone_closed (j : Nat) (p : Int × Int) (hp : g.ands[j]? = some p) (hn : (coneV g (rootsG g)).getD (1 + g.inn.length + g.regs.length + j) false = true) :
    (coneV g (rootsG g)).getD (p.1 / 2).toNat false = true ∧ (coneV g (rootsG g)).getD (p.2 / 2).toNat false = true :=
  coneDown_closed hg _ (Nat.le_refl _) _ (by rw [coneRoots_len]; simp) j p (List.getElem?_eq_some_iff.1 hp).1 hp hn
theorem cone_root (l : Int) (h : l ∈ rootsG g) : (coneV g (rootsG g)).getD (l / 2).toNat false = true := by
  have := roots_in hg l h
  exact coneDown_mono g _ (coneRoots_in _ l h (by simp [nodesN]; omega))
end

/- Clean. -/
abbrev keptN (g : LGraph) (k : Nat) : Prop := k < 1 + g.inn.length + g.regs.length ∨ (coneV g (rootsG g)).getD k false = true
theorem getD_left {v w : List Int} {k : Nat} (h : k < v.length) : (v ++ w).getD k 0 = v.getD k 0 := by
  simp only [List.getD_eq_getElem?_getD]
  rw [List.getElem?_append_left h]
theorem getD_end (v : List Int) (x : Int) : (v ++ [x]).getD v.length 0 = x := by simp
theorem cleanN_range (g : LGraph) (need : List Bool) : ∀ i : Nat, ((cleanN g need i).1.length ≤ i - (1 + g.inn.length + g.regs.length)) ∧ (∀ x ∈ (cleanN g need i).2.1, 0 ≤ x ∧ x < 2 * (1 + (g.inn.length : Int) + g.regs.length + (cleanN g need i).1.length)) ∧
    ∀ (j : Nat) (p : Int × Int), (cleanN g need i).1[j]? = some p → (0 ≤ p.1 ∧ p.1 < 2 * (1 + (g.inn.length : Int) + g.regs.length + j)) ∧ 0 ≤ p.2 ∧ p.2 < 2 * (1 + (g.inn.length : Int) + g.regs.length + j)
  | 0 => ⟨by simp [cleanN], fun x hx => by simp [cleanN] at hx, fun j p h => by simp [cleanN] at h⟩
  | i + 1 => by
    obtain ⟨h1, h2, h3⟩ := cleanN_range g need i
    rw [cleanN]
    generalize cleanN g need i = C at h1 h2 h3
    obtain ⟨A, T, P⟩ := C
    simp only at h1 h2 h3
    unfold cleanStep
    split
    · refine ⟨by simp only; omega, fun x hx => ?_, h3⟩
      simp only [List.mem_append, List.mem_singleton] at hx ⊢
      rcases hx with hx | rfl
      · exact h2 x hx
      · omega
    · split
      · have hr := fun l => atV_range h2 (by omega) l
        refine ⟨by simp only [List.length_append, List.length_cons, List.length_nil]; omega, fun x hx => ?_, fun j p hp => ?_⟩
        · simp only [List.mem_append, List.mem_singleton, List.length_append, List.length_cons, List.length_nil] at hx ⊢
          rcases hx with hx | rfl
          · have := h2 x hx
            omega
          · omega
        · simp only [List.getElem?_append] at hp
          split at hp
          · exact h3 j p hp
          · rename_i hj
            have hj0 : j - A.length = 0 := by
              have := (List.getElem?_eq_some_iff.1 hp).1
              simp at this
              omega
            rw [hj0] at hp
            simp only [List.getElem?_cons_zero, Option.some.injEq] at hp
            subst hp
            have e1 := hr (g.ands.getD (i - (1 + g.inn.length + g.regs.length)) (0, 0)).1
            have e2 := hr (g.ands.getD (i - (1 + g.inn.length + g.regs.length)) (0, 0)).2
            simp only
            omega
      · refine ⟨by simp only; omega, fun x hx => ?_, h3⟩
        simp only [List.mem_append, List.mem_singleton] at hx ⊢
        rcases hx with hx | rfl
        · exact h2 x hx
        · omega
theorem cleanL_ok {g : LGraph} (hg : GraphOk g) : GraphOk (cleanL g) := by
  obtain ⟨h1, h2, h3⟩ := cleanN_range g (coneV g (rootsG g)) (nodesN g)
  have := hg.small.ands
  exact movedG_ok hg _ _ (by unfold cleanG; unfold nodesN at h1 ⊢; omega) h3 h2
theorem cleanL_less (g : LGraph) : (cleanL g).ands.length ≤ g.ands.length := by
  obtain ⟨h1, h2, h3⟩ := cleanN_range g (coneV g (rootsG g)) (nodesN g)
  show (cleanG g).1.length ≤ _
  unfold cleanG
  unfold nodesN at h1 ⊢
  omega
section
variable {g : LGraph} (hg : GraphOk g) {inn st : List Int} (h1 : inn.length = g.inn.length) (h2 : st.length = g.regs.length)
include hg h1 h2
theorem clean_sim : ∀ i : Nat, i ≤ nodesN g → ∀ k, k < i → keptN g k → lb (valsA (cleanN g (coneV g (rootsG g)) i).1 ([0] ++ inn ++ st)) ((cleanN g (coneV g (rootsG g)) i).2.1.getD k 0) = bit0 ((graphVals g inn st).getD k 0)
  | 0, _, k, h, _ => absurd h (by omega)
  | i + 1, hi, k, hk, hkept => by
    have ih := clean_sim i (by omega)
    obtain ⟨a1, a2, a3⟩ := cleanN_range g (coneV g (rootsG g)) i
    obtain ⟨b1, b2, b3⟩ := cleanN_len g (coneV g (rootsG g)) i
    rw [cleanN]
    generalize cleanN g (coneV g (rootsG g)) i = C at ih a1 a2 a3 b1 b2 b3
    obtain ⟨A, T, P⟩ := C
    simp only at ih a1 a2 a3 b1 b2 b3
    have hbl : ([0] ++ inn ++ st).length = 1 + g.inn.length + g.regs.length := by simp; omega
    have hw : (valsA A ([0] ++ inn ++ st)).length = 1 + g.inn.length + g.regs.length + A.length := by rw [valsA_len, hbl]
    unfold nodesN at hi
    unfold cleanStep
    split
    · rename_i hF
      simp only
      by_cases hki : k < i
      · rw [getD_left (by omega)]
        exact ih k hki hkept
      · have : k = i := by omega
        subst this
        have e : (T ++ [2 * (k : Int)]).getD k 0 = 2 * (k : Int) := by rw [← b2]; exact getD_end T _
        rw [e, lb_even, valsA_pre _ _ _ (by omega), graphVals, valsA_pre _ _ _ (by omega)]
    · rename_i hF
      split
      · rename_i hnd
        simp only
        rw [valsA_snoc]
        by_cases hki : k < i
        · rw [getD_left (by omega)]
          have hx : T.getD k 0 ∈ T := by
            rw [List.getD_eq_getElem?_getD, List.getElem?_eq_getElem (by omega)]
            exact List.getElem_mem _
          have := a2 _ hx
          rw [lb_app _ _ _ this.1 (by rw [hw]; omega)]
          exact ih k hki hkept
        · have hk2 : k = i := by omega
          subst hk2
          have e : (T ++ [2 * (1 + (g.inn.length : Int) + g.regs.length + A.length)]).getD k 0 = 2 * ((valsA A ([0] ++ inn ++ st)).length : Int) := by
            rw [← b2, getD_end, hw]
            omega
          rw [e, lb_last]
          obtain ⟨j, hj⟩ : ∃ j, k = 1 + g.inn.length + g.regs.length + j := ⟨k - (1 + g.inn.length + g.regs.length), by omega⟩
          obtain ⟨p, hp, _, _⟩ := node_at g.ands j (by omega)
          obtain ⟨⟨p1, p2⟩, p3, p4⟩ := hg.ands j p hp
          have hgd : g.ands.getD (k - (1 + g.inn.length + g.regs.length)) (0, 0) = p := by rw [show k - (1 + g.inn.length + g.regs.length) = j by omega]; simp [hp]
          rw [hgd]
          have hcl := cone_closed hg j p hp (by rw [← hj]; exact hnd)
          have hT : ∀ q : Nat, 0 ≤ T.getD q 0 := fun q => by
            rw [List.getD_eq_getElem?_getD]
            cases hq : T[q]? with
            | none => simp
            | some x => exact (a2 x (List.mem_of_getElem? hq)).1
          rw [lb_at p.1 (hT _) (ih _ (by omega) (.inr hcl.1)), lb_at p.2 (hT _) (ih _ (by omega) (.inr hcl.2)), hj]
          exact (node_lb hg h1 h2 j p hp).symm
      · rename_i hnd
        simp only
        by_cases hki : k < i
        · rw [getD_left (by omega)]
          exact ih k hki hkept
        · have : k = i := by omega
          subst this
          rcases hkept with h | h
          · exact absurd h hF
          · exact absurd h hnd
end
theorem cleanL_run {g : LGraph} (hg : GraphOk g) (tr : List (List Bool)) (hr : ∀ r ∈ tr, r.length = g.inn.length) : runI (cleanL g) tr = runI g tr := by
  refine runI_moved g _ _ (fun inn st h1 h2 l hl => ?_) tr hr
  have hroot : l ∈ rootsG g := by
    simp only [rootsG, List.mem_append, List.mem_map]
    rcases hl with h | ⟨r, h, rfl⟩
    · exact .inl h
    · exact .inr ⟨r, h, rfl⟩
  obtain ⟨r1, r2⟩ := roots_in hg l hroot
  have hs := clean_sim hg h1 h2 (nodesN g) (Nat.le_refl _) (l / 2).toNat (by unfold nodesN; omega) (.inr (cone_root hg l hroot))
  obtain ⟨a1, a2, a3⟩ := cleanN_range g (coneV g (rootsG g)) (nodesN g)
  refine lb_at l ?_ hs
  show 0 ≤ (cleanN g (coneV g (rootsG g)) (nodesN g)).2.1.getD _ 0
  rw [List.getD_eq_getElem?_getD]
  cases hq : (cleanN g (coneV g (rootsG g)) (nodesN g)).2.1[(l / 2).toNat]? with
  | none => simp
  | some x => exact (a2 x (List.mem_of_getElem? hq)).1
end Go.Proofs.YtkmnmokjlpenhaaPi

/- Plain law: Strash of graphs keeps what a graph shows; done again Clean and Strash change nothing. -/
set_option linter.unusedVariables false
set_option linter.unusedSimpArgs false
namespace Go.Proofs.YtkmnmokjlpenhaaPi

theorem findA_none (p : Int × Int) : ∀ (ps : List (Int × Int)) (i : Nat), findA p ps i = none ↔ p ∉ ps
  | [], i => by simp [findA]
  | x :: ps, i => by
    rw [findA]
    by_cases h : x = p
    · simp [h]
    · rw [if_neg h, findA_none p ps (i + 1)]
      simp [Ne.symm h]
/-- No and of a graph is trivial, and none stands twice. -/
structure NormA (ands : List (Int × Int)) : Prop where
  lt : ∀ p ∈ ands, 2 ≤ p.1 ∧ p.1 < p.2 ∧ p.1 ≠ flipL p.2
  nodup : ands.Nodup
theorem mkAnd_cases (m : LMk) (a b : Int) : (min a b = 0 ∨ min a b = flipL (max a b)) ∧ mkAnd m a b = (0, m) ∨ (¬ (min a b = 0 ∨ min a b = flipL (max a b))) ∧ ((min a b = 1 ∨ min a b = max a b) ∧ mkAnd m a b = (max a b, m) ∨
    (¬ (min a b = 1 ∨ min a b = max a b)) ∧ ((∃ k : Nat, m.ands[k]? = some (min a b, max a b) ∧ mkAnd m a b = (2 * (m.first + k), m)) ∨ ((min a b, max a b) ∉ m.ands ∧ mkAnd m a b = (2 * (m.first + m.ands.length), { m with ands := m.ands ++ [(min a b, max a b)] })))) := by
  unfold mkAnd
  by_cases h0 : min a b = 0 ∨ min a b = flipL (max a b)
  · exact .inl ⟨h0, by rw [if_pos h0]⟩
  refine .inr ⟨h0, ?_⟩
  rw [if_neg h0]
  by_cases h1 : min a b = 1 ∨ min a b = max a b
  · exact .inl ⟨h1, by rw [if_pos h1]⟩
  refine .inr ⟨h1, ?_⟩
  rw [if_neg h1]
  cases hf : findA (min a b, max a b) m.ands 0 with
  | some k => exact .inl ⟨k, by simpa using (findA_range _ _ _ _ hf).2, rfl⟩
  | none => exact .inr ⟨(findA_none _ _ _).1 hf, rfl⟩
structure StrashNf (g : LGraph) (m : LMk) : Prop where
  ands : ∀ (i : Nat) (p : Int × Int), m.ands[i]? = some p → (0 ≤ p.1 ∧ p.1 < 2 * (1 + (g.inn.length : Int) + g.regs.length + i)) ∧ 0 ≤ p.2 ∧ p.2 < 2 * (1 + (g.inn.length : Int) + g.regs.length + i)
  norm : NormA m.ands
theorem mkAnd_nf (g : LGraph) (m : LMk) (hm : StrashNf g m) (a b : Int) (ha : 0 ≤ a ∧ a < 2 * (1 + (g.inn.length : Int) + g.regs.length + m.ands.length)) (hb : 0 ≤ b ∧ b < 2 * (1 + (g.inn.length : Int) + g.regs.length + m.ands.length)) : StrashNf g (mkAnd m a b).2 := by
  rcases mkAnd_cases m a b with ⟨_, e⟩ | ⟨n0, ⟨_, e⟩ | ⟨n1, ⟨k, _, e⟩ | ⟨hni, e⟩⟩⟩
  · rw [e]; exact hm
  · rw [e]; exact hm
  · rw [e]; exact hm
  · rw [e]
    refine ⟨fun i p hp => ?_, fun p hp => ?_, ?_⟩
    · simp only [List.getElem?_append] at hp
      split at hp
      · exact hm.ands i p hp
      · rename_i hj
        have hj0 : i - m.ands.length = 0 := by
          have := (List.getElem?_eq_some_iff.1 hp).1
          simp at this
          omega
        rw [hj0] at hp
        simp only [List.getElem?_cons_zero, Option.some.injEq] at hp
        subst hp
        simp only
        omega
    · simp only [List.mem_append, List.mem_singleton] at hp
      rcases hp with hp | rfl
      · exact hm.norm.lt p hp
      · simp only
        refine ⟨by omega, by omega, fun h => n0 (.inr h)⟩
    · rw [List.nodup_append]
      refine ⟨hm.norm.nodup, by simp, fun x hx y hy => ?_⟩
      simp only [List.mem_singleton] at hy
      subst hy
      intro h
      subst h
      exact hni hx
theorem strashN_nf (g : LGraph) : ∀ j : Nat, StrashNf g (strashN g j).1
  | 0 => ⟨fun i p h => by simp [strashN] at h, ⟨fun p h => by simp [strashN] at h, by simp [strashN]⟩⟩
  | j + 1 => by
    obtain ⟨h1, h2, h3, h4, h5⟩ := strashN_at g j
    rw [strashN]
    exact mkAnd_nf g _ (strashN_nf g j) _ _ (atV_range h4 (by omega) _) (atV_range h4 (by omega) _)
theorem strashL_ok {g : LGraph} (hg : GraphOk g) : GraphOk (strashL g) := by
  obtain ⟨h1, h2, h3, h4, h5⟩ := strashN_at g g.ands.length
  have := hg.small.ands
  exact movedG_ok hg _ _ (by unfold strashG; omega) (strashN_nf g g.ands.length).ands h4
theorem strashL_less (g : LGraph) : (strashL g).ands.length ≤ g.ands.length := (strashN_at g g.ands.length).ands

theorem vals_lb (ps : List (Int × Int)) (v : List Int) (i : Nat) (p : Int × Int) (hp : ps[i]? = some p) (hr : ∀ (i : Nat) (p : Int × Int), ps[i]? = some p → (0 ≤ p.1 ∧ p.1 < 2 * ((v.length : Int) + i)) ∧ 0 ≤ p.2 ∧ p.2 < 2 * ((v.length : Int) + i)) :
    lb (valsA ps v) (2 * ((v.length + i : Nat) : Int)) = (lb (valsA ps v) p.1 && lb (valsA ps v) p.2) := by
  have h := valsA_node ps v i p hp hr
  rw [lb_even, show bit0 ((valsA ps v).getD (v.length + i) 0) = (bv ((valsA ps v).getD (v.length + i) 0)).getLsbD 0 from rfl, h, lb_litB, lb_litB]
  simp
theorem lb_minmax (v : List Int) (a b : Int) : (lb v (min a b) && lb v (max a b)) = (lb v a && lb v b) := by
  by_cases h : a ≤ b
  · rw [Int.min_eq_left h, Int.max_eq_right h]
  · rw [Int.min_eq_right (by omega), Int.max_eq_left (by omega), Bool.and_comm]
section
variable {g : LGraph} {inn st : List Int} (h1 : inn.length = g.inn.length) (h2 : st.length = g.regs.length)
include h1 h2
theorem mkAnd_sim (m : LMk) (hm : StrashNf g m) (e1 : m.inn = g.inn) (e2 : m.regs = g.regs) (a b : Int) (ha : 0 ≤ a ∧ a < 2 * (1 + (g.inn.length : Int) + g.regs.length + m.ands.length)) (hb : 0 ≤ b ∧ b < 2 * (1 + (g.inn.length : Int) + g.regs.length + m.ands.length)) :
    lb (valsA (mkAnd m a b).2.ands ([0] ++ inn ++ st)) (mkAnd m a b).1 = (lb (valsA m.ands ([0] ++ inn ++ st)) a && lb (valsA m.ands ([0] ++ inn ++ st)) b) ∧
    ∀ l : Int, 0 ≤ l → l < 2 * (1 + (g.inn.length : Int) + g.regs.length + m.ands.length) → lb (valsA (mkAnd m a b).2.ands ([0] ++ inn ++ st)) l = lb (valsA m.ands ([0] ++ inn ++ st)) l := by
  have hbl : ([0] ++ inn ++ st).length = 1 + g.inn.length + g.regs.length := by simp; omega
  have hw : (valsA m.ands ([0] ++ inn ++ st)).length = 1 + g.inn.length + g.regs.length + m.ands.length := by rw [valsA_len, hbl]
  have hoff : lb (valsA m.ands ([0] ++ inn ++ st)) 0 = false := by
    have := lb_even (valsA m.ands ([0] ++ inn ++ st)) 0
    rw [show (2 * ((0 : Nat) : Int)) = 0 by rfl] at this
    rw [this, valsA_pre _ _ _ (by omega)]
    simp [bit0]
  have hon : lb (valsA m.ands ([0] ++ inn ++ st)) 1 = true := by
    have := lb_flip (valsA m.ands ([0] ++ inn ++ st)) 0 (by omega)
    rw [hoff] at this
    exact this
  have hmm := lb_minmax (valsA m.ands ([0] ++ inn ++ st)) a b
  rcases mkAnd_cases m a b with ⟨h0, e⟩ | ⟨n0, ⟨h0, e⟩ | ⟨n1, ⟨k, hk, e⟩ | ⟨hni, e⟩⟩⟩
  · rw [e]
    refine ⟨?_, fun l _ _ => rfl⟩
    simp only
    rw [hoff, ← hmm]
    rcases h0 with h0 | h0
    · rw [h0, hoff, Bool.false_and]
    · rw [h0, lb_flip _ _ (by omega)]
      cases lb (valsA m.ands ([0] ++ inn ++ st)) (max a b) <;> rfl
  · rw [e]
    refine ⟨?_, fun l _ _ => rfl⟩
    simp only
    rw [← hmm]
    rcases h0 with h0 | h0
    · rw [h0, hon, Bool.true_and]
    · rw [h0, Bool.and_self]
  · rw [e]
    refine ⟨?_, fun l _ _ => rfl⟩
    simp only
    rw [← hmm]
    have := vals_lb m.ands ([0] ++ inn ++ st) k _ hk (fun i p hp => by have := hm.ands i p hp; rw [hbl]; omega)
    rw [← this, hbl]
    congr 1
    simp only [LMk.first, e1, e2]
    omega
  · rw [e]
    simp only
    rw [valsA_snoc]
    refine ⟨?_, fun l l0 l1 => ?_⟩
    · have := lb_last (valsA m.ands ([0] ++ inn ++ st)) (min a b) (max a b)
      rw [← hmm, ← this, hw]
      congr 1
      simp only [LMk.first, e1, e2]
      omega
    · exact lb_app _ _ _ l0 (by rw [hw]; omega)
theorem strash_sim (hg : GraphOk g) : ∀ j : Nat, j ≤ g.ands.length → ∀ k, k < 1 + g.inn.length + g.regs.length + j → lb (valsA (strashN g j).1.ands ([0] ++ inn ++ st)) ((strashN g j).2.getD k 0) = bit0 ((graphVals g inn st).getD k 0)
  | 0, _, k, hk => by
    have hbl : ([0] ++ inn ++ st).length = 1 + g.inn.length + g.regs.length := by simp; omega
    have e : (strashN g 0).2.getD k 0 = 2 * (k : Int) := by
      simp only [strashN, toIn, List.getD_eq_getElem?_getD, List.getElem?_map]
      rw [List.getElem?_range (by omega)]
      rfl
    rw [e, lb_even, valsA_pre _ _ _ (by omega), graphVals, valsA_pre _ _ _ (by omega)]
  | j + 1, hj, k, hk => by
    have ih := strash_sim hg j (by omega)
    obtain ⟨s1, s2, s3, s4, s5⟩ := strashN_at g j
    have hnf := strashN_nf g j
    obtain ⟨p, hp, _, _⟩ := node_at g.ands j (by omega)
    obtain ⟨⟨p1, p2⟩, p3, p4⟩ := hg.ands j p hp
    have hgd : g.ands.getD j (0, 0) = p := by simp [hp]
    rw [strashN, hgd]
    generalize strashN g j = S at ih s1 s2 s3 s4 s5 hnf
    obtain ⟨m, T⟩ := S
    simp only at ih s1 s2 s3 s4 s5 hnf ⊢
    have hT : ∀ q : Nat, 0 ≤ T.getD q 0 ∧ T.getD q 0 < 2 * (1 + (g.inn.length : Int) + g.regs.length + m.ands.length) := fun q => by
      rw [List.getD_eq_getElem?_getD]
      cases hq : T[q]? with
      | none => simp; omega
      | some x => exact s4 x (List.mem_of_getElem? hq)
    obtain ⟨q1, q2⟩ := mkAnd_sim h1 h2 m hnf s1 s2 (atV T p.1) (atV T p.2) (atV_range s4 (by omega) _) (atV_range s4 (by omega) _)
    by_cases hkj : k < 1 + g.inn.length + g.regs.length + j
    · rw [getD_left (by omega), q2 _ (hT k).1 (hT k).2]
      exact ih k hkj
    · have hk2 : k = 1 + g.inn.length + g.regs.length + j := by omega
      have e : (T ++ [(mkAnd m (atV T p.1) (atV T p.2)).1]).getD k 0 = (mkAnd m (atV T p.1) (atV T p.2)).1 := by rw [hk2, ← s5]; exact getD_end T _
      rw [e, q1, lb_at p.1 (hT _).1 (ih _ (by omega)), lb_at p.2 (hT _).1 (ih _ (by omega)), hk2]
      exact (node_lb hg h1 h2 j p hp).symm
end
theorem strashL_run {g : LGraph} (hg : GraphOk g) (tr : List (List Bool)) (hr : ∀ r ∈ tr, r.length = g.inn.length) : runI (strashL g) tr = runI g tr := by
  refine runI_moved g _ _ (fun inn st h1 h2 l hl => ?_) tr hr
  have hroot : l ∈ rootsG g := by
    simp only [rootsG, List.mem_append, List.mem_map]
    rcases hl with h | ⟨r, h, rfl⟩
    · exact .inl h
    · exact .inr ⟨r, h, rfl⟩
  obtain ⟨r1, r2⟩ := roots_in hg l hroot
  have hs := strash_sim h1 h2 hg g.ands.length (Nat.le_refl _) (l / 2).toNat (by omega)
  have a2 := (strashN_at g g.ands.length).to
  refine lb_at l ?_ hs
  show 0 ≤ (strashN g g.ands.length).2.getD _ 0
  rw [List.getD_eq_getElem?_getD]
  cases hq : (strashN g g.ands.length).2[(l / 2).toNat]? with
  | none => simp
  | some x => exact (a2 x (List.mem_of_getElem? hq)).1
end Go.Proofs.YtkmnmokjlpenhaaPi

/- Plain law: a table has its values over any literals. -/
set_option linter.unusedVariables false
set_option linter.unusedSimpArgs false
namespace Go.Proofs.YtkmnmokjlpenhaaPi

theorem bv_shift (t : Int) (h : U64 t) (s : Nat) : bv (t.fdiv (2 ^ s)) = bv t >>> s := by
  obtain ⟨h0, h1⟩ := h
  obtain ⟨r, rfl⟩ : ∃ r : Nat, t = r := ⟨t.toNat, by omega⟩
  have e2 : ((2 : Int) ^ s) = ((2 ^ s : Nat) : Int) := by simp
  have e : ((r : Int).fdiv (2 ^ s)) = ((r / 2 ^ s : Nat) : Int) := by
    rw [e2, Int.fdiv_eq_ediv_of_nonneg _ (Int.natCast_nonneg _)]
    rfl
  have hle : r / 2 ^ s ≤ r := Nat.div_le_self _ _
  apply BitVec.eq_of_toNat_eq
  rw [e, BitVec.toNat_ushiftRight, BitVec.toNat_ofInt, BitVec.toNat_ofInt, Nat.shiftRight_eq_div_pow]
  have a1 : ((((r / 2 ^ s : Nat) : Int)) % ((2 ^ 64 : Nat) : Int)).toNat = r / 2 ^ s := by
    generalize r / 2 ^ s = y at hle
    omega
  have a2 : ((r : Int) % ((2 ^ 64 : Nat) : Int)).toNat = r := by omega
  rw [a1, a2]
theorem ones_bits (n : Nat) (h : n ≤ 6) : ∀ k, k < 64 → (bv (onesT n)).getLsbD k = decide (k < 2 ^ n) := by
  have : n = 0 ∨ n = 1 ∨ n = 2 ∨ n = 3 ∨ n = 4 ∨ n = 5 ∨ n = 6 := by omega
  rcases this with rfl | rfl | rfl | rfl | rfl | rfl | rfl <;> decide +kernel
/-- The bit of a table. -/
def tb (t : Int) (k : Nat) : Bool := (bv t).getLsbD k
theorem tb_and (t : Int) (n k : Nat) (h : n ≤ 6) (hk : k < 2 ^ n) (hk2 : k < 64) : tb (bits .and .u64 t (onesT n)) k = tb t k := by
  unfold tb
  rw [bv_and, BitVec.getLsbD_and, ones_bits n h k hk2, decide_eq_true hk, Bool.and_true]
theorem tb_shift (t : Int) (h : U64 t) (s k : Nat) : tb (t.fdiv (2 ^ s)) k = tb t (s + k) := by
  unfold tb
  rw [bv_shift t h, BitVec.getLsbD_ushiftRight]
theorem tb_zero (k : Nat) : tb 0 k = false := by simp [tb]
theorem pow_le64 {n : Nat} (h : n ≤ 6) : 2 ^ n ≤ 64 := Nat.le_trans (Nat.pow_le_pow_right (by omega) h) (by decide)

abbrev vl (base : List Int) (m : LMk) (l : Int) : Bool := lb (valsA m.ands base) l
structure AtG (g : LGraph) (m : LMk) : Prop where
  inn : m.inn = g.inn
  regs : m.regs = g.regs
  nf : StrashNf g m
theorem AtG.in_ {g : LGraph} {m : LMk} (h : AtG g m) {a : Int} (ha : InM m a) : 0 ≤ a ∧ a < 2 * (1 + (g.inn.length : Int) + g.regs.length + m.ands.length) := by
  unfold InM LMk.top LMk.first at ha
  rw [h.inn, h.regs] at ha
  exact ha
/-- What a maker has after a step: its values stay. -/
structure KeepsM (g : LGraph) (base : List Int) (m m' : LMk) : Prop where
  at_ : AtG g m'
  val : ∀ l, InM m l → vl base m' l = vl base m l
section
variable {g : LGraph} {inn st : List Int} (h1 : inn.length = g.inn.length) (h2 : st.length = g.regs.length)
include h1 h2
theorem and_keeps {m : LMk} (hm : AtG g m) {a b : Int} (ha : InM m a) (hb : InM m b) : KeepsM g ([0] ++ inn ++ st) m (mkAnd m a b).2 ∧ vl ([0] ++ inn ++ st) (mkAnd m a b).2 (mkAnd m a b).1 = (vl ([0] ++ inn ++ st) m a && vl ([0] ++ inn ++ st) m b) := by
  obtain ⟨s1, s2⟩ := mkAnd_sim h1 h2 m hm.nf hm.inn hm.regs a b (hm.in_ ha) (hm.in_ hb)
  obtain ⟨p1, p2⟩ := mkAnd_after m ha hb
  exact ⟨⟨⟨by rw [p1.inn, hm.inn], by rw [p1.regs, hm.regs], mkAnd_nf g m hm.nf a b (hm.in_ ha) (hm.in_ hb)⟩, fun l hl => s2 l (hm.in_ hl).1 (hm.in_ hl).2⟩, s1⟩
theorem pair_keeps {m : LMk} (hm : AtG g m) {a b c d : Int} (ha : InM m a) (hb : InM m b) (hc : InM m c) (hd : InM m d) : KeepsM g ([0] ++ inn ++ st) m (mkPair m a b c d).2 ∧
    vl ([0] ++ inn ++ st) (mkPair m a b c d).2 (mkPair m a b c d).1 = ((vl ([0] ++ inn ++ st) m a && vl ([0] ++ inn ++ st) m b) || (vl ([0] ++ inn ++ st) m c && vl ([0] ++ inn ++ st) m d)) := by
  obtain ⟨p1, p2⟩ := mkAnd_after m ha hb
  obtain ⟨k1, v1⟩ := and_keeps h1 h2 hm ha hb
  obtain ⟨q1, q2⟩ := mkAnd_after (mkAnd m a b).2 (p1.up hc) (p1.up hd)
  obtain ⟨k2, v2⟩ := and_keeps h1 h2 k1.at_ (p1.up hc) (p1.up hd)
  obtain ⟨r1, r2⟩ := mkAnd_after (mkAnd (mkAnd m a b).2 c d).2 (flip_in (q1.up p2)) (flip_in q2)
  obtain ⟨k3, v3⟩ := and_keeps h1 h2 k2.at_ (flip_in (q1.up p2)) (flip_in q2)
  refine ⟨⟨k3.at_, fun l hl => ?_⟩, ?_⟩
  · exact (k3.val l (q1.up (p1.up hl))).trans ((k2.val l (p1.up hl)).trans (k1.val l hl))
  · unfold mkPair
    simp only
    show lb _ (flipL _) = _
    rw [lb_flip _ _ r2.1]
    show (!vl _ _ _) = _
    rw [v3]
    show (!(lb _ (flipL _) && lb _ (flipL _))) = _
    rw [lb_flip _ _ p2.1, lb_flip _ _ q2.1]
    show (!(!vl _ _ _ && !vl _ _ _)) = _
    rw [k2.val _ p2, v1, v2, k1.val _ hc, k1.val _ hd]
    cases vl ([0] ++ inn ++ st) m a <;> cases vl ([0] ++ inn ++ st) m b <;> cases vl ([0] ++ inn ++ st) m c <;> cases vl ([0] ++ inn ++ st) m d <;> rfl
theorem vl_zero (m : LMk) : vl ([0] ++ inn ++ st) m 0 = false := by
  have hbl : ([0] ++ inn ++ st).length = 1 + g.inn.length + g.regs.length := by simp; omega
  have := lb_even (valsA m.ands ([0] ++ inn ++ st)) 0
  rw [show (2 * ((0 : Nat) : Int)) = 0 by rfl] at this
  rw [vl, this, valsA_pre _ _ _ (by omega)]
  simp [bit0]
theorem vl_one (m : LMk) : vl ([0] ++ inn ++ st) m 1 = true := by
  have h0 : lb (valsA m.ands ([0] ++ inn ++ st)) 0 = false := vl_zero h1 h2 m
  have := lb_flip (valsA m.ands ([0] ++ inn ++ st)) 0 (by omega)
  rw [h0] at this
  exact this
end
/-- The number that literals read as. -/
def idxL (f : Int → Bool) (l : List Int) : Nat → Nat
  | 0 => 0
  | n + 1 => if f (l.getD n 0) = true then 2 ^ n + idxL f l n else idxL f l n
theorem idxL_lt (f : Int → Bool) (l : List Int) : ∀ n, idxL f l n < 2 ^ n
  | 0 => by simp [idxL]
  | n + 1 => by
    have := idxL_lt f l n
    rw [idxL, Nat.pow_succ]
    split <;> omega
theorem idxL_congr (f f' : Int → Bool) (l l' : List Int) : ∀ n, (∀ q, q < n → f (l.getD q 0) = f' (l'.getD q 0)) → idxL f l n = idxL f' l' n
  | 0, _ => rfl
  | n + 1, h => by rw [idxL, idxL, h n (by omega), idxL_congr f f' l l' n (fun q hq => h q (by omega))]
theorem take_getD (l : List Int) (n q : Nat) (h : q < n) : (l.take n).getD q 0 = l.getD q 0 := by
  simp [List.getD_eq_getElem?_getD, List.getElem?_take, h]
section
variable {g : LGraph} {inn st : List Int} (h1 : inn.length = g.inn.length) (h2 : st.length = g.regs.length)
include h1 h2
theorem table_sim : ∀ (n : Nat), n ≤ 6 → ∀ (m : LMk) (t : Int) (l : List Int), AtG g m → U64 t → (∀ x ∈ l, InM m x) →
    KeepsM g ([0] ++ inn ++ st) m (mkTable n m t l).2 ∧ vl ([0] ++ inn ++ st) (mkTable n m t l).2 (mkTable n m t l).1 = tb t (idxL (vl ([0] ++ inn ++ st) m) l n)
  | 0, _, m, t, l, hm, ht, hl => by
    have hone := one_iff t
    have hb := bit_and_one t
    rw [mkTable, idxL]
    have hk : KeepsM g ([0] ++ inn ++ st) m m := ⟨hm, fun _ _ => rfl⟩
    have e : tb t 0 = bit0 t := rfl
    rw [e, ← hone]
    split
    · rename_i h
      refine ⟨hk, ?_⟩
      rw [vl_zero h1 h2, h]
      rfl
    · refine ⟨hk, ?_⟩
      rw [vl_one h1 h2]
      rcases hb with hb | hb
      · contradiction
      · rw [hb]; rfl
  | n + 1, hn, m, t, l, hm, ht, hl => by
    have hk : KeepsM g ([0] ++ inn ++ st) m m := ⟨hm, fun _ _ => rfl⟩
    have hlt := idxL_lt (vl ([0] ++ inn ++ st) m) l (n + 1)
    have hlt0 := idxL_lt (vl ([0] ++ inn ++ st) m) l n
    have hp1 := pow_le64 hn
    have hp0 : 2 ^ n + 2 ^ n = 2 ^ (n + 1) := by rw [Nat.pow_succ]; omega
    have hall := tb_and t (n + 1) (idxL (vl ([0] ++ inn ++ st) m) l (n + 1)) hn hlt (by omega)
    have hta : ∀ x ∈ l.take n, InM m x := fun x hx => hl x (List.mem_of_mem_take hx)
    have hidx : ∀ m', KeepsM g ([0] ++ inn ++ st) m m' → idxL (vl ([0] ++ inn ++ st) m') (l.take n) n = idxL (vl ([0] ++ inn ++ st) m) l n := fun m' hk' =>
      idxL_congr _ _ _ _ n fun q hq => by
        rw [take_getD l n q hq]
        exact hk'.val _ (getD_in hl q)
    have hA : tb (bits .and .u64 (t.fdiv (2 ^ 2 ^ n)) (onesT n)) (idxL (vl ([0] ++ inn ++ st) m) l n) = tb t (2 ^ n + idxL (vl ([0] ++ inn ++ st) m) l n) := by
      rw [tb_and _ n _ (by omega) hlt0 (by omega), tb_shift t ht]
    have hB : tb (bits .and .u64 t (onesT n)) (idxL (vl ([0] ++ inn ++ st) m) l n) = tb t (idxL (vl ([0] ++ inn ++ st) m) l n) := tb_and _ n _ (by omega) hlt0 (by omega)
    have hsplit : idxL (vl ([0] ++ inn ++ st) m) l (n + 1) = if vl ([0] ++ inn ++ st) m (l.getD n 0) = true then 2 ^ n + idxL (vl ([0] ++ inn ++ st) m) l n else idxL (vl ([0] ++ inn ++ st) m) l n := rfl
    rw [mkTable]
    split
    · rename_i h
      refine ⟨hk, ?_⟩
      rw [vl_zero h1 h2, ← hall, h, tb_zero]
    split
    · rename_i h
      refine ⟨hk, ?_⟩
      rw [vl_one h1 h2, ← hall, h]
      unfold tb
      rw [ones_bits (n + 1) hn _ (by omega), decide_eq_true hlt]
    split
    · rename_i h
      obtain ⟨k1, v1⟩ := table_sim n (by omega) m (bits .and .u64 t (onesT n)) (l.take n) hm (u64_and _ _) hta
      refine ⟨k1, ?_⟩
      rw [v1, hidx m hk, hB, hsplit]
      split
      · rw [← hA, h, hB]
      · rfl
    · obtain ⟨a1, i1⟩ := mkTable_after n m (bits .and .u64 (t.fdiv (2 ^ 2 ^ n)) (onesT n)) (l.take n) hta
      obtain ⟨k1, v1⟩ := table_sim n (by omega) m (bits .and .u64 (t.fdiv (2 ^ 2 ^ n)) (onesT n)) (l.take n) hm (u64_and _ _) hta
      rw [hidx m hk, hA] at v1
      have hta1 : ∀ x ∈ l.take n, InM (mkTable n m (bits .and .u64 (t.fdiv (2 ^ 2 ^ n)) (onesT n)) (l.take n)).2 x := fun x hx => a1.up (hta x hx)
      have hy := getD_in hl n
      generalize mkTable n m (bits .and .u64 (t.fdiv (2 ^ 2 ^ n)) (onesT n)) (l.take n) = X1 at *
      obtain ⟨x1, m1⟩ := X1
      simp only at *
      obtain ⟨a2, i2⟩ := mkTable_after n m1 (bits .and .u64 t (onesT n)) (l.take n) hta1
      obtain ⟨k2, v2⟩ := table_sim n (by omega) m1 (bits .and .u64 t (onesT n)) (l.take n) k1.at_ (u64_and _ _) hta1
      rw [hidx m1 k1, hB] at v2
      generalize mkTable n m1 (bits .and .u64 t (onesT n)) (l.take n) = X2 at *
      obtain ⟨x2, m2⟩ := X2
      simp only at *
      have hy2 := a2.up (a1.up hy)
      obtain ⟨k3, v3⟩ := pair_keeps h1 h2 k2.at_ hy2 (a2.up i1) (flip_in hy2) i2
      refine ⟨⟨k3.at_, fun x hx => (k3.val x (a2.up (a1.up hx))).trans ((k2.val x (a1.up hx)).trans (k1.val x hx))⟩, ?_⟩
      rw [v3, k2.val _ i1, v1, v2, hsplit]
      have hf : vl ([0] ++ inn ++ st) m2 (flipL (l.getD n 0)) = !vl ([0] ++ inn ++ st) m2 (l.getD n 0) := lb_flip _ _ hy.1
      rw [hf, (k2.val _ (a1.up hy)).trans (k1.val _ hy)]
      cases vl ([0] ++ inn ++ st) m (l.getD n 0) <;> simp
end
theorem bitK_bit (K N q : Nat) (hN : N ≤ 6) (hq : q < N) (hK : K < 64) : bitK K N (N - 1 - q) = K.testBit q := by
  have h : ∀ s, s < 6 → ∀ K : Nat, K < 64 → (bits .and .i64 ((K : Int).fdiv (2 ^ min s IntKind.i64.bits)) 1 == 1) = K.testBit s := by decide +kernel
  unfold bitK
  rw [show N - 1 - (N - 1 - q) = q by omega]
  exact h q (by omega) K hK
theorem idx_bits (f : Int → Bool) (l : List Int) (K : Nat) : ∀ n, (∀ q, q < n → f (l.getD q 0) = K.testBit q) → idxL f l n = K % 2 ^ n
  | 0, _ => by simp [idxL, Nat.mod_one]
  | n + 1, h => by
    rw [idxL, h n (by omega), idx_bits f l K n (fun q hq => h q (by omega)), Nat.pow_succ, Nat.mod_mul, Nat.testBit_eq_decide_div_mod_eq]
    have h2 : K / 2 ^ n % 2 < 2 := Nat.mod_lt _ (by omega)
    by_cases hb : K / 2 ^ n % 2 = 1
    · rw [hb, if_pos (by simp)]
      omega
    · have h0 : K / 2 ^ n % 2 = 0 := by omega
      rw [h0, if_neg (by simp)]
      omega
theorem tab_at (W : List ByteArray) (N : Nat) (hW : W.length = N) : AtG ⟨W, [strO], [], [], []⟩ (mk0 W) := ⟨rfl, rfl, ⟨fun i p h => by simp at h, ⟨fun p h => by simp at h, by simp⟩⟩⟩
theorem tab_in (W : List ByteArray) (N : Nat) (hW : W.length = N) : ∀ x ∈ tabL N N, InM (mk0 W) x := fun x hx => by
  simp only [tabL, List.mem_map, List.mem_range] at hx
  obtain ⟨q, hq, rfl⟩ := hx
  unfold InM LMk.top LMk.first
  simp only [List.length_nil]
  omega
theorem tableLaw : TableLaw := by
  refine ⟨fun N t hN => ?_, fun N t K hN ht hK => ?_⟩
  · have hW : (wordsV [] N 0 0).1.length = N := (wordsV_pos [] N 0 0).2.2
    have hno := words_mem [] N 0 0
    have hnd := words_nodup [] N 0 (by omega)
    generalize (wordsV [] N 0 0).1 = W at hW hno hnd
    obtain ⟨aft, hx⟩ := mkTable_after N (mk0 W) t (tabL N N) (tab_in W N hW)
    have hnf : ∀ (n : Nat) (m : LMk) (t : Int) (l : List Int), AtG ⟨W, [strO], [], [], []⟩ m → (∀ x ∈ l, InM m x) → AtG ⟨W, [strO], [], [], []⟩ (mkTable n m t l).2 := fun n => by
      induction n with
      | zero => intro m t l hm hl; unfold mkTable; split <;> exact hm
      | succ n ih =>
        intro m t l hm hl
        have hta : ∀ x ∈ l.take n, InM m x := fun x hx => hl x (List.mem_of_mem_take hx)
        rw [mkTable]
        split
        · exact hm
        split
        · exact hm
        split
        · exact ih m _ _ hm hta
        · have k1 := ih m (bits .and .u64 (t.fdiv (2 ^ 2 ^ n)) (onesT n)) (l.take n) hm hta
          obtain ⟨a1, i1⟩ := mkTable_after n m (bits .and .u64 (t.fdiv (2 ^ 2 ^ n)) (onesT n)) (l.take n) hta
          generalize mkTable n m (bits .and .u64 (t.fdiv (2 ^ 2 ^ n)) (onesT n)) (l.take n) = X1 at *
          obtain ⟨x1, m1⟩ := X1
          simp only at *
          have hta1 : ∀ x ∈ l.take n, InM m1 x := fun x hx => a1.up (hta x hx)
          have k2 := ih m1 (bits .and .u64 t (onesT n)) (l.take n) k1 hta1
          obtain ⟨a2, i2⟩ := mkTable_after n m1 (bits .and .u64 t (onesT n)) (l.take n) hta1
          generalize mkTable n m1 (bits .and .u64 t (onesT n)) (l.take n) = X2 at *
          obtain ⟨x2, m2⟩ := X2
          simp only at *
          have hy2 := a2.up (a1.up (getD_in hl n))
          exact (pair_keeps (g := ⟨W, [strO], [], [], []⟩) (inn := W.map fun _ => 0) (st := []) (by simp) rfl k2 hy2 (a2.up i1) (flip_in hy2) i2).1.at_
    have hat := hnf N (mk0 W) t (tabL N N) (tab_at W N hW) (tab_in W N hW)
    unfold tabG tabM
    generalize mkTable N (mk0 W) t (tabL N N) = X at *
    obtain ⟨x, m1⟩ := X
    simp only at *
    have hxi := hat.in_ hx
    have hcap : capT N ≤ 189 := by
      have := pow_le64 hN
      unfold capT
      omega
    have hmost := aft.most
    simp only [List.length_nil, Nat.zero_add] at hmost
    refine ⟨⟨by simp only; omega, by simp, by simp, by simp only; omega, by simp⟩, ?_, ?_, ?_, by simp, rfl, fun i p hp => by have := hat.nf.ands i p hp; simpa using this, by simp, ?_⟩
    · intro s hs
      simp only [List.map_nil, List.append_nil] at hs
      exact hno s hs
    · simpa using hnd
    · intro s hs
      simp only [List.mem_singleton] at hs
      subst hs
      refine ⟨by simp [ByteArray.size], by simp [ByteArray.size], fun b hb => ?_⟩
      simp at hb
      subst hb
      decide
    · intro y hy
      simp only [List.mem_singleton] at hy
      subst hy
      simpa using hxi
  · have hW : (wordsV [] N 0 0).1.length = N := (wordsV_pos [] N 0 0).2.2
    generalize (wordsV [] N 0 0).1 = W at hW
    have hK64 : K < 64 := Nat.lt_of_lt_of_le hK (pow_le64 hN)
    have hin := tab_in W N hW
    obtain ⟨_, hv⟩ := table_sim (g := ⟨W, [strO], [], [], []⟩) (inn := lanes0 (inK K N N)) (st := lanes0 []) (by simp [inK, hW]) rfl N hN (mk0 W) t (tabL N N) (tab_at W N hW) ht hin
    have hbits : ∀ q, q < N → vl ([0] ++ lanes0 (inK K N N) ++ lanes0 []) (mk0 W) ((tabL N N).getD q 0) = K.testBit q := fun q hq => by
      have e : (tabL N N).getD q 0 = 2 * ((1 + (N - 1 - q) : Nat) : Int) := by
        simp only [tabL, List.getD_eq_getElem?_getD, List.getElem?_map]
        rw [List.getElem?_range hq]
        simp
      rw [e, vl, lb_even, ← bitK_bit K N q hN hq hK64]
      have e2 : (valsA (mk0 W).ands ([0] ++ lanes0 (inK K N N) ++ lanes0 [])).getD (1 + (N - 1 - q)) 0 = if bitK K N (N - 1 - q) = true then 1 else 0 := by
        have hlt : N - 1 - q < N := by omega
        simp only [valsA, List.map_nil, List.append_nil]
        rw [Nat.add_comm 1]
        simp [inK, hlt]
      rw [e2, bit0_lane]
    rw [idx_bits _ _ K N hbits, Nat.mod_eq_of_lt hK] at hv
    have e1 : (bits .and .u64 (t.fdiv (2 ^ min K IntKind.u64.bits)) 1 == 1) = tb t K := by
      rw [one_iff, show min K IntKind.u64.bits = K by show min K 64 = K; omega]
      exact tb_shift t ht K 0
    rw [e1, ← hv, laneB_bit0]
    rfl
end Go.Proofs.YtkmnmokjlpenhaaPi
