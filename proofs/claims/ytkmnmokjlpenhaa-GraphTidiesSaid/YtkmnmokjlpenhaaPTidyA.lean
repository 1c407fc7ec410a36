/- Plain law: Clean and Strash of graphs keep what a graph shows. -/
import Derived.Test.YtkmnmokjlpenhaaWGE
import Derived.Test.YtkmnmokjlpenhaaPLane
import Derived.Test.YtkmnmokjlpenhaaPWords
set_option linter.unusedVariables false
set_option linter.unusedSimpArgs false
namespace Go.Proofs.YtkmnmokjlpenhaaPi

/-- Lane 0 of a literal. -/
def lb (v : List Int) (l : Int) : Bool := bit0 (ofV v l)
theorem lb_litB (v : List Int) (l : Int) : lb v l = (litB v l).getLsbD 0 := by
  rw [← bv_of]; rfl
theorem lb_flip (v : List Int) (l : Int) (h : 0 ≤ l) : lb v (flipL l) = !lb v l := by
  rw [lb_litB, lb_litB, litB_flip v l h]
  simp
theorem lb_def (v : List Int) (l : Int) : lb v l = if l % 2 = 1 then !bit0 (v.getD (l / 2).toNat 0) else bit0 (v.getD (l / 2).toNat 0) := by
  unfold lb ofV
  split
  · rw [vnot, bit0_not]
  · rfl
theorem lb_even (v : List Int) (k : Nat) : lb v (2 * (k : Int)) = bit0 (v.getD k 0) := by
  rw [lb_def, if_neg (by omega), show (2 * (k : Int) / 2).toNat = k by omega]
theorem lb_app (v w : List Int) (l : Int) (h0 : 0 ≤ l) (h : l < 2 * (v.length : Int)) : lb (v ++ w) l = lb v l := by
  have e : (v ++ w).getD (l / 2).toNat 0 = v.getD (l / 2).toNat 0 := by
    simp only [List.getD_eq_getElem?_getD]
    rw [List.getElem?_append_left (by omega)]
  rw [lb_def, lb_def, e]
theorem lb_at {v v' to : List Int} (l : Int) (h0 : 0 ≤ to.getD (l / 2).toNat 0) (h : lb v' (to.getD (l / 2).toNat 0) = bit0 (v.getD (l / 2).toNat 0)) : lb v' (atV to l) = lb v l := by
  rw [lb_def v l]
  unfold atV
  split
  · rw [lb_flip _ _ h0, h]
  · exact h
theorem valsA_snoc (p : Int × Int) : ∀ (ps : List (Int × Int)) (v : List Int), valsA (ps ++ [p]) v = valsA ps v ++ [bits .and .u64 (ofV (valsA ps v) p.1) (ofV (valsA ps v) p.2)]
  | [], v => rfl
  | q :: ps, v => by
    rw [List.cons_append, valsA, valsA_snoc p ps, valsA]
theorem lb_last (w : List Int) (a b : Int) : lb (w ++ [bits .and .u64 (ofV w a) (ofV w b)]) (2 * (w.length : Int)) = (lb w a && lb w b) := by
  rw [lb_even]
  simp [bit0_and, lb]
theorem same0_mapM {α : Type} (l : List α) (f f' : α → Int) (h : ∀ x ∈ l, bit0 (f x) = bit0 (f' x)) : same0 (l.map f) (l.map f') := by
  refine ⟨by simp, fun k => ?_⟩
  simp only [List.getD_eq_getElem?_getD, List.getElem?_map]
  cases hk : l[k]? with
  | none => rfl
  | some x => exact h x (List.mem_of_getElem? hk)
theorem runG_moved (g : LGraph) (ands : List (Int × Int)) (to : List Int)
    (H : ∀ inn st : List Int, inn.length = g.inn.length → st.length = g.regs.length → ∀ l, (l ∈ g.outs ∨ ∃ r ∈ g.regs, l = r.next) → lb (graphVals (movedG g ands to) inn st) (atV to l) = lb (graphVals g inn st) l) :
    ∀ (t : List (List Bool)) (st : List Int), (∀ r ∈ t, r.length = g.inn.length) → st.length = g.regs.length → runG (movedG g ands to) st t = runG g st t
  | [], st, _, _ => rfl
  | r :: t, st, hr, hst => by
    have h1 := H (lanes0 r) st (by simpa using hr r (by simp)) hst
    generalize hv' : graphVals (movedG g ands to) (lanes0 r) st = v' at h1
    generalize hv : graphVals g (lanes0 r) st = v at h1
    simp only [runG, hv, hv']
    have e1 : laneB (outsG (movedG g ands to) v') = laneB (outsG g v) := by
      rw [laneB_bit0, laneB_bit0]
      simp only [outsG, movedG, List.map_map]
      exact List.map_congr_left fun x hx => h1 x (.inl hx)
    have e2 : same0 (nextsG (movedG g ands to) v') (nextsG g v) := by
      simp only [nextsG, movedG, List.map_map]
      exact same0_mapM g.regs _ _ fun x hx => h1 x.next (.inr ⟨x, hx, rfl⟩)
    rw [e1, runG_same _ t e2, runG_moved g ands to H t (nextsG g v) (fun x hx => hr x (by simp [hx])) (by simp [nextsG])]
theorem runI_moved (g : LGraph) (ands : List (Int × Int)) (to : List Int)
    (H : ∀ inn st : List Int, inn.length = g.inn.length → st.length = g.regs.length → ∀ l, (l ∈ g.outs ∨ ∃ r ∈ g.regs, l = r.next) → lb (graphVals (movedG g ands to) inn st) (atV to l) = lb (graphVals g inn st) l)
    (t : List (List Bool)) (hr : ∀ r ∈ t, r.length = g.inn.length) : runI (movedG g ands to) t = runI g t := by
  have e : initG (movedG g ands to) = initG g := by simp [initG, movedG]
  rw [runI, runI, e]
  exact runG_moved g ands to H t _ hr (by simp)
/-- The node's value. -/
theorem node_lb {g : LGraph} (hg : GraphOk g) {inn st : List Int} (h1 : inn.length = g.inn.length) (h2 : st.length = g.regs.length) (i : Nat) (p : Int × Int) (hp : g.ands[i]? = some p) : bit0 ((graphVals g inn st).getD (1 + g.inn.length + g.regs.length + i) 0) = (lb (graphVals g inn st) p.1 && lb (graphVals g inn st) p.2) := by
  have h := g_and hg h1 h2 i p hp
  rw [← lb_even, show (2 * ((1 + g.inn.length + g.regs.length + i : Nat) : Int)) = 2 * (1 + (g.inn.length : Int) + g.regs.length + i) by omega, lb_litB, h, lb_litB, lb_litB]
  simp
theorem movedG_ok {g : LGraph} (hg : GraphOk g) (ands : List (Int × Int)) (to : List Int) (h1 : ands.length ≤ 4000)
    (h2 : ∀ (i : Nat) (p : Int × Int), ands[i]? = some p → (0 ≤ p.1 ∧ p.1 < 2 * (1 + (g.inn.length : Int) + g.regs.length + i)) ∧ 0 ≤ p.2 ∧ p.2 < 2 * (1 + (g.inn.length : Int) + g.regs.length + i))
    (h3 : ∀ x ∈ to, 0 ≤ x ∧ x < 2 * (1 + (g.inn.length : Int) + g.regs.length + ands.length)) : GraphOk (movedG g ands to) := by
  have hn : (movedG g ands to).regs.map LReg.name = g.regs.map LReg.name := by simp [movedG]
  have hl : (movedG g ands to).regs.length = g.regs.length := by simp [movedG]
  have hr := fun l => atV_range h3 (by omega) l
  refine ⟨⟨hg.small.inn, hg.small.out, by rw [hl]; exact hg.small.regs, h1, by simp [movedG, hg.small.outs]⟩, ?_, ?_, hg.onames, hg.onodup, by simp [movedG, hg.olen], ?_, ?_, ?_⟩
  · rw [hn]; exact hg.names
  · rw [hn]; exact hg.nodup
  · rw [hl]; exact h2
  · rw [hl]
    intro r hr'
    simp only [movedG, List.mem_map] at hr'
    obtain ⟨r0, _, rfl⟩ := hr'
    exact hr _
  · rw [hl]
    intro x hx
    simp only [movedG, List.mem_map] at hx
    obtain ⟨l, _, rfl⟩ := hx
    exact hr l

/- The cone. -/
theorem set_getD (v : List Bool) (i k : Nat) : (v.set i true).getD k false = if i = k ∧ k < v.length then true else v.getD k false := by
  simp only [List.getD_eq_getElem?_getD, List.getElem?_set]
  by_cases h : i = k
  · subst h
    by_cases h2 : i < v.length
    · simp [h2]
    · simp [h2]
  · simp [h]
theorem set_mono {v : List Bool} {i k : Nat} (h : v.getD k false = true) : (v.set i true).getD k false = true := by
  rw [set_getD]
  split
  · rfl
  · exact h
theorem coneStep_mono (g : LGraph) {v : List Bool} (i : Nat) {k : Nat} (h : v.getD k false = true) : (coneStep g v i).getD k false = true := by
  unfold coneStep
  split
  · exact set_mono (set_mono h)
  · exact h
theorem coneDown_mono (g : LGraph) : ∀ (i : Nat) {v : List Bool} {k : Nat}, v.getD k false = true → (coneDown g i v).getD k false = true
  | 0, _, _, h => h
  | i + 1, _, _, h => coneDown_mono g i (coneStep_mono g i h)
theorem coneRoots_mono : ∀ (roots : List Int) {v : List Bool} {k : Nat}, v.getD k false = true → (coneRoots v roots).getD k false = true
  | [], _, _, h => h
  | l :: t, v, k, h => coneRoots_mono t (v := v.set (l / 2).toNat true) (set_mono h)
theorem coneRoots_in : ∀ (roots : List Int) {v : List Bool} (l : Int), l ∈ roots → (l / 2).toNat < v.length → (coneRoots v roots).getD (l / 2).toNat false = true
  | x :: t, v, l, h, hv => by
    rcases List.mem_cons.1 h with rfl | h
    · exact coneRoots_mono t (v := v.set (l / 2).toNat true) (by rw [set_getD, if_pos ⟨rfl, hv⟩])
    · exact coneRoots_in t (v := v.set (x / 2).toNat true) l h (by simpa using hv)
section
variable {g : LGraph} (hg : GraphOk g)
include hg
theorem coneStep_high (v : List Bool) (i : Nat) (hi : i < g.ands.length) (k : Nat) (hk : 1 + g.inn.length + g.regs.length + i ≤ k) : (coneStep g v i).getD k false = v.getD k false := by
  unfold coneStep
  obtain ⟨p, hp, _, _⟩ := node_at g.ands i hi
  obtain ⟨⟨p1, p2⟩, p3, p4⟩ := hg.ands i p hp
  have e : g.ands.getD i (0, 0) = p := by simp [hp]
  rw [e]
  split
  · rw [set_getD, if_neg (by omega), set_getD, if_neg (by omega)]
  · rfl
theorem coneDown_high : ∀ (i : Nat), i ≤ g.ands.length → ∀ (v : List Bool) (k : Nat), 1 + g.inn.length + g.regs.length + i ≤ k + 1 → (coneDown g i v).getD k false = v.getD k false
  | 0, _, _, _, _ => rfl
  | i + 1, hi, v, k, hk => by
    rw [coneDown, coneDown_high i (by omega) _ k (by omega), coneStep_high hg v i (by omega) k (by omega)]
theorem coneDown_closed : ∀ (i : Nat), i ≤ g.ands.length → ∀ (v : List Bool), v.length = nodesN g → ∀ (j : Nat) (p : Int × Int), j < i → g.ands[j]? = some p → (coneDown g i v).getD (1 + g.inn.length + g.regs.length + j) false = true →
    (coneDown g i v).getD (p.1 / 2).toNat false = true ∧ (coneDown g i v).getD (p.2 / 2).toNat false = true
  | 0, _, _, _, j, _, h, _, _ => absurd h (by omega)
  | i + 1, hi, v, hv, j, p, hj, hp, hn => by
    rw [coneDown] at hn ⊢
    by_cases hji : j < i
    · exact coneDown_closed i (by omega) _ (by rw [coneStep_len, hv]) j p hji hp hn
    have : j = i := by omega
    subst this
    rw [coneDown_high hg j (by omega) _ _ (by omega), coneStep_high hg v j (by omega) _ (by omega)] at hn
    have hlt := (List.getElem?_eq_some_iff.1 hp).1
    obtain ⟨⟨p1, p2⟩, p3, p4⟩ := hg.ands j p hp
    have e : g.ands.getD j (0, 0) = p := by simp [hp]
    have hs : coneStep g v j = (v.set (p.1 / 2).toNat true).set (p.2 / 2).toNat true := by rw [coneStep, if_pos hn, e]
    unfold nodesN at hv
    refine ⟨coneDown_mono g j ?_, coneDown_mono g j ?_⟩
    · rw [hs]
      exact set_mono (by rw [set_getD, if_pos ⟨rfl, by omega⟩])
    · rw [hs, set_getD, if_pos ⟨rfl, by rw [List.length_set]; omega⟩]
/-- What the graph shows needs. -/
theorem cone_closed (j : Nat) (p : Int × Int) (hp : g.ands[j]? = some p) (hn : (coneV g (rootsG g)).getD (1 + g.inn.length + g.regs.length + j) false = true) :
    (coneV g (rootsG g)).getD (p.1 / 2).toNat false = true ∧ (coneV g (rootsG g)).getD (p.2 / 2).toNat false = true :=
  coneDown_closed hg _ (Nat.le_refl _) _ (by rw [coneRoots_len]; simp) j p (List.getElem?_eq_some_iff.1 hp).1 hp hn
theorem cone_root (l : Int) (h : l ∈ rootsG g) : (coneV g (rootsG g)).getD (l / 2).toNat false = true := by
  have := roots_in hg l h
  exact coneDown_mono g _ (coneRoots_in _ l h (by simp [nodesN]; omega))
end

/- Clean. -/
abbrev keptN (g : LGraph) (k : Nat) : Prop := k < 1 + g.inn.length + g.regs.length ∨ (coneV g (rootsG g)).getD k false = true
theorem getD_left {v w : List Int} {k : Nat} (h : k < v.length) : (v ++ w).getD k 0 = v.getD k 0 := by
  simp only [List.getD_eq_getElem?_getD]
  rw [List.getElem?_append_left h]
theorem getD_end (v : List Int) (x : Int) : (v ++ [x]).getD v.length 0 = x := by simp
theorem cleanN_range (g : LGraph) (need : List Bool) : ∀ i : Nat, ((cleanN g need i).1.length ≤ i - (1 + g.inn.length + g.regs.length)) ∧ (∀ x ∈ (cleanN g need i).2.1, 0 ≤ x ∧ x < 2 * (1 + (g.inn.length : Int) + g.regs.length + (cleanN g need i).1.length)) ∧
    ∀ (j : Nat) (p : Int × Int), (cleanN g need i).1[j]? = some p → (0 ≤ p.1 ∧ p.1 < 2 * (1 + (g.inn.length : Int) + g.regs.length + j)) ∧ 0 ≤ p.2 ∧ p.2 < 2 * (1 + (g.inn.length : Int) + g.regs.length + j)
  | 0 => ⟨by simp [cleanN], fun x hx => by simp [cleanN] at hx, fun j p h => by simp [cleanN] at h⟩
  | i + 1 => by
    obtain ⟨h1, h2, h3⟩ := cleanN_range g need i
    rw [cleanN]
    generalize cleanN g need i = C at h1 h2 h3
    obtain ⟨A, T, P⟩ := C
    simp only at h1 h2 h3
    unfold cleanStep
    split
    · refine ⟨by simp only; omega, fun x hx => ?_, h3⟩
      simp only [List.mem_append, List.mem_singleton] at hx ⊢
      rcases hx with hx | rfl
      · exact h2 x hx
      · omega
    · split
      · have hr := fun l => atV_range h2 (by omega) l
        refine ⟨by simp only [List.length_append, List.length_cons, List.length_nil]; omega, fun x hx => ?_, fun j p hp => ?_⟩
        · simp only [List.mem_append, List.mem_singleton, List.length_append, List.length_cons, List.length_nil] at hx ⊢
          rcases hx with hx | rfl
          · have := h2 x hx
            omega
          · omega
        · simp only [List.getElem?_append] at hp
          split at hp
          · exact h3 j p hp
          · rename_i hj
            have hj0 : j - A.length = 0 := by
              have := (List.getElem?_eq_some_iff.1 hp).1
              simp at this
              omega
            rw [hj0] at hp
            simp only [List.getElem?_cons_zero, Option.some.injEq] at hp
            subst hp
            have e1 := hr (g.ands.getD (i - (1 + g.inn.length + g.regs.length)) (0, 0)).1
            have e2 := hr (g.ands.getD (i - (1 + g.inn.length + g.regs.length)) (0, 0)).2
            simp only
            omega
      · refine ⟨by simp only; omega, fun x hx => ?_, h3⟩
        simp only [List.mem_append, List.mem_singleton] at hx ⊢
        rcases hx with hx | rfl
        · exact h2 x hx
        · omega
theorem cleanL_ok {g : LGraph} (hg : GraphOk g) : GraphOk (cleanL g) := by
  obtain ⟨h1, h2, h3⟩ := cleanN_range g (coneV g (rootsG g)) (nodesN g)
  have := hg.small.ands
  exact movedG_ok hg _ _ (by unfold cleanG; unfold nodesN at h1 ⊢; omega) h3 h2
theorem cleanL_less (g : LGraph) : (cleanL g).ands.length ≤ g.ands.length := by
  obtain ⟨h1, h2, h3⟩ := cleanN_range g (coneV g (rootsG g)) (nodesN g)
  show (cleanG g).1.length ≤ _
  unfold cleanG
  unfold nodesN at h1 ⊢
  omega
section
variable {g : LGraph} (hg : GraphOk g) {inn st : List Int} (h1 : inn.length = g.inn.length) (h2 : st.length = g.regs.length)
include hg h1 h2
theorem clean_sim : ∀ i : Nat, i ≤ nodesN g → ∀ k, k < i → keptN g k → lb (valsA (cleanN g (coneV g (rootsG g)) i).1 ([0] ++ inn ++ st)) ((cleanN g (coneV g (rootsG g)) i).2.1.getD k 0) = bit0 ((graphVals g inn st).getD k 0)
  | 0, _, k, h, _ => absurd h (by omega)
  | i + 1, hi, k, hk, hkept => by
    have ih := clean_sim i (by omega)
    obtain ⟨a1, a2, a3⟩ := cleanN_range g (coneV g (rootsG g)) i
    obtain ⟨b1, b2, b3⟩ := cleanN_len g (coneV g (rootsG g)) i
    rw [cleanN]
    generalize cleanN g (coneV g (rootsG g)) i = C at ih a1 a2 a3 b1 b2 b3
    obtain ⟨A, T, P⟩ := C
    simp only at ih a1 a2 a3 b1 b2 b3
    have hbl : ([0] ++ inn ++ st).length = 1 + g.inn.length + g.regs.length := by simp; omega
    have hw : (valsA A ([0] ++ inn ++ st)).length = 1 + g.inn.length + g.regs.length + A.length := by rw [valsA_len, hbl]
    unfold nodesN at hi
    unfold cleanStep
    split
    · rename_i hF
      simp only
      by_cases hki : k < i
      · rw [getD_left (by omega)]
        exact ih k hki hkept
      · have : k = i := by omega
        subst this
        have e : (T ++ [2 * (k : Int)]).getD k 0 = 2 * (k : Int) := by rw [← b2]; exact getD_end T _
        rw [e, lb_even, valsA_pre _ _ _ (by omega), graphVals, valsA_pre _ _ _ (by omega)]
    · rename_i hF
      split
      · rename_i hnd
        simp only
        rw [valsA_snoc]
        by_cases hki : k < i
        · rw [getD_left (by omega)]
          have hx : T.getD k 0 ∈ T := by
            rw [List.getD_eq_getElem?_getD, List.getElem?_eq_getElem (by omega)]
            exact List.getElem_mem _
          have := a2 _ hx
          rw [lb_app _ _ _ this.1 (by rw [hw]; omega)]
          exact ih k hki hkept
        · have hk2 : k = i := by omega
          subst hk2
          have e : (T ++ [2 * (1 + (g.inn.length : Int) + g.regs.length + A.length)]).getD k 0 = 2 * ((valsA A ([0] ++ inn ++ st)).length : Int) := by
            rw [← b2, getD_end, hw]
            omega
          rw [e, lb_last]
          obtain ⟨j, hj⟩ : ∃ j, k = 1 + g.inn.length + g.regs.length + j := ⟨k - (1 + g.inn.length + g.regs.length), by omega⟩
          obtain ⟨p, hp, _, _⟩ := node_at g.ands j (by omega)
          obtain ⟨⟨p1, p2⟩, p3, p4⟩ := hg.ands j p hp
          have hgd : g.ands.getD (k - (1 + g.inn.length + g.regs.length)) (0, 0) = p := by rw [show k - (1 + g.inn.length + g.regs.length) = j by omega]; simp [hp]
          rw [hgd]
          have hcl := cone_closed hg j p hp (by rw [← hj]; exact hnd)
          have hT : ∀ q : Nat, 0 ≤ T.getD q 0 := fun q => by
            rw [List.getD_eq_getElem?_getD]
            cases hq : T[q]? with
            | none => simp
            | some x => exact (a2 x (List.mem_of_getElem? hq)).1
          rw [lb_at p.1 (hT _) (ih _ (by omega) (.inr hcl.1)), lb_at p.2 (hT _) (ih _ (by omega) (.inr hcl.2)), hj]
          exact (node_lb hg h1 h2 j p hp).symm
      · rename_i hnd
        simp only
        by_cases hki : k < i
        · rw [getD_left (by omega)]
          exact ih k hki hkept
        · have : k = i := by omega
          subst this
          rcases hkept with h | h
          · exact absurd h hF
          · exact absurd h hnd
end
theorem cleanL_run {g : LGraph} (hg : GraphOk g) (tr : List (List Bool)) (hr : ∀ r ∈ tr, r.length = g.inn.length) : runI (cleanL g) tr = runI g tr := by
  refine runI_moved g _ _ (fun inn st h1 h2 l hl => ?_) tr hr
  have hroot : l ∈ rootsG g := by
    simp only [rootsG, List.mem_append, List.mem_map]
    rcases hl with h | ⟨r, h, rfl⟩
    · exact .inl h
    · exact .inr ⟨r, h, rfl⟩
  obtain ⟨r1, r2⟩ := roots_in hg l hroot
  have hs := clean_sim hg h1 h2 (nodesN g) (Nat.le_refl _) (l / 2).toNat (by unfold nodesN; omega) (.inr (cone_root hg l hroot))
  obtain ⟨a1, a2, a3⟩ := cleanN_range g (coneV g (rootsG g)) (nodesN g)
  refine lb_at l ?_ hs
  show 0 ≤ (cleanN g (coneV g (rootsG g)) (nodesN g)).2.1.getD _ 0
  rw [List.getD_eq_getElem?_getD]
  cases hq : (cleanN g (coneV g (rootsG g)) (nodesN g)).2.1[(l / 2).toNat]? with
  | none => simp
  | some x => exact (a2 x (List.mem_of_getElem? hq)).1
end Go.Proofs.YtkmnmokjlpenhaaPi
