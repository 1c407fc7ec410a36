/- Plain law: Strash of graphs keeps what a graph shows; done again Clean and Strash change nothing. -/
import Derived.Test.YtkmnmokjlpenhaaPTidyA
set_option linter.unusedVariables false
set_option linter.unusedSimpArgs false
namespace Go.Proofs.YtkmnmokjlpenhaaPi

theorem findA_none (p : Int × Int) : ∀ (ps : List (Int × Int)) (i : Nat), findA p ps i = none ↔ p ∉ ps
  | [], i => by simp [findA]
  | x :: ps, i => by
    rw [findA]
    by_cases h : x = p
    · simp [h]
    · rw [if_neg h, findA_none p ps (i + 1)]
      simp [Ne.symm h]
/-- No and of a graph is trivial, and none stands twice. -/
structure NormA (ands : List (Int × Int)) : Prop where
  lt : ∀ p ∈ ands, 2 ≤ p.1 ∧ p.1 < p.2 ∧ p.1 ≠ flipL p.2
  nodup : ands.Nodup
theorem mkAnd_cases (m : LMk) (a b : Int) : (min a b = 0 ∨ min a b = flipL (max a b)) ∧ mkAnd m a b = (0, m) ∨ (¬ (min a b = 0 ∨ min a b = flipL (max a b))) ∧ ((min a b = 1 ∨ min a b = max a b) ∧ mkAnd m a b = (max a b, m) ∨
    (¬ (min a b = 1 ∨ min a b = max a b)) ∧ ((∃ k : Nat, m.ands[k]? = some (min a b, max a b) ∧ mkAnd m a b = (2 * (m.first + k), m)) ∨ ((min a b, max a b) ∉ m.ands ∧ mkAnd m a b = (2 * (m.first + m.ands.length), { m with ands := m.ands ++ [(min a b, max a b)] })))) := by
  unfold mkAnd
  by_cases h0 : min a b = 0 ∨ min a b = flipL (max a b)
  · exact .inl ⟨h0, by rw [if_pos h0]⟩
  refine .inr ⟨h0, ?_⟩
  rw [if_neg h0]
  by_cases h1 : min a b = 1 ∨ min a b = max a b
  · exact .inl ⟨h1, by rw [if_pos h1]⟩
  refine .inr ⟨h1, ?_⟩
  rw [if_neg h1]
  cases hf : findA (min a b, max a b) m.ands 0 with
  | some k => exact .inl ⟨k, by simpa using (findA_range _ _ _ _ hf).2, rfl⟩
  | none => exact .inr ⟨(findA_none _ _ _).1 hf, rfl⟩
structure StrashNf (g : LGraph) (m : LMk) : Prop where
  ands : ∀ (i : Nat) (p : Int × Int), m.ands[i]? = some p → (0 ≤ p.1 ∧ p.1 < 2 * (1 + (g.inn.length : Int) + g.regs.length + i)) ∧ 0 ≤ p.2 ∧ p.2 < 2 * (1 + (g.inn.length : Int) + g.regs.length + i)
  norm : NormA m.ands
theorem mkAnd_nf (g : LGraph) (m : LMk) (hm : StrashNf g m) (a b : Int) (ha : 0 ≤ a ∧ a < 2 * (1 + (g.inn.length : Int) + g.regs.length + m.ands.length)) (hb : 0 ≤ b ∧ b < 2 * (1 + (g.inn.length : Int) + g.regs.length + m.ands.length)) : StrashNf g (mkAnd m a b).2 := by
  rcases mkAnd_cases m a b with ⟨_, e⟩ | ⟨n0, ⟨_, e⟩ | ⟨n1, ⟨k, _, e⟩ | ⟨hni, e⟩⟩⟩
  · rw [e]; exact hm
  · rw [e]; exact hm
  · rw [e]; exact hm
  · rw [e]
    refine ⟨fun i p hp => ?_, fun p hp => ?_, ?_⟩
    · simp only [List.getElem?_append] at hp
      split at hp
      · exact hm.ands i p hp
      · rename_i hj
        have hj0 : i - m.ands.length = 0 := by
          have := (List.getElem?_eq_some_iff.1 hp).1
          simp at this
          omega
        rw [hj0] at hp
        simp only [List.getElem?_cons_zero, Option.some.injEq] at hp
        subst hp
        simp only
        omega
    · simp only [List.mem_append, List.mem_singleton] at hp
      rcases hp with hp | rfl
      · exact hm.norm.lt p hp
      · simp only
        refine ⟨by omega, by omega, fun h => n0 (.inr h)⟩
    · rw [List.nodup_append]
      refine ⟨hm.norm.nodup, by simp, fun x hx y hy => ?_⟩
      simp only [List.mem_singleton] at hy
      subst hy
      intro h
      subst h
      exact hni hx
theorem strashN_nf (g : LGraph) : ∀ j : Nat, StrashNf g (strashN g j).1
  | 0 => ⟨fun i p h => by simp [strashN] at h, ⟨fun p h => by simp [strashN] at h, by simp [strashN]⟩⟩
  | j + 1 => by
    obtain ⟨h1, h2, h3, h4, h5⟩ := strashN_at g j
    rw [strashN]
    exact mkAnd_nf g _ (strashN_nf g j) _ _ (atV_range h4 (by omega) _) (atV_range h4 (by omega) _)
theorem strashL_ok {g : LGraph} (hg : GraphOk g) : GraphOk (strashL g) := by
  obtain ⟨h1, h2, h3, h4, h5⟩ := strashN_at g g.ands.length
  have := hg.small.ands
  exact movedG_ok hg _ _ (by unfold strashG; omega) (strashN_nf g g.ands.length).ands h4
theorem strashL_less (g : LGraph) : (strashL g).ands.length ≤ g.ands.length := (strashN_at g g.ands.length).ands

theorem vals_lb (ps : List (Int × Int)) (v : List Int) (i : Nat) (p : Int × Int) (hp : ps[i]? = some p) (hr : ∀ (i : Nat) (p : Int × Int), ps[i]? = some p → (0 ≤ p.1 ∧ p.1 < 2 * ((v.length : Int) + i)) ∧ 0 ≤ p.2 ∧ p.2 < 2 * ((v.length : Int) + i)) :
    lb (valsA ps v) (2 * ((v.length + i : Nat) : Int)) = (lb (valsA ps v) p.1 && lb (valsA ps v) p.2) := by
  have h := valsA_node ps v i p hp hr
  rw [lb_even, show bit0 ((valsA ps v).getD (v.length + i) 0) = (bv ((valsA ps v).getD (v.length + i) 0)).getLsbD 0 from rfl, h, lb_litB, lb_litB]
  simp
theorem lb_minmax (v : List Int) (a b : Int) : (lb v (min a b) && lb v (max a b)) = (lb v a && lb v b) := by
  by_cases h : a ≤ b
  · rw [Int.min_eq_left h, Int.max_eq_right h]
  · rw [Int.min_eq_right (by omega), Int.max_eq_left (by omega), Bool.and_comm]
section
variable {g : LGraph} {inn st : List Int} (h1 : inn.length = g.inn.length) (h2 : st.length = g.regs.length)
include h1 h2
theorem mkAnd_sim (m : LMk) (hm : StrashNf g m) (e1 : m.inn = g.inn) (e2 : m.regs = g.regs) (a b : Int) (ha : 0 ≤ a ∧ a < 2 * (1 + (g.inn.length : Int) + g.regs.length + m.ands.length)) (hb : 0 ≤ b ∧ b < 2 * (1 + (g.inn.length : Int) + g.regs.length + m.ands.length)) :
    lb (valsA (mkAnd m a b).2.ands ([0] ++ inn ++ st)) (mkAnd m a b).1 = (lb (valsA m.ands ([0] ++ inn ++ st)) a && lb (valsA m.ands ([0] ++ inn ++ st)) b) ∧
    ∀ l : Int, 0 ≤ l → l < 2 * (1 + (g.inn.length : Int) + g.regs.length + m.ands.length) → lb (valsA (mkAnd m a b).2.ands ([0] ++ inn ++ st)) l = lb (valsA m.ands ([0] ++ inn ++ st)) l := by
  have hbl : ([0] ++ inn ++ st).length = 1 + g.inn.length + g.regs.length := by simp; omega
  have hw : (valsA m.ands ([0] ++ inn ++ st)).length = 1 + g.inn.length + g.regs.length + m.ands.length := by rw [valsA_len, hbl]
  have hoff : lb (valsA m.ands ([0] ++ inn ++ st)) 0 = false := by
    have := lb_even (valsA m.ands ([0] ++ inn ++ st)) 0
    rw [show (2 * ((0 : Nat) : Int)) = 0 by rfl] at this
    rw [this, valsA_pre _ _ _ (by omega)]
    simp [bit0]
  have hon : lb (valsA m.ands ([0] ++ inn ++ st)) 1 = true := by
    have := lb_flip (valsA m.ands ([0] ++ inn ++ st)) 0 (by omega)
    rw [hoff] at this
    exact this
  have hmm := lb_minmax (valsA m.ands ([0] ++ inn ++ st)) a b
  rcases mkAnd_cases m a b with ⟨h0, e⟩ | ⟨n0, ⟨h0, e⟩ | ⟨n1, ⟨k, hk, e⟩ | ⟨hni, e⟩⟩⟩
  · rw [e]
    refine ⟨?_, fun l _ _ => rfl⟩
    simp only
    rw [hoff, ← hmm]
    rcases h0 with h0 | h0
    · rw [h0, hoff, Bool.false_and]
    · rw [h0, lb_flip _ _ (by omega)]
      cases lb (valsA m.ands ([0] ++ inn ++ st)) (max a b) <;> rfl
  · rw [e]
    refine ⟨?_, fun l _ _ => rfl⟩
    simp only
    rw [← hmm]
    rcases h0 with h0 | h0
    · rw [h0, hon, Bool.true_and]
    · rw [h0, Bool.and_self]
  · rw [e]
    refine ⟨?_, fun l _ _ => rfl⟩
    simp only
    rw [← hmm]
    have := vals_lb m.ands ([0] ++ inn ++ st) k _ hk (fun i p hp => by have := hm.ands i p hp; rw [hbl]; omega)
    rw [← this, hbl]
    congr 1
    simp only [LMk.first, e1, e2]
    omega
  · rw [e]
    simp only
    rw [valsA_snoc]
    refine ⟨?_, fun l l0 l1 => ?_⟩
    · have := lb_last (valsA m.ands ([0] ++ inn ++ st)) (min a b) (max a b)
      rw [← hmm, ← this, hw]
      congr 1
      simp only [LMk.first, e1, e2]
      omega
    · exact lb_app _ _ _ l0 (by rw [hw]; omega)
theorem strash_sim (hg : GraphOk g) : ∀ j : Nat, j ≤ g.ands.length → ∀ k, k < 1 + g.inn.length + g.regs.length + j → lb (valsA (strashN g j).1.ands ([0] ++ inn ++ st)) ((strashN g j).2.getD k 0) = bit0 ((graphVals g inn st).getD k 0)
  | 0, _, k, hk => by
    have hbl : ([0] ++ inn ++ st).length = 1 + g.inn.length + g.regs.length := by simp; omega
    have e : (strashN g 0).2.getD k 0 = 2 * (k : Int) := by
      simp only [strashN, toIn, List.getD_eq_getElem?_getD, List.getElem?_map]
      rw [List.getElem?_range (by omega)]
      rfl
    rw [e, lb_even, valsA_pre _ _ _ (by omega), graphVals, valsA_pre _ _ _ (by omega)]
  | j + 1, hj, k, hk => by
    have ih := strash_sim hg j (by omega)
    obtain ⟨s1, s2, s3, s4, s5⟩ := strashN_at g j
    have hnf := strashN_nf g j
    obtain ⟨p, hp, _, _⟩ := node_at g.ands j (by omega)
    obtain ⟨⟨p1, p2⟩, p3, p4⟩ := hg.ands j p hp
    have hgd : g.ands.getD j (0, 0) = p := by simp [hp]
    rw [strashN, hgd]
    generalize strashN g j = S at ih s1 s2 s3 s4 s5 hnf
    obtain ⟨m, T⟩ := S
    simp only at ih s1 s2 s3 s4 s5 hnf ⊢
    have hT : ∀ q : Nat, 0 ≤ T.getD q 0 ∧ T.getD q 0 < 2 * (1 + (g.inn.length : Int) + g.regs.length + m.ands.length) := fun q => by
      rw [List.getD_eq_getElem?_getD]
      cases hq : T[q]? with
      | none => simp; omega
      | some x => exact s4 x (List.mem_of_getElem? hq)
    obtain ⟨q1, q2⟩ := mkAnd_sim h1 h2 m hnf s1 s2 (atV T p.1) (atV T p.2) (atV_range s4 (by omega) _) (atV_range s4 (by omega) _)
    by_cases hkj : k < 1 + g.inn.length + g.regs.length + j
    · rw [getD_left (by omega), q2 _ (hT k).1 (hT k).2]
      exact ih k hkj
    · have hk2 : k = 1 + g.inn.length + g.regs.length + j := by omega
      have e : (T ++ [(mkAnd m (atV T p.1) (atV T p.2)).1]).getD k 0 = (mkAnd m (atV T p.1) (atV T p.2)).1 := by rw [hk2, ← s5]; exact getD_end T _
      rw [e, q1, lb_at p.1 (hT _).1 (ih _ (by omega)), lb_at p.2 (hT _).1 (ih _ (by omega)), hk2]
      exact (node_lb hg h1 h2 j p hp).symm
end
theorem strashL_run {g : LGraph} (hg : GraphOk g) (tr : List (List Bool)) (hr : ∀ r ∈ tr, r.length = g.inn.length) : runI (strashL g) tr = runI g tr := by
  refine runI_moved g _ _ (fun inn st h1 h2 l hl => ?_) tr hr
  have hroot : l ∈ rootsG g := by
    simp only [rootsG, List.mem_append, List.mem_map]
    rcases hl with h | ⟨r, h, rfl⟩
    · exact .inl h
    · exact .inr ⟨r, h, rfl⟩
  obtain ⟨r1, r2⟩ := roots_in hg l hroot
  have hs := strash_sim h1 h2 hg g.ands.length (Nat.le_refl _) (l / 2).toNat (by omega)
  have a2 := (strashN_at g g.ands.length).to
  refine lb_at l ?_ hs
  show 0 ≤ (strashN g g.ands.length).2.getD _ 0
  rw [List.getD_eq_getElem?_getD]
  cases hq : (strashN g g.ands.length).2[(l / 2).toNat]? with
  | none => simp
  | some x => exact (a2 x (List.mem_of_getElem? hq)).1
end Go.Proofs.YtkmnmokjlpenhaaPi
