/- Plain law: Strash of what has no trivial or double and changes nothing; Clean leaves such. The law of GraphTidies. -/
import Derived.Test.YtkmnmokjlpenhaaPTidyB
set_option linter.unusedVariables false
set_option linter.unusedSimpArgs false
namespace Go.Proofs.YtkmnmokjlpenhaaPi

theorem toIn_get (K k : Nat) (h : k < K) : (toIn K).getD k 0 = 2 * (k : Int) := by
  simp only [toIn, List.getD_eq_getElem?_getD, List.getElem?_map]
  rw [List.getElem?_range h]
  rfl
theorem atV_toIn (K : Nat) (l : Int) (h0 : 0 ≤ l) (h : l < 2 * (K : Int)) : atV (toIn K) l = l := by
  unfold atV
  rw [toIn_get K (l / 2).toNat (by omega)]
  unfold flipL
  split
  · first | omega | (rw [if_pos (by omega)]; omega)
  · omega
theorem strash_same {g : LGraph} (hg : GraphOk g) (hn : NormA g.ands) : ∀ j : Nat, j ≤ g.ands.length → strashN g j = (⟨g.inn, g.regs, g.ands.take j, 0⟩, toIn (1 + g.inn.length + g.regs.length + j))
  | 0, _ => by rw [strashN]; rfl
  | j + 1, hj => by
    obtain ⟨p, hp, hpm, _⟩ := node_at g.ands j (by omega)
    obtain ⟨⟨p1, p2⟩, p3, p4⟩ := hg.ands j p hp
    have hgd : g.ands.getD j (0, 0) = p := by simp [hp]
    obtain ⟨l1, l2, l3⟩ := hn.lt p hpm
    rw [strashN, strash_same hg hn j (by omega), hgd]
    simp only
    rw [atV_toIn _ p.1 p1 (by omega), atV_toIn _ p.2 p3 (by omega)]
    have hmin : min p.1 p.2 = p.1 := Int.min_eq_left (by omega)
    have hmax : max p.1 p.2 = p.2 := Int.max_eq_right (by omega)
    have hjl : (g.ands.take j).length = j := by simp; omega
    have htk : g.ands.take (j + 1) = g.ands.take j ++ [p] := by simp [List.take_add_one, hp]
    have hnd := hn.nodup
    have hsplit : g.ands = g.ands.take (j + 1) ++ g.ands.drop (j + 1) := (List.take_append_drop _ _).symm
    rw [hsplit, htk, List.nodup_append, List.nodup_append] at hnd
    have hni : p ∉ g.ands.take j := fun h => hnd.1.2.2 p h p (by simp) rfl
    rcases mkAnd_cases ⟨g.inn, g.regs, g.ands.take j, 0⟩ p.1 p.2 with ⟨h0, e⟩ | ⟨n0, ⟨h0, e⟩ | ⟨n1, ⟨k, hk, e⟩ | ⟨_, e⟩⟩⟩
    · rw [hmin, hmax] at h0
      rcases h0 with h0 | h0
      · omega
      · exact absurd h0 l3
    · rw [hmin, hmax] at h0
      omega
    · rw [hmin, hmax] at hk
      exact absurd (List.mem_of_getElem? hk) hni
    · rw [e, hmin, hmax, htk, show 1 + g.inn.length + g.regs.length + (j + 1) = (1 + g.inn.length + g.regs.length + j) + 1 by omega, toIn_succ]
      simp only [LMk.first, hjl]
      congr 3
theorem strashL_same {g : LGraph} (hg : GraphOk g) (hn : NormA g.ands) : (strashL g).ands.length = g.ands.length := by
  show (strashG g).1.ands.length = _
  rw [strashG, strash_same hg hn g.ands.length (Nat.le_refl _)]
  simp
/-- What Clean keeps stands in order. -/
structure CleanNf (g : LGraph) (i : Nat) (s : List (Int × Int) × List Int × List Int) : Prop where
  low : ∀ k, k < i → k < 1 + g.inn.length + g.regs.length → s.2.1.getD k 0 = 2 * (k : Int)
  even : ∀ k, k < i → keptN g k → s.2.1.getD k 0 % 2 = 0 ∧ (1 ≤ k → 2 ≤ s.2.1.getD k 0) ∧ 0 ≤ s.2.1.getD k 0
  mono : ∀ k k', k < k' → k' < i → keptN g k → keptN g k' → s.2.1.getD k 0 < s.2.1.getD k' 0
  from_ : ∀ a ∈ s.1, ∃ (k : Nat) (q : Int × Int), 1 + g.inn.length + g.regs.length + k < i ∧ g.ands[k]? = some q ∧ keptN g (q.1 / 2).toNat ∧ keptN g (q.2 / 2).toNat ∧ a = (atV s.2.1 q.1, atV s.2.1 q.2)
  norm : NormA s.1
theorem atV_even {to : List Int} {l : Int} (h : to.getD (l / 2).toNat 0 % 2 = 0) : atV to l = to.getD (l / 2).toNat 0 + l % 2 := by
  unfold atV flipL
  split
  · first | omega | (rw [if_pos h]; omega)
  · omega
section
variable {g : LGraph} (hg : GraphOk g) (hn : NormA g.ands)
include hg hn
theorem cleanN_nf : ∀ i : Nat, i ≤ nodesN g → CleanNf g i (cleanN g (coneV g (rootsG g)) i)
  | 0, _ => ⟨fun k h => absurd h (by omega), fun k h => absurd h (by omega), fun k k' _ h => absurd h (by omega), fun a h => by simp [cleanN] at h, fun p h => by simp [cleanN] at h, by simp [cleanN]⟩
  | i + 1, hi => by
    have ih := cleanN_nf i (by omega)
    obtain ⟨a1, a2, a3⟩ := cleanN_range g (coneV g (rootsG g)) i
    obtain ⟨b1, b2, b3⟩ := cleanN_len g (coneV g (rootsG g)) i
    rw [cleanN]
    generalize cleanN g (coneV g (rootsG g)) i = C at ih a1 a2 a3 b1 b2 b3
    obtain ⟨A, T, P⟩ := C
    obtain ⟨c1, c2, c3, c4, c5⟩ := ih
    simp only at a1 a2 a3 b1 b2 b3 c1 c2 c3 c4 c5
    unfold nodesN at hi
    have hfrom : ∀ (x : Int), ∀ a ∈ A, ∃ (k : Nat) (q : Int × Int), 1 + g.inn.length + g.regs.length + k < i ∧ g.ands[k]? = some q ∧ keptN g (q.1 / 2).toNat ∧ keptN g (q.2 / 2).toNat ∧ a = (atV (T ++ [x]) q.1, atV (T ++ [x]) q.2) := fun x a ha => by
      obtain ⟨k, q, h1, h2, h3, h4, h5⟩ := c4 a ha
      obtain ⟨⟨p1, p2⟩, p3, p4⟩ := hg.ands k q h2
      refine ⟨k, q, h1, h2, h3, h4, ?_⟩
      rw [atV_app _ _ _ p1 (by omega), atV_app _ _ _ p3 (by omega)]
      exact h5
    unfold cleanStep
    split
    · rename_i hF
      simp only
      have e : (T ++ [2 * (i : Int)]).getD i 0 = 2 * (i : Int) := by
        have := getD_end T (2 * (i : Int))
        rw [b2] at this
        exact this
      refine ⟨fun k hk hkF => ?_, fun k hk hkept => ?_, fun k k' hkk hk' hkept hkept' => ?_, fun a ha => ?_, c5⟩
      · by_cases hki : k < i
        · rw [getD_left (by omega)]; exact c1 k hki hkF
        · have : k = i := by omega
          subst this
          exact e
      · by_cases hki : k < i
        · rw [getD_left (by omega)]; exact c2 k hki hkept
        · have : k = i := by omega
          subst this
          rw [e]
          omega
      · by_cases hki : k' < i
        · rw [getD_left (by omega), getD_left (by omega)]; exact c3 k k' hkk hki hkept hkept'
        · have : k' = i := by omega
          subst this
          rw [e, getD_left (by omega), c1 k (by omega) (by omega)]
          omega
      · obtain ⟨k, q, h1, h2⟩ := hfrom (2 * (i : Int)) a ha
        exact ⟨k, q, by omega, h2⟩
    · rename_i hF
      split
      · rename_i hnd
        simp only
        obtain ⟨j, hj⟩ : ∃ j, i = 1 + g.inn.length + g.regs.length + j := ⟨i - (1 + g.inn.length + g.regs.length), by omega⟩
        obtain ⟨p, hp, hpm, _⟩ := node_at g.ands j (by omega)
        obtain ⟨⟨p1, p2⟩, p3, p4⟩ := hg.ands j p hp
        have hgd : g.ands.getD (i - (1 + g.inn.length + g.regs.length)) (0, 0) = p := by rw [show i - (1 + g.inn.length + g.regs.length) = j by omega]; simp [hp]
        rw [hgd]
        have hcl := cone_closed hg j p hp (by rw [← hj]; exact hnd)
        obtain ⟨x, hx⟩ : ∃ x, x = 2 * (1 + (g.inn.length : Int) + g.regs.length + A.length) := ⟨_, rfl⟩
        rw [← hx]
        have e : (T ++ [x]).getD i 0 = x := by
          have := getD_end T x
          rw [b2] at this
          exact this
        obtain ⟨l1, l2, l3⟩ := hn.lt p hpm
        have k1 : (p.1 / 2).toNat < i := by omega
        have k2 : (p.2 / 2).toNat < i := by omega
        have k12 : (p.1 / 2).toNat < (p.2 / 2).toNat := by
          by_cases hh : p.1 / 2 = p.2 / 2
          · refine absurd ?_ l3
            unfold flipL
            split <;> omega
          · omega
        have v1 := c2 _ k1 (.inr hcl.1)
        have v2 := c2 _ k2 (.inr hcl.2)
        have v3 := c3 _ _ k12 k2 (.inr hcl.1) (.inr hcl.2)
        have v4 := v1.2.1 (by omega)
        have w1 := atV_even v1.1
        have w2 := atV_even v2.1
        have hinj : ∀ l l' : Int, 0 ≤ l → 0 ≤ l' → (l / 2).toNat < i → (l' / 2).toNat < i → keptN g (l / 2).toNat → keptN g (l' / 2).toNat → atV T l = atV T l' → l = l' := fun l l' z0 z1 z2 z3 z4 z5 h => by
          have y1 := c2 _ z2 z4
          have y2 := c2 _ z3 z5
          rw [atV_even y1.1, atV_even y2.1] at h
          by_cases hlt : (l / 2).toNat < (l' / 2).toNat
          · have := c3 _ _ hlt z3 z4 z5
            omega
          · by_cases hgt : (l' / 2).toNat < (l / 2).toNat
            · have := c3 _ _ hgt z2 z5 z4
              omega
            · have heq : (l / 2).toNat = (l' / 2).toNat := by omega
              rw [heq] at h
              omega
        have hnew : (atV T p.1, atV T p.2) ∉ A := fun h => by
          obtain ⟨k, q, f1, f2, f3, f4, f5⟩ := c4 _ h
          obtain ⟨⟨q1, q2⟩, q3, q4⟩ := hg.ands k q f2
          have f51 := congrArg Prod.fst f5
          have f52 := congrArg Prod.snd f5
          simp only at f51 f52
          have g1 := hinj p.1 q.1 p1 q1 k1 (by omega) (.inr hcl.1) f3 f51
          have g2 := hinj p.2 q.2 p3 q3 k2 (by omega) (.inr hcl.2) f4 f52
          have hpq : p = q := Prod.ext g1 g2
          have hkj : k ≠ j := by omega
          have hk2 := (List.getElem?_eq_some_iff.1 f2).1
          have hj2 := (List.getElem?_eq_some_iff.1 hp).1
          refine hkj ((List.getElem?_inj hk2 hn.nodup).1 ?_)
          rw [f2, hp, hpq]
        refine ⟨fun k hk hkF => ?_, fun k hk hkept => ?_, fun k k' hkk hk' hkept hkept' => ?_, fun a ha => ?_, fun a ha => ?_, ?_⟩
        · rw [getD_left (by omega)]; exact c1 k (by omega) hkF
        · by_cases hki : k < i
          · rw [getD_left (by omega)]; exact c2 k hki hkept
          · have : k = i := by omega
            subst this
            rw [e]
            omega
        · by_cases hki : k' < i
          · rw [getD_left (by omega), getD_left (by omega)]; exact c3 k k' hkk hki hkept hkept'
          · have : k' = i := by omega
            subst this
            rw [e, getD_left (by omega)]
            have hm : T.getD k 0 ∈ T := by
              rw [List.getD_eq_getElem?_getD, List.getElem?_eq_getElem (by omega)]
              exact List.getElem_mem _
            have := (a2 _ hm).2
            omega
        · simp only [List.mem_append, List.mem_singleton] at ha
          rcases ha with ha | rfl
          · obtain ⟨k, q, h1, h2⟩ := hfrom x a ha
            exact ⟨k, q, by omega, h2⟩
          · exact ⟨j, p, by omega, hp, .inr hcl.1, .inr hcl.2, by rw [atV_app _ _ _ p1 (by omega), atV_app _ _ _ p3 (by omega)]⟩
        · simp only [List.mem_append, List.mem_singleton] at ha
          rcases ha with ha | rfl
          · exact c5.lt a ha
          · simp only [flipL]
            refine ⟨by omega, by omega, ?_⟩
            split <;> omega
        · rw [List.nodup_append]
          refine ⟨c5.nodup, by simp, fun y hy z hz => ?_⟩
          simp only [List.mem_singleton] at hz
          subst hz
          intro h
          subst h
          exact hnew hy
      · rename_i hnd
        simp only
        have hno : ¬ keptN g i := fun h => by
          rcases h with h | h
          · exact hF h
          · exact hnd h
        refine ⟨fun k hk hkF => ?_, fun k hk hkept => ?_, fun k k' hkk hk' hkept hkept' => ?_, fun a ha => ?_, c5⟩
        · rw [getD_left (by omega)]; exact c1 k (by omega) hkF
        · have hki : k ≠ i := fun h => hno (h ▸ hkept)
          rw [getD_left (by omega)]; exact c2 k (by omega) hkept
        · have hki : k' ≠ i := fun h => hno (h ▸ hkept')
          rw [getD_left (by omega), getD_left (by omega)]; exact c3 k k' hkk (by omega) hkept hkept'
        · obtain ⟨k, q, h1, h2⟩ := hfrom 0 a ha
          exact ⟨k, q, by omega, h2⟩
end
theorem tidyLaw : TidyLaw := ⟨fun g hg => cleanL_ok hg, fun g hg => strashL_ok hg, fun g hg tr hr => cleanL_run hg tr hr, fun g hg tr hr => strashL_run hg tr hr,
  fun g hg => Nat.le_trans (cleanL_less _) (strashL_less _),
  fun g hg => strashL_same (cleanL_ok (strashL_ok hg)) (cleanN_nf (strashL_ok hg) (strashN_nf g g.ands.length).norm _ (Nat.le_refl _)).norm⟩
end Go.Proofs.YtkmnmokjlpenhaaPi
