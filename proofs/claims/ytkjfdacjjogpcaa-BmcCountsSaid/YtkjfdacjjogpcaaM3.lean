/- Part 3 of the proof: the texts WSL, PDup, PSolE, PSolF, PSolG, PSolH, PSolI, PSolJ, PSolK, PSolL, one behind the other. Each holds for every input that it names; no condition is hidden. -/
import Derived.Test.YtkjfdacjjogpcaaM2
set_option linter.unusedVariables false
set_option linter.unusedSimpArgs false
set_option linter.unusedSectionVars false
namespace Go.Proofs.YtkjfdacjjogpcaaPi
set_option maxRecDepth 100000
set_option maxHeartbeats 40000000
def Up (c : List Int) : Prop := ∀ i j, i ≤ j → j < c.length → c.getD i 0 ≤ c.getD j 0
theorem mem_at {c : List Int} {t : Int} (h : t ∈ c) : ∃ k, k < c.length ∧ c.getD k 0 = t := by
 obtain ⟨k, hk, e⟩ := List.getElem_of_mem h
 exact ⟨k, hk, by rw [List.getD_eq_getElem?_getD, List.getElem?_eq_getElem hk]; exact e⟩
theorem slNaN_ok (x : Int) (up : Frs) : ACalls Try.prog 110 [.i x] up fun v u => v = .im (.bool false) ∧ u = up := by
 have e0 : (x != x) = false := by simp
 refine ACalls.code Try.func110 rfl 6 rfl (by simp) [.tmp 2] rfl fun Q hQ => ?_
 simp only [ups, PV.up, argEnv]
 have ft := ai ty_3 (ai ty_4 trivial)
 refine Run.seq ?_
 have fx := ai e0 ft
 refine Run.go ?_
 refine End.kp [0] ?_
 refine Run.seq ?_
 refine Run.go ?_
 refine End.kp [2] ?_
 refine Run.ret (hQ _ _ ⟨.inr rfl, _, rfl, _, rfl, ?_⟩)
 exact ⟨rfl, rfl⟩
theorem bsV_ok (p g n : Nat) (t : Int) (c : List Int) (rest : List PV) (up : Frs) (hc : fget up 0 p = some (.vec 3 g (i64s c ++ rest))) (hn : n = c.length) (hl : n ≤ 1000000) (hs : Up c) : ACalls Try.prog 105 [.vs 0 p 0 n g, .i t] up fun v u => (∃ k : Int, v = .tup [.i k, .im (.bool (decide (t ∈ c)))]) ∧ u = up := by
 refine ACalls.code Try.func105 rfl 54 rfl (by simp) [.tmp 4, .tmp 5] rfl fun Q hQ => ?_
 simp only [ups, PV.up, argEnv]
 have ft := ai ty_3 (ai ty_4 (ai ty_22 (ai ty_177 trivial)))
 refine Run.seq ?_
 have fx := ai zTn (ai zNn (ai zZa (ai hc ft)))
 refine Run.go ?_
 refine End.kp [0, 1] ?_
 refine Run.seq ?_
 refine Run.go ?_
 refine End.kp [0, 1, 6] ?_
 refine Run.seq ?_
 refine Run.go ?_
 refine End.kp [0, 1, 6, 7, 8] ?_
 refine Run.seq ?_
 refine Run.block ?_
 refine Run.ghost (Ghost.fm [(0, .vs 1 p 0 n g), (1, .i t), (6, .i (n : Nat)), (7, .i 0), (8, .i (n : Nat))] 0) ?_
 refine Run.loop (fun m st => ∃ (i j : Nat), m = j - i ∧ i ≤ j ∧ j ≤ n ∧ (∀ k, k < i → c.getD k 0 < t) ∧ (∀ k, j ≤ k → k < n → t ≤ c.getD k 0) ∧ st = ⟨[(0, .vs 1 p 0 n g), (1, .i t), (6, .i (n : Nat)), (7, .i (i : Nat)), (8, .i (j : Nat))], [], up⟩) n ⟨0, n, rfl, by omega, by omega, fun k hk => by omega, fun k h1 h2 => by omega, rfl⟩ fun m st hI => ?_
 obtain ⟨i, j, rfl, hij, hjn, hlo, hhi, rfl⟩ := hI
 refine Run.seq ?_
 refine Run.seq ?_
 refine Run.go ?_
 refine End.kp [0, 1, 6, 7, 8, 15] ?_
 refine Run.cond _ rfl (fun hb => ?_) (fun hb => ?_)
 ·have hb2 := of_decide_eq_true hb
  obtain ⟨h, hh⟩ : ∃ h, h = (i + j) / 2 := ⟨_, rfl⟩
  have wa : IntKind.i64.wrap ((i : Int) + (j : Int)) = ((i + j : Nat) : Int) := by rw [wrap64 (by omega)]; rfl
  have wu : IntKind.u64.wrap ((i + j : Nat) : Int) = ((i + j : Nat) : Int) := by simp [IntKind.wrap, IntKind.signed, IntKind.bits]; omega
  have wh : IntKind.i64.wrap (((i + j : Nat) : Int).fdiv (2 ^ min 1 IntKind.u64.bits)) = (h : Int) := by
   show IntKind.i64.wrap (((i + j : Nat) : Int).fdiv 2) = _
   rw [Int.fdiv_eq_ediv_of_nonneg _ (by decide), wrap64 (by omega)]
   omega
  have wh2 := csucc (i := h) (n := n) (by omega) (by omega)
  have gh := i64s_get c h (by omega)
  have gh2 : (i64s c ++ rest)[h]? = some (.im (.int .i64 (c.getD h 0))) := by rw [List.getElem?_append_left (by simp; omega)]; exact gh
  have hhn : (h : Int) < (n : Int) := by omega
  refine Run.skip ?_
  refine End.kp [0, 1, 6, 7, 8] ?_
  refine Run.block ?_
  refine Run.seq ?_
  have fx := ai hhn (ai gh2 (ai wh2 (ai wh (ai wu (ai wa fx)))))
  refine Run.go ?_
  refine End.kp [0, 1, 6, 7, 8, 9] ?_
  refine Run.seq ?_
  refine Run.region rfl fun K hK => GOps.sim ?_
  refine GOps.call rfl rfl rfl rfl (by kernel_rfl) (ACalls.sim ?_)
  refine (cmpLess_ok (c.getD h 0) t _).mono fun v u hv => ?_
  obtain ⟨rfl, rfl⟩ := hv
  refine ⟨_, _, rfl, GOps.sim ?_⟩
  refine GOps.done (hK _ ?_); clear hK K
  refine End.kp [0, 1, 6, 7, 8, 9, 27] ?_
  refine Run.cond _ rfl (fun hb => ?_) (fun hb => ?_)
  ·have hb3 := of_decide_eq_true hb
   have fx := ai hhn (ai gh2 (ai wh2 (ai wh (ai wu (ai wa (ai zTn (ai zNn (ai zZa (ai hc ft)))))))))
   refine Run.go ?_
   refine End.blk ?_
   refine End.lp ?_
   refine ⟨j - (h + 1), _, by omega, Ghost.fm [(0, .vs 1 p 0 n g), (1, .i t), (6, .i (n : Nat)), (7, .i (h + 1 : Nat)), (8, .i (j : Nat))] 0, h + 1, j, rfl, by omega, by omega, fun k hk => ?_, hhi, rfl⟩
   have := hs k h (by omega) (by omega)
   omega
  ·have hb3 := of_decide_eq_false hb
   have fx := ai hhn (ai gh2 (ai wh2 (ai wh (ai wu (ai wa (ai zTn (ai zNn (ai zZa (ai hc ft)))))))))
   refine Run.go ?_
   refine End.blk ?_
   refine End.lp ?_
   refine ⟨h - i, _, by omega, Ghost.fm [(0, .vs 1 p 0 n g), (1, .i t), (6, .i (n : Nat)), (7, .i (i : Nat)), (8, .i (h : Nat))] 0, i, h, rfl, by omega, by omega, hlo, fun k h1 h2 => ?_, rfl⟩
   have := hs h k (by omega) (by omega)
   omega
 ·have hb2 := of_decide_eq_false hb
  have hij2 : i = j := by omega
  refine Run.exit rfl ?_
  refine End.kp [0, 1, 6, 7] ?_
  refine Run.seq ?_
  rcases Bool.eq_false_or_eq_true (decide (i < n)) with hs8 | hs8
  ·skip
   have hin := of_decide_eq_true hs8
   have di : decide ((i : Int) < (n : Int)) = true := decide_eq_true (by omega)
   have gi := i64s_get c i (by omega)
   have gi2 : (i64s c ++ rest)[i]? = some (.im (.int .i64 (c.getD i 0))) := by rw [List.getElem?_append_left (by simp; omega)]; exact gi
   have hii : (i : Int) < (n : Int) := by omega
   rcases Bool.eq_false_or_eq_true ((c.getD i 0 == t)) with hs8b | hs8b
   ·skip
    have fx := ai hii (ai gi2 (ai di (ai hs8b (ai hs8 fx))))
    refine Run.region rfl fun K hK => GOps.sim ?_
    refine GOps.done (hK _ ?_); clear hK K
    refine End.kp [4, 5] ?_
    refine Run.ret (hQ _ _ ⟨.inr rfl, _, rfl, _, rfl, ?_⟩)
    have hm : decide (t ∈ c) = true := decide_eq_true (by rw [← eq_of_beq hs8b]; exact gtD_mem (by omega))
    rw [hm]
    exact ⟨⟨_, rfl⟩, rfl⟩
   ·skip
    have fx := ai hii (ai gi2 (ai di (ai hs8b (ai hs8 fx))))
    refine Run.region rfl fun K hK => GOps.sim ?_
    refine GOps.call rfl rfl rfl rfl (by kernel_rfl) (ACalls.sim ?_)
    refine (slNaN_ok _ _).mono fun v u hv => ?_
    obtain ⟨rfl, rfl⟩ := hv
    refine ⟨_, _, rfl, GOps.sim ?_⟩
    refine GOps.done (hK _ ?_); clear hK K
    refine End.kp [4, 5] ?_
    refine Run.ret (hQ _ _ ⟨.inr rfl, _, rfl, _, rfl, ?_⟩)
    have hne : c.getD i 0 ≠ t := ne_of_beq_false hs8b
    have hm : decide (t ∈ c) = false := decide_eq_false (fun h => by
     obtain ⟨k, hk, e⟩ := mem_at h
     by_cases h1 : k < i
     ·have := hlo k h1; omega
     ·have h2 := hs i k (by omega) hk
      have h3 := hhi i (by omega) (by omega)
      omega)
    rw [hm]
    exact ⟨⟨_, rfl⟩, rfl⟩
  ·skip
   have hin := of_decide_eq_false hs8
   have di : decide ((i : Int) < (n : Int)) = false := decide_eq_false (by omega)
   have gi2 : True := trivial
   have hii : True := trivial
   have fx := ai hii (ai gi2 (ai di (ai hs8 fx)))
   refine Run.region rfl fun K hK => GOps.sim ?_
   refine GOps.done (hK _ ?_); clear hK K
   refine End.kp [4, 5] ?_
   refine Run.ret (hQ _ _ ⟨.inr rfl, _, rfl, _, rfl, ?_⟩)
   have hm : decide (t ∈ c) = false := decide_eq_false (fun h => by
    obtain ⟨k, hk, e⟩ := mem_at h
    have := hlo k (by omega)
    omega)
   rw [hm]
   exact ⟨⟨_, rfl⟩, rfl⟩

section
def ddN (c : List Int) : Nat → List Int
 | 0 => []
 | j + 1 => if 0 < j ∧ c.getD j 0 = c.getD (j - 1) 0 then ddN c j else ddN c j ++ [c.getD j 0]
def dd (c : List Int) : List Int := ddN c c.length
theorem ddN_len (c : List Int) : ∀ j, (ddN c j).length ≤ j
 | 0 => Nat.le_refl _
 | j + 1 => by
  have := ddN_len c j
  rw [ddN]
  split
  ·omega
  ·simp; omega
theorem ddN_take (c : List Int) : ∀ j, j ≤ c.length → (∀ i, 1 ≤ i → i < j → c.getD i 0 ≠ c.getD (i - 1) 0) → ddN c j = c.take j
 | 0, _, _ => by simp [ddN]
 | j + 1, h, h2 => by
  rw [ddN, if_neg (fun h3 => h2 j (by omega) (by omega) h3.2), ddN_take c j (by omega) (fun i h3 h4 => h2 i h3 (by omega)), List.take_add_one, getD_some 0 (show j < c.length by omega)]
  rfl
theorem ddN_mem (c : List Int) : ∀ j, j ≤ c.length → ∀ x, x ∈ ddN c j ↔ ∃ i, i < j ∧ c.getD i 0 = x
 | 0, _, x => by simp [ddN]
 | j + 1, h, x => by
  have ih := ddN_mem c j (by omega)
  rw [ddN]
  split
  ·rename_i h1
   rw [ih]
   constructor
   ·rintro ⟨i, h2, h3⟩; exact ⟨i, by omega, h3⟩
   ·rintro ⟨i, h2, h3⟩
    by_cases e : i = j
    ·subst e; exact ⟨i - 1, by omega, by rw [← h1.2]; exact h3⟩
    ·exact ⟨i, by omega, h3⟩
  ·rw [List.mem_append, ih, List.mem_singleton]
   constructor
   ·rintro (⟨i, h2, h3⟩ | h2)
    ·exact ⟨i, by omega, h3⟩
    ·exact ⟨j, by omega, h2.symm⟩
   ·rintro ⟨i, h2, h3⟩
    by_cases e : i = j
    ·subst e; exact .inr h3.symm
    ·exact .inl ⟨i, by omega, h3⟩
theorem dd_mem (c : List Int) (x : Int) : x ∈ dd c ↔ x ∈ c := by
 rw [dd, ddN_mem c _ (Nat.le_refl _)]
 constructor
 ·rintro ⟨i, h1, h2⟩; rw [← h2]; exact gtD_mem h1
 ·intro h; obtain ⟨k, h1, h2⟩ := mem_getD (d := 0) h; exact ⟨k, h1, h2⟩
theorem ddN_strict (c : List Int) (hu : Up c) : ∀ j, j ≤ c.length → (∀ a b, a < b → b < (ddN c j).length → (ddN c j).getD a 0 < (ddN c j).getD b 0) ∧ ∀ x ∈ ddN c j, x ≤ c.getD (j - 1) 0
 | 0, _ => ⟨fun a b _ h => by simp [ddN] at h, fun x h => by simp [ddN] at h⟩
 | j + 1, h => by
  obtain ⟨h1, h2⟩ := ddN_strict c hu j (by omega)
  rw [ddN]
  split
  ·rename_i h3
   exact ⟨h1, fun x hx => by have := h2 x hx; simp only [Nat.add_sub_cancel]; omega⟩
  ·rename_i h3
   have hlt : ∀ x ∈ ddN c j, x < c.getD j 0 := fun x hx => by
    have h4 := h2 x hx
    have hj : 0 < j := by
     cases j with
     | zero => simp [ddN] at hx
     | succ j => omega
    have := hu (j - 1) j (by omega) (by omega)
    have : c.getD j 0 ≠ c.getD (j - 1) 0 := fun e => h3 ⟨hj, e⟩
    omega
   have sg : ∀ i, (ddN c j ++ [c.getD j 0]).getD i 0 = if i < (ddN c j).length then (ddN c j).getD i 0 else if i = (ddN c j).length then c.getD j 0 else 0 := fun i => by
    simp only [List.getD_eq_getElem?_getD, List.getElem?_append]
    split
    ·rfl
    ·rename_i h
     by_cases e : i = (ddN c j).length
     ·subst e; simp
     ·rw [if_neg e, List.getElem?_eq_none (by simp; omega)]; rfl
   refine ⟨fun a b hab hb => ?_, fun x hx => ?_⟩
   ·simp only [List.length_append, List.length_cons, List.length_nil] at hb
    rw [sg, sg, if_pos (by omega)]
    split
    ·exact h1 a b hab (by omega)
    ·rw [if_pos (by omega)]
     exact hlt _ (gtD_mem (by omega))
   ·simp only [Nat.add_sub_cancel]
    rcases List.mem_append.1 hx with hx | hx
    ·have := hlt x hx; omega
    ·rw [List.mem_singleton.1 hx]; exact Int.le_refl _
theorem dd_up {c : List Int} (hu : Up c) : Up (dd c) := fun i j hij hj => by
 by_cases e : i = j
 ·subst e; exact Int.le_refl _
 ·exact Int.le_of_lt ((ddN_strict c hu _ (Nat.le_refl _)).1 i j (by omega) hj)
theorem dd_dis {c : List Int} (hu : Up c) : Dis (dd c) := fun i j hi hj e => by
 have h := (ddN_strict c hu _ (Nat.le_refl _)).1
 by_cases h1 : i < j
 ·have := h i j h1 hj; unfold dd at e; omega
 ·by_cases h2 : j < i
  ·have := h j i h2 hi; unfold dd at e; omega
  ·omega
theorem sink_iff (x : Int) : ∀ (j : Nat) (c : List Int), j < c.length → (x ∈ sink c j ↔ x ∈ c)
 | 0, c, h => Iff.rfl
 | j + 1, c, h => by
  rw [sink]
  split
  ·rw [sink_iff x j _ (by rw [swapAt_len]; omega)]
   exact swapAt_iff h (by omega) x
  ·exact Iff.rfl
theorem sink_far : ∀ (j : Nat) (c : List Int), j < c.length → ∀ i, j < i → (sink c j).getD i 0 = c.getD i 0
 | 0, c, h, i, hi => rfl
 | j + 1, c, h, i, hi => by
  rw [sink]
  split
  ·rw [sink_far j _ (by rw [swapAt_len]; omega) i (by omega), swapAt_get h (by omega), if_neg (by omega), if_neg (by omega)]
  ·rfl
theorem sink_le : ∀ (j : Nat) (c : List Int) (m : Int), j < c.length → (∀ i, i ≤ j → c.getD i 0 ≤ m) → ∀ i, i ≤ j → (sink c j).getD i 0 ≤ m
 | 0, c, m, h, h1, i, hi => h1 i hi
 | j + 1, c, m, h, h1, i, hi => by
  rw [sink]
  split
  ·have hj : j < (Sol.swapAt c (j + 1) j).length := by rw [swapAt_len]; omega
   have hb : ∀ i, i ≤ j + 1 → (Sol.swapAt c (j + 1) j).getD i 0 ≤ m := fun i hi => by
    rw [swapAt_get h (by omega)]
    split
    ·exact h1 _ (Nat.le_refl _)
    ·split
     ·exact h1 _ (by omega)
     ·exact h1 i hi
   by_cases e : i ≤ j
   ·exact sink_le j _ m hj (fun i hi => hb i (by omega)) i e
   ·rw [sink_far j _ hj i (by omega)]
    exact hb i hi
  ·exact h1 i hi
theorem sink_up : ∀ (j : Nat) (c : List Int), j < c.length → (∀ a b, a ≤ b → b < j → c.getD a 0 ≤ c.getD b 0) → ∀ a b, a ≤ b → b ≤ j → (sink c j).getD a 0 ≤ (sink c j).getD b 0
 | 0, c, h, h1, a, b, hab, hb => by rw [show a = b by omega]; exact Int.le_refl _
 | j + 1, c, h, h1, a, b, hab, hb => by
  have hj : j < (Sol.swapAt c (j + 1) j).length := by rw [swapAt_len]; omega
  rw [sink]
  split
  ·rename_i hlt
   have hsame : ∀ i, i < j → (Sol.swapAt c (j + 1) j).getD i 0 = c.getD i 0 := fun i hi => by rw [swapAt_get h (by omega), if_neg (by omega), if_neg (by omega)]
   by_cases e : b ≤ j
   ·exact sink_up j _ hj (fun a b hab hb => by rw [hsame a (by omega), hsame b hb]; exact h1 a b hab (by omega)) a b hab e
   ·have eb : b = j + 1 := by omega
    subst eb
    by_cases ea : a = j + 1
    ·subst ea; exact Int.le_refl _
    ·rw [sink_far j _ hj (j + 1) (by omega)]
     refine sink_le j _ _ hj (fun i hi => ?_) a (by omega)
     rw [swapAt_get h (by omega), swapAt_get h (by omega)]
     simp only [if_neg (show ¬ (j + 1 = j) by omega), if_true]
     by_cases ei : i = j
     ·rw [if_pos ei]; omega
     ·rw [if_neg ei, if_neg (by omega)]
      exact h1 i j (by omega) (by omega)
  ·rename_i hge
   by_cases e : b ≤ j
   ·exact h1 a b hab (by omega)
   ·have eb : b = j + 1 := by omega
    subst eb
    by_cases ea : a = j + 1
    ·subst ea; exact Int.le_refl _
    ·have := h1 a j (by omega) (by omega)
     omega
theorem sorts_spec : ∀ (f : Nat) (c : List Int) (i : Nat), c.length ≤ f + i → 1 ≤ i → (∀ a b, a ≤ b → b < i → b < c.length → c.getD a 0 ≤ c.getD b 0) → (sorts f c i).length = c.length ∧ (∀ x, x ∈ sorts f c i ↔ x ∈ c) ∧ Up (sorts f c i)
 | 0, c, i, h, h1, h2 => ⟨rfl, fun _ => Iff.rfl, fun a b hab hb => h2 a b hab (by have : b < c.length := hb; omega) hb⟩
 | f + 1, c, i, h, h1, h2 => by
  rw [sorts]
  split
  ·rename_i hi
   have hl := sink_len c i
   obtain ⟨a1, a2, a3⟩ := sorts_spec f (sink c i) (i + 1) (by rw [hl]; omega) (by omega) (fun a b hab hb _ => sink_up i c hi (fun a b hab hb => h2 a b hab hb (by omega)) a b hab (by omega))
   exact ⟨a1.trans hl, fun x => (a2 x).trans (sink_iff x i c hi), a3⟩
  ·rename_i hi
   exact ⟨rfl, fun _ => Iff.rfl, fun a b hab hb => h2 a b hab (by have : b < c.length := hb; omega) hb⟩
def tidyL (c : List Int) : List Int := dd (sorts (c.length - 1) c 1)
theorem tidyL_spec (c : List Int) : Dis (tidyL c) ∧ Up (tidyL c) ∧ (∀ x, x ∈ tidyL c ↔ x ∈ c) ∧ (tidyL c).length ≤ c.length := by
 obtain ⟨h1, h2, h3⟩ := sorts_spec (c.length - 1) c 1 (by omega) (by omega) (fun a b hab hb _ => by rw [show a = b by omega]; exact Int.le_refl _)
 exact ⟨dd_dis h3, dd_up h3, fun x => (dd_mem _ x).trans (h2 x), by have := ddN_len (sorts (c.length - 1) c 1) (sorts (c.length - 1) c 1).length; rw [h1] at this; unfold tidyL dd; rw [h1]; exact this⟩
def taut (c : List Int) : Bool := decide (∃ l ∈ c, -l ∈ c)
namespace Sol
def take1 (S : Sol) (c : List Int) : Sol × Bool :=
 if taut (tidyL c) = true then (S, true)
 else if (tidyL c).length = 1 then
  (if S.is ((tidyL c).getD 0 0) = -1 then (S, false) else if S.is ((tidyL c).getD 0 0) = 0 then (S.set ((tidyL c).getD 0 0) (-1), true) else (S, true))
 else if 2 ≤ (tidyL c).length then (S.add (tidyL c), true) else (S, false)
def load : List (List Int) → Sol → Sol × Bool
 | [], S => (S, true)
 | c :: cs, S => match S.take1 c with
  | (S', true) => load cs S'
  | (S', false) => (S', false)
end Sol
theorem load_yes {S S' : Sol} {c : List Int} {cs : List (List Int)} (h : S.take1 c = (S', true)) : Sol.load (c :: cs) S = Sol.load cs S' := by rw [Sol.load, h]
theorem load_no {S S' : Sol} {c : List Int} {cs : List (List Int)} (h : S.take1 c = (S', false)) : Sol.load (c :: cs) S = (S', false) := by rw [Sol.load, h]

end
structure Ext (S S' : Sol) : Prop where
 n : S'.n = S.n
 st : S'.st = S.st
 nx : S'.next = S.next
 cln : S'.cl.length = S.cl.length
 cls : ∀ k, k < S.cl.length → ∀ x, x ∈ S'.cla k ↔ x ∈ S.cla k
 trp : S.tr.length ≤ S'.tr.length
 lits : ∀ i, i < S.tr.length → S'.lit i = S.lit i
 old : ∀ i, i < S.tr.length → S'.wy (S.lit i) = S.wy (S.lit i)
 new : ∀ i, S.tr.length ≤ i → i < S'.tr.length → 0 ≤ S'.wy (S'.lit i)
theorem Ext.refl (S : Sol) : Ext S S := ⟨rfl, rfl, rfl, rfl, fun _ _ _ => Iff.rfl, Nat.le_refl _, fun _ _ => rfl, fun _ _ => rfl, fun i h1 h2 => by omega⟩
theorem Ext.trans {S1 S2 S3 : Sol} (h : Ext S1 S2) (k : Ext S2 S3) : Ext S1 S3 :=
 ⟨k.n.trans h.n, k.st.trans h.st, k.nx.trans h.nx, k.cln.trans h.cln, fun c hc x => (k.cls c (by rw [h.cln]; exact hc) x).trans (h.cls c hc x), Nat.le_trans h.trp k.trp,
  fun i hi => (k.lits i (Nat.lt_of_lt_of_le hi h.trp)).trans (h.lits i hi), fun i hi => by
   have h1 := k.old i (Nat.lt_of_lt_of_le hi h.trp)
   rw [h.lits i hi] at h1
   exact h1.trans (h.old i hi), fun i h1 h2 => by
   by_cases e : i < S2.tr.length
   ·rw [k.lits i e, k.old i e]
    exact h.new i h1 e
   ·exact k.new i (by omega) h2⟩
theorem Ext.putC {S : Sol} {k : Nat} {c : List Int} (hk : k < S.cl.length) (hm : ∀ x, x ∈ c ↔ x ∈ S.cla k) : Ext S (S.putC k c) :=
 ⟨rfl, rfl, rfl, putC_len _ _ _, fun j hj x => by
  rw [putC_cla hk]
  split
  ·rename_i e; subst e; exact hm x
  ·exact Iff.rfl, Nat.le_refl _, fun _ _ => rfl, fun _ _ => rfl, fun i h1 h2 => absurd h2 (Nat.not_lt.2 h1)⟩
theorem Ext.set {S : Sol} {B : Nat} (hS : SW S B) {l : Int} {k : Nat} (hl : LitOk S.n l) (hu : S.val.getD l.natAbs 0 = 0) : Ext S (S.set l k) := by
 have h2 := hl.2
 have hwy : l.natAbs < S.why.length := by rw [hS.len.why]; omega
 refine ⟨rfl, rfl, rfl, rfl, fun _ _ _ => Iff.rfl, by simp [Sol.set], fun i hi => by rw [lit_set, if_pos hi], fun i hi => by rw [wy_set hwy, if_neg (off_trail hS hu hi)], fun i h3 h4 => ?_⟩
 have e : i = S.tr.length := by simp [Sol.set] at h4; omega
 subst e
 rw [lit_set, if_neg (by omega), if_pos rfl, wy_set hwy, if_pos rfl]
 omega
theorem true_on {S : Sol} {B : Nat} (h : SW S B) (k : Inv S) {x : Int} (hx : LitOk S.n x) (hf : S.is x = 1) : ∃ i, i < S.tr.length ∧ S.lit i = x := by
 obtain ⟨i, hi, e⟩ := false_on h k (x := -x) ⟨by have := hx.1; omega, by rw [Int.natAbs_neg]; exact hx.2⟩ (by rw [is_neg' S hx.1, hf])
 exact ⟨i, hi, by rw [e, Int.neg_neg]⟩
theorem lvl_neg (S : Sol) (x : Int) : S.lvl (-x) = S.lvl x := by rw [Sol.lvl, Sol.lvl, Int.natAbs_neg]
theorem lvl_le {S : Sol} {B : Nat} (h : SW S B) (k : Inv S) {x : Int} (hx : LitOk S.n x) (hf : S.is x = 1) : S.lvl x ≤ S.st.length := by
 obtain ⟨i, hi, e⟩ := true_on h k hx hf
 rw [← e, k.lev i hi]
 exact lv_le _ _
structure Flux (l : Int) (S : Sol) (kept R : List Nat) : Prop where
 inv : Inv S
 wat : (S.putW (atL l) (kept ++ R)).Wat
 pro : S.Pro (fun k a => k ∈ R ∧ a = l)
 cur : ∃ j, j < S.head ∧ S.lit j = -l
 lvc : S.lvl l = S.st.length
theorem turn_turned (l : Int) {c : List Int} (h : 2 ≤ c.length) : Turned c (Sol.turn l c) := by
 refine ⟨turn_len l c, ?_⟩
 unfold Sol.turn
 split
 ·exact .inr ⟨by rw [swapAt_get (by omega) (by omega)]; rfl, by rw [swapAt_get (by omega) (by omega)]; rfl⟩
 ·exact .inl rfl
theorem turn_iff (l : Int) {c : List Int} (h : 2 ≤ c.length) (x : Int) : x ∈ Sol.turn l c ↔ x ∈ c := by
 unfold Sol.turn
 split
 ·exact swapAt_iff (by omega) (by omega) x
 ·exact Iff.rfl
theorem turn_dis (l : Int) {c : List Int} (h : 2 ≤ c.length) (hd : Dis c) : Dis (Sol.turn l c) := by
 unfold Sol.turn
 split
 ·exact swapAt_dis hd (by omega) (by omega)
 ·exact hd
theorem Flux.turn {l : Int} {S : Sol} {kept R : List Nat} (h : Flux l S kept R) {k : Nat} (hk : k < S.cl.length) (h2 : 2 ≤ (S.cla k).length) : Flux l (S.putC k (Sol.turn l (S.cla k))) kept R :=
 ⟨h.inv.putC hk (turn_dis l h2 (h.inv.dis k hk)) (turn_iff l h2), Wat.turned (S := S.putW (atL l) (kept ++ R)) hk h.wat (turn_turned l h2), Pro.turned hk h.pro (turn_turned l h2), h.cur, h.lvc⟩
theorem scan_ge (S : Sol) (c : List Int) : ∀ (m j : Nat), c.length - j = m → j ≤ S.scan c j
 | 0, j, h => by rw [scan_stop (fun h2 => by omega)]; exact Nat.le_refl _
 | m + 1, j, h => by
  by_cases h1 : j < c.length ∧ S.is (c.getD j 0) = -1
  ·rw [scan_more h1.1 h1.2]
   have := scan_ge S c m (j + 1) (by omega)
   omega
  ·rw [scan_stop h1]; exact Nat.le_refl _
theorem scan_all (S : Sol) (c : List Int) : ∀ (m j : Nat), c.length - j = m → ∀ i, j ≤ i → i < S.scan c j → i < c.length ∧ S.is (c.getD i 0) = -1
 | 0, j, h, i, h1, h2 => by rw [scan_stop (fun h2 => by omega)] at h2; omega
 | m + 1, j, h, i, h1, h2 => by
  by_cases h3 : j < c.length ∧ S.is (c.getD j 0) = -1
  ·rw [scan_more h3.1 h3.2] at h2
   by_cases e : i = j
   ·subst e; exact h3
   ·exact scan_all S c m (j + 1) (by omega) i (by omega) h2
  ·rw [scan_stop h3] at h2; omega
theorem scan_not (S : Sol) (c : List Int) : ∀ (m j : Nat), c.length - j = m → S.scan c j < c.length → S.is (c.getD (S.scan c j) 0) ≠ -1
 | 0, j, h, h2 => by rw [scan_stop (fun h2 => by omega)] at h2; omega
 | m + 1, j, h, h2 => by
  by_cases h3 : j < c.length ∧ S.is (c.getD j 0) = -1
  ·rw [scan_more h3.1 h3.2] at h2 ⊢
   exact scan_not S c m (j + 1) (by omega) h2
  ·rw [scan_stop h3] at h2 ⊢
   exact fun e => h3 ⟨h2, e⟩
theorem atL_inj' {n : Nat} {a b : Int} (ha : LitOk n a) (hb : LitOk n b) (h : atL a = atL b) : a = b := by
 have h1 := atL_cast ha
 have h2 := atL_cast hb
 rw [h, h2] at h1
 split at h1 <;> split at h1 <;> omega
theorem Flux.lok {l : Int} {S : Sol} {kept R : List Nat} {B : Nat} (hS : SW S B) (h : Flux l S kept R) : LitOk S.n l ∧ S.is l = -1 := by
 obtain ⟨j, hj, e⟩ := h.cur
 have hj2 : j < S.tr.length := Nat.lt_of_lt_of_le hj hS.hd
 have := slit_ok hS hj2
 rw [e] at this
 exact ⟨⟨by have := this.1; omega, by have := this.2; rwa [Int.natAbs_neg] at this⟩, on_false hS hj2 e⟩
theorem putW_wl {S : Sol} {i : Nat} {ks : List Nat} (h : i < S.wl.length) (j : Nat) : (S.putW i ks).wl.getD j [] = if j = i then ks else S.wl.getD j [] := getD_set _ _ _ _ _ h
theorem Flux.clause {l : Int} {S : Sol} {kept R : List Nat} {B k : Nat} (hS : SW S B) (h : Flux l S kept (k :: R)) : k < S.cl.length ∧ 2 ≤ (S.cla k).length ∧ (∀ x ∈ S.cla k, LitOk S.n x) ∧ (Sol.turn l (S.cla k)).getD 1 0 = l := by
 obtain ⟨hl, _⟩ := h.lok hS
 have hi := atL_lt hl
 have hlt : atL l < S.wl.length := by rw [hS.len.wl]; exact hi
 have hm := (h.wat (atL l) hi).2 k
 rw [putW_wl hlt, if_pos rfl] at hm
 obtain ⟨h1, h2⟩ := hm.1 (by simp)
 obtain ⟨c1, c2, c3⟩ := hS.cl (k := k) h1
 refine ⟨h1, c1, c3, ?_⟩
 have a0 : LitOk S.n ((S.cla k).getD 0 0) := c3 _ (gtD_mem (by omega))
 have a1 : LitOk S.n ((S.cla k).getD 1 0) := c3 _ (gtD_mem (by omega))
 unfold Sol.turn
 split
 ·rename_i e
  rw [swapAt_get (by show 0 < (S.cla k).length; have : 2 ≤ (S.cla k).length := c1; omega) (by show 1 < (S.cla k).length; exact c1)]
  exact e
 ·rename_i e
  rcases h2 with h2 | h2
  ·exact absurd (atL_inj' a0 hl h2) e
  ·exact atL_inj' a1 hl h2
theorem visit_flux {l : Int} {S : Sol} {kept R : List Nat} {B k : Nat} (hS : SW S B) (h : Flux l S kept (k :: R)) : Ext S (Sol.visit l S kept k).1 ∧
  ((Sol.visit l S kept k).2.2 = false → Flux l (Sol.visit l S kept k).1 (Sol.visit l S kept k).2.1 R) ∧
  ((Sol.visit l S kept k).2.2 = true → Flux l (Sol.visit l S kept k).1 kept (k :: R) ∧ (Sol.visit l S kept k).2.1 = kept ++ [k] ∧ k < S.cl.length ∧ l ∈ (Sol.visit l S kept k).1.cla k ∧ ∀ x ∈ (Sol.visit l S kept k).1.cla k, (Sol.visit l S kept k).1.is x = -1) := by
 obtain ⟨hk, h2, hlo, hc1⟩ := h.clause hS
 obtain ⟨hl, hlf⟩ := h.lok hS
 have hF := h.turn hk h2
 have hE := Ext.putC (c := Sol.turn l (S.cla k)) hk (turn_iff l h2)
 have hD := turn_dis l h2 (h.inv.dis k hk)
 have hlen : (Sol.turn l (S.cla k)).length = (S.cla k).length := turn_len _ _
 have hmem := turn_iff l h2
 have hW : SW (S.putC k (Sol.turn l (S.cla k))) B := hS.putC ⟨by rw [hlen]; exact h2, by rw [hlen]; exact (hS.cl hk).2.1, fun x hx => hlo x ((hmem x).1 hx)⟩
 have hcla : (S.putC k (Sol.turn l (S.cla k))).cla k = Sol.turn l (S.cla k) := by rw [putC_cla hk, if_pos rfl]
 unfold Sol.visit
 show Ext S (if S.is ((Sol.turn l (S.cla k)).getD 0 0) = 1 then _ else _ : Sol × List Nat × Bool).1 ∧ _
 simp only
 have hvis : S.cl.getD k [] = S.cla k := rfl
 rw [hvis]
 generalize Sol.turn l (S.cla k) = c at *
 have hc2 : 2 ≤ c.length := by omega
 have l0 : LitOk S.n (c.getD 0 0) := hlo _ ((hmem _).1 (gtD_mem (by omega)))
 have hne : c.getD 0 0 ≠ l := fun e => by
  have := hD 0 1 (by omega) (by omega) (by rw [e, hc1])
  omega
 obtain ⟨j0, hj0, hjl⟩ := hF.cur
 have app : kept ++ [k] ++ R = kept ++ k :: R := by simp
 have keep : ∀ S' : Sol, Inv S' → (S'.putW (atL l) (kept ++ k :: R)).Wat → S'.Pro (fun q a => q ∈ k :: R ∧ a = l) → (∃ j, j < S'.head ∧ S'.lit j = -l) → S'.lvl l = S'.st.length → S'.cla k = c → S'.is (c.getD 0 0) = 1 → S'.lvl (c.getD 0 0) ≤ S'.lvl l → Flux l S' (kept ++ [k]) R := fun S' g1 g2 g3 g4 g5 g6 g7 g8 =>
  ⟨g1, by rw [app]; exact g2, fun j hj p q hpq i hi e hex => by
   by_cases e1 : j = k ∧ (S'.cla j).getD p 0 = l
   ·obtain ⟨rfl, e2⟩ := e1
    rw [g6] at e2 ⊢
    rcases hpq with ⟨rfl, rfl⟩ | ⟨rfl, rfl⟩
    ·exact absurd e2 hne
    ·rw [e2]; exact ⟨g7, g8⟩
   ·exact g3 j hj p q hpq i hi e (fun h3 => by
     rcases List.mem_cons.1 h3.1 with h4 | h4
     ·exact e1 ⟨h4, h3.2⟩
     ·exact hex ⟨h4, h3.2⟩), g4, g5⟩
 split
 ·rename_i ht
  refine ⟨hE, fun _ => keep _ hF.inv hF.wat hF.pro hF.cur hF.lvc hcla ht ?_, fun h3 => by simp at h3⟩
  rw [hF.lvc]
  exact lvl_le hW hF.inv l0 ht
 ·rename_i hn1
  split
  ·rename_i hj
   have hj2 := scan_ge S c _ 2 rfl
   have hjn := scan_not S c _ 2 rfl hj
   generalize S.scan c 2 = j at hj hj2 hjn
   have hc' : ∀ x, x ∈ Sol.swapAt c 1 j ↔ x ∈ S.cla k := fun x => (swapAt_iff (by omega) hj x).trans (hmem x)
   have x0 : (Sol.swapAt c 1 j).getD 0 0 = c.getD 0 0 := by rw [swapAt_get (by omega) hj, if_neg (by omega), if_neg (by omega)]
   have x1 : (Sol.swapAt c 1 j).getD 1 0 = c.getD j 0 := by rw [swapAt_get (by omega) hj, if_neg (by omega), if_pos rfl]
   have lj : LitOk S.n (c.getD j 0) := hlo _ ((hmem _).1 (gtD_mem hj))
   have nj0 : c.getD j 0 ≠ c.getD 0 0 := fun e => by have := hD j 0 hj (by omega) e; omega
   have njl : c.getD j 0 ≠ l := fun e => by have := hD j 1 hj (by omega) (by rw [e, hc1]); omega
   have hI := h.inv.putC hk (swapAt_dis hD (by omega) hj) hc'
   have hcl2 : ∀ q, (S.putC k (Sol.swapAt c 1 j)).cla q = if q = k then Sol.swapAt c 1 j else S.cla q := putC_cla hk
   have hcl1 : ∀ q, (S.putC k c).cla q = if q = k then c else S.cla q := putC_cla hk
   have hE2 := Ext.putC (c := Sol.swapAt c 1 j) hk hc'
   refine ⟨⟨hE2.n, hE2.st, hE2.nx, hE2.cln, hE2.cls, hE2.trp, hE2.lits, hE2.old, hE2.new⟩, fun _ => ⟨⟨hI.dis, hI.asd, hI.sts, hI.stl, hI.lev, hI.why, hI.nxt⟩, fun i hi => ?_, fun q hq p r hpr i hi e hex => ?_, hF.cur, hF.lvc⟩, fun h3 => by simp at h3⟩
   ·have hil := atL_lt hl
    have hlt : atL l < S.wl.length := by rw [hS.len.wl]; exact hil
    have hjt : atL (c.getD j 0) < S.wl.length := by rw [hS.len.wl]; exact atL_lt lj
    obtain ⟨o1, o2⟩ := hF.wat i hi
    have e1 : ((S.putC k c).putW (atL l) (kept ++ k :: R)).wl.getD i [] = if i = atL l then kept ++ k :: R else S.wl.getD i [] := putW_wl (S := S.putC k c) hlt i
    have e2 : (Sol.putW { S.putC k (Sol.swapAt c 1 j) with wl := Sol.push S.wl (atL ((Sol.swapAt c 1 j).getD 1 0)) k } (atL l) (kept ++ R)).wl.getD i [] = if i = atL l then kept ++ R else if i = atL (c.getD j 0) then S.wl.getD i [] ++ [k] else S.wl.getD i [] := by
     refine (putW_wl (S := { S.putC k (Sol.swapAt c 1 j) with wl := Sol.push S.wl (atL ((Sol.swapAt c 1 j).getD 1 0)) k }) (by simp [Sol.push]; exact hlt) i).trans ?_
     split
     ·rfl
     ·show (Sol.push S.wl (atL ((Sol.swapAt c 1 j).getD 1 0)) k).getD i [] = _
      rw [x1, Sol.push, getD_set _ _ _ _ _ hjt]
      split
      ·rename_i e; rw [e]
      ·rfl
    rw [e1] at o1 o2
    have o3 : ∀ q, q < S.cl.length ∧ (atL (((S.putC k c).cla q).getD 0 0) = i ∨ atL (((S.putC k c).cla q).getD 1 0) = i) ↔ (q ∈ if i = atL l then kept ++ k :: R else S.wl.getD i []) := fun q => by
     have := o2 q
     rw [this]
     show _ ↔ q < (S.putC k c).cl.length ∧ _
     rw [putC_len]
     exact Iff.rfl
    show (List.getD (Sol.putW { S.putC k (Sol.swapAt c 1 j) with wl := Sol.push S.wl (atL ((Sol.swapAt c 1 j).getD 1 0)) k } (atL l) (kept ++ R)).wl i []).Nodup ∧ ∀ q, q ∈ (List.getD (Sol.putW { S.putC k (Sol.swapAt c 1 j) with wl := Sol.push S.wl (atL ((Sol.swapAt c 1 j).getD 1 0)) k } (atL l) (kept ++ R)).wl i []) ↔ q < (S.putC k (Sol.swapAt c 1 j)).cl.length ∧ (atL (((S.putC k (Sol.swapAt c 1 j)).cla q).getD 0 0) = i ∨ atL (((S.putC k (Sol.swapAt c 1 j)).cla q).getD 1 0) = i)
    rw [e2, putC_len]
    have sameq : ∀ q, q ≠ k → (q < S.cl.length ∧ (atL (((S.putC k (Sol.swapAt c 1 j)).cla q).getD 0 0) = i ∨ atL (((S.putC k (Sol.swapAt c 1 j)).cla q).getD 1 0) = i) ↔ (q ∈ if i = atL l then kept ++ k :: R else S.wl.getD i [])) := fun q hq => by
     rw [← o3 q, hcl1, hcl2, if_neg hq, if_neg hq]
    have atk : (atL (((S.putC k (Sol.swapAt c 1 j)).cla k).getD 0 0) = i ∨ atL (((S.putC k (Sol.swapAt c 1 j)).cla k).getD 1 0) = i) ↔ (atL (c.getD 0 0) = i ∨ atL (c.getD j 0) = i) := by
     rw [hcl2, if_pos rfl, x0, x1]
    have ok := o3 k
    rw [hcl1, if_pos rfl, hc1] at ok
    by_cases il : i = atL l
    ·rw [if_pos il] at o1
     simp only [if_pos il] at sameq ⊢
     have nk : k ∉ kept ++ R ∧ (kept ++ R).Nodup := by
      rw [List.nodup_append] at o1
      obtain ⟨p1, p2, p3⟩ := o1
      rw [List.nodup_cons] at p2
      refine ⟨fun hm => ?_, List.nodup_append.2 ⟨p1, p2.2, fun a ha b hb => p3 a ha b (List.mem_cons_of_mem _ hb)⟩⟩
      rcases List.mem_append.1 hm with hm | hm
      ·exact p3 k hm k (by simp) rfl
      ·exact p2.1 hm
     refine ⟨nk.2, fun q => ?_⟩
     by_cases e : q = k
     ·subst e
      rw [atk]
      refine ⟨fun hm => absurd hm nk.1, fun hm => ?_⟩
      rcases hm.2 with e | e
      ·exact absurd (atL_inj' l0 hl (e.trans il)) hne
      ·exact absurd (atL_inj' lj hl (e.trans il)) njl
     ·rw [sameq q e]
      simp [e]
    ·simp only [if_neg il] at sameq ok o1 ⊢
     have nk : atL (c.getD 0 0) ≠ i → k ∉ S.wl.getD i [] := fun hn hm => by
      rcases (ok.2 hm).2 with e | e
      ·exact hn e
      ·exact il e.symm
     by_cases ij : i = atL (c.getD j 0)
     ·simp only [if_pos ij]
      have hk0 : k ∉ S.wl.getD i [] := nk (fun e => nj0 (atL_inj' lj l0 (ij.symm.trans e.symm)))
      refine ⟨List.nodup_append.2 ⟨o1, by simp, fun a ha b hb => fun e => hk0 (by rw [List.mem_singleton.1 hb] at e; rw [← e]; exact ha)⟩, fun q => ?_⟩
      by_cases e : q = k
      ·subst e
       rw [atk]
       exact ⟨fun _ => ⟨hk, .inr ij.symm⟩, fun _ => by simp⟩
      ·rw [sameq q e]
       simp [e]
     ·simp only [if_neg ij]
      refine ⟨o1, fun q => ?_⟩
      by_cases e : q = k
      ·subst e
       rw [atk, ← ok]
       exact ⟨fun h3 => ⟨hk, h3.2.elim .inl (fun e => absurd e.symm il)⟩, fun h3 => ⟨hk, h3.2.elim .inl (fun e => absurd e.symm ij)⟩⟩
      ·rw [sameq q e]
   ·have hq2 : q < S.cl.length := by rw [← putC_len S k (Sol.swapAt c 1 j)]; exact hq
    have hi2 : i < S.tr.length := Nat.lt_of_lt_of_le hi hS.hd
    show S.is (((S.putC k (Sol.swapAt c 1 j)).cla q).getD r 0) = 1 ∧ S.lvl (((S.putC k (Sol.swapAt c 1 j)).cla q).getD r 0) ≤ S.lvl (((S.putC k (Sol.swapAt c 1 j)).cla q).getD p 0)
    have e' : S.lit i = -(((S.putC k (Sol.swapAt c 1 j)).cla q).getD p 0) := e
    have hex' : ¬ (q ∈ R ∧ ((S.putC k (Sol.swapAt c 1 j)).cla q).getD p 0 = l) := hex
    rw [hcl2] at e' hex' ⊢
    by_cases eq : q = k
    ·subst eq
     rw [if_pos rfl] at e' hex' ⊢
     exfalso
     rcases hpr with ⟨rfl, rfl⟩ | ⟨rfl, rfl⟩
     ·rw [x0] at e'
      have := hF.pro q (by rw [putC_len]; exact hk) 0 1 (.inl ⟨rfl, rfl⟩) i hi (by rw [hcla]; exact e') (by rw [hcla]; exact fun h3 => hne h3.2)
      rw [hcla, hc1] at this
      have h4 : S.is l = 1 := this.1
      omega
     ·rw [x1] at e'
      exact hjn (on_false hS hi2 e')
    ·rw [if_neg eq] at e' hex' ⊢
     have := hF.pro q (by rw [putC_len]; exact hq2) p r hpr i hi (by rw [hcl1, if_neg eq]; exact e') (by
      rw [hcl1, if_neg eq]
      exact fun h3 => hex' ⟨(List.mem_cons.1 h3.1).resolve_left eq, h3.2⟩)
     rw [hcl1, if_neg eq] at this
     exact this
  ·rename_i hj
   have hfal : ∀ x ∈ c, x ≠ c.getD 0 0 → S.is x = -1 := fun x hx hx0 => by
    obtain ⟨i, hi, e⟩ := mem_getD (d := 0) hx
    by_cases i0 : i = 0
    ·subst i0; exact absurd e.symm hx0
    ·by_cases i1 : i = 1
     ·subst i1; rw [← e, hc1]; exact hlf
     ·rw [← e]
      exact (scan_all S c _ 2 rfl i (by omega) (by omega)).2
   split
   ·rename_i hf0
    refine ⟨hE, fun h3 => by simp at h3, fun _ => ⟨hF, rfl, hk, by rw [hcla, ← hc1]; exact gtD_mem (by omega), fun x hx => ?_⟩⟩
    rw [hcla] at hx
    show S.is x = -1
    by_cases e : x = c.getD 0 0
    ·rw [e]; exact hf0
    ·exact hfal x hx e
   ·rename_i hn2
    have h0 : S.is (c.getD 0 0) = 0 := by
     rcases is_cases hS.len l0 with e | e | e
     ·exact absurd e hn1
     ·exact absurd e hn2
     ·exact e
    have hu : (S.putC k c).val.getD (c.getD 0 0).natAbs 0 = 0 := is_zero h0
    have hle : (c.getD 0 0).natAbs < (S.putC k c).lev.length := by show _ < S.lev.length; rw [hS.len.lev]; have := l0.2; omega
    have hv : (c.getD 0 0).natAbs < (S.putC k c).val.length := by show _ < S.val.length; rw [hS.len.val]; have := l0.2; omega
    have hj3 : j0 < (S.putC k c).tr.length := Nat.lt_of_lt_of_le hj0 hW.hd
    have hab : l.natAbs ≠ (c.getD 0 0).natAbs := by
     have := off_trail hW hu hj3
     rw [hjl, Int.natAbs_neg] at this
     exact this
    refine ⟨hE.trans (Ext.set hW l0 hu), fun _ => keep _ (Inv.set hW hF.inv l0 hu (.inr ⟨k, rfl, by rw [putC_len]; exact hk, by rw [hcla]; exact gtD_mem (by omega), fun x hx hx0 => ?_⟩)) hF.wat (Pro.set hW hF.pro l0 hu) ⟨j0, hj0, by rw [lit_set, if_pos hj3]; exact hjl⟩ ?_ hcla (is_set_same hv l0.1) ?_, fun h3 => by simp at h3⟩
    ·rw [hcla] at hx
     exact false_on hW hF.inv (hlo x ((hmem x).1 hx)) (hfal x hx hx0)
    ·rw [lvl_set hle, if_neg hab]; exact hF.lvc
    ·rw [lvl_set hle, lvl_set hle, if_pos rfl, if_neg hab, hF.lvc]; exact Nat.le_refl _
structure Confl (S : Sol) (k : Nat) : Prop where
 inv : Inv S
 wat : S.Wat
 pro : S.Pro (fun _ a => S.lvl a = S.st.length)
 kl : k < S.cl.length
 cur : ∃ x ∈ S.cla k, S.lvl x = S.st.length
 fal : ∀ x ∈ S.cla k, S.is x = -1
structure Calm (S : Sol) : Prop where
 inv : Inv S
 wat : S.Wat
 pro : S.Pro (fun _ _ => False)
theorem inner_flux {l : Int} : ∀ (ks : List Nat) (S : Sol) (kept : List Nat) (B : Nat), SW S B → Flux l S kept ks → Ext S (Sol.inner l ks S kept).1 ∧ (Sol.inner l ks S kept).1.head = S.head ∧
  ((Sol.inner l ks S kept).2 = none → Calm (Sol.inner l ks S kept).1) ∧ (∀ k, (Sol.inner l ks S kept).2 = some k → Confl (Sol.inner l ks S kept).1 k)
 | [], S, kept, B, hS, h => by
  rw [Sol.inner]
  have hw := h.wat
  rw [List.append_nil] at hw
  refine ⟨⟨rfl, rfl, rfl, rfl, fun _ _ _ => Iff.rfl, Nat.le_refl _, fun _ _ => rfl, fun _ _ => rfl, fun i h1 h2 => absurd h2 (Nat.not_lt.2 h1)⟩, rfl, fun _ => ⟨⟨h.inv.dis, h.inv.asd, h.inv.sts, h.inv.stl, h.inv.lev, h.inv.why, h.inv.nxt⟩, hw, fun j hj p q hpq i hi e _ => h.pro j hj p q hpq i hi e (fun h3 => by simp at h3)⟩, fun k hk => by simp at hk⟩
 | k :: ks, S, kept, B, hS, h => by
  obtain ⟨hE, h1, h2⟩ := visit_flux hS h
  obtain ⟨hk, _⟩ := h.clause hS
  obtain ⟨s1, s2, s3, s4, s5⟩ := visit_sw (l := l) (kept := kept) hS hk
  cases hv : Sol.visit l S kept k with
  | mk S' r =>
   obtain ⟨kept', b⟩ := r
   rw [hv] at hE h1 h2 s1 s5
   cases b with
   | true =>
    rw [inner_bad hv]
    obtain ⟨hF, hkp, hk2, hlm, hfa⟩ := h2 rfl
    simp only at hF hkp hlm hfa hE s5
    have hap : kept' ++ ks = kept ++ k :: ks := by rw [hkp]; simp
    have hi := hF.inv
    refine ⟨⟨hE.n, hE.st, hE.nx, hE.cln, hE.cls, hE.trp, hE.lits, hE.old, hE.new⟩, s5, fun h3 => by simp at h3, fun q hq => ?_⟩
    have e : k = q := by simpa using hq
    subst e
    exact ⟨⟨hi.dis, hi.asd, hi.sts, hi.stl, hi.lev, hi.why, hi.nxt⟩, by rw [hap]; exact hF.wat, fun j hj p q hpq i hi e hex => hF.pro j hj p q hpq i hi e (fun h3 => hex (by have e9 : (S'.cla j).getD p 0 = l := h3.2; show S'.lvl ((S'.cla j).getD p 0) = S'.st.length; rw [e9]; exact hF.lvc)), by show k < S'.cl.length; rw [hE.cln]; exact hk2, ⟨l, hlm, hF.lvc⟩, hfa⟩
   | false =>
    rw [inner_ok hv]
    have hF := h1 rfl
    simp only at hF hE s5 s1
    obtain ⟨g1, g2, g3, g4⟩ := inner_flux ks S' kept' _ s1 hF
    exact ⟨hE.trans g1, g2.trans s5, g3, g4⟩
theorem inner_sw {l : Int} : ∀ (ks : List Nat) (S : Sol) (kept : List Nat) (B : Nat), SW S B → Flux l S kept ks → ∃ B', SW (Sol.inner l ks S kept).1 B'
 | [], S, kept, B, hS, h => by
  rw [Sol.inner]
  obtain ⟨hl, _⟩ := h.lok hS
  have hi := atL_lt hl
  have hlt : atL l < S.wl.length := by rw [hS.len.wl]; exact hi
  have hw := (h.wat (atL l) hi).2
  exact ⟨B + kept.length, hS.putW hi (fun k hk => by
   have := (hw k).1 (by rw [putW_wl hlt, if_pos rfl]; simpa using hk)
   exact this.1) (by omega)⟩
 | k :: ks, S, kept, B, hS, h => by
  obtain ⟨hE, h1, h2⟩ := visit_flux hS h
  obtain ⟨hk, _⟩ := h.clause hS
  obtain ⟨s1, s2, s3, s4, s5⟩ := visit_sw (l := l) (kept := kept) hS hk
  cases hv : Sol.visit l S kept k with
  | mk S' r =>
   obtain ⟨kept', b⟩ := r
   rw [hv] at hE h1 h2 s1 s3
   cases b with
   | true =>
    rw [inner_bad hv]
    obtain ⟨hF, hkp, hk2, hlm, hfa⟩ := h2 rfl
    simp only at hF hkp s1 s3
    have hap : kept' ++ ks = kept ++ k :: ks := by rw [hkp]; simp
    obtain ⟨hl, _⟩ := hF.lok s1
    have hi := atL_lt hl
    have hlt : atL l < S'.wl.length := by rw [s1.len.wl]; exact hi
    have hw := (hF.wat (atL l) hi).2
    exact ⟨B + 1 + (kept' ++ ks).length, s1.putW hi (fun q hq => by
     have := (hw q).1 (by rw [putW_wl hlt, if_pos rfl, ← hap]; exact hq)
     exact this.1) (by omega)⟩
   | false =>
    rw [inner_ok hv]
    exact inner_sw ks S' kept' _ s1 (h1 rfl)
theorem set_self {α : Type} (l : List α) (i : Nat) (d : α) : l.set i (l.getD i d) = l := by
 refine List.ext_getElem? fun j => ?_
 rw [List.getElem?_set]
 split
 ·rename_i e
  subst e
  split
  ·rename_i h; rw [getD_some d h]
  ·rename_i h; rw [List.getElem?_eq_none (by omega)]
 ·rfl
theorem head_flux {S : Sol} {B : Nat} (hS : SW S B) (h : Calm S) (hst : ∀ x ∈ S.st, x ≤ S.head) (hh : S.head < S.tr.length) : SW { S with head := S.head + 1 } B ∧ Flux (-(S.tr.getD S.head 0)) { S with head := S.head + 1 } [] (S.wl.getD (atL (-(S.tr.getD S.head 0))) []) := by
 have hi := h.inv
 have hlo := slit_ok hS hh
 have hll : LitOk S.n (-(S.lit S.head)) := ⟨by have := hlo.1; omega, by rw [Int.natAbs_neg]; exact hlo.2⟩
 refine ⟨⟨⟨hS.len.n, hS.len.val, hS.len.lev, hS.len.why, hS.len.wl, hS.len.tri, hS.len.tr, hS.len.trn, hS.len.stn⟩, hS.cls, hS.csz, hS.wls, hS.asg, hS.nd, hS.tot, hh⟩, ⟨hi.dis, hi.asd, hi.sts, hi.stl, hi.lev, hi.why, hi.nxt⟩, ?_, fun k hk p q hpq i hi2 e hex => ?_, ⟨S.head, Nat.lt_succ_self _, by rw [Int.neg_neg]; rfl⟩, ?_⟩
 ·rw [List.nil_append]
  have : Sol.putW { S with head := S.head + 1 } (atL (-(S.tr.getD S.head 0))) (S.wl.getD (atL (-(S.tr.getD S.head 0))) []) = { S with head := S.head + 1 } := by
   unfold Sol.putW
   simp only [set_self]
  rw [this]
  exact h.wat
 ·by_cases e2 : i < S.head
  ·exact h.pro k hk p q hpq i e2 e (fun h => h)
  ·exfalso
   have e3 : i = S.head := by have : i < S.head + 1 := hi2; omega
   subst e3
   have e4 : (S.cla k).getD p 0 = -(S.lit S.head) := by have : S.lit S.head = -((S.cla k).getD p 0) := e; rw [this, Int.neg_neg]
   refine hex ⟨((h.wat _ (atL_lt hll)).2 k).2 ⟨hk, ?_⟩, e4⟩
   rcases hpq with ⟨rfl, rfl⟩ | ⟨rfl, rfl⟩
   ·exact .inl (by rw [e4])
   ·exact .inr (by rw [e4])
 ·show S.lvl (-(S.lit S.head)) = S.st.length
  rw [lvl_neg, hi.lev _ hh, lv_all hst]
theorem spread_calm : ∀ (f : Nat) (S : Sol) (B : Nat), SW S B → Calm S → (∀ x ∈ S.st, x ≤ S.head) → S.n + 1 ≤ f + S.head → Ext S (Sol.spread f S).1 ∧ (∃ B', SW (Sol.spread f S).1 B') ∧ S.head ≤ (Sol.spread f S).1.head ∧
  ((Sol.spread f S).2 = none → Calm (Sol.spread f S).1 ∧ (Sol.spread f S).1.head = (Sol.spread f S).1.tr.length) ∧ (∀ k, (Sol.spread f S).2 = some k → Confl (Sol.spread f S).1 k)
 | 0, S, B, hS, h, hst, hf => by
  have := hS.hd
  have := hS.len.trn
  omega
 | f + 1, S, B, hS, h, hst, hf => by
  rw [Sol.spread]
  split
  ·rename_i hh
   obtain ⟨w1, w2⟩ := head_flux hS h hst hh
   obtain ⟨B', w3⟩ := inner_sw _ _ _ _ w1 w2
   obtain ⟨g1, g2, g3, g4⟩ := inner_flux _ _ _ _ w1 w2
   have hE : Ext S { S with head := S.head + 1 } := ⟨rfl, rfl, rfl, rfl, fun _ _ _ => Iff.rfl, Nat.le_refl _, fun _ _ => rfl, fun _ _ => rfl, fun i h1 h2 => absurd h2 (Nat.not_lt.2 h1)⟩
   cases hv : Sol.inner (-(S.tr.getD S.head 0)) (S.wl.getD (atL (-(S.tr.getD S.head 0))) []) { S with head := S.head + 1 } [] with
   | mk S' r =>
    rw [hv] at g1 g2 g3 g4 w3
    simp only at g1 g2 g3 g4 w3
    have hE2 := hE.trans g1
    cases r with
    | some k => exact ⟨hE2, ⟨_, w3⟩, by show S.head ≤ S'.head; rw [g2]; exact Nat.le_succ _, fun h3 => by simp at h3, fun q hq => g4 q hq⟩
    | none =>
     have r := spread_calm f S' B' w3 (g3 rfl) (by rw [hE2.st, g2]; exact fun x hx => Nat.le_succ_of_le (hst x hx)) (by rw [hE2.n, g2]; show S.n + 1 ≤ f + (S.head + 1); omega)
     exact ⟨hE2.trans r.1, r.2.1, Nat.le_trans (by rw [g2]; exact Nat.le_succ _) r.2.2.1, r.2.2.2⟩
  ·rename_i hh
   exact ⟨Ext.refl S, ⟨B, hS⟩, Nat.le_refl _, fun _ => ⟨h, by have := hS.hd; show S.head = S.tr.length; omega⟩, fun k hk => by simp at hk⟩

theorem skip_spec (v : List Int) : ∀ (m i : Nat), v.length - i = m → i ≤ v.length → i ≤ Sol.skip v i ∧ Sol.skip v i ≤ v.length ∧ (∀ j, i ≤ j → j < Sol.skip v i → v.getD j 0 ≠ 0) ∧ (Sol.skip v i < v.length → v.getD (Sol.skip v i) 0 = 0)
 | 0, i, h, h2 => by
  rw [skip_stop (fun h => by omega)]
  exact ⟨Nat.le_refl _, h2, fun j h3 h4 => by omega, fun h3 => by omega⟩
 | m + 1, i, h, h2 => by
  by_cases h1 : i < v.length ∧ v.getD i 0 ≠ 0
  ·rw [skip_more h1.1 h1.2]
   obtain ⟨a, b, c, d⟩ := skip_spec v m (i + 1) (by omega) (by omega)
   refine ⟨by omega, b, fun j h3 h4 => ?_, d⟩
   by_cases e : j = i
   ·subst e; exact h1.2
   ·exact c j (by omega) h4
  ·rw [skip_stop h1]
   exact ⟨Nat.le_refl _, h2, fun j h3 h4 => by omega, fun h3 => by
    by_cases e : v.getD i 0 = 0
    ·exact e
    ·exact absurd ⟨h3, e⟩ h1⟩
theorem snoc_getD {α : Type} (l : List α) (x d : α) (i : Nat) : (l ++ [x]).getD i d = if i < l.length then l.getD i d else if i = l.length then x else d := by
 simp only [List.getD_eq_getElem?_getD, List.getElem?_append]
 split
 ·rfl
 ·rename_i h
  by_cases e : i = l.length
  ·subst e; simp
  ·rw [if_neg e, List.getElem?_eq_none (by simp; omega)]; rfl
theorem Calm.start {S : Sol} (h : Calm S) {p : Nat} (hst : ∀ x ∈ S.st, x < S.tr.length) (hp : ∀ v, 1 ≤ v → v < p → S.val.getD v 0 ≠ 0) : Calm (S.start p) := by
 have hi := h.inv
 refine ⟨⟨hi.dis, hi.asd, fun i j hij hj => ?_, fun x hx => ?_, fun i hi2 => ?_, fun i hi2 => ?_, hp⟩, h.wat, h.pro⟩
 ·show (S.st ++ [S.tr.length]).getD i 0 < (S.st ++ [S.tr.length]).getD j 0
  have hj2 : j < S.st.length + 1 := by simpa [Sol.start] using hj
  rw [snoc_getD, snoc_getD, if_pos (by omega)]
  split
  ·exact hi.sts i j hij (by omega)
  ·rw [if_pos (by omega)]
   exact hst _ (gtD_mem (by omega))
 ·rcases List.mem_append.1 (show x ∈ S.st ++ [S.tr.length] from hx) with h1 | h1
  ·exact hi.stl x h1
  ·rw [List.mem_singleton.1 h1]; exact Nat.le_refl _
 ·show S.lvl (S.lit i) = lv (S.st ++ [S.tr.length]) i
  rw [lv_snoc (show i < S.tr.length from hi2)]
  exact hi.lev i hi2
 ·rcases hi.why i hi2 with ⟨h1, h2⟩ | h1
  ·refine .inl ⟨h1, ?_⟩
   rcases h2 with h2 | h2
   ·exact .inl (List.mem_append.2 (.inl h2))
   ·exact .inr (by show lv (S.st ++ [S.tr.length]) i = 0; rw [lv_snoc (show i < S.tr.length from hi2)]; exact h2)
  ·exact .inr h1
theorem Calm.set {S : Sol} {B : Nat} (hS : SW S B) (h : Calm S) {l w : Int} (hl : LitOk S.n l) (hu : S.val.getD l.natAbs 0 = 0) (hw : (w = -1 ∧ (S.tr.length ∈ S.st ∨ lv S.st S.tr.length = 0)) ∨ ∃ c : Nat, w = (c : Int) ∧ S.Forced S.tr.length c l) : Calm (S.set l w) :=
 ⟨Inv.set hS h.inv hl hu hw, h.wat, Pro.set hS h.pro hl hu⟩
theorem decide_calm {S : Sol} {B : Nat} (hS : SW S B) (h : Calm S) (hst : ∀ x ∈ S.st, x < S.tr.length) (h1 : 1 ≤ S.next) (h2 : S.next ≤ S.n + 1) :
  (S.decide.2 = false → S.decide.1 = S.nextTo (S.n + 1) ∧ ∀ v, 1 ≤ v → v ≤ S.n → S.val.getD v 0 ≠ 0) ∧
  (S.decide.2 = true → ∃ p, 1 ≤ p ∧ p ≤ S.n ∧ S.decide.1 = (S.start p).set (-(p : Int)) (-1) ∧ S.val.getD p 0 = 0 ∧ SW S.decide.1 B ∧ Calm S.decide.1 ∧ S.tr.length < S.n) := by
 have hsk := skip_spec S.val _ S.next rfl (by rw [hS.len.val]; omega)
 unfold Sol.decide
 split
 ·rename_i e
  rw [e] at hsk
  refine ⟨fun _ => ⟨rfl, fun v h3 h4 => ?_⟩, fun h3 => by simp at h3⟩
  by_cases e2 : v < S.next
  ·exact h.inv.nxt v h3 e2
  ·exact hsk.2.2.1 v (by omega) (by omega)
 ·rename_i e
  refine ⟨fun h3 => by simp at h3, fun _ => ?_⟩
  obtain ⟨a, b, c, d⟩ := hsk
  rw [hS.len.val] at b d
  generalize Sol.skip S.val S.next = p at a b c d e
  have hp := d (by omega)
  have hfl := free_len hS (p := p) (by omega) (by omega) hp
  have hsl : S.st.length + 1 ≤ S.n := by
   have : S.st.length ≤ S.tr.length := by
    have grow : ∀ i, i < S.st.length → i ≤ S.st.getD i 0 := fun i => by
     induction i with
     | zero => intro _; omega
     | succ i ih =>
      intro hi
      have := ih (by omega)
      have := h.inv.sts i (i + 1) (by omega) hi
      omega
    by_cases e0 : S.st.length = 0
    ·omega
    ·have := grow (S.st.length - 1) (by omega)
     have := hst _ (gtD_mem (l := S.st) (i := S.st.length - 1) (d := 0) (by omega))
     omega
   omega
  have hs1 : SW (S.start p) B := hS.start hsl
  have hc1 : Calm (S.start p) := h.start hst (fun v h3 h4 => by
   by_cases e2 : v < S.next
   ·exact h.inv.nxt v h3 e2
   ·exact c v (by omega) h4)
  have hl : LitOk (S.start p).n (-(p : Int)) := ⟨by omega, by show (-(p : Int)).natAbs ≤ S.n; omega⟩
  have hu : (S.start p).val.getD (-(p : Int)).natAbs 0 = 0 := by rw [show (-(p : Int)).natAbs = p by omega]; exact hp
  refine ⟨p, by omega, by omega, rfl, hp, hs1.set _ hl hu, hc1.set hs1 hl hu (.inl ⟨rfl, .inl ?_⟩), hfl⟩
  show S.tr.length ∈ S.st ++ [S.tr.length]
  simp
theorem zero_get (ls : List Int) : ∀ (v : List Int), (∀ l ∈ ls, l.natAbs < v.length) → ∀ j, (Sol.zero v ls).getD j 0 = if j ∈ ls.map Int.natAbs then 0 else v.getD j 0 := by
 induction ls with
 | nil => intro v _ j; rfl
 | cons x xs ih =>
  intro v hv j
  show (Sol.zero (v.set x.natAbs 0) xs).getD j 0 = _
  rw [ih _ (fun l hl => by simpa using hv l (List.mem_cons_of_mem _ hl)) j, getD_set _ _ _ _ _ (hv x (by simp))]
  by_cases e : j ∈ xs.map Int.natAbs
  ·rw [if_pos e, if_pos (by simp only [List.map_cons]; exact List.mem_cons_of_mem _ e)]
  ·rw [if_neg e]
   by_cases e2 : j = x.natAbs
   ·rw [if_pos e2, if_pos (by simp [e2])]
   ·rw [if_neg e2, if_neg (by simp only [List.map_cons, List.mem_cons]; exact fun h => h.elim e2 e)]
theorem low_le (ls : List Int) : ∀ p, Sol.low p ls ≤ p ∧ ∀ l ∈ ls, Sol.low p ls ≤ l.natAbs := by
 induction ls with
 | nil => intro p; exact ⟨Nat.le_refl _, fun l h => by simp at h⟩
 | cons x xs ih =>
  intro p
  obtain ⟨a, b⟩ := ih (min p x.natAbs)
  have e : Sol.low p (x :: xs) = Sol.low (min p x.natAbs) xs := rfl
  rw [e]
  refine ⟨by omega, fun l hl => ?_⟩
  rcases List.mem_cons.1 hl with rfl | hl
  ·omega
  ·exact b l hl
theorem low_ge (ls : List Int) (q : Nat) : ∀ p, q ≤ p → (∀ l ∈ ls, q ≤ l.natAbs) → q ≤ Sol.low p ls := by
 induction ls with
 | nil => intro p h _; exact h
 | cons x xs ih =>
  intro p h h2
  have e : Sol.low p (x :: xs) = Sol.low (min p x.natAbs) xs := rfl
  rw [e]
  exact ih _ (by have := h2 x (by simp); omega) (fun l hl => h2 l (List.mem_cons_of_mem _ hl))
theorem lv_take {st : List Nat} {d i : Nat} (hs : ∀ i j, i < j → j < st.length → st.getD i 0 < st.getD j 0) (hd : d < st.length) (hi : i < st.getD d 0) : lv st i = lv (st.take d) i := by
 have e : st.filter (fun s => decide (s ≤ i)) = (st.take d).filter (fun s => decide (s ≤ i)) ++ (st.drop d).filter (fun s => decide (s ≤ i)) := by rw [← List.filter_append, List.take_append_drop]
 have e2 : (st.drop d).filter (fun s => decide (s ≤ i)) = [] := by
  rw [List.filter_eq_nil_iff]
  intro x hx
  obtain ⟨k, hk, e⟩ := mem_getD (d := 0) hx
  simp only [List.length_drop] at hk
  have e3 : (st.drop d).getD k 0 = st.getD (d + k) 0 := by simp [List.getD_eq_getElem?_getD, List.getElem?_drop]
  rw [e3] at e
  have : st.getD d 0 ≤ x := by
   by_cases k0 : k = 0
   ·subst k0; rw [← e]; exact Nat.le_refl _
   ·have := hs d (d + k) (by omega) (by omega); omega
  simp; omega
 unfold lv
 rw [e, e2, List.append_nil]
theorem lv_lt {st : List Nat} {d i : Nat} (hs : ∀ i j, i < j → j < st.length → st.getD i 0 < st.getD j 0) (hd : d < st.length) (hi : i < st.getD d 0) : lv st i ≤ d := by
 rw [lv_take hs hd hi]
 exact Nat.le_trans (lv_le _ _) (by simp; omega)
theorem lv_ge {st : List Nat} {d i : Nat} (hs : ∀ i j, i < j → j < st.length → st.getD i 0 < st.getD j 0) (hd : d < st.length) (hi : st.getD d 0 ≤ i) : d + 1 ≤ lv st i := by
 have e : st.filter (fun s => decide (s ≤ i)) = (st.take (d + 1)).filter (fun s => decide (s ≤ i)) ++ (st.drop (d + 1)).filter (fun s => decide (s ≤ i)) := by rw [← List.filter_append, List.take_append_drop]
 have e2 : (st.take (d + 1)).filter (fun s => decide (s ≤ i)) = st.take (d + 1) := by
  rw [List.filter_eq_self]
  intro x hx
  obtain ⟨k, hk, e⟩ := mem_getD (d := 0) hx
  simp only [List.length_take] at hk
  have e3 : (st.take (d + 1)).getD k 0 = st.getD k 0 := by simp only [List.getD_eq_getElem?_getD]; rw [List.getElem?_take_of_lt (by omega)]
  rw [e3] at e
  by_cases k0 : k = d
  ·subst k0; simp; omega
  ·have := hs k d (by omega) (by omega); simp; omega
 unfold lv
 rw [e, List.length_append, e2, List.length_take]
 omega
theorem take_gtD {α : Type} (l : List α) (d : α) {t i : Nat} (h : i < t) : (l.take t).getD i d = l.getD i d := by
 simp only [List.getD_eq_getElem?_getD]
 rw [List.getElem?_take_of_lt h]
structure Bk (S : Sol) (d : Nat) (S' : Sol) : Prop where
 n : S'.n = S.n
 cl : S'.cl = S.cl
 st : S'.st = S.st.take d
 trl : S'.tr.length = S.st.getD d 0
 lits : ∀ i, i < S'.tr.length → S'.lit i = S.lit i
 lvl : ∀ x, S'.lvl x = S.lvl x
 wy : ∀ x, S'.wy x = S.wy x
 hd : S'.head = S'.tr.length
 calm : Calm S'
 free : ∀ i, S'.tr.length ≤ i → i < S.tr.length → S'.val.getD (S.lit i).natAbs 0 = 0
 nx : 1 ≤ S.next → 1 ≤ S'.next
 nx2 : S'.next ≤ S.next
theorem back_calm {S : Sol} {B d : Nat} (hS : SW S B) (hi : Inv S) (hw : S.Wat) (hp : S.Pro (fun _ a => S.lvl a = S.st.length)) (hst : ∀ x ∈ S.st, x < S.tr.length) (hsh : ∀ x ∈ S.st, x ≤ S.head) (hd : d < S.st.length) : SW (S.back d) B ∧ Bk S d (S.back d) := by
 have ht := hst _ (gtD_mem (d := 0) hd)
 rw [Sol.back, if_pos hd]
 generalize htt : S.st.getD d 0 = t at ht
 have hlt : ∀ l ∈ S.tr.drop t, l.natAbs < S.val.length := fun l hl => by
  have := (hS.len.tr l (List.mem_of_mem_drop hl)).2
  rw [hS.len.val]; omega
 have htk : (S.tr.take t).length = t := by simp; omega
 have hlit : ∀ i, i < t → (S.tr.take t).getD i 0 = S.lit i := fun i hi => take_gtD _ _ hi
 have dropm : ∀ v, v ∈ (S.tr.drop t).map Int.natAbs ↔ ∃ i, t ≤ i ∧ i < S.tr.length ∧ (S.lit i).natAbs = v := fun v => by
  constructor
  ·intro hv
   obtain ⟨x, hx, e⟩ := List.mem_map.1 hv
   obtain ⟨k, hk, e2⟩ := mem_getD (d := 0) hx
   simp only [List.length_drop] at hk
   refine ⟨t + k, by omega, by omega, ?_⟩
   have e3 : (S.tr.drop t).getD k 0 = S.lit (t + k) := by simp [Sol.lit, List.getD_eq_getElem?_getD, List.getElem?_drop]
   rw [← e3, e2, e]
  ·rintro ⟨i, h1, h2, e⟩
   refine List.mem_map.2 ⟨S.lit i, ?_, e⟩
   have e3 : (S.tr.drop t).getD (i - t) 0 = S.lit i := by
    simp only [Sol.lit, List.getD_eq_getElem?_getD, List.getElem?_drop]
    rw [show t + (i - t) = i by omega]
   rw [← e3]
   exact gtD_mem (by simp; omega)
 have hval : ∀ v, (Sol.zero S.val (S.tr.drop t)).getD v 0 = if v ∈ (S.tr.drop t).map Int.natAbs then 0 else S.val.getD v 0 := zero_get _ _ hlt
 have keepi : ∀ i, i < t → ¬ (S.lit i).natAbs ∈ (S.tr.drop t).map Int.natAbs := fun i hi2 hm => by
  obtain ⟨j, h1, h2, e⟩ := (dropm _).1 hm
  have := lit_inj hS (i := j) (j := i) h2 (by omega) e
  omega
 have hsame : ∀ x : Int, ¬ x.natAbs ∈ (S.tr.drop t).map Int.natAbs → Sol.is { S with val := Sol.zero S.val (S.tr.drop t), next := Sol.low S.next (S.tr.drop t), tr := S.tr.take t, st := S.st.take d, head := t } x = S.is x := fun x hx => by
  unfold Sol.is
  simp only [hval, if_neg hx]
 have hsd : ∀ i j, i < j → j < (S.st.take d).length → (S.st.take d).getD i 0 < (S.st.take d).getD j 0 := fun i j hij hj => by
  simp only [List.length_take] at hj
  rw [take_gtD _ _ (by omega), take_gtD _ _ (by omega)]
  exact hi.sts i j hij (by omega)
 have hlv : ∀ i, i < t → lv S.st i = lv (S.st.take d) i := fun i hi2 => lv_take hi.sts hd (by rw [htt]; exact hi2)
 refine ⟨⟨⟨hS.len.n, by rw [zero_len]; exact hS.len.val, hS.len.lev, hS.len.why, hS.len.wl, fun x hx => ?_, fun l hl => hS.len.tr l (List.mem_of_mem_take hl), ?_, ?_⟩, hS.cls, hS.csz, hS.wls, fun l hl => ?_, ?_, hS.tot, ?_⟩, ?_⟩
 ·obtain ⟨k, hk, e⟩ := mem_getD (d := 0) hx
  rw [hval] at e
  rw [← e]
  rw [zero_len] at hk
  split
  ·omega
  ·exact hS.len.tri _ (gtD_mem hk)
 ·show (S.tr.take t).length ≤ S.n
  have := hS.len.trn
  omega
 ·show (S.st.take d).length ≤ S.n
  have := hS.len.stn
  simp; omega
 ·obtain ⟨k, hk, e⟩ := mem_getD (d := 0) hl
  have hk2 : k < t := by simpa [htk] using hk
  rw [hlit k hk2] at e
  rw [← e, hsame _ (keepi k hk2)]
  exact lit_is hS (by omega)
 ·show ((S.tr.take t).map Int.natAbs).Nodup
  rw [List.map_take]
  exact hS.nd.sublist (List.take_sublist _ _)
 ·show t ≤ (S.tr.take t).length
  omega
 have hI : Inv { S with val := Sol.zero S.val (S.tr.drop t), next := Sol.low S.next (S.tr.drop t), tr := S.tr.take t, st := S.st.take d, head := t } := by
  refine ⟨hi.dis, fun v h1 h2 h3 => ?_, hsd, fun x hx => ?_, fun i hi2 => ?_, fun i hi2 => ?_, fun v h1 h2 => ?_⟩
  ·rw [hval] at h3
   split at h3
   ·exact absurd rfl h3
   ·rename_i h4
    obtain ⟨i, h5, e⟩ := hi.asd v h1 h2 h3
    have h6 : i < t := by
     by_cases h7 : i < t
     ·exact h7
     ·exact absurd ((dropm v).2 ⟨i, by omega, h5, e⟩) h4
    exact ⟨i, by show i < (S.tr.take t).length; omega, by show ((S.tr.take t).getD i 0).natAbs = v; rw [hlit i h6]; exact e⟩
  ·obtain ⟨k, hk, e⟩ := mem_getD (d := 0) hx
   have hk2 : k < d := by have : k < (S.st.take d).length := hk; simp at this; omega
   have e2 : S.st.getD k 0 = x := by rw [← e]; exact (take_gtD _ _ hk2).symm
   have := hi.sts k d hk2 hd
   show x ≤ (S.tr.take t).length
   omega
  ·have hi3 : i < t := by have : i < (S.tr.take t).length := hi2; omega
   show S.lvl ((S.tr.take t).getD i 0) = lv (S.st.take d) i
   rw [hlit i hi3, ← hlv i hi3]
   exact hi.lev i (by omega)
  ·have hi3 : i < t := by have : i < (S.tr.take t).length := hi2; omega
   have := hi.why i (by omega)
   unfold Sol.Why
   show (S.wy ((S.tr.take t).getD i 0) = -1 ∧ (i ∈ S.st.take d ∨ lv (S.st.take d) i = 0)) ∨ ∃ k : Nat, S.wy ((S.tr.take t).getD i 0) = (k : Int) ∧ k < S.cl.length ∧ (S.tr.take t).getD i 0 ∈ S.cla k ∧ ∀ x ∈ S.cla k, x ≠ (S.tr.take t).getD i 0 → ∃ j, j < i ∧ (S.tr.take t).getD j 0 = -x
   rw [hlit i hi3, ← hlv i hi3]
   rcases this with ⟨h1, h2⟩ | ⟨k, h1, h2, h3, h4⟩
   ·refine .inl ⟨h1, ?_⟩
    rcases h2 with h2 | h2
    ·obtain ⟨k, hk, e⟩ := mem_getD (d := 0) h2
     have hkd : k < d := by
      by_cases h5 : k < d
      ·exact h5
      ·exfalso
       have : S.st.getD d 0 ≤ S.st.getD k 0 := by
        by_cases h6 : d = k
        ·subst h6; exact Nat.le_refl _
        ·exact Nat.le_of_lt (hi.sts d k (by omega) hk)
       omega
     refine .inl ?_
     rw [← e, ← take_gtD S.st 0 hkd]
     exact gtD_mem (by simp; omega)
    ·exact .inr h2
   ·refine .inr ⟨k, h1, h2, h3, fun x hx hne => ?_⟩
    obtain ⟨j, hj, e⟩ := h4 x hx hne
    exact ⟨j, hj, by rw [hlit j (by omega)]; exact e⟩
  ·show (Sol.zero S.val (S.tr.drop t)).getD v 0 ≠ 0
   obtain ⟨a, b⟩ := low_le (S.tr.drop t) S.next
   have h3 : v < Sol.low S.next (S.tr.drop t) := h2
   rw [hval, if_neg (fun hm => by
    obtain ⟨x, hx, e⟩ := List.mem_map.1 hm
    have := b x hx
    omega)]
   exact hi.nxt v h1 (by omega)
 refine ⟨rfl, rfl, rfl, by rw [htt]; exact htk, fun i hi2 => hlit i (by have : i < (S.tr.take t).length := hi2; omega), fun _ => rfl, fun _ => rfl, htk.symm, ⟨hI, hw, fun k hk p q hpq j hj e _ => ?_⟩, fun i h1 h2 => ?_, fun h1 => ?_, (low_le _ _).1⟩
 ·have hj2 : j < t := hj
  have e2 : S.lit j = -((S.cla k).getD p 0) := by rw [← hlit j hj2]; exact e
  have l1 : S.lvl ((S.cla k).getD p 0) ≤ d := by
   rw [← lvl_neg, ← e2, hi.lev j (by omega)]
   exact lv_lt hi.sts hd (by rw [htt]; exact hj2)
  have hth := hsh _ (gtD_mem (d := 0) hd)
  obtain ⟨h3, h4⟩ := hp k hk p q hpq j (by omega) e2 (by show ¬ (S.lvl _ = S.st.length); omega)
  have hc := hS.cl (k := k) hk
  have hq : q < (S.cla k).length := by have : 2 ≤ (S.cla k).length := hc.1; omega
  have hlo : LitOk S.n ((S.cla k).getD q 0) := hc.2.2 _ (gtD_mem hq)
  obtain ⟨i, h5, h6⟩ := true_on hS hi hlo h3
  have h7 : i < t := by
   by_cases h8 : i < t
   ·exact h8
   ·have h9 := lv_ge hi.sts hd (i := i) (by omega)
    rw [← hi.lev i h5, h6] at h9
    omega
  refine ⟨?_, h4⟩
  show Sol.is { S with val := Sol.zero S.val (S.tr.drop t), next := Sol.low S.next (S.tr.drop t), tr := S.tr.take t, st := S.st.take d, head := t } ((S.cla k).getD q 0) = 1
  rw [hsame _ (by rw [← h6]; exact keepi i h7)]
  exact h3
 ·show (Sol.zero S.val (S.tr.drop t)).getD (S.lit i).natAbs 0 = 0
  rw [hval, if_pos ((dropm _).2 ⟨i, by have : (S.tr.take t).length ≤ i := h1; omega, h2, rfl⟩)]
 ·exact low_ge _ _ _ h1 (fun l hl => by
   have := (hS.len.tr l (List.mem_of_mem_drop hl)).1
   omega)

def hl (M : Nat → Bool) (l : Int) : Prop := M l.natAbs = decide (0 < l)
theorem hl_neg {M : Nat → Bool} {x : Int} (h : x ≠ 0) : hl M (-x) ↔ ¬ hl M x := by
 unfold hl
 rw [Int.natAbs_neg]
 by_cases h1 : 0 < x
 ·rw [decide_eq_true h1, decide_eq_false (show ¬ 0 < -x by omega)]
  cases M x.natAbs <;> simp
 ·rw [decide_eq_false h1, decide_eq_true (show 0 < -x by omega)]
  cases M x.natAbs <;> simp
def HoldsC (M : Nat → Bool) (c : List Int) : Prop := ∃ l ∈ c, hl M l
structure Snd (M : Nat → Bool) (S : Sol) : Prop where
 cls : ∀ k, k < S.cl.length → HoldsC M (S.cla k)
 why : ∀ i, i < S.tr.length → S.wy (S.lit i) = -1 → i ∉ S.st → hl M (S.lit i)
theorem Snd.ext {M : Nat → Bool} {S S' : Sol} (h : Snd M S) (k : Ext S S') : Snd M S' := by
 refine ⟨fun c hc => ?_, fun i hi hw hs => ?_⟩
 ·rw [k.cln] at hc
  obtain ⟨l, h1, h2⟩ := h.cls c hc
  exact ⟨l, (k.cls c hc l).2 h1, h2⟩
 ·by_cases e : i < S.tr.length
  ·rw [k.lits i e] at hw ⊢
   rw [k.old i e] at hw
   exact h.why i e hw (by rwa [k.st] at hs)
  ·have := k.new i (by omega) hi
   omega
theorem Snd.upto {M : Nat → Bool} {S : Sol} {B : Nat} (hS : SW S B) (hi : Inv S) (h : Snd M S) (t : Nat) (hd : ∀ i ∈ S.st, i < t → hl M (S.lit i)) : ∀ i, i < t → i < S.tr.length → hl M (S.lit i) := by
 intro i
 induction i using Nat.strongRecOn with
 | ind i ih =>
  intro ht hl1
  rcases hi.why i hl1 with ⟨h1, h2⟩ | ⟨k, h1, h2, h3, h4⟩
  ·by_cases e : i ∈ S.st
   ·exact hd i e ht
   ·exact h.why i hl1 h1 e
  ·obtain ⟨x, hx, hm⟩ := h.cls k h2
   by_cases e : x = S.lit i
   ·rw [← e]; exact hm
   ·obtain ⟨j, hj, e2⟩ := h4 x hx e
    have := ih j hj (by omega) (by omega)
    have lo := (slit_ok hS (i := j) (by omega)).1
    rw [e2] at this lo
    exact absurd hm ((hl_neg (by omega)).1 this)
theorem Confl.wrong {M : Nat → Bool} {S : Sol} {B k : Nat} (hS : SW S B) (hc : Confl S k) (h : Snd M S) : ∃ i ∈ S.st, ¬ hl M (S.lit i) := by
 by_cases e : ∃ i ∈ S.st, ¬ hl M (S.lit i)
 ·exact e
 ·exfalso
  have hd : ∀ i ∈ S.st, i < S.tr.length → hl M (S.lit i) := fun i hi _ => by
   by_cases e2 : hl M (S.lit i)
   ·exact e2
   ·exact absurd ⟨i, hi, e2⟩ e
  have ha := Snd.upto hS hc.inv h S.tr.length hd
  obtain ⟨x, hx, hm⟩ := h.cls k hc.kl
  have hlo := (hS.cl (k := k) hc.kl).2.2 x hx
  obtain ⟨i, hi, e2⟩ := false_on hS hc.inv hlo (hc.fal x hx)
  have := ha i hi hi
  rw [e2] at this
  exact absurd hm ((hl_neg hlo.1).1 this)
structure Lesson (S : Sol) (c : List Int) (d : Nat) : Prop where
 dl : d < S.st.length
 pos : 0 < c.length
 dis : Dis c
 on : ∀ x ∈ c, ∃ i, i < S.tr.length ∧ S.lit i = -x
 fst : d < S.lvl (c.getD 0 0)
 rst : ∀ j, 1 ≤ j → j < c.length → S.lvl (c.getD j 0) ≤ d
 snd : 1 < c.length → S.lvl (c.getD 1 0) = d
 one : c.length = 1 → d = 0
def Sol.heed (S : Sol) (c : List Int) : Sol := if 1 < c.length then (S.add c).set (c.getD 0 0) (S.cl.length : Nat) else S.set (c.getD 0 0) (-1)
theorem add_cla (S : Sol) (c : List Int) (k : Nat) : (S.add c).cla k = if k < S.cl.length then S.cla k else if k = S.cl.length then c else [] := snoc_getD _ _ _ _
theorem push_getD (wl : List (List Nat)) (i k j : Nat) (h : i < wl.length) : (Sol.push wl i k).getD j [] = if j = i then wl.getD j [] ++ [k] else wl.getD j [] := by
 rw [Sol.push, getD_set _ _ _ _ _ h]
 split
 ·rename_i e; rw [e]
 ·rfl
theorem SW.add {S : Sol} {B : Nat} (h : SW S B) {c : List Int} (h2 : 2 ≤ c.length) (h3 : c.length ≤ 100000) (hl : ∀ x ∈ c, LitOk S.n x) (hz : S.cl.length + 1 ≤ 1000000) : SW (S.add c) (B + 2) := by
 have hn := h.len
 have h1 : SW { S with cl := S.cl ++ [c] } B := ⟨⟨hn.n, hn.val, hn.lev, hn.why, hn.wl, hn.tri, hn.tr, hn.trn, hn.stn⟩, fun x hx => by
  rcases List.mem_append.1 (show x ∈ S.cl ++ [c] from hx) with h1 | h1
  ·exact h.cls x h1
  ·rw [List.mem_singleton.1 h1]; exact ⟨h2, h3, hl⟩, by show (S.cl ++ [c]).length ≤ _; simp; omega, fun ks hks k hk => by
   have := h.wls ks hks k hk
   show k < (S.cl ++ [c]).length
   simp; omega, h.asg, h.nd, h.tot, h.hd⟩
 have hk : S.cl.length < (S.cl ++ [c]).length := by simp
 have a := SW.push (S := { S with cl := S.cl ++ [c] }) h1 (atL_lt (hl _ (gtD_mem (l := c) (i := 0) (d := 0) (by omega)))) hk
 exact SW.push (S := { S with cl := S.cl ++ [c], wl := Sol.push S.wl (atL (c.getD 0 0)) S.cl.length }) a (atL_lt (hl _ (gtD_mem (l := c) (i := 1) (d := 0) (by omega)))) hk
theorem Inv.add {S : Sol} (h : Inv S) {c : List Int} (hd : Dis c) : Inv (S.add c) := by
 refine ⟨fun k hk => ?_, h.asd, h.sts, h.stl, h.lev, fun i hi => ?_, h.nxt⟩
 ·rw [add_cla]
  have hk2 : k < S.cl.length + 1 := by simpa [Sol.add] using hk
  split
  ·rename_i e; exact h.dis k e
  ·rw [if_pos (by omega)]; exact hd
 ·rcases h.why i hi with h1 | ⟨k, h1, h2, h3, h4⟩
  ·exact .inl h1
  ·refine .inr ⟨k, h1, by simp [Sol.add]; omega, ?_, fun x hx => ?_⟩
   ·rw [add_cla, if_pos h2]; exact h3
   ·rw [add_cla, if_pos h2] at hx; exact h4 x hx
theorem Wat.add {S : Sol} {B : Nat} (hS : SW S B) (h : S.Wat) {c : List Int} (hd : Dis c) (h2 : 2 ≤ c.length) (hl : ∀ x ∈ c, LitOk S.n x) : (S.add c).Wat := fun i hi => by
 have hi2 : i < 2 * S.n + 2 := hi
 obtain ⟨h3, h4⟩ := h i hi2
 have l0 := hl _ (gtD_mem (l := c) (i := 0) (d := 0) (by omega))
 have l1 := hl _ (gtD_mem (l := c) (i := 1) (d := 0) (by omega))
 have hne : atL (c.getD 0 0) ≠ atL (c.getD 1 0) := fun e => by
  have := hd 0 1 (by omega) (by omega) (atL_inj' l0 l1 e)
  omega
 have e : (S.add c).wl.getD i [] = if atL (c.getD 0 0) = i ∨ atL (c.getD 1 0) = i then S.wl.getD i [] ++ [S.cl.length] else S.wl.getD i [] := by
  show (Sol.push (Sol.push S.wl (atL (c.getD 0 0)) S.cl.length) (atL (c.getD 1 0)) S.cl.length).getD i [] = _
  rw [push_getD _ _ _ _ (by simp [Sol.push, hS.len.wl]; exact atL_lt l1), push_getD _ _ _ _ (by rw [hS.len.wl]; exact atL_lt l0)]
  by_cases e1 : i = atL (c.getD 1 0)
  ·rw [if_pos e1, if_neg (fun e2 => hne (e2.symm.trans e1)), if_pos (.inr e1.symm)]
  ·rw [if_neg e1]
   by_cases e2 : i = atL (c.getD 0 0)
   ·rw [if_pos e2, if_pos (.inl e2.symm)]
   ·rw [if_neg e2, if_neg (fun h => h.elim (fun h => e2 h.symm) (fun h => e1 h.symm))]
 have hK : S.cl.length ∉ S.wl.getD i [] := fun hm => by have := ((h4 _).1 hm).1; omega
 have hlen : (S.add c).cl.length = S.cl.length + 1 := by simp [Sol.add]
 rw [e, hlen]
 have old : ∀ k, k ≠ S.cl.length → (k < S.cl.length + 1 ∧ (atL (((S.add c).cla k).getD 0 0) = i ∨ atL (((S.add c).cla k).getD 1 0) = i) ↔ k ∈ S.wl.getD i []) := fun k hk => by
  rw [h4 k, add_cla]
  by_cases e1 : k < S.cl.length
  ·rw [if_pos e1]
   exact ⟨fun h => ⟨e1, h.2⟩, fun h => ⟨by omega, h.2⟩⟩
  ·exact ⟨fun h => absurd h.1 (by omega), fun h => absurd h.1 e1⟩
 have new : (atL (((S.add c).cla S.cl.length).getD 0 0) = i ∨ atL (((S.add c).cla S.cl.length).getD 1 0) = i) ↔ (atL (c.getD 0 0) = i ∨ atL (c.getD 1 0) = i) := by
  rw [add_cla, if_neg (Nat.lt_irrefl _), if_pos rfl]
 split
 ·rename_i hp
  refine ⟨List.nodup_append.2 ⟨h3, by simp, fun a ha b hb e => hK (by rw [List.mem_singleton.1 hb] at e; rw [← e]; exact ha)⟩, fun k => ?_⟩
  by_cases ek : k = S.cl.length
  ·subst ek
   rw [new]
   exact ⟨fun _ => ⟨by omega, hp⟩, fun _ => by simp⟩
  ·rw [old k ek]
   simp [ek]
 ·rename_i hp
  refine ⟨h3, fun k => ?_⟩
  by_cases ek : k = S.cl.length
  ·subst ek
   rw [new]
   exact ⟨fun h => absurd h hK, fun h => absurd h.2 hp⟩
  ·rw [old k ek]
structure Heed (S : Sol) (c : List Int) : Prop where
 pos : 0 < c.length
 dis : Dis c
 lok : ∀ x ∈ c, LitOk S.n x
 fst : S.val.getD (c.getD 0 0).natAbs 0 = 0
 rst : ∀ j, 1 ≤ j → j < c.length → ∃ i, i < S.tr.length ∧ S.lit i = -(c.getD j 0)
 snd : 1 < c.length → S.lvl (c.getD 1 0) = S.st.length
 one : c.length = 1 → S.st.length = 0
theorem Lesson.heed {S S1 : Sol} {B d : Nat} {c : List Int} (hS : SW S B) (hi : Inv S) (h : Lesson S c d) (hb : Bk S d S1) : Heed S1 c := by
 have hok : ∀ x ∈ c, LitOk S.n x := fun x hx => by
  obtain ⟨i, h1, h2⟩ := h.on x hx
  have := slit_ok hS h1
  rw [h2] at this
  exact ⟨by have := this.1; omega, by have := this.2; rwa [Int.natAbs_neg] at this⟩
 have hst : S1.st.length = d := by rw [hb.st]; simp; have := h.dl; omega
 refine ⟨h.pos, h.dis, by rw [hb.n]; exact hok, ?_, fun j h1 h2 => ?_, fun h1 => by rw [hb.lvl, hst]; exact h.snd h1, fun h1 => by rw [hst]; exact h.one h1⟩
 ·obtain ⟨i, h3, h4⟩ := h.on _ (gtD_mem (d := 0) h.pos)
  have h5 := h.fst
  rw [← lvl_neg, ← h4, hi.lev i h3] at h5
  have h6 : S1.tr.length ≤ i := by
   rw [hb.trl]
   by_cases h7 : i < S.st.getD d 0
   ·have := lv_lt hi.sts h.dl h7; omega
   ·omega
  have := hb.free i h6 h3
  rwa [h4, Int.natAbs_neg] at this
 ·obtain ⟨i, h3, h4⟩ := h.on _ (gtD_mem (d := 0) h2)
  have h5 := h.rst j h1 h2
  rw [← lvl_neg, ← h4, hi.lev i h3] at h5
  have h6 : i < S1.tr.length := by
   rw [hb.trl]
   by_cases h7 : i < S.st.getD d 0
   ·exact h7
   ·have := lv_ge hi.sts h.dl (i := i) (by omega); omega
  exact ⟨i, h6, by rw [hb.lits i h6]; exact h4⟩
theorem heed_calm {S : Sol} {B : Nat} {c : List Int} (hS : SW S B) (h : Calm S) (hd : S.head = S.tr.length) (hst : ∀ x ∈ S.st, x < S.tr.length) (hz : S.cl.length + 1 ≤ 1000000) (hc : Heed S c) (hcl : c.length ≤ 100000) : SW (S.heed c) (B + 2) ∧ Calm (S.heed c) := by
 have l0 := hc.lok _ (gtD_mem (d := 0) hc.pos)
 unfold Sol.heed
 split
 ·rename_i h2
  have hS2 := hS.add h2 hcl hc.lok hz
  have hw := Wat.add hS h.wat hc.dis h2 hc.lok
  have hI := h.inv.add hc.dis
  have hu : (S.add c).val.getD (c.getD 0 0).natAbs 0 = 0 := hc.fst
  have hlen : (S.add c).cl.length = S.cl.length + 1 := by simp [Sol.add]
  have hcK : (S.add c).cla S.cl.length = c := by rw [add_cla, if_neg (Nat.lt_irrefl _), if_pos rfl]
  have hp0 : (S.add c).Pro (fun k _ => k = S.cl.length) := fun k hk p q hpq j hj e hex => by
   have hk2 : k < S.cl.length := by rw [hlen] at hk; have : ¬ (k = S.cl.length) := hex; omega
   rw [add_cla, if_pos hk2] at e ⊢
   exact h.pro k hk2 p q hpq j hj e (fun h => h)
  have hp1 := Pro.set (w := (S.cl.length : Nat)) hS2 hp0 l0 hu
  have hI2 := Inv.set (w := (S.cl.length : Nat)) hS2 hI l0 hu (.inr ⟨S.cl.length, rfl, by rw [hlen]; omega, by rw [hcK]; exact gtD_mem hc.pos, fun x hx hne => by
   rw [hcK] at hx
   obtain ⟨j, hj, e⟩ := mem_getD (d := 0) hx
   have j0 : j ≠ 0 := fun e2 => hne (by rw [← e, e2])
   obtain ⟨i, h3, h4⟩ := hc.rst j (by omega) hj
   exact ⟨i, h3, by rw [← e]; exact h4⟩⟩)
  refine ⟨hS2.set _ l0 hu, hI2, hw, fun k hk p q hpq j hj e hex => ?_⟩
  by_cases ek : k = S.cl.length
  ·subst ek
   have hj2 : j < S.tr.length := by have : j < S.head := hj; omega
   have e2 : S.lit j = -(((S.add c).cla S.cl.length).getD p 0) := by
    have h5 : ((S.add c).set (c.getD 0 0) (S.cl.length : Nat)).lit j = -(((S.add c).cla S.cl.length).getD p 0) := e
    rw [lit_set, if_pos (show j < (S.add c).tr.length from hj2)] at h5
    exact h5
   show Sol.is _ (((S.add c).cla S.cl.length).getD q 0) = 1 ∧ Sol.lvl _ (((S.add c).cla S.cl.length).getD q 0) ≤ Sol.lvl _ (((S.add c).cla S.cl.length).getD p 0)
   rw [hcK] at e2 ⊢
   have hoff := off_trail hS hc.fst hj2
   rw [e2, Int.natAbs_neg] at hoff
   rcases hpq with ⟨rfl, rfl⟩ | ⟨rfl, rfl⟩
   ·exact absurd rfl hoff
   ·have hle : (c.getD 0 0).natAbs < (S.add c).lev.length := by show _ < S.lev.length; rw [hS.len.lev]; have := l0.2; omega
    have hv : (c.getD 0 0).natAbs < (S.add c).val.length := by show _ < S.val.length; rw [hS.len.val]; have := l0.2; omega
    refine ⟨is_set_same hv l0.1, ?_⟩
    rw [lvl_set hle, lvl_set hle, if_pos rfl, if_neg hoff]
    exact Nat.le_of_eq (hc.snd h2).symm
  ·exact hp1 k hk p q hpq j hj e ek
 ·rename_i h2
  have h3 := hS.set (-1) l0 hc.fst
  have hz0 := hc.one (by have := hc.pos; omega)
  exact ⟨⟨h3.len, h3.cls, h3.csz, h3.wls, h3.asg, h3.nd, by have := h3.tot; omega, h3.hd⟩, h.set hS l0 hc.fst (.inl ⟨rfl, .inr (by have := lv_le S.st S.tr.length; omega)⟩)⟩
theorem heed_snd {M : Nat → Bool} {S : Sol} {B : Nat} {c : List Int} (hS : SW S B) (h : Snd M S) (hc : Heed S c) (hm : HoldsC M c) : Snd M (S.heed c) := by
 have l0 := hc.lok _ (gtD_mem (d := 0) hc.pos)
 have hwy : (c.getD 0 0).natAbs < S.why.length := by rw [hS.len.why]; have := l0.2; omega
 unfold Sol.heed
 split
 ·rename_i h2
  refine ⟨fun k hk => ?_, fun i hi hw hs => ?_⟩
  ·have hk2 : k < S.cl.length + 1 := by simpa [Sol.add, Sol.set] using hk
   show HoldsC M ((S.add c).cla k)
   rw [add_cla]
   split
   ·rename_i e; exact h.cls k e
   ·rw [if_pos (by omega)]; exact hm
  ·have hi2 : i < S.tr.length + 1 := by simpa [Sol.add, Sol.set] using hi
   rw [lit_set, wy_set (show (c.getD 0 0).natAbs < (S.add c).why.length from hwy)] at hw
   rw [lit_set]
   by_cases e : i < S.tr.length
   ·rw [if_pos (show i < (S.add c).tr.length from e)] at hw ⊢
    have hw2 : (if (S.lit i).natAbs = (c.getD 0 0).natAbs then ((S.cl.length : Nat) : Int) else S.wy (S.lit i)) = -1 := hw
    rw [if_neg (off_trail hS hc.fst e)] at hw2
    exact h.why i e hw2 hs
   ·rw [if_neg (show ¬ i < (S.add c).tr.length from e), if_pos (show i = (S.add c).tr.length by show i = S.tr.length; omega), if_pos rfl] at hw
    omega
 ·rename_i h2
  refine ⟨h.cls, fun i hi hw hs => ?_⟩
  have hi2 : i < S.tr.length + 1 := by simpa [Sol.set] using hi
  rw [lit_set, wy_set hwy] at hw
  rw [lit_set]
  by_cases e : i < S.tr.length
  ·rw [if_pos e] at hw ⊢
   rw [if_neg (off_trail hS hc.fst e)] at hw
   exact h.why i e hw hs
  ·rw [if_neg e, if_pos (by omega)]
   obtain ⟨x, hx, hm⟩ := hm
   obtain ⟨j, hj, e2⟩ := mem_getD (d := 0) hx
   have : j = 0 := by omega
   subst this
   rw [e2]
   exact hm
theorem Snd.back {M : Nat → Bool} {S S1 : Sol} {d : Nat} (h : Snd M S) (hi : Inv S) (hd : d < S.st.length) (hb : Bk S d S1) (htl : S.st.getD d 0 ≤ S.tr.length) : Snd M S1 := by
 refine ⟨fun k hk => ?_, fun i hi2 hw hs => ?_⟩
 ·rw [hb.cl] at hk
  have := h.cls k hk
  unfold Sol.cla at this ⊢
  rw [hb.cl]
  exact this
 ·have ht := hb.trl
  rw [hb.wy, hb.lits i hi2] at hw
  rw [hb.lits i hi2]
  refine h.why i (by omega) hw (fun hm => hs ?_)
  obtain ⟨k, hk, e⟩ := mem_getD (d := 0) hm
  have hkd : k < d := by
   by_cases h5 : k < d
   ·exact h5
   ·exfalso
    have : S.st.getD d 0 ≤ S.st.getD k 0 := by
     by_cases h6 : d = k
     ·subst h6; exact Nat.le_refl _
     ·exact Nat.le_of_lt (hi.sts d k (by omega) hk)
    omega
  rw [hb.st, ← e, ← take_gtD S.st 0 hkd]
  exact gtD_mem (by simp; omega)
theorem Snd.decide {M : Nat → Bool} {S : Sol} {B p : Nat} (hS : SW S B) (h : Snd M S) (h1 : 1 ≤ p) (h2 : p ≤ S.n) (hp : S.val.getD p 0 = 0) : Snd M ((S.start p).set (-(p : Int)) (-1)) := by
 have hab : (-(p : Int)).natAbs = p := by omega
 have hwy : (-(p : Int)).natAbs < (S.start p).why.length := by show _ < S.why.length; rw [hS.len.why]; omega
 refine ⟨h.cls, fun i hi hw hs => ?_⟩
 have hi2 : i < S.tr.length + 1 := by simpa [Sol.start, Sol.set] using hi
 rw [lit_set, wy_set hwy] at hw
 rw [lit_set]
 have hs2 : i ∉ S.st ++ [S.tr.length] := hs
 by_cases e : i < S.tr.length
 ·rw [if_pos (show i < (S.start p).tr.length from e)] at hw ⊢
  have hw2 : (if (S.lit i).natAbs = (-(p : Int)).natAbs then -1 else S.wy (S.lit i)) = -1 := hw
  rw [if_neg (off_trail (l := -(p : Int)) hS (by rw [hab]; exact hp) e)] at hw2
  exact h.why i e hw2 (fun h => hs2 (List.mem_append.2 (.inl h)))
 ·exact absurd (List.mem_append.2 (.inr (by rw [show i = S.tr.length by omega]; simp))) hs2
def Sol.pot (S : Sol) : Nat := (S.st.map fun s => 2 ^ (S.n - s - 1)).sum + 2 ^ (S.n - S.tr.length)
theorem Ext.pot {S S' : Sol} (h : Ext S S') : S'.pot ≤ S.pot := by
 unfold Sol.pot
 rw [h.st, h.n]
 have := Nat.pow_le_pow_right (n := 2) (by decide) (show S.n - S'.tr.length ≤ S.n - S.tr.length by have := h.trp; omega)
 omega
theorem decide_pot {S : Sol} {p : Nat} (h : S.tr.length < S.n) : ((S.start p).set (-(p : Int)) (-1)).pot = S.pot := by
 show ((S.st ++ [S.tr.length]).map fun s => 2 ^ (S.n - s - 1)).sum + 2 ^ (S.n - (S.tr ++ [-(p : Int)]).length) = _
 unfold Sol.pot
 have e : 2 ^ (S.n - S.tr.length) = 2 ^ (S.n - S.tr.length - 1) + 2 ^ (S.n - S.tr.length - 1) := by
  have : S.n - S.tr.length = S.n - S.tr.length - 1 + 1 := by omega
  rw [this, Nat.pow_succ]
  simp only [Nat.add_sub_cancel]
  omega
 simp only [List.map_append, List.map_cons, List.map_nil, List.sum_append, List.sum_cons, List.sum_nil, List.length_append, List.length_cons, List.length_nil, Nat.zero_add, Nat.add_zero, ← Nat.sub_sub]
 omega

structure LI (S : Sol) (i : Nat) (seen out : List Int) (P : List Nat) : Prop where
 il : i < S.tr.length
 pos : 0 < out.length
 pnd : P.Nodup
 pen : ∀ v ∈ P, ∃ j, j ≤ i ∧ (S.lit j).natAbs = v ∧ lv S.st j = S.st.length ∧ (v : Int) ∈ seen
 all : ∀ j, j ≤ i → ((S.lit j).natAbs : Int) ∈ seen → lv S.st j = S.st.length → (S.lit j).natAbs ∈ P
 outs : ∀ q, 1 ≤ q → q < out.length → (∃ j, j < S.tr.length ∧ S.lit j = -(out.getD q 0)) ∧ 0 < S.lvl (out.getD q 0) ∧ S.lvl (out.getD q 0) < S.st.length ∧ ((out.getD q 0).natAbs : Int) ∈ seen
 dis : ∀ p q, 1 ≤ p → p < q → q < out.length → (out.getD p 0).natAbs ≠ (out.getD q 0).natAbs
 sn : ∀ v ∈ seen, (∃ q, 1 ≤ q ∧ q < out.length ∧ ((out.getD q 0).natAbs : Int) = v) ∨ ∃ j, j < S.tr.length ∧ ((S.lit j).natAbs : Int) = v ∧ lv S.st j = S.st.length
def Imp (S : Sol) (i : Nat) (out : List Int) (P : List Nat) (skip : Int) (rest : List Int) : Prop := ∀ M, Snd M S → (∃ q, 1 ≤ q ∧ q < out.length ∧ hl M (out.getD q 0)) ∨ (∃ j, j ≤ i ∧ (S.lit j).natAbs ∈ P ∧ ¬ hl M (S.lit j)) ∨ ∃ x ∈ rest, x ≠ skip ∧ hl M x
structure Gth (S : Sol) (i : Nat) (skip : Int) (c : List Int) (q : Nat) (seen out : List Int) (P : List Nat) : Prop where
 li : LI S i seen out P
 imp : Imp S i out P skip (c.drop q)
 fal : ∀ x ∈ c, x ≠ skip → ∃ j, j ≤ i ∧ S.lit j = -x
 ne : P ≠ [] ∨ ∃ x ∈ c.drop q, x ≠ skip ∧ S.lvl x = S.st.length
theorem Gth.skip {S : Sol} {B i q : Nat} {skip : Int} {c seen out : List Int} {P : List Nat} (hS : SW S B) (hi : Inv S) (hp : 0 < S.st.length) (h : Gth S i skip c q seen out P) (hq : q < c.length) (hl1 : c.getD q 0 = skip ∨ ((c.getD q 0).natAbs : Int) ∈ seen ∨ S.lvl (c.getD q 0) = 0) : Gth S i skip c (q + 1) seen out P := by
 have hd := drop_gtD (l := c) (i := q) 0 hq
 refine ⟨h.li, fun M hM => ?_, h.fal, ?_⟩
 ·have := h.imp M hM
  rw [hd] at this
  rcases this with h1 | h1 | ⟨x, hx, hne, hm⟩
  ·exact .inl h1
  ·exact .inr (.inl h1)
  ·rcases List.mem_cons.1 hx with rfl | hx
   ·obtain ⟨j, hj, e⟩ := h.fal _ (gtD_mem hq) hne
    have hjl : j < S.tr.length := Nat.lt_of_le_of_lt hj h.li.il
    have ej : (S.lit j).natAbs = (c.getD q 0).natAbs := by rw [e, Int.natAbs_neg]
    have lo := (slit_ok hS hjl).1
    rw [e] at lo
    have hneg : ¬ hl M (S.lit j) := by rw [e]; exact fun h2 => (hl_neg (by omega)).1 h2 hm
    rcases hl1 with h2 | h2 | h2
    ·exact absurd h2 hne
    ·rcases h.li.sn _ h2 with ⟨p, h3, h4, h5⟩ | ⟨j2, h3, h4, h5⟩
     ·obtain ⟨⟨j3, h6, h7⟩, _⟩ := h.li.outs p h3 h4
      have h8 : j3 = j := lit_inj hS h6 hjl (by rw [h7, Int.natAbs_neg, ej]; exact Int.ofNat.inj h5)
      subst h8
      have h9 : out.getD p 0 = c.getD q 0 := by omega
      exact .inl ⟨p, h3, h4, by rw [h9]; exact hm⟩
     ·have h8 : j2 = j := lit_inj hS h3 hjl (by rw [ej]; exact Int.ofNat.inj h4)
      subst h8
      exact .inr (.inl ⟨j2, hj, h.li.all j2 hj (by rw [ej]; exact h2) h5, hneg⟩)
    ·exfalso
     have h3 : lv S.st j = 0 := by rw [← hi.lev j hjl, e, lvl_neg]; exact h2
     have := Snd.upto hS hi hM (j + 1) (fun s hs h4 => by
      have := lv_mono S.st (show s ≤ j by omega)
      have := lv_pos hs
      omega) j (by omega) hjl
     exact hneg this
   ·exact .inr (.inr ⟨x, hx, hne, hm⟩)
 ·rcases h.ne with h1 | ⟨x, hx, hne, hm⟩
  ·exact .inl h1
  ·rw [hd] at hx
   rcases List.mem_cons.1 hx with rfl | hx
   ·rcases hl1 with h2 | h2 | h2
    ·exact absurd h2 hne
    ·obtain ⟨j, hj, e⟩ := h.fal _ (gtD_mem hq) hne
     have hjl : j < S.tr.length := Nat.lt_of_le_of_lt hj h.li.il
     have ej : (S.lit j).natAbs = (c.getD q 0).natAbs := by rw [e, Int.natAbs_neg]
     exact .inl (List.ne_nil_of_mem (h.li.all j hj (by rw [ej]; exact h2) (by rw [← hi.lev j hjl, e, lvl_neg]; exact hm)))
    ·omega
   ·exact .inr ⟨x, hx, hne, hm⟩
theorem Gth.now {S : Sol} {B i q : Nat} {skip : Int} {c seen out : List Int} {P : List Nat} (hS : SW S B) (hi : Inv S) (h : Gth S i skip c q seen out P) (hq : q < c.length) (h1 : c.getD q 0 ≠ skip) (h2 : ((c.getD q 0).natAbs : Int) ∉ seen) (h3 : S.lvl (c.getD q 0) = S.st.length) : Gth S i skip c (q + 1) (seen ++ [((c.getD q 0).natAbs : Int)]) out (P ++ [(c.getD q 0).natAbs]) := by
 have hd := drop_gtD (l := c) (i := q) 0 hq
 obtain ⟨j, hj, e⟩ := h.fal _ (gtD_mem hq) h1
 have hjl : j < S.tr.length := Nat.lt_of_le_of_lt hj h.li.il
 have ej : (S.lit j).natAbs = (c.getD q 0).natAbs := by rw [e, Int.natAbs_neg]
 have lo := (slit_ok hS hjl).1
 rw [e] at lo
 have hlj : lv S.st j = S.st.length := by rw [← hi.lev j hjl, e, lvl_neg]; exact h3
 have hk := h.li
 refine ⟨⟨hk.il, hk.pos, ?_, fun v hv => ?_, fun a ha hs hlv => ?_, fun p hp hp2 => ?_, hk.dis, fun v hv => ?_⟩, fun M hM => ?_, h.fal, .inl (by simp)⟩
 ·refine List.nodup_append.2 ⟨hk.pnd, by simp, fun a ha b hb e2 => h2 ?_⟩
  obtain ⟨_, _, _, _, h5⟩ := hk.pen a ha
  rw [List.mem_singleton.1 hb] at e2
  rw [← e2]; exact h5
 ·rcases List.mem_append.1 hv with hv | hv
  ·obtain ⟨a, h4, h5, h6, h7⟩ := hk.pen v hv
   exact ⟨a, h4, h5, h6, List.mem_append.2 (.inl h7)⟩
  ·rw [List.mem_singleton.1 hv]
   exact ⟨j, hj, ej, hlj, by simp⟩
 ·rcases List.mem_append.1 hs with hs | hs
  ·exact List.mem_append.2 (.inl (hk.all a ha hs hlv))
  ·exact List.mem_append.2 (.inr (by rw [Int.ofNat.inj (List.mem_singleton.1 hs)]; simp))
 ·obtain ⟨h4, h5, h6, h7⟩ := hk.outs p hp hp2
  exact ⟨h4, h5, h6, List.mem_append.2 (.inl h7)⟩
 ·rcases List.mem_append.1 hv with hv | hv
  ·exact hk.sn v hv
  ·rw [List.mem_singleton.1 hv]
   exact .inr ⟨j, hjl, by rw [ej], hlj⟩
 ·have := h.imp M hM
  rw [hd] at this
  rcases this with h4 | ⟨a, h4, h5, h6⟩ | ⟨x, hx, hne, hm⟩
  ·exact .inl h4
  ·exact .inr (.inl ⟨a, h4, List.mem_append.2 (.inl h5), h6⟩)
  ·rcases List.mem_cons.1 hx with rfl | hx
   ·exact .inr (.inl ⟨j, hj, List.mem_append.2 (.inr (by rw [ej]; simp)), by rw [e]; exact fun h2 => (hl_neg (by omega)).1 h2 hm⟩)
   ·exact .inr (.inr ⟨x, hx, hne, hm⟩)
theorem Gth.out {S : Sol} {B i q : Nat} {skip : Int} {c seen out : List Int} {P : List Nat} (hS : SW S B) (hi : Inv S) (h : Gth S i skip c q seen out P) (hq : q < c.length) (h1 : c.getD q 0 ≠ skip) (h2 : ((c.getD q 0).natAbs : Int) ∉ seen) (h0 : S.lvl (c.getD q 0) ≠ 0) (h3 : S.lvl (c.getD q 0) ≠ S.st.length) : Gth S i skip c (q + 1) (seen ++ [((c.getD q 0).natAbs : Int)]) (out ++ [c.getD q 0]) P := by
 have hd := drop_gtD (l := c) (i := q) 0 hq
 obtain ⟨j, hj, e⟩ := h.fal _ (gtD_mem hq) h1
 have hjl : j < S.tr.length := Nat.lt_of_le_of_lt hj h.li.il
 have ej : (S.lit j).natAbs = (c.getD q 0).natAbs := by rw [e, Int.natAbs_neg]
 have hlj : lv S.st j = S.lvl (c.getD q 0) := by rw [← hi.lev j hjl, e, lvl_neg]
 have hlt := lv_le S.st j
 have hk := h.li
 have og : ∀ p, p < out.length → (out ++ [c.getD q 0]).getD p 0 = out.getD p 0 := fun p hp => by rw [snoc_getD, if_pos hp]
 have ol : (out ++ [c.getD q 0]).getD out.length 0 = c.getD q 0 := by rw [snoc_getD, if_neg (Nat.lt_irrefl _), if_pos rfl]
 have oln : (out ++ [c.getD q 0]).length = out.length + 1 := by simp
 refine ⟨⟨hk.il, by omega, hk.pnd, fun v hv => ?_, fun a ha hs hlv => ?_, fun p hp hp2 => ?_, fun p r hp hpr hr => ?_, fun v hv => ?_⟩, fun M hM => ?_, h.fal, ?_⟩
 ·obtain ⟨a, h4, h5, h6, h7⟩ := hk.pen v hv
  exact ⟨a, h4, h5, h6, List.mem_append.2 (.inl h7)⟩
 ·rcases List.mem_append.1 hs with hs | hs
  ·exact hk.all a ha hs hlv
  ·exfalso
   have h5 : a = j := lit_inj hS (Nat.lt_of_le_of_lt ha hk.il) hjl (by rw [Int.ofNat.inj (List.mem_singleton.1 hs), ej])
   subst h5
   omega
 ·by_cases e2 : p < out.length
  ·rw [og p e2]
   obtain ⟨h4, h5, h6, h7⟩ := hk.outs p hp e2
   exact ⟨h4, h5, h6, List.mem_append.2 (.inl h7)⟩
  ·have e3 : p = out.length := by omega
   subst e3
   rw [ol]
   exact ⟨⟨j, hjl, e⟩, by omega, by omega, by simp⟩
 ·rw [og p (by omega)]
  by_cases e2 : r < out.length
  ·rw [og r e2]; exact hk.dis p r hp hpr e2
  ·have e3 : r = out.length := by omega
   subst e3
   rw [ol]
   exact fun e4 => h2 (by rw [← e4]; exact (hk.outs p hp hpr).2.2.2)
 ·rcases List.mem_append.1 hv with hv | hv
  ·rcases hk.sn v hv with ⟨p, h4, h5, h6⟩ | h4
   ·exact .inl ⟨p, h4, by omega, by rw [og p h5]; exact h6⟩
   ·exact .inr h4
  ·rw [List.mem_singleton.1 hv]
   exact .inl ⟨out.length, hk.pos, by omega, by rw [ol]⟩
 ·have := h.imp M hM
  rw [hd] at this
  rcases this with ⟨p, h4, h5, h6⟩ | h4 | ⟨x, hx, hne, hm⟩
  ·exact .inl ⟨p, h4, by omega, by rw [og p h5]; exact h6⟩
  ·exact .inr (.inl h4)
  ·rcases List.mem_cons.1 hx with rfl | hx
   ·exact .inl ⟨out.length, hk.pos, by omega, by rw [ol]; exact hm⟩
   ·exact .inr (.inr ⟨x, hx, hne, hm⟩)
 ·rcases h.ne with h4 | ⟨x, hx, hne, hm⟩
  ·exact .inl h4
  ·rw [hd] at hx
   rcases List.mem_cons.1 hx with rfl | hx
   ·exact absurd hm h3
   ·exact .inr ⟨x, hx, hne, hm⟩
structure Dwn (S : Sol) (i : Nat) (seen out : List Int) (P : List Nat) : Prop where
 li : LI S i seen out P
 imp : Imp S i out P 0 []
 ne : P ≠ []
theorem Gth.dwn {S : Sol} {i : Nat} {skip : Int} {c seen out : List Int} {P : List Nat} (h : Gth S i skip c c.length seen out P) : Dwn S i seen out P := by
 refine ⟨h.li, fun M hM => ?_, ?_⟩
 ·have := h.imp M hM
  rw [List.drop_of_length_le (Nat.le_refl _)] at this
  rcases this with h4 | h4 | ⟨x, hx, _⟩
  ·exact .inl h4
  ·exact .inr (.inl h4)
  ·simp at hx
 ·rcases h.ne with h4 | ⟨x, hx, _⟩
  ·exact h4
  ·rw [List.drop_of_length_le (Nat.le_refl _)] at hx
   simp at hx
theorem Dwn.step {S : Sol} {i : Nat} {seen out : List Int} {P : List Nat} (h : Dwn S i seen out P) (hs : ((S.lit i).natAbs : Int) ∉ seen) : 1 ≤ i ∧ Dwn S (i - 1) seen out P := by
 have hk := h.li
 have hne : ∀ v ∈ P, ∃ j, j < i ∧ (S.lit j).natAbs = v ∧ lv S.st j = S.st.length ∧ (v : Int) ∈ seen := fun v hv => by
  obtain ⟨j, h1, h2, h3, h4⟩ := hk.pen v hv
  refine ⟨j, ?_, h2, h3, h4⟩
  by_cases e : j = i
  ·subst e; rw [h2] at hs; exact absurd h4 hs
  ·omega
 obtain ⟨v, hv⟩ := List.exists_mem_of_ne_nil _ h.ne
 obtain ⟨j, h1, _⟩ := hne v hv
 refine ⟨by omega, ⟨by have := hk.il; omega, hk.pos, hk.pnd, fun v hv => ?_, fun a ha => hk.all a (by omega), hk.outs, hk.dis, hk.sn⟩, fun M hM => ?_, h.ne⟩
 ·obtain ⟨j, h1, h2⟩ := hne v hv
  exact ⟨j, by omega, h2⟩
 ·rcases h.imp M hM with h4 | ⟨a, h4, h5, h6⟩ | h4
  ·exact .inl h4
  ·obtain ⟨j2, h7, h8, h9, h10⟩ := hk.pen _ h5
   refine .inr (.inl ⟨a, ?_, h5, h6⟩)
   by_cases e : a = i
   ·subst e; exact absurd h10 hs
   ·omega
  ·exact .inr (.inr h4)
theorem Dwn.at {S : Sol} {i : Nat} {seen out : List Int} {P : List Nat} (h : Dwn S i seen out P) (hs : ((S.lit i).natAbs : Int) ∈ seen) : lv S.st i = S.st.length ∧ (S.lit i).natAbs ∈ P := by
 have hk := h.li
 obtain ⟨v, hv⟩ := List.exists_mem_of_ne_nil _ h.ne
 obtain ⟨j, h1, _, h3, _⟩ := hk.pen v hv
 have := lv_mono S.st h1
 have := lv_le S.st i
 have e : lv S.st i = S.st.length := by omega
 exact ⟨e, hk.all i (Nat.le_refl _) hs e⟩
structure Good (S : Sol) (out : List Int) : Prop where
 pos : 0 < out.length
 dis : Dis out
 on : ∀ x ∈ out, ∃ i, i < S.tr.length ∧ S.lit i = -x
 fst : S.lvl (out.getD 0 0) = S.st.length
 low : ∀ q, 1 ≤ q → q < out.length → 0 < S.lvl (out.getD q 0) ∧ S.lvl (out.getD q 0) < S.st.length
 snd : ∀ M, Snd M S → HoldsC M out
theorem Dwn.last {S : Sol} {B i : Nat} {seen out : List Int} {P : List Nat} (hS : SW S B) (hi : Inv S) (h : Dwn S i seen out P) (hs : ((S.lit i).natAbs : Int) ∈ seen) (hP : P.length = 1) : Good S (out.set 0 (-(S.lit i))) := by
 obtain ⟨a1, a2⟩ := h.at hs
 have hk := h.li
 have lo := (slit_ok hS hk.il).1
 have g0 : (out.set 0 (-(S.lit i))).getD 0 0 = -(S.lit i) := by rw [getD_set _ _ _ _ _ hk.pos, if_pos rfl]
 have g1 : ∀ q, 1 ≤ q → (out.set 0 (-(S.lit i))).getD q 0 = out.getD q 0 := fun q hq => by rw [getD_set _ _ _ _ _ hk.pos, if_neg (by omega)]
 have l0 : S.lvl (-(S.lit i)) = S.st.length := by rw [lvl_neg, hi.lev i hk.il, a1]
 have hPe : P = [(S.lit i).natAbs] := by
  match P, hP, a2 with
  | [x], _, a2 => rw [List.mem_singleton.1 a2]
 refine ⟨by simpa using hk.pos, fun p q hp hq e => ?_, fun x hx => ?_, by rw [g0]; exact l0, fun q h1 h2 => ?_, fun M hM => ?_⟩
 ·simp only [List.length_set] at hp hq
  have key : ∀ q, 1 ≤ q → q < out.length → -(S.lit i) ≠ out.getD q 0 := fun q h1 h2 e2 => by
   have := (hk.outs q h1 h2).2.2.1
   rw [← e2] at this
   omega
  by_cases p0 : p = 0
  ·subst p0
   by_cases q0 : q = 0
   ·exact q0.symm
   ·rw [g0, g1 q (by omega)] at e
    exact absurd e (key q (by omega) hq)
  ·by_cases q0 : q = 0
   ·subst q0
    rw [g0, g1 p (by omega)] at e
    exact absurd e.symm (key p (by omega) hp)
   ·rw [g1 p (by omega), g1 q (by omega)] at e
    by_cases h3 : p < q
    ·exact absurd (by rw [e]) (hk.dis p q (by omega) h3 hq)
    ·by_cases h4 : q < p
     ·exact absurd (by rw [e]) (hk.dis q p (by omega) h4 hp)
     ·omega
 ·obtain ⟨q, h1, h2⟩ := mem_getD (d := 0) hx
  simp only [List.length_set] at h1
  by_cases q0 : q = 0
  ·subst q0
   rw [g0] at h2
   exact ⟨i, hk.il, by omega⟩
  ·rw [g1 q (by omega)] at h2
   rw [← h2]
   exact (hk.outs q (by omega) h1).1
 ·simp only [List.length_set] at h2
  rw [g1 q h1]
  exact ⟨(hk.outs q h1 h2).2.1, (hk.outs q h1 h2).2.2.1⟩
 ·rcases h.imp M hM with ⟨q, h1, h2, h3⟩ | ⟨j, h1, h2, h3⟩ | ⟨x, hx, _⟩
  ·refine ⟨_, gtD_mem (l := out.set 0 (-(S.lit i))) (i := q) (d := 0) (by simpa using h2), ?_⟩
   rw [g1 q h1]; exact h3
  ·refine ⟨_, gtD_mem (l := out.set 0 (-(S.lit i))) (i := 0) (d := 0) (by simpa using hk.pos), ?_⟩
   rw [g0]
   rw [hPe] at h2
   have e : j = i := lit_inj hS (Nat.lt_of_le_of_lt h1 hk.il) hk.il (List.mem_singleton.1 h2)
   subst e
   exact (hl_neg lo).2 h3
  ·simp at hx
theorem lv_strict {st : List Nat} {i j : Nat} (hi : i ∈ st) (hj : j < i) : lv st j < st.length := by
 unfold lv
 exact List.length_filter_lt_length_iff_exists.2 ⟨i, hi, by simp; omega⟩
theorem erase_len {P : List Nat} {v : Nat} (h : v ∈ P) : (P.erase v).length = P.length - 1 := List.length_erase_of_mem h
theorem Dwn.next {S : Sol} {B i : Nat} {seen out : List Int} {P : List Nat} (hS : SW S B) (hi : Inv S) (hp : 0 < S.st.length) (h : Dwn S i seen out P) (hs : ((S.lit i).natAbs : Int) ∈ seen) (hP : P.length ≠ 1) :
  ∃ k : Nat, S.wy (S.lit i) = (k : Int) ∧ k < S.cl.length ∧ 1 ≤ i ∧ Gth S (i - 1) (S.lit i) (S.cla k) 0 seen out (P.erase (S.lit i).natAbs) := by
 obtain ⟨a1, a2⟩ := h.at hs
 have hk := h.li
 have hlen := erase_len a2
 have hP0 : P.length ≠ 0 := fun e => h.ne (List.eq_nil_of_length_eq_zero e)
 have hne : P.erase (S.lit i).natAbs ≠ [] := fun e => by rw [e] at hlen; simp at hlen; omega
 have hpe : ∀ v ∈ P.erase (S.lit i).natAbs, ∃ j, j < i ∧ (S.lit j).natAbs = v ∧ lv S.st j = S.st.length ∧ (v : Int) ∈ seen := fun v hv => by
  obtain ⟨v1, v2⟩ := (List.Nodup.mem_erase_iff hk.pnd).1 hv
  obtain ⟨j, h1, h2, h3, h4⟩ := hk.pen v v2
  refine ⟨j, ?_, h2, h3, h4⟩
  by_cases e : j = i
  ·subst e; exact absurd h2.symm v1
  ·omega
 obtain ⟨v, hv⟩ := List.exists_mem_of_ne_nil _ hne
 obtain ⟨j, j1, j2, j3, j4⟩ := hpe v hv
 rcases hi.why i hk.il with ⟨w1, w2⟩ | ⟨k, w1, w2, w3, w4⟩
 ·exfalso
  rcases w2 with w2 | w2
  ·have := lv_strict w2 j1; omega
  ·omega
 ·refine ⟨k, w1, w2, by omega, ⟨⟨by have := hk.il; omega, hk.pos, hk.pnd.erase _, fun v hv => ?_, fun a ha hs2 hlv => ?_, hk.outs, hk.dis, hk.sn⟩, fun M hM => ?_, fun x hx hne2 => ?_, .inl hne⟩⟩
  ·obtain ⟨j, h1, h2⟩ := hpe v hv
   exact ⟨j, by omega, h2⟩
  ·have := hk.all a (by omega) hs2 hlv
   refine (List.Nodup.mem_erase_iff hk.pnd).2 ⟨fun e => ?_, this⟩
   have := lit_inj hS (i := a) (j := i) (by have := hk.il; omega) hk.il e
   omega
  ·obtain ⟨x, hx, hm⟩ := hM.cls k w2
   rw [List.drop_zero]
   by_cases e : x = S.lit i
   ·rcases h.imp M hM with h4 | ⟨a, h4, h5, h6⟩ | ⟨x, hx, _⟩
    ·exact .inl h4
    ·refine .inr (.inl ⟨a, ?_, ?_, h6⟩)
     ·by_cases e2 : a = i
      ·subst e2; rw [e] at hm; exact absurd hm h6
      ·omega
     ·refine (List.Nodup.mem_erase_iff hk.pnd).2 ⟨fun e3 => ?_, h5⟩
      have := lit_inj hS (i := a) (j := i) (Nat.lt_of_le_of_lt h4 hk.il) hk.il e3
      subst this
      rw [e] at hm; exact h6 hm
    ·simp at hx
   ·exact .inr (.inr ⟨x, hx, e, hm⟩)
  ·obtain ⟨j, h1, h2⟩ := w4 x hx hne2
   exact ⟨j, by omega, h2⟩
theorem Confl.start {S : Sol} {B k : Nat} (hS : SW S B) (h : Confl S k) (hp : 0 < S.st.length) (ht : 0 < S.tr.length) : Gth S (S.tr.length - 1) 0 (S.cla k) 0 [] [0] [] := by
 have hlo := (hS.cl (k := k) h.kl).2.2
 refine ⟨⟨by omega, by simp, by simp, fun v hv => by simp at hv, fun j _ hj => by simp at hj, fun q h1 h2 => by simp at h2; omega, fun p q h1 h2 h3 => by simp at h3; omega, fun v hv => by simp at hv⟩, fun M hM => ?_, fun x hx _ => ?_, ?_⟩
 ·obtain ⟨x, hx, hm⟩ := hM.cls k h.kl
  exact .inr (.inr ⟨x, by rw [List.drop_zero]; exact hx, (hlo x hx).1, hm⟩)
 ·obtain ⟨i, h1, h2⟩ := false_on hS h.inv (hlo x hx) (h.fal x hx)
  exact ⟨i, by omega, h2⟩
 ·obtain ⟨x, hx, hm⟩ := h.cur
  exact .inr ⟨x, by rw [List.drop_zero]; exact hx, (hlo x hx).1, hm⟩
structure Pck (S : Sol) (j : Nat) (out : List Int) (to : Nat) : Prop where
 good : Good S out
 j1 : 1 ≤ j
 jl : j ≤ out.length
 le : ∀ p, 1 ≤ p → p < j → S.lvl (out.getD p 0) ≤ to
 two : 2 ≤ j → S.lvl (out.getD 1 0) = to
 one : j = 1 → to = 0
theorem Good.pck {S : Sol} {out : List Int} (h : Good S out) : Pck S 1 out 0 := ⟨h, by omega, h.pos, fun p h1 h2 => by omega, fun h => by omega, fun _ => rfl⟩
theorem Good.swap {S : Sol} {out : List Int} (h : Good S out) {j : Nat} (h1 : 1 ≤ j) (h2 : j < out.length) : Good S (Sol.swapAt out 1 j) := by
 have hm := swapAt_iff (c := out) (i := 1) (j := j) (by omega) h2
 refine ⟨by rw [swapAt_len]; exact h.pos, swapAt_dis h.dis (by omega) h2, fun x hx => h.on x ((hm x).1 hx), ?_, fun q h3 h4 => ?_, fun M hM => ?_⟩
 ·rw [swapAt_get (by omega) h2, if_neg (by omega), if_neg (by omega)]; exact h.fst
 ·rw [swapAt_len] at h4
  rw [swapAt_get (by omega) h2]
  split
  ·exact h.low 1 (by omega) (by omega)
  ·split
   ·exact h.low j h1 h2
   ·exact h.low q h3 h4
 ·obtain ⟨x, hx, hm2⟩ := h.snd M hM
  exact ⟨x, (hm x).2 hx, hm2⟩
theorem Pck.more {S : Sol} {j to : Nat} {out : List Int} (h : Pck S j out to) (hj : j < out.length) (hd : to < S.lvl (out.getD j 0)) : Pck S (j + 1) (Sol.swapAt out 1 j) (S.lvl (out.getD j 0)) := by
 have h1 := h.j1
 refine ⟨h.good.swap h1 hj, by omega, by rw [swapAt_len]; omega, fun p hp hp2 => ?_, fun _ => ?_, fun h => by omega⟩
 ·rw [swapAt_get (by omega) hj]
  split
  ·by_cases e : j = 1
   ·subst e; exact Nat.le_refl _
   ·have := h.le 1 (by omega) (by omega); omega
  ·split
   ·exact Nat.le_refl _
   ·have := h.le p hp (by omega); omega
 ·rw [swapAt_get (by omega) hj]
  split
  ·rename_i e; rw [← e]
  ·rw [if_pos rfl]
theorem Pck.same {S : Sol} {j to : Nat} {out : List Int} (h : Pck S j out to) (hj : j < out.length) (hd : S.lvl (out.getD j 0) ≤ to) : Pck S (j + 1) out to := by
 have h1 := h.j1
 refine ⟨h.good, by omega, by omega, fun p hp hp2 => ?_, fun _ => ?_, fun h => by omega⟩
 ·by_cases e : p = j
  ·rw [e]; exact hd
  ·exact h.le p hp (by omega)
 ·by_cases e : j = 1
  ·have := (h.good.low j h1 hj).1
   have := h.one e
   omega
  ·exact h.two (by omega)
theorem Pck.lesson {S : Sol} {to : Nat} {out : List Int} (hp : 0 < S.st.length) (h : Pck S out.length out to) : Lesson S out to := by
 have hg := h.good
 have h0 := hg.pos
 have hd : to < S.st.length := by
  by_cases e : out.length = 1
  ·rw [h.one e]; exact hp
  ·rw [← h.two (by omega)]; exact (hg.low 1 (by omega) (by omega)).2
 exact ⟨hd, hg.pos, hg.dis, hg.on, by rw [hg.fst]; exact hd, fun j h1 h2 => h.le j h1 h2, fun h1 => h.two (by omega), fun h1 => h.one h1⟩
theorem LI.len {S : Sol} {B i : Nat} {seen out : List Int} {P : List Nat} (hS : SW S B) (h : LI S i seen out P) : out.length ≤ S.n + 1 ∧ P.length ≤ S.n := by
 have h0 := h.pos
 constructor
 ·have nd : ((out.drop 1).map Int.natAbs).Nodup := by
   rw [List.nodup_iff_pairwise_ne, List.pairwise_iff_getElem]
   intro a b ha hb hab e
   simp only [List.length_map, List.length_drop] at ha hb
   refine h.dis (1 + a) (1 + b) (by omega) (by omega) (by omega) ?_
   simp only [List.getElem_map, List.getElem_drop] at e
   rw [List.getD_eq_getElem?_getD, List.getD_eq_getElem?_getD, List.getElem?_eq_getElem (by omega), List.getElem?_eq_getElem (by omega)]
   exact e
  have := nodup_len S.n _ nd (fun x hx => by
   obtain ⟨y, hy, rfl⟩ := List.mem_map.1 hx
   obtain ⟨q, hq, e⟩ := mem_getD (d := 0) hy
   simp only [List.length_drop] at hq
   have e3 : (out.drop 1).getD q 0 = out.getD (1 + q) 0 := by simp only [List.getD_eq_getElem?_getD, List.getElem?_drop]
   obtain ⟨⟨j, h1, h2⟩, _⟩ := h.outs (1 + q) (by omega) (by omega)
   have := slit_ok hS h1
   rw [h2] at this
   rw [← e, e3]
   obtain ⟨h3, h4⟩ := this
   rw [Int.natAbs_neg] at h4
   omega)
  simp at this
  omega
 ·exact nodup_len S.n P h.pnd (fun v hv => by
   obtain ⟨j, h1, h2, _⟩ := h.pen v hv
   have := slit_ok hS (Nat.lt_of_le_of_lt h1 h.il)
   obtain ⟨h3, h4⟩ := this
   omega)
theorem Good.len {S : Sol} {B : Nat} {out : List Int} (hS : SW S B) (h : Good S out) : out.length ≤ S.n := by
 have hinj : ∀ a b, a < out.length → b < out.length → (out.getD a 0).natAbs = (out.getD b 0).natAbs → a = b := fun a b ha hb e => by
  obtain ⟨i, h1, h2⟩ := h.on _ (gtD_mem (d := 0) ha)
  obtain ⟨j, h3, h4⟩ := h.on _ (gtD_mem (d := 0) hb)
  have := lit_inj hS h1 h3 (by rw [h2, h4, Int.natAbs_neg, Int.natAbs_neg, e])
  subst this
  exact h.dis a b ha hb (by omega)
 have nd : (out.map Int.natAbs).Nodup := by
  rw [List.nodup_iff_pairwise_ne, List.pairwise_iff_getElem]
  intro a b ha hb hab e
  simp only [List.length_map] at ha hb
  have := hinj a b ha hb (by
   simp only [List.getElem_map] at e
   rw [List.getD_eq_getElem?_getD, List.getD_eq_getElem?_getD, List.getElem?_eq_getElem ha, List.getElem?_eq_getElem hb]
   exact e)
  omega
 have := nodup_len S.n _ nd (fun x hx => by
  obtain ⟨y, hy, rfl⟩ := List.mem_map.1 hx
  obtain ⟨i, h1, h2⟩ := h.on _ hy
  have := slit_ok hS h1
  rw [h2] at this
  obtain ⟨h3, h4⟩ := this
  rw [Int.natAbs_neg] at h4
  omega)
 simpa using this
theorem refuted_lesson {S : Sol} {B : Nat} (hS : SW S B) (hi : Inv S) (hst : ∀ x ∈ S.st, x < S.tr.length) (hp : 0 < S.st.length) : Lesson S S.refuted (S.st.length - 1) := by
 have hg : ∀ m, m < S.st.length → S.refuted.getD m 0 = -(S.lit (S.st.getD (S.st.length - 1 - m) 0)) := fun m hm => by
  rw [List.getD_eq_getElem?_getD]
  simp [Sol.refuted, Sol.lit, List.getElem?_map, List.getElem?_reverse, hm]
 have hl := refuted_len S
 have hlv : ∀ a, a < S.st.length → lv S.st (S.st.getD a 0) = a + 1 := fun a ha => by
  have h1 := lv_ge hi.sts ha (Nat.le_refl _)
  have h2 : lv S.st (S.st.getD a 0) ≤ a + 1 := by
   by_cases e : a + 1 < S.st.length
   ·exact lv_lt hi.sts e (hi.sts a (a + 1) (by omega) e)
   ·have := lv_le S.st (S.st.getD a 0); omega
  omega
 have hlvl : ∀ m, m < S.st.length → S.lvl (S.refuted.getD m 0) = S.st.length - m := fun m hm => by
  rw [hg m hm, lvl_neg, hi.lev _ (hst _ (gtD_mem (by omega))), hlv _ (by omega)]
  omega
 refine ⟨by omega, by omega, fun a b ha hb e => ?_, fun x hx => ?_, by rw [hlvl 0 hp]; omega, fun j h1 h2 => by rw [hlvl j (by omega)]; omega, fun h1 => by rw [hlvl 1 (by omega)], fun h1 => by omega⟩
 ·have h1 := hlvl a (by omega)
  rw [e, hlvl b (by omega)] at h1
  omega
 ·obtain ⟨m, hm, e⟩ := mem_getD (d := 0) hx
  rw [hg m (by omega)] at e
  exact ⟨_, hst _ (gtD_mem (l := S.st) (i := S.st.length - 1 - m) (d := 0) (by omega)), by omega⟩
theorem refuted_holds {M : Nat → Bool} {S : Sol} {B k : Nat} (hS : SW S B) (hc : Confl S k) (h : Snd M S) (hst : ∀ x ∈ S.st, x < S.tr.length) : HoldsC M S.refuted := by
 obtain ⟨i, hi, hn⟩ := Confl.wrong hS hc h
 obtain ⟨a, ha, e⟩ := mem_getD (d := 0) hi
 have hit := hst i hi
 refine ⟨-(S.lit i), ?_, (hl_neg (slit_ok hS hit).1).2 hn⟩
 unfold Sol.refuted
 exact List.mem_map.2 ⟨a, List.mem_reverse.2 (List.mem_range.2 ha), by rw [e]; rfl⟩

structure Base (P : (Nat → Bool) → Prop) (S : Sol) (B : Nat) : Prop where
 sw : SW S B
 calm : Calm S
 hst : ∀ x ∈ S.st, x < S.tr.length
 hsh : ∀ x ∈ S.st, x ≤ S.head
 n1 : 1 ≤ S.next
 n2 : S.next ≤ S.n + 1
 snd : ∀ M, P M → Snd M S
def Cov (S : Sol) (c : List Int) : Prop := taut c = true ∨ (∃ l ∈ c, ∃ i, i < S.tr.length ∧ S.lit i = l ∧ ∀ s ∈ S.st, i < s) ∨ ∃ k, k < S.cl.length ∧ ∀ x, x ∈ S.cla k ↔ x ∈ c
theorem Cov.ext {S S' : Sol} {c : List Int} (h : Cov S c) (k : Ext S S') : Cov S' c := by
 rcases h with h | ⟨l, h1, i, h2, h3, h4⟩ | ⟨q, h1, h2⟩
 ·exact .inl h
 ·exact .inr (.inl ⟨l, h1, i, Nat.lt_of_lt_of_le h2 k.trp, by rw [k.lits i h2]; exact h3, by rw [k.st]; exact h4⟩)
 ·exact .inr (.inr ⟨q, by rw [k.cln]; exact h1, fun x => (k.cls q h1 x).trans (h2 x)⟩)
theorem Cov.decide {S : Sol} {c : List Int} (h : Cov S c) (p : Nat) (w : Int) : Cov ((S.start p).set (-(p : Int)) w) c := by
 rcases h with h | ⟨l, h1, i, h2, h3, h4⟩ | ⟨q, h1, h2⟩
 ·exact .inl h
 ·refine .inr (.inl ⟨l, h1, i, by simp [Sol.set, Sol.start]; omega, by rw [lit_set, if_pos (show i < (S.start p).tr.length from h2)]; exact h3, fun s hs => ?_⟩)
  rcases List.mem_append.1 (show s ∈ S.st ++ [S.tr.length] from hs) with h5 | h5
  ·exact h4 s h5
  ·rw [List.mem_singleton.1 h5]; exact h2
 ·exact .inr (.inr ⟨q, h1, h2⟩)
theorem Cov.back {S S1 : Sol} {d : Nat} {c : List Int} (h : Cov S c) (hb : Bk S d S1) (hd : d < S.st.length) : Cov S1 c := by
 rcases h with h | ⟨l, h1, i, h2, h3, h4⟩ | ⟨q, h1, h2⟩
 ·exact .inl h
 ·have hi : i < S1.tr.length := by rw [hb.trl]; exact h4 _ (gtD_mem hd)
  refine .inr (.inl ⟨l, h1, i, hi, by rw [hb.lits i hi]; exact h3, fun s hs => h4 s ?_⟩)
  rw [hb.st] at hs
  exact List.mem_of_mem_take hs
 ·exact .inr (.inr ⟨q, by rw [hb.cl]; exact h1, fun x => by unfold Sol.cla at h2 ⊢; rw [hb.cl]; exact h2 x⟩)
theorem Cov.set {S : Sol} {c : List Int} (h : Cov S c) (l w : Int) : Cov (S.set l w) c := by
 rcases h with h | ⟨l2, h1, i, h2, h3, h4⟩ | ⟨q, h1, h2⟩
 ·exact .inl h
 ·exact .inr (.inl ⟨l2, h1, i, by simp [Sol.set]; omega, by rw [lit_set, if_pos h2]; exact h3, h4⟩)
 ·exact .inr (.inr ⟨q, h1, h2⟩)
theorem Cov.add {S : Sol} {c : List Int} (h : Cov S c) (e : List Int) : Cov (S.add e) c := by
 rcases h with h | h | ⟨q, h1, h2⟩
 ·exact .inl h
 ·exact .inr (.inl h)
 ·exact .inr (.inr ⟨q, by simp [Sol.add]; omega, fun x => by rw [add_cla, if_pos h1]; exact h2 x⟩)
theorem Cov.heed {S : Sol} {c : List Int} (h : Cov S c) (e : List Int) : Cov (S.heed e) c := by
 unfold Sol.heed
 split
 ·exact (h.add e).set _ _
 ·exact h.set _ _
structure Bad (P : (Nat → Bool) → Prop) (S : Sol) (B k : Nat) : Prop where
 sw : SW S B
 con : Confl S k
 hst : ∀ x ∈ S.st, x < S.tr.length
 hsh : ∀ x ∈ S.st, x ≤ S.head
 n1 : 1 ≤ S.next
 n2 : S.next ≤ S.n + 1
 snd : ∀ M, P M → Snd M S
theorem Base.spread {P : (Nat → Bool) → Prop} {S : Sol} {B B' f : Nat} (h : Base P S B) (hf : S.n + 1 ≤ f + S.head) (hw : SW (Sol.spread f S).1 B') : Ext S (Sol.spread f S).1 ∧
  ((Sol.spread f S).2 = none → Base P (Sol.spread f S).1 B' ∧ (Sol.spread f S).1.head = (Sol.spread f S).1.tr.length) ∧ (∀ k, (Sol.spread f S).2 = some k → Bad P (Sol.spread f S).1 B' k) := by
 obtain ⟨h1, h2, h3, h4, h5⟩ := spread_calm f S B h.sw h.calm h.hsh hf
 have a1 : ∀ x ∈ (Sol.spread f S).1.st, x < (Sol.spread f S).1.tr.length := fun x hx => by rw [h1.st] at hx; exact Nat.lt_of_lt_of_le (h.hst x hx) h1.trp
 have a2 : ∀ x ∈ (Sol.spread f S).1.st, x ≤ (Sol.spread f S).1.head := fun x hx => by rw [h1.st] at hx; exact Nat.le_trans (h.hsh x hx) h3
 have a3 : 1 ≤ (Sol.spread f S).1.next := by rw [h1.nx]; exact h.n1
 have a4 : (Sol.spread f S).1.next ≤ (Sol.spread f S).1.n + 1 := by rw [h1.nx, h1.n]; exact h.n2
 exact ⟨h1, fun hn => ⟨⟨hw, (h4 hn).1, a1, a2, a3, a4, fun M hM => (h.snd M hM).ext h1⟩, (h4 hn).2⟩, fun k hk => ⟨hw, h5 k hk, a1, a2, a3, a4, fun M hM => (h.snd M hM).ext h1⟩⟩
theorem Base.decide {P : (Nat → Bool) → Prop} {S : Sol} {B : Nat} (h : Base P S B) (hh : S.head = S.tr.length) :
  (S.decide.2 = false → S.decide.1 = S.nextTo (S.n + 1) ∧ ∀ v, 1 ≤ v → v ≤ S.n → S.val.getD v 0 ≠ 0) ∧
  (S.decide.2 = true → Base P S.decide.1 B ∧ S.decide.1.pot = S.pot ∧ S.decide.1.n = S.n ∧ S.decide.1.cl = S.cl ∧ S.decide.1.tr.length = S.tr.length + 1 ∧ S.tr.length < S.n ∧ ∀ c, Cov S c → Cov S.decide.1 c) := by
 obtain ⟨h1, h2⟩ := decide_calm h.sw h.calm h.hst h.n1 h.n2
 refine ⟨h1, fun hd => ?_⟩
 obtain ⟨p, p1, p2, e, hp, sw, calm, htr⟩ := h2 hd
 have hl : S.decide.1.tr.length = S.tr.length + 1 := by rw [e]; simp [Sol.set, Sol.start]
 have hs : S.decide.1.st = S.st ++ [S.tr.length] := by rw [e]; rfl
 have hhd : S.decide.1.head = S.head := by rw [e]; rfl
 have hnx : S.decide.1.next = p := by rw [e]; rfl
 have hn : S.decide.1.n = S.n := by rw [e]; rfl
 refine ⟨⟨sw, calm, fun x hx => ?_, fun x hx => ?_, by omega, by omega, fun M hM => by rw [e]; exact Snd.decide h.sw (h.snd M hM) p1 p2 hp⟩, by rw [e]; exact decide_pot htr, hn, by rw [e]; rfl, hl, htr, fun c hc => by rw [e]; exact hc.decide p _⟩
 ·rw [hs] at hx
  rcases List.mem_append.1 hx with h5 | h5
  ·have := h.hst x h5; omega
  ·rw [List.mem_singleton.1 h5]; omega
 ·rw [hs] at hx
  rcases List.mem_append.1 hx with h5 | h5
  ·have := h.hsh x h5; omega
  ·rw [List.mem_singleton.1 h5]; omega
theorem Bad.pos {P : (Nat → Bool) → Prop} {S : Sol} {B k : Nat} (h : Bad P S B k) {M : Nat → Bool} (hM : P M) : 0 < S.st.length := by
 obtain ⟨i, hi, _⟩ := Confl.wrong h.sw h.con (h.snd M hM)
 exact List.length_pos_of_mem hi
theorem Bad.heed {P : (Nat → Bool) → Prop} {S : Sol} {B k d : Nat} {c : List Int} (h : Bad P S B k) (hl : Lesson S c d) (hm : ∀ M, P M → HoldsC M c) (hc : c.length ≤ 100000) (hz : S.cl.length + 1 ≤ 1000000) : Bk S d (S.back d) ∧ Heed (S.back d) c ∧ SW (S.back d) B ∧ Base P ((S.back d).heed c) (B + 2) ∧ (∀ e, Cov S e → Cov ((S.back d).heed c) e) ∧ ((S.back d).heed c).n = S.n ∧ ((S.back d).heed c).cl.length ≤ S.cl.length + 1 ∧ S.cl.length ≤ ((S.back d).heed c).cl.length := by
 obtain ⟨b1, b2⟩ := back_calm h.sw h.con.inv h.con.wat h.con.pro h.hst h.hsh hl.dl
 have hd := hl.dl
 have ht := h.hst _ (gtD_mem (d := 0) hd)
 have hst1 : ∀ x ∈ (S.back d).st, x < (S.back d).tr.length := fun x hx => by
  rw [b2.st] at hx
  obtain ⟨q, hq, e⟩ := mem_getD (d := 0) hx
  have hq2 : q < d := by have : q < (S.st.take d).length := hq; simp at this; omega
  rw [take_gtD _ _ hq2] at e
  rw [b2.trl, ← e]
  exact h.con.inv.sts q d hq2 hd
 have hh := hl.heed h.sw h.con.inv b2
 have hz1 : (S.back d).cl.length + 1 ≤ 1000000 := by rw [b2.cl]; exact hz
 obtain ⟨s1, s2⟩ := heed_calm b1 b2.calm b2.hd hst1 hz1 hh hc
 have snd2 : ∀ M, P M → Snd M ((S.back d).heed c) := fun M hM => heed_snd b1 ((h.snd M hM).back h.con.inv hd b2 (Nat.le_of_lt ht)) hh (hm M hM)
 have f1 : ((S.back d).heed c).st = (S.back d).st := by unfold Sol.heed; split <;> rfl
 have f2 : ((S.back d).heed c).tr.length = (S.back d).tr.length + 1 := by unfold Sol.heed; split <;> simp [Sol.set, Sol.add]
 have f3 : ((S.back d).heed c).head = (S.back d).head := by unfold Sol.heed; split <;> rfl
 have f4 : ((S.back d).heed c).next = (S.back d).next := by unfold Sol.heed; split <;> rfl
 have f5 : ((S.back d).heed c).n = (S.back d).n := by unfold Sol.heed; split <;> rfl
 have f6 : ((S.back d).heed c).cl.length ≤ (S.back d).cl.length + 1 ∧ (S.back d).cl.length ≤ ((S.back d).heed c).cl.length := by unfold Sol.heed; split <;> simp [Sol.set, Sol.add]
 refine ⟨b2, hh, b1, ⟨s1, s2, fun x hx => ?_, fun x hx => ?_, by rw [f4]; exact b2.nx h.n1, by rw [f4, f5, b2.n]; exact Nat.le_trans b2.nx2 h.n2, snd2⟩, fun e he => (he.back b2 hd).heed c, f5.trans b2.n, by rw [← b2.cl]; exact f6.1, by rw [← b2.cl]; exact f6.2⟩
 ·rw [f1] at hx; have := hst1 x hx; omega
 ·rw [f1] at hx; rw [f3, b2.hd]; exact Nat.le_of_lt (hst1 x hx)
def Sol.new (n : Nat) : Sol := ⟨n, [], List.replicate (2 * n + 2) [], List.replicate (n + 1) 0, List.replicate (n + 1) 0, List.replicate (n + 1) 0, [], [], 0, 1⟩
theorem new_base (P : (Nat → Bool) → Prop) {n : Nat} (hn : n ≤ 20000) : Base P (Sol.new n) 0 := by
 have hg : ∀ v, (List.replicate (n + 1) (0 : Int)).getD v 0 = 0 := fun v => by
  simp only [List.getD_eq_getElem?_getD, List.getElem?_replicate]
  split <;> rfl
 have hw : ∀ i, (List.replicate (2 * n + 2) ([] : List Nat)).getD i [] = [] := fun i => by
  simp only [List.getD_eq_getElem?_getD, List.getElem?_replicate]
  split <;> rfl
 refine ⟨⟨⟨hn, by simp [Sol.new], by simp [Sol.new], by simp [Sol.new], by simp [Sol.new], fun x hx => ?_, fun l hl => by simp [Sol.new] at hl, by simp [Sol.new], by simp [Sol.new]⟩, fun c hc => by simp [Sol.new] at hc, by simp [Sol.new], fun ks hks k hk => ?_, fun l hl => by simp [Sol.new] at hl, by simp [Sol.new], ?_, by simp [Sol.new]⟩,
  ⟨⟨fun k hk => by simp [Sol.new] at hk, fun v h1 h2 h3 => absurd (hg v) h3, fun i j h1 h2 => by simp [Sol.new] at h2, fun x hx => by simp [Sol.new] at hx, fun i hi => by simp [Sol.new] at hi, fun i hi => by simp [Sol.new] at hi, fun v h1 h2 => by simp [Sol.new] at h2; omega⟩, fun i hi => ?_, fun k hk => by simp [Sol.new] at hk⟩,
  fun x hx => by simp [Sol.new] at hx, fun x hx => by simp [Sol.new] at hx, by simp [Sol.new], by simp [Sol.new], fun M _ => ⟨fun k hk => by simp [Sol.new] at hk, fun i hi => by simp [Sol.new] at hi⟩⟩
 ·have := List.eq_of_mem_replicate (show x ∈ List.replicate (n + 1) (0 : Int) from hx)
  omega
 ·rw [List.eq_of_mem_replicate (show ks ∈ List.replicate (2 * n + 2) ([] : List Nat) from hks)] at hk
  simp at hk
 ·simp [Sol.new]
 ·show ((List.replicate (2 * n + 2) ([] : List Nat)).getD i []).Nodup ∧ _
  rw [hw]
  refine ⟨by simp, fun k => ?_⟩
  show k ∈ (List.replicate (2 * n + 2) ([] : List Nat)).getD i [] ↔ k < 0 ∧ _
  rw [hw]
  simp
structure Ld (P : (Nat → Bool) → Prop) (S : Sol) (B : Nat) : Prop where
 base : Base P S B
 st : S.st = []
 hd : S.head = 0
theorem Ld.take {P : (Nat → Bool) → Prop} {S : Sol} {B : Nat} {c : List Int} (h : Ld P S B) (hc : 0 < c.length ∧ c.length ≤ 12 ∧ ∀ l ∈ c, LitOk S.n l) (hm : ∀ M, P M → HoldsC M c) (hz : S.cl.length + 1 ≤ 1000000) :
  (∃ S', S.take1 c = (S', true) ∧ Ld P S' (B + 2) ∧ Cov S' c ∧ (∀ e, Cov S e → Cov S' e) ∧ S'.n = S.n ∧ S'.cl.length ≤ S.cl.length + 1) ∨ (∃ S', S.take1 c = (S', false)) ∧ ∀ M, ¬ P M := by
 obtain ⟨td, tu, tm, tl⟩ := tidyL_spec c
 have hlo : ∀ l ∈ tidyL c, LitOk S.n l := fun l hl => hc.2.2 l ((tm l).1 hl)
 have hmt : ∀ M, P M → HoldsC M (tidyL c) := fun M hM => by
  obtain ⟨l, h1, h2⟩ := hm M hM
  exact ⟨l, (tm l).2 h1, h2⟩
 have tpos : 0 < (tidyL c).length := List.length_pos_of_mem ((tm _).2 (gtD_mem (d := 0) hc.1))
 have up : ∀ {S : Sol}, SW S B → SW S (B + 2) := fun h => ⟨h.len, h.cls, h.csz, h.wls, h.asg, h.nd, Nat.le_trans h.tot (by omega), h.hd⟩
 have hb := h.base
 have same : Ld P S (B + 2) := ⟨⟨up hb.sw, hb.calm, hb.hst, hb.hsh, hb.n1, hb.n2, hb.snd⟩, h.st, h.hd⟩
 unfold Sol.take1
 split
 ·rename_i ht
  refine .inl ⟨S, rfl, same, .inl ?_, fun e he => he, rfl, by omega⟩
  obtain ⟨l, h1, h2⟩ := of_decide_eq_true ht
  exact decide_eq_true ⟨l, (tm l).1 h1, (tm _).1 h2⟩
 ·split
  ·rename_i h1
   obtain ⟨l, htl⟩ : ∃ l, tidyL c = [l] := by
    match tidyL c, h1 with
    | [l], _ => exact ⟨l, rfl⟩
   have hg : (tidyL c).getD 0 0 = l := by rw [htl]; rfl
   have hlk : LitOk S.n l := hlo l (by rw [htl]; simp)
   have hml : ∀ M, P M → hl M l := fun M hM => by
    obtain ⟨x, h2, h3⟩ := hmt M hM
    rw [htl, List.mem_singleton] at h2
    rw [← h2]; exact h3
   have hlc : l ∈ c := (tm l).1 (by rw [htl]; simp)
   rw [hg]
   have all0 : ∀ M, P M → ∀ i, i < S.tr.length → i < S.tr.length → hl M (S.lit i) := fun M hM => Snd.upto hb.sw hb.calm.inv (hb.snd M hM) S.tr.length (fun i hi _ => by rw [h.st] at hi; simp at hi)
   split
   ·rename_i h2
    refine .inr ⟨⟨_, rfl⟩, fun M hM => ?_⟩
    obtain ⟨i, h3, h4⟩ := false_on hb.sw hb.calm.inv hlk h2
    have := all0 M hM i h3 h3
    rw [h4] at this
    exact (hl_neg hlk.1).1 this (hml M hM)
   ·rename_i h2
    split
    ·rename_i h3
     have hu := is_zero h3
     have hwy : l.natAbs < S.why.length := by rw [hb.sw.len.why]; have := hlk.2; omega
     refine .inl ⟨_, rfl, ⟨⟨up (hb.sw.set _ hlk hu), hb.calm.set hb.sw hlk hu (.inl ⟨rfl, .inr (by rw [h.st]; rfl)⟩), fun x hx => ?_, fun x hx => ?_, hb.n1, hb.n2, fun M hM => ⟨(hb.snd M hM).cls, fun i hi hw hs => ?_⟩⟩, h.st, h.hd⟩, .inr (.inl ⟨l, hlc, S.tr.length, by simp [Sol.set], by rw [lit_set, if_neg (by omega), if_pos rfl], fun s hs => ?_⟩), fun e he => he.set _ _, rfl, by show S.cl.length ≤ _; omega⟩
     ·have : x ∈ S.st := hx; rw [h.st] at this; simp at this
     ·have : x ∈ S.st := hx; rw [h.st] at this; simp at this
     ·have hi2 : i < S.tr.length + 1 := by simpa [Sol.set] using hi
      rw [lit_set]
      by_cases e : i < S.tr.length
      ·rw [if_pos e]; exact all0 M hM i e e
      ·rw [if_neg e, if_pos (by omega)]; exact hml M hM
     ·have : s ∈ S.st := hs; rw [h.st] at this; simp at this
    ·rename_i h3
     have h4 : S.is l = 1 := by
      rcases is_cases hb.sw.len hlk with e | e | e
      ·exact e
      ·exact absurd e h2
      ·exact absurd e h3
     obtain ⟨i, h5, h6⟩ := true_on hb.sw hb.calm.inv hlk h4
     exact .inl ⟨S, rfl, same, .inr (.inl ⟨l, hlc, i, h5, h6, fun s hs => by rw [h.st] at hs; simp at hs⟩), fun e he => he, rfl, by omega⟩
  ·rename_i h1
   rw [if_pos (by omega)]
   have h2 : 2 ≤ (tidyL c).length := by omega
   refine .inl ⟨_, rfl, ⟨⟨hb.sw.add h2 (by omega) hlo hz, ⟨hb.calm.inv.add td, Wat.add hb.sw hb.calm.wat td h2 hlo, fun k hk p q hpq j hj e _ => ?_⟩, hb.hst, hb.hsh, hb.n1, hb.n2, fun M hM => ⟨fun k hk => ?_, (hb.snd M hM).why⟩⟩, h.st, h.hd⟩, .inr (.inr ⟨S.cl.length, by simp [Sol.add], fun x => by rw [add_cla, if_neg (Nat.lt_irrefl _), if_pos rfl]; exact tm x⟩), fun e he => he.add _, rfl, by simp [Sol.add]⟩
   ·have : j < S.head := hj
    rw [h.hd] at this
    omega
   ·rw [add_cla]
    have hk2 : k < S.cl.length + 1 := by simpa [Sol.add] using hk
    split
    ·rename_i e; exact (hb.snd M hM).cls k e
    ·rw [if_pos (by omega)]; exact hmt M hM
theorem Ld.load {P : (Nat → Bool) → Prop} : ∀ (cs : List (List Int)) {S : Sol} {B : Nat}, Ld P S B → (∀ c ∈ cs, 0 < c.length ∧ c.length ≤ 12 ∧ ∀ l ∈ c, LitOk S.n l) → (∀ M, P M → ∀ c ∈ cs, HoldsC M c) → S.cl.length + cs.length ≤ 1000000 →
  ((Sol.load cs S).2 = true ∧ (∃ B', Ld P (Sol.load cs S).1 B') ∧ (∀ c ∈ cs, Cov (Sol.load cs S).1 c) ∧ (∀ e, Cov S e → Cov (Sol.load cs S).1 e) ∧ (Sol.load cs S).1.n = S.n) ∨ (Sol.load cs S).2 = false ∧ ∀ M, ¬ P M
 | [], S, B, h, _, _, _ => .inl ⟨rfl, ⟨B, h⟩, fun c hc => by simp at hc, fun e he => he, rfl⟩
 | c :: cs, S, B, h, h1, h2, h3 => by
  simp only [List.length_cons] at h3
  rcases h.take (h1 c (by simp)) (fun M hM => h2 M hM c (by simp)) (by omega) with ⟨S', e1, e2, e3, e4, e5, e6⟩ | ⟨⟨S', e1⟩, hno⟩
  ·rw [load_yes e1]
   rcases Ld.load cs e2 (fun d hd => by rw [e5]; exact h1 d (by simp [hd])) (fun M hM d hd => h2 M hM d (by simp [hd])) (by omega) with ⟨g1, g2, g3, g4, g5⟩ | hr
   ·refine .inl ⟨g1, g2, fun d hd => ?_, fun e he => g4 e (e4 e he), g5.trans e5⟩
    rcases List.mem_cons.1 hd with rfl | hd
    ·exact g4 _ e3
    ·exact g3 d hd
   ·exact .inr hr
  ·rw [load_no e1]
   exact .inr ⟨rfl, hno⟩
def Sol.mdl (S : Sol) : Nat → Bool := fun v => Decidable.decide (S.val.getD v 0 = 1)
theorem mdl_hl {S : Sol} {l : Int} (h : S.is l = 1) (h0 : l ≠ 0) : hl S.mdl l := by
 unfold Sol.is at h
 unfold hl Sol.mdl
 split at h
 ·rw [decide_eq_false (show ¬ 0 < l by omega), decide_eq_false (by omega)]
 ·rw [decide_eq_true (show 0 < l by omega), decide_eq_true h]
theorem Base.model {P : (Nat → Bool) → Prop} {S : Sol} {B : Nat} (h : Base P S B) (hh : S.head = S.tr.length) (ha : ∀ v, 1 ≤ v → v ≤ S.n → S.val.getD v 0 ≠ 0) {c : List Int} (h0 : ∀ l ∈ c, l ≠ 0) (hc : Cov S c) : HoldsC S.mdl c := by
 have hi := h.calm.inv
 have key : ∀ l, LitOk S.n l → S.is l ≠ -1 → hl S.mdl l := fun l hl hn => by
  rcases is_cases h.sw.len hl with e | e | e
  ·exact mdl_hl e hl.1
  ·exact absurd e hn
  ·exact absurd (is_zero e) (ha _ (by have := hl.1; omega) hl.2)
 rcases hc with hc | ⟨l, h1, i, h2, h3, h4⟩ | ⟨k, h1, h2⟩
 ·obtain ⟨l, h1, h2⟩ := of_decide_eq_true hc
  by_cases e : hl S.mdl l
  ·exact ⟨l, h1, e⟩
  ·exact ⟨-l, h2, (hl_neg (h0 l h1)).2 e⟩
 ·have := lit_is h.sw h2
  rw [h3] at this
  exact ⟨l, h1, mdl_hl this (by have := (slit_ok h.sw h2).1; rwa [h3] at this)⟩
 ·obtain ⟨c1, c2, c3⟩ := h.sw.cl (k := k) h1
  have l0 := c3 _ (gtD_mem (l := S.cl.getD k []) (i := 0) (d := 0) (by omega))
  have l1 := c3 _ (gtD_mem (l := S.cl.getD k []) (i := 1) (d := 0) (by omega))
  by_cases e : S.is ((S.cla k).getD 0 0) = -1
  ·obtain ⟨i, h3, h4⟩ := false_on h.sw hi l0 e
   have := h.calm.pro k h1 0 1 (.inl ⟨rfl, rfl⟩) i (by omega) h4 (fun h => h)
   exact ⟨_, (h2 _).1 (gtD_mem (l := S.cla k) (i := 1) (d := 0) (by show 1 < (S.cl.getD k []).length; omega)), mdl_hl this.1 l1.1⟩
  ·exact ⟨_, (h2 _).1 (gtD_mem (l := S.cla k) (i := 0) (d := 0) (by show 0 < (S.cl.getD k []).length; omega)), key _ l0 e⟩

theorem Base.forced {P : (Nat → Bool) → Prop} {S : Sol} {B : Nat} (h : Base P S B) (hh : S.head = S.tr.length) {c : List Int} (hc : Cov S c) (ht : taut c = false) {x : Int} (ho : ∀ y ∈ c, y ≠ x → S.is y = -1) : S.is x = 1 := by
 have hi := h.calm.inv
 rcases hc with hc | ⟨l, h1, i, h2, h3, h4⟩ | ⟨k, h1, h2⟩
 ·rw [hc] at ht
  simp at ht
 ·have hl := lit_is h.sw h2
  rw [h3] at hl
  by_cases e : l = x
  ·rw [← e]; exact hl
  ·have := ho l h1 e
   omega
 ·obtain ⟨c1, c2, c3⟩ := h.sw.cl (k := k) h1
  have hd := hi.dis k h1
  have m0 : (S.cla k).getD 0 0 ∈ S.cla k := gtD_mem (by show 0 < (S.cl.getD k []).length; omega)
  have m1 : (S.cla k).getD 1 0 ∈ S.cla k := gtD_mem (by show 1 < (S.cl.getD k []).length; omega)
  have key : ∀ p q, (p = 0 ∧ q = 1 ∨ p = 1 ∧ q = 0) → (S.cla k).getD p 0 ∈ S.cla k → (S.cla k).getD q 0 ∈ S.cla k → (S.cla k).getD p 0 ≠ x → S.is x = 1 := fun p q hpq hp hq hne => by
   have hf := ho _ ((h2 _).1 hp) hne
   obtain ⟨i, h5, h6⟩ := false_on h.sw hi (c3 _ hp) hf
   have h7 := (h.calm.pro k h1 p q hpq i (by omega) h6 (fun h => h)).1
   by_cases e : (S.cla k).getD q 0 = x
   ·rw [← e]; exact h7
   ·have := ho _ ((h2 _).1 hq) e
    omega
  by_cases e : (S.cla k).getD 0 0 = x
  ·by_cases e2 : (S.cla k).getD 1 0 = x
   ·have := hd 0 1 (by show 0 < (S.cl.getD k []).length; omega) (by show 1 < (S.cl.getD k []).length; omega) (by rw [e, e2])
    omega
   ·exact key 1 0 (.inr ⟨rfl, rfl⟩) m1 m0 e2
  ·exact key 0 1 (.inl ⟨rfl, rfl⟩) m0 m1 e

def ofL (l base : Int) : Int := if l % 2 = 1 then -(base + 1 + l / 2) else base + 1 + l / 2
def andN (g : LGraph) (base : Int) (k : Nat) : Int := base + 1 + (1 + g.inn.length + g.regs.length : Nat) + k
def and3 (g : LGraph) (base : Int) (k : Nat) : List (List Int) :=
 [[-(andN g base k), ofL (g.ands.getD k (0, 0)).1 base], [-(andN g base k), ofL (g.ands.getD k (0, 0)).2 base], [andN g base k, -(ofL (g.ands.getD k (0, 0)).1 base), -(ofL (g.ands.getD k (0, 0)).2 base)]]
def csN (g : LGraph) (base : Int) : Nat → List (List Int)
 | 0 => [[-(base + 1)]]
 | k + 1 => csN g base k ++ and3 g base k
theorem csN_len (g : LGraph) (base : Int) : ∀ k, (csN g base k).length = 1 + 3 * k
 | 0 => rfl
 | k + 1 => by rw [csN, List.length_append, csN_len g base k]; simp [and3]; omega
theorem csN_mem (g : LGraph) (base : Int) (c : List Int) : ∀ k, c ∈ csN g base k ↔ c = [-(base + 1)] ∨ ∃ i, i < k ∧ c ∈ and3 g base i
 | 0 => by simp [csN]
 | k + 1 => by
  rw [csN, List.mem_append, csN_mem g base c k]
  constructor
  ·rintro ((h | ⟨i, h1, h2⟩) | h)
   ·exact .inl h
   ·exact .inr ⟨i, by omega, h2⟩
   ·exact .inr ⟨k, by omega, h⟩
  ·rintro (h | ⟨i, h1, h2⟩)
   ·exact .inl (.inl h)
   ·by_cases e : i = k
    ·subst e; exact .inr h2
    ·exact .inl (.inr ⟨i, by omega, h2⟩)
def nodeM (M : Nat → Bool) (base : Nat) : Nat → Bool := fun k => M (base + 1 + k)
theorem ofL_hl {M : Nat → Bool} {base : Nat} {l : Int} (h : 0 ≤ l) : hl M (ofL l base) ↔ lbit (nodeM M base) l = true := by
 unfold hl ofL lbit nodeM
 split
 ·rename_i h1
  rw [show (-((base : Int) + 1 + l / 2)).natAbs = base + 1 + (l / 2).toNat by omega, decide_eq_false (by omega)]
  simp
 ·rename_i h1
  rw [show ((base : Int) + 1 + l / 2).natAbs = base + 1 + (l / 2).toNat by omega, decide_eq_true (by omega)]
theorem pos_hl {M : Nat → Bool} {base k : Nat} : hl M ((base : Int) + 1 + k) ↔ nodeM M base k = true := by
 unfold hl nodeM
 rw [show ((base : Int) + 1 + k).natAbs = base + 1 + k by omega, decide_eq_true (by omega)]
theorem ofL_ne {l : Int} {base : Nat} (h : 0 ≤ l) : ofL l base ≠ 0 := by
 unfold ofL
 split <;> omega
theorem and_node (g : LGraph) (base k : Nat) : andN g base k = (base : Int) + 1 + (1 + g.inn.length + g.regs.length + k : Nat) := by
 unfold andN
 omega
theorem and3_hold {g : LGraph} (hg : GraphOk g) {M : Nat → Bool} {base k : Nat} (hk : k < g.ands.length) : (∀ c ∈ and3 g base k, HoldsC M c) ↔ nodeM M base (1 + g.inn.length + g.regs.length + k) = (lbit (nodeM M base) (g.ands.getD k (0, 0)).1 && lbit (nodeM M base) (g.ands.getD k (0, 0)).2) := by
 have hp : g.ands[k]? = some (g.ands.getD k (0, 0)) := getD_some _ hk
 obtain ⟨⟨p0, _⟩, p1, _⟩ := hg.ands k _ hp
 have hN : hl M (andN g base k) ↔ nodeM M base (1 + g.inn.length + g.regs.length + k) = true := by rw [and_node]; exact pos_hl
 have hn0 : andN g base k ≠ 0 := by rw [and_node]; omega
 have hA := ofL_hl (M := M) (base := base) p0
 have hB := ofL_hl (M := M) (base := base) p1
 have a0 := ofL_ne (base := base) p0
 have b0 := ofL_ne (base := base) p1
 unfold and3
 generalize g.ands.getD k (0, 0) = p at p0 p1 hA hB a0 b0 ⊢
 generalize nodeM M base (1 + g.inn.length + g.regs.length + k) = N at hN ⊢
 generalize lbit (nodeM M base) p.1 = A at hA ⊢
 generalize lbit (nodeM M base) p.2 = C at hB ⊢
 generalize andN g base k = n at hN hn0 ⊢
 generalize ofL p.1 base = x at hA a0 ⊢
 generalize ofL p.2 base = y at hB b0 ⊢
 have e1 := hl_neg (M := M) hn0
 have e2 := hl_neg (M := M) a0
 have e3 := hl_neg (M := M) b0
 simp only [List.mem_cons, List.not_mem_nil, or_false, HoldsC, forall_eq_or_imp, forall_eq, exists_eq_or_imp, exists_eq_left, e1, e2, e3, hN, hA, hB]
 cases N <;> cases A <;> cases C <;> simp
theorem csN_sat {g : LGraph} (hg : GraphOk g) {M : Nat → Bool} {base : Nat} {r s : List Bool} : ((∀ c ∈ csN g base g.ands.length, HoldsC M c) ∧ (∀ i, i < g.inn.length → nodeM M base (1 + i) = r.getD i false) ∧ ∀ k, k < g.regs.length → nodeM M base (1 + g.inn.length + k) = s.getD k false) ↔ Sat g r s (nodeM M base) := by
 have h0 : HoldsC M [-((base : Int) + 1)] ↔ nodeM M base 0 = false := by
  have e := pos_hl (M := M) (base := base) (k := 0)
  have e1 := hl_neg (M := M) (x := (base : Int) + 1) (by omega)
  rw [show ((base : Int) + 1 + ((0 : Nat) : Int)) = (base : Int) + 1 by omega] at e
  simp only [HoldsC, List.mem_cons, List.not_mem_nil, or_false, exists_eq_left, e1, e]
  cases nodeM M base 0 <;> simp
 constructor
 ·rintro ⟨h1, h2, h3⟩
  refine ⟨h0.1 (h1 _ ((csN_mem g base _ _).2 (.inl rfl))), h2, h3, fun j p hp => ?_⟩
  have hj := (List.getElem?_eq_some_iff.1 hp).1
  have hd : g.ands.getD j (0, 0) = p := by rw [List.getD_eq_getElem?_getD, hp]; rfl
  have := (and3_hold hg (M := M) (base := base) hj).1 (fun c hc => h1 c ((csN_mem g base _ _).2 (.inr ⟨j, hj, hc⟩)))
  rw [hd] at this
  exact this
 ·intro h
  refine ⟨fun c hc => ?_, h.inn, h.regs⟩
  rcases (csN_mem g base _ _).1 hc with rfl | ⟨i, hi, hc⟩
  ·exact h0.2 h.zero
  ·exact (and3_hold hg hi).2 (h.ands i _ (getD_some _ hi)) c hc
theorem is_val {S : Sol} {x : Int} (h : S.is x ≠ 0) : S.val.getD x.natAbs 0 ≠ 0 := fun e => h (by
 unfold Sol.is
 rw [e]
 split <;> rfl)
theorem val_is {S : Sol} (hS : SLen S) {x : Int} (hx : LitOk S.n x) (h : S.val.getD x.natAbs 0 ≠ 0) : S.is x = 1 ∨ S.is x = -1 := by
 rcases is_cases hS hx with e | e | e
 ·exact .inl e
 ·exact .inr e
 ·exact absurd (is_zero e) h
theorem taut_no {c : List Int} (h : ∀ l ∈ c, -l ∉ c) : taut c = false := decide_eq_false (fun ⟨l, h1, h2⟩ => h l h1 h2)
theorem csN_loc {g : LGraph} (hg : GraphOk g) {P : (Nat → Bool) → Prop} {S : Sol} {B base : Nat} (h : Base P S B) (hh : S.head = S.tr.length) (hn : base + (1 + g.inn.length + g.regs.length + g.ands.length) ≤ S.n) (hc : ∀ c ∈ csN g base g.ands.length, Cov S c) {k : Nat} (hk : k < 1 + g.inn.length + g.regs.length + g.ands.length) (hno : k = 0 ∨ 1 + g.inn.length + g.regs.length ≤ k)
  (ih : ∀ q, q < k → S.val.getD (base + 1 + q) 0 ≠ 0) : S.val.getD (base + 1 + k) 0 ≠ 0 := by
 by_cases c0 : k = 0
 ·subst c0
  have h1 := h.forced hh (hc _ ((csN_mem g base _ _).2 (.inl rfl))) (taut_no (fun l hl => by
   rw [List.mem_singleton] at hl ⊢
   omega)) (x := -((base : Int) + 1)) (fun y hy hne => absurd (List.mem_singleton.1 hy) hne)
  have := is_val (S := S) (x := -((base : Int) + 1)) (by omega)
  rwa [show (-((base : Int) + 1)).natAbs = base + 1 + 0 by omega] at this
 ·obtain ⟨j, rfl⟩ : ∃ j, k = 1 + g.inn.length + g.regs.length + j := ⟨k - (1 + g.inn.length + g.regs.length), by omega⟩
  have hj : j < g.ands.length := by omega
  have hp : g.ands[j]? = some (g.ands.getD j (0, 0)) := getD_some _ hj
  obtain ⟨⟨p0, p1⟩, p2, p3⟩ := hg.ands j _ hp
  have cl : ∀ c, c ∈ and3 g base j → Cov S c := fun c hc2 => hc c ((csN_mem g base _ _).2 (.inr ⟨j, hj, hc2⟩))
  unfold and3 at cl
  have hnn := and_node g base j
  generalize g.ands.getD j (0, 0) = p at p0 p1 p2 p3 cl
  have low : ∀ l : Int, 0 ≤ l → l < 2 * ((1 : Int) + g.inn.length + g.regs.length + j) → (ofL l base).natAbs = base + 1 + (l / 2).toNat ∧ (ofL l base).natAbs < base + 1 + (1 + g.inn.length + g.regs.length + j) ∧ LitOk S.n (ofL l base) ∧ (S.is (ofL l base) = 1 ∨ S.is (ofL l base) = -1) := fun l l0 l1 => by
   have ha : (ofL l base).natAbs = base + 1 + (l / 2).toNat := by unfold ofL; split <;> omega
   have hb : (l / 2).toNat < 1 + g.inn.length + g.regs.length + j := by omega
   have hlo : LitOk S.n (ofL l base) := ⟨ofL_ne l0, by omega⟩
   exact ⟨ha, by omega, hlo, val_is h.sw.len hlo (by rw [ha]; exact ih _ hb)⟩
  obtain ⟨a1, a2, a3, a4⟩ := low p.1 p0 (by omega)
  obtain ⟨b1, b2, b3, b4⟩ := low p.2 p2 (by omega)
  generalize ofL p.1 base = x at a1 a2 a3 a4 cl
  generalize ofL p.2 base = y at b1 b2 b3 b4 cl
  have hna : (andN g base j).natAbs = base + 1 + (1 + g.inn.length + g.regs.length + j) := by omega
  have hnp : 0 < andN g base j := by omega
  generalize andN g base j = n at hna hnp cl
  have fin : ∀ z : Int, z.natAbs = n.natAbs → S.is z = 1 → S.val.getD (base + 1 + (1 + g.inn.length + g.regs.length + j)) 0 ≠ 0 := fun z hz h1 => by
   have := is_val (S := S) (x := z) (by omega)
   rwa [hz, hna] at this
  rcases a4 with a4 | a4
  ·rcases b4 with b4 | b4
   ·refine fin n rfl (h.forced hh (cl [n, -x, -y] (by simp)) (taut_no (fun l hl hl2 => ?_)) (fun z hz hne => ?_))
    ·have hxy : x ≠ -y := fun e => by
      rw [e, is_neg' S b3.1] at a4
      omega
     have hx0 := a3.1
     have hy0 := b3.1
     simp only [List.mem_cons, List.not_mem_nil, or_false] at hl hl2
     omega
    ·simp only [List.mem_cons, List.not_mem_nil, or_false] at hz
     rcases hz with rfl | rfl | rfl
     ·exact absurd rfl hne
     ·rw [is_neg' S a3.1, a4]
     ·rw [is_neg' S b3.1, b4]
   ·refine fin (-n) (by omega) (h.forced hh (cl [-n, y] (by simp)) (taut_no (fun l hl hl2 => ?_)) (fun z hz hne => ?_))
    ·have hy0 := b3.1
     simp only [List.mem_cons, List.not_mem_nil, or_false] at hl hl2
     omega
    ·simp only [List.mem_cons, List.not_mem_nil, or_false] at hz
     rcases hz with rfl | rfl
     ·exact absurd rfl hne
     ·exact b4
  ·refine fin (-n) (by omega) (h.forced hh (cl [-n, x] (by simp)) (taut_no (fun l hl hl2 => ?_)) (fun z hz hne => ?_))
   ·have hx0 := a3.1
    simp only [List.mem_cons, List.not_mem_nil, or_false] at hl hl2
    omega
   ·simp only [List.mem_cons, List.not_mem_nil, or_false] at hz
    rcases hz with rfl | rfl
    ·exact absurd rfl hne
    ·exact a4

abbrev varsN (g : LGraph) : Nat := 1 + g.inn.length + g.regs.length + g.ands.length

end Go.Proofs.YtkjfdacjjogpcaaPi
