/- Part 4 of the proof: the texts PSolJ, PSolK, PSolL, PFrm, PRuns, WVA, WFA, WFB, one behind the other. Each holds for every input that it names; no condition is hidden. -/
import Derived.Test.YtkjfdacjjogpcaaM3
import Derived.Test.YtkjfdacjjogpcaaM2
import Derived.Test.YtkjfdacjjogpcaaPiSim
import Derived.Test.YtkjfdacjjogpcaaPiLit
/- Plain: what unit clauses alone determine. No program in sight. -/
set_option linter.unusedVariables false
set_option linter.unusedSimpArgs false
set_option linter.unusedSectionVars false
namespace Go.Proofs.YtkjfdacjjogpcaaPi
theorem Base.forced {P : (Nat → Bool) → Prop} {S : Sol} {B : Nat} (h : Base P S B) (hh : S.head = S.tr.length) {c : List Int} (hc : Cov S c) (ht : taut c = false) {x : Int} (ho : ∀ y ∈ c, y ≠ x → S.is y = -1) : S.is x = 1 := by
 have hi := h.calm.inv
 rcases hc with hc | ⟨l, h1, i, h2, h3, h4⟩ | ⟨k, h1, h2⟩
 ·rw [hc] at ht
  simp at ht
 ·have hl := lit_is h.sw h2
  rw [h3] at hl
  by_cases e : l = x
  ·rw [← e]; exact hl
  ·have := ho l h1 e
   omega
 ·obtain ⟨c1, c2, c3⟩ := h.sw.cl (k := k) h1
  have hd := hi.dis k h1
  have m0 : (S.cla k).getD 0 0 ∈ S.cla k := gtD_mem (by show 0 < (S.cl.getD k []).length; omega)
  have m1 : (S.cla k).getD 1 0 ∈ S.cla k := gtD_mem (by show 1 < (S.cl.getD k []).length; omega)
  have key : ∀ p q, (p = 0 ∧ q = 1 ∨ p = 1 ∧ q = 0) → (S.cla k).getD p 0 ∈ S.cla k → (S.cla k).getD q 0 ∈ S.cla k → (S.cla k).getD p 0 ≠ x → S.is x = 1 := fun p q hpq hp hq hne => by
   have hf := ho _ ((h2 _).1 hp) hne
   obtain ⟨i, h5, h6⟩ := false_on h.sw hi (c3 _ hp) hf
   have h7 := (h.calm.pro k h1 p q hpq i (by omega) h6 (fun h => h)).1
   by_cases e : (S.cla k).getD q 0 = x
   ·rw [← e]; exact h7
   ·have := ho _ ((h2 _).1 hq) e
    omega
  by_cases e : (S.cla k).getD 0 0 = x
  ·by_cases e2 : (S.cla k).getD 1 0 = x
   ·have := hd 0 1 (by show 0 < (S.cl.getD k []).length; omega) (by show 1 < (S.cl.getD k []).length; omega) (by rw [e, e2])
    omega
   ·exact key 1 0 (.inr ⟨rfl, rfl⟩) m1 m0 e2
  ·exact key 0 1 (.inl ⟨rfl, rfl⟩) m0 m1 e
end Go.Proofs.YtkjfdacjjogpcaaPi

/- Plain law: the clauses of a graph, and what they tell of its nodes. No program in sight. -/
set_option linter.unusedVariables false
set_option linter.unusedSimpArgs false
set_option linter.unusedSectionVars false
namespace Go.Proofs.YtkjfdacjjogpcaaPi
def ofL (l base : Int) : Int := if l % 2 = 1 then -(base + 1 + l / 2) else base + 1 + l / 2
def andN (g : LGraph) (base : Int) (k : Nat) : Int := base + 1 + (1 + g.inn.length + g.regs.length : Nat) + k
def and3 (g : LGraph) (base : Int) (k : Nat) : List (List Int) :=
 [[-(andN g base k), ofL (g.ands.getD k (0, 0)).1 base], [-(andN g base k), ofL (g.ands.getD k (0, 0)).2 base], [andN g base k, -(ofL (g.ands.getD k (0, 0)).1 base), -(ofL (g.ands.getD k (0, 0)).2 base)]]
def csN (g : LGraph) (base : Int) : Nat → List (List Int)
 | 0 => [[-(base + 1)]]
 | k + 1 => csN g base k ++ and3 g base k
theorem csN_len (g : LGraph) (base : Int) : ∀ k, (csN g base k).length = 1 + 3 * k
 | 0 => rfl
 | k + 1 => by rw [csN, List.length_append, csN_len g base k]; simp [and3]; omega
theorem csN_mem (g : LGraph) (base : Int) (c : List Int) : ∀ k, c ∈ csN g base k ↔ c = [-(base + 1)] ∨ ∃ i, i < k ∧ c ∈ and3 g base i
 | 0 => by simp [csN]
 | k + 1 => by
  rw [csN, List.mem_append, csN_mem g base c k]
  constructor
  ·rintro ((h | ⟨i, h1, h2⟩) | h)
   ·exact .inl h
   ·exact .inr ⟨i, by omega, h2⟩
   ·exact .inr ⟨k, by omega, h⟩
  ·rintro (h | ⟨i, h1, h2⟩)
   ·exact .inl (.inl h)
   ·by_cases e : i = k
    ·subst e; exact .inr h2
    ·exact .inl (.inr ⟨i, by omega, h2⟩)
def nodeM (M : Nat → Bool) (base : Nat) : Nat → Bool := fun k => M (base + 1 + k)
theorem ofL_hl {M : Nat → Bool} {base : Nat} {l : Int} (h : 0 ≤ l) : hl M (ofL l base) ↔ lbit (nodeM M base) l = true := by
 unfold hl ofL lbit nodeM
 split
 ·rename_i h1
  rw [show (-((base : Int) + 1 + l / 2)).natAbs = base + 1 + (l / 2).toNat by omega, decide_eq_false (by omega)]
  simp
 ·rename_i h1
  rw [show ((base : Int) + 1 + l / 2).natAbs = base + 1 + (l / 2).toNat by omega, decide_eq_true (by omega)]
theorem pos_hl {M : Nat → Bool} {base k : Nat} : hl M ((base : Int) + 1 + k) ↔ nodeM M base k = true := by
 unfold hl nodeM
 rw [show ((base : Int) + 1 + k).natAbs = base + 1 + k by omega, decide_eq_true (by omega)]
theorem ofL_ne {l : Int} {base : Nat} (h : 0 ≤ l) : ofL l base ≠ 0 := by
 unfold ofL
 split <;> omega
theorem and_node (g : LGraph) (base k : Nat) : andN g base k = (base : Int) + 1 + (1 + g.inn.length + g.regs.length + k : Nat) := by
 unfold andN
 omega
theorem and3_hold {g : LGraph} (hg : GraphOk g) {M : Nat → Bool} {base k : Nat} (hk : k < g.ands.length) : (∀ c ∈ and3 g base k, HoldsC M c) ↔ nodeM M base (1 + g.inn.length + g.regs.length + k) = (lbit (nodeM M base) (g.ands.getD k (0, 0)).1 && lbit (nodeM M base) (g.ands.getD k (0, 0)).2) := by
 have hp : g.ands[k]? = some (g.ands.getD k (0, 0)) := getD_some _ hk
 obtain ⟨⟨p0, _⟩, p1, _⟩ := hg.ands k _ hp
 have hN : hl M (andN g base k) ↔ nodeM M base (1 + g.inn.length + g.regs.length + k) = true := by rw [and_node]; exact pos_hl
 have hn0 : andN g base k ≠ 0 := by rw [and_node]; omega
 have hA := ofL_hl (M := M) (base := base) p0
 have hB := ofL_hl (M := M) (base := base) p1
 have a0 := ofL_ne (base := base) p0
 have b0 := ofL_ne (base := base) p1
 unfold and3
 generalize g.ands.getD k (0, 0) = p at p0 p1 hA hB a0 b0 ⊢
 generalize nodeM M base (1 + g.inn.length + g.regs.length + k) = N at hN ⊢
 generalize lbit (nodeM M base) p.1 = A at hA ⊢
 generalize lbit (nodeM M base) p.2 = C at hB ⊢
 generalize andN g base k = n at hN hn0 ⊢
 generalize ofL p.1 base = x at hA a0 ⊢
 generalize ofL p.2 base = y at hB b0 ⊢
 have e1 := hl_neg (M := M) hn0
 have e2 := hl_neg (M := M) a0
 have e3 := hl_neg (M := M) b0
 simp only [List.mem_cons, List.not_mem_nil, or_false, HoldsC, forall_eq_or_imp, forall_eq, exists_eq_or_imp, exists_eq_left, e1, e2, e3, hN, hA, hB]
 cases N <;> cases A <;> cases C <;> simp
theorem csN_sat {g : LGraph} (hg : GraphOk g) {M : Nat → Bool} {base : Nat} {r s : List Bool} : ((∀ c ∈ csN g base g.ands.length, HoldsC M c) ∧ (∀ i, i < g.inn.length → nodeM M base (1 + i) = r.getD i false) ∧ ∀ k, k < g.regs.length → nodeM M base (1 + g.inn.length + k) = s.getD k false) ↔ Sat g r s (nodeM M base) := by
 have h0 : HoldsC M [-((base : Int) + 1)] ↔ nodeM M base 0 = false := by
  have e := pos_hl (M := M) (base := base) (k := 0)
  have e1 := hl_neg (M := M) (x := (base : Int) + 1) (by omega)
  rw [show ((base : Int) + 1 + ((0 : Nat) : Int)) = (base : Int) + 1 by omega] at e
  simp only [HoldsC, List.mem_cons, List.not_mem_nil, or_false, exists_eq_left, e1, e]
  cases nodeM M base 0 <;> simp
 constructor
 ·rintro ⟨h1, h2, h3⟩
  refine ⟨h0.1 (h1 _ ((csN_mem g base _ _).2 (.inl rfl))), h2, h3, fun j p hp => ?_⟩
  have hj := (List.getElem?_eq_some_iff.1 hp).1
  have hd : g.ands.getD j (0, 0) = p := by rw [List.getD_eq_getElem?_getD, hp]; rfl
  have := (and3_hold hg (M := M) (base := base) hj).1 (fun c hc => h1 c ((csN_mem g base _ _).2 (.inr ⟨j, hj, hc⟩)))
  rw [hd] at this
  exact this
 ·intro h
  refine ⟨fun c hc => ?_, h.inn, h.regs⟩
  rcases (csN_mem g base _ _).1 hc with rfl | ⟨i, hi, hc⟩
  ·exact h0.2 h.zero
  ·exact (and3_hold hg hi).2 (h.ands i _ (getD_some _ hi)) c hc
theorem is_val {S : Sol} {x : Int} (h : S.is x ≠ 0) : S.val.getD x.natAbs 0 ≠ 0 := fun e => h (by
 unfold Sol.is
 rw [e]
 split <;> rfl)
theorem val_is {S : Sol} (hS : SLen S) {x : Int} (hx : LitOk S.n x) (h : S.val.getD x.natAbs 0 ≠ 0) : S.is x = 1 ∨ S.is x = -1 := by
 rcases is_cases hS hx with e | e | e
 ·exact .inl e
 ·exact .inr e
 ·exact absurd (is_zero e) h
theorem taut_no {c : List Int} (h : ∀ l ∈ c, -l ∉ c) : taut c = false := decide_eq_false (fun ⟨l, h1, h2⟩ => h l h1 h2)
theorem csN_loc {g : LGraph} (hg : GraphOk g) {P : (Nat → Bool) → Prop} {S : Sol} {B base : Nat} (h : Base P S B) (hh : S.head = S.tr.length) (hn : base + (1 + g.inn.length + g.regs.length + g.ands.length) ≤ S.n) (hc : ∀ c ∈ csN g base g.ands.length, Cov S c) {k : Nat} (hk : k < 1 + g.inn.length + g.regs.length + g.ands.length) (hno : k = 0 ∨ 1 + g.inn.length + g.regs.length ≤ k)
  (ih : ∀ q, q < k → S.val.getD (base + 1 + q) 0 ≠ 0) : S.val.getD (base + 1 + k) 0 ≠ 0 := by
 by_cases c0 : k = 0
 ·subst c0
  have h1 := h.forced hh (hc _ ((csN_mem g base _ _).2 (.inl rfl))) (taut_no (fun l hl => by
   rw [List.mem_singleton] at hl ⊢
   omega)) (x := -((base : Int) + 1)) (fun y hy hne => absurd (List.mem_singleton.1 hy) hne)
  have := is_val (S := S) (x := -((base : Int) + 1)) (by omega)
  rwa [show (-((base : Int) + 1)).natAbs = base + 1 + 0 by omega] at this
 ·obtain ⟨j, rfl⟩ : ∃ j, k = 1 + g.inn.length + g.regs.length + j := ⟨k - (1 + g.inn.length + g.regs.length), by omega⟩
  have hj : j < g.ands.length := by omega
  have hp : g.ands[j]? = some (g.ands.getD j (0, 0)) := getD_some _ hj
  obtain ⟨⟨p0, p1⟩, p2, p3⟩ := hg.ands j _ hp
  have cl : ∀ c, c ∈ and3 g base j → Cov S c := fun c hc2 => hc c ((csN_mem g base _ _).2 (.inr ⟨j, hj, hc2⟩))
  unfold and3 at cl
  have hnn := and_node g base j
  generalize g.ands.getD j (0, 0) = p at p0 p1 p2 p3 cl
  have low : ∀ l : Int, 0 ≤ l → l < 2 * ((1 : Int) + g.inn.length + g.regs.length + j) → (ofL l base).natAbs = base + 1 + (l / 2).toNat ∧ (ofL l base).natAbs < base + 1 + (1 + g.inn.length + g.regs.length + j) ∧ LitOk S.n (ofL l base) ∧ (S.is (ofL l base) = 1 ∨ S.is (ofL l base) = -1) := fun l l0 l1 => by
   have ha : (ofL l base).natAbs = base + 1 + (l / 2).toNat := by unfold ofL; split <;> omega
   have hb : (l / 2).toNat < 1 + g.inn.length + g.regs.length + j := by omega
   have hlo : LitOk S.n (ofL l base) := ⟨ofL_ne l0, by omega⟩
   exact ⟨ha, by omega, hlo, val_is h.sw.len hlo (by rw [ha]; exact ih _ hb)⟩
  obtain ⟨a1, a2, a3, a4⟩ := low p.1 p0 (by omega)
  obtain ⟨b1, b2, b3, b4⟩ := low p.2 p2 (by omega)
  generalize ofL p.1 base = x at a1 a2 a3 a4 cl
  generalize ofL p.2 base = y at b1 b2 b3 b4 cl
  have hna : (andN g base j).natAbs = base + 1 + (1 + g.inn.length + g.regs.length + j) := by omega
  have hnp : 0 < andN g base j := by omega
  generalize andN g base j = n at hna hnp cl
  have fin : ∀ z : Int, z.natAbs = n.natAbs → S.is z = 1 → S.val.getD (base + 1 + (1 + g.inn.length + g.regs.length + j)) 0 ≠ 0 := fun z hz h1 => by
   have := is_val (S := S) (x := z) (by omega)
   rwa [hz, hna] at this
  rcases a4 with a4 | a4
  ·rcases b4 with b4 | b4
   ·refine fin n rfl (h.forced hh (cl [n, -x, -y] (by simp)) (taut_no (fun l hl hl2 => ?_)) (fun z hz hne => ?_))
    ·have hxy : x ≠ -y := fun e => by
      rw [e, is_neg' S b3.1] at a4
      omega
     have hx0 := a3.1
     have hy0 := b3.1
     simp only [List.mem_cons, List.not_mem_nil, or_false] at hl hl2
     omega
    ·simp only [List.mem_cons, List.not_mem_nil, or_false] at hz
     rcases hz with rfl | rfl | rfl
     ·exact absurd rfl hne
     ·rw [is_neg' S a3.1, a4]
     ·rw [is_neg' S b3.1, b4]
   ·refine fin (-n) (by omega) (h.forced hh (cl [-n, y] (by simp)) (taut_no (fun l hl hl2 => ?_)) (fun z hz hne => ?_))
    ·have hy0 := b3.1
     simp only [List.mem_cons, List.not_mem_nil, or_false] at hl hl2
     omega
    ·simp only [List.mem_cons, List.not_mem_nil, or_false] at hz
     rcases hz with rfl | rfl
     ·exact absurd rfl hne
     ·exact b4
  ·refine fin (-n) (by omega) (h.forced hh (cl [-n, x] (by simp)) (taut_no (fun l hl hl2 => ?_)) (fun z hz hne => ?_))
   ·have hx0 := a3.1
    simp only [List.mem_cons, List.not_mem_nil, or_false] at hl hl2
    omega
   ·simp only [List.mem_cons, List.not_mem_nil, or_false] at hz
    rcases hz with rfl | rfl
    ·exact absurd rfl hne
    ·exact a4
end Go.Proofs.YtkjfdacjjogpcaaPi

/- Plain law of SatGraphs: with the inputs and registers given, the clauses of a graph have one model. No program in sight. -/
set_option linter.unusedVariables false
set_option linter.unusedSimpArgs false
set_option linter.unusedSectionVars false
namespace Go.Proofs.YtkjfdacjjogpcaaPi
abbrev varsN (g : LGraph) : Nat := 1 + g.inn.length + g.regs.length + g.ands.length
end Go.Proofs.YtkjfdacjjogpcaaPi

/- Plain law: the clauses of the cycles of a graph; their models are its runs. No program in sight. -/
set_option linter.unusedVariables false
set_option linter.unusedSimpArgs false
set_option linter.unusedSectionVars false
namespace Go.Proofs.YtkjfdacjjogpcaaPi
abbrev regD (g : LGraph) (i : Nat) : LReg := g.regs.getD i ⟨ByteArray.empty, 0, false⟩
def regV (g : LGraph) (t i : Nat) : Int := ((t * varsN g : Nat) : Int) + 2 + g.inn.length + i
def regC (g : LGraph) (free : Bool) : Nat → Nat → List (List Int)
 | 0, i => if free = true then [] else if (regD g i).init = true then [[regV g 0 i]] else [[-(regV g 0 i)]]
 | t + 1, i => [[-(regV g (t + 1) i), ofL (regD g i).next ((t * varsN g : Nat) : Int)], [regV g (t + 1) i, -(ofL (regD g i).next ((t * varsN g : Nat) : Int))]]
def regsC (g : LGraph) (free : Bool) (t : Nat) : Nat → List (List Int)
 | 0 => []
 | i + 1 => regsC g free t i ++ regC g free t i
def frmC (g : LGraph) (free : Bool) : Nat → List (List Int)
 | 0 => []
 | t + 1 => frmC g free t ++ csN g ((t * varsN g : Nat) : Int) g.ands.length ++ regsC g free t g.regs.length
theorem regsC_mem (g : LGraph) (free : Bool) (t : Nat) (c : List Int) : ∀ k, c ∈ regsC g free t k ↔ ∃ i, i < k ∧ c ∈ regC g free t i
 | 0 => by simp [regsC]
 | k + 1 => by
  rw [regsC, List.mem_append, regsC_mem g free t c k]
  constructor
  ·rintro (⟨i, h1, h2⟩ | h)
   ·exact ⟨i, by omega, h2⟩
   ·exact ⟨k, by omega, h⟩
  ·rintro ⟨i, h1, h2⟩
   by_cases e : i = k
   ·subst e; exact .inr h2
   ·exact .inl ⟨i, by omega, h2⟩
theorem frmC_mem (g : LGraph) (free : Bool) (c : List Int) : ∀ k, c ∈ frmC g free k ↔ ∃ t, t < k ∧ (c ∈ csN g ((t * varsN g : Nat) : Int) g.ands.length ∨ ∃ i, i < g.regs.length ∧ c ∈ regC g free t i)
 | 0 => by simp [frmC]
 | k + 1 => by
  rw [frmC, List.mem_append, List.mem_append, frmC_mem g free c k, regsC_mem]
  constructor
  ·rintro ((⟨t, h1, h2⟩ | h) | h)
   ·exact ⟨t, by omega, h2⟩
   ·exact ⟨k, by omega, .inl h⟩
   ·exact ⟨k, by omega, .inr h⟩
  ·rintro ⟨t, h1, h2⟩
   by_cases e : t = k
   ·subst e
    rcases h2 with h2 | h2
    ·exact .inl (.inr h2)
    ·exact .inr h2
   ·exact .inl (.inl ⟨t, by omega, h2⟩)
theorem regC_len (g : LGraph) (free : Bool) (t i : Nat) : (regC g free t i).length ≤ 2 := by
 cases t with
 | zero =>
  rw [regC]
  split
  ·simp
  ·split <;> simp
 | succ t => simp [regC]
theorem regsC_len (g : LGraph) (free : Bool) (t : Nat) : ∀ k, (regsC g free t k).length ≤ 2 * k
 | 0 => by simp [regsC]
 | k + 1 => by
  rw [regsC, List.length_append]
  have := regC_len g free t k
  have := regsC_len g free t k
  omega
theorem frmC_len (g : LGraph) (free : Bool) : ∀ k, (frmC g free k).length ≤ k * (1 + 3 * g.ands.length + 2 * g.regs.length)
 | 0 => by simp [frmC]
 | k + 1 => by
  rw [frmC, List.length_append, List.length_append, csN_len]
  have := frmC_len g free k
  have := regsC_len g free k g.regs.length
  rw [show (k + 1) * (1 + 3 * g.ands.length + 2 * g.regs.length) = k * (1 + 3 * g.ands.length + 2 * g.regs.length) + (1 + 3 * g.ands.length + 2 * g.regs.length) from Nat.succ_mul _ _]
  omega
def insM (g : LGraph) (M : Nat → Bool) (t : Nat) : List Bool := (List.range g.inn.length).map fun i => nodeM M (t * varsN g) (1 + i)
def stsM (g : LGraph) (M : Nat → Bool) (t : Nat) : List Bool := (List.range g.regs.length).map fun i => nodeM M (t * varsN g) (1 + g.inn.length + i)
theorem range_getD {α : Type} (n : Nat) (f : Nat → α) (d : α) {i : Nat} (h : i < n) : ((List.range n).map f).getD i d = f i := by
 rw [List.getD_eq_getElem?_getD, List.getElem?_map, List.getElem?_range h]
 rfl
theorem insM_len (g : LGraph) (M : Nat → Bool) (t : Nat) : (insM g M t).length = g.inn.length := by simp [insM]
theorem stsM_len (g : LGraph) (M : Nat → Bool) (t : Nat) : (stsM g M t).length = g.regs.length := by simp [stsM]
theorem insM_get (g : LGraph) (M : Nat → Bool) (t : Nat) {i : Nat} (h : i < g.inn.length) : (insM g M t).getD i false = nodeM M (t * varsN g) (1 + i) := range_getD _ _ _ h
theorem stsM_get (g : LGraph) (M : Nat → Bool) (t : Nat) {i : Nat} (h : i < g.regs.length) : (stsM g M t).getD i false = nodeM M (t * varsN g) (1 + g.inn.length + i) := range_getD _ _ _ h
abbrev nxB (g : LGraph) (b : Nat → Bool) : List Bool := g.regs.map fun x => lbit b x.next
theorem ext_getD {α : Type} (d : α) {a b : List α} (h : a.length = b.length) (k : ∀ i, i < a.length → a.getD i d = b.getD i d) : a = b := by
 refine List.ext_getElem h fun i h1 h2 => ?_
 have := k i h1
 rw [List.getD_eq_getElem?_getD, List.getD_eq_getElem?_getD, List.getElem?_eq_getElem h1, List.getElem?_eq_getElem h2] at this
 exact this
theorem nxB_get (g : LGraph) (b : Nat → Bool) {i : Nat} (h : i < g.regs.length) : (nxB g b).getD i false = lbit b (regD g i).next := by
 rw [List.getD_eq_getElem?_getD, List.getElem?_map, getD_some (⟨ByteArray.empty, 0, false⟩ : LReg) h]
 rfl
theorem initG_get (g : LGraph) {i : Nat} (h : i < g.regs.length) : (initG g).getD i false = (regD g i).init := by
 rw [List.getD_eq_getElem?_getD, List.getElem?_map, getD_some (⟨ByteArray.empty, 0, false⟩ : LReg) h]
 rfl
structure FrmSat (g : LGraph) (free : Bool) (k : Nat) (M : Nat → Bool) : Prop where
 sat : ∀ t, t < k → Sat g (insM g M t) (stsM g M t) (nodeM M (t * varsN g))
 init : 0 < k → free = false → stsM g M 0 = initG g
 step : ∀ t, t + 1 < k → stsM g M (t + 1) = nxB g (nodeM M (t * varsN g))
theorem regV_hl {g : LGraph} {M : Nat → Bool} {t i : Nat} : hl M (regV g t i) ↔ nodeM M (t * varsN g) (1 + g.inn.length + i) = true := by
 unfold hl nodeM regV
 rw [show (((t * varsN g : Nat) : Int) + 2 + g.inn.length + i).natAbs = t * varsN g + 1 + (1 + g.inn.length + i) by omega, decide_eq_true (by omega)]
theorem regV_ne (g : LGraph) (t i : Nat) : regV g t i ≠ 0 := by unfold regV; omega
theorem regD_mem {g : LGraph} {i : Nat} (h : i < g.regs.length) : regD g i ∈ g.regs := gtD_mem h
theorem reg0_hold {g : LGraph} {M : Nat → Bool} {i : Nat} : (∀ c ∈ regC g false 0 i, HoldsC M c) ↔ nodeM M (0 * varsN g) (1 + g.inn.length + i) = (regD g i).init := by
 have h := regV_hl (g := g) (M := M) (t := 0) (i := i)
 have hn := hl_neg (M := M) (regV_ne g 0 i)
 rw [regC, if_neg (by simp)]
 cases (regD g i).init with
 | true => rw [if_pos rfl]; simp only [List.mem_singleton, forall_eq, HoldsC, exists_eq_left]; exact h
 | false =>
  rw [if_neg (by simp)]
  simp only [List.mem_singleton, forall_eq, HoldsC, exists_eq_left, hn, h]
  simp
theorem regS_hold {g : LGraph} (hg : GraphOk g) {free : Bool} {M : Nat → Bool} {t i : Nat} (hi : i < g.regs.length) : (∀ c ∈ regC g free (t + 1) i, HoldsC M c) ↔ nodeM M ((t + 1) * varsN g) (1 + g.inn.length + i) = lbit (nodeM M (t * varsN g)) (regD g i).next := by
 obtain ⟨n0, n1⟩ := hg.regs _ (regD_mem hi)
 have h := regV_hl (g := g) (M := M) (t := t + 1) (i := i)
 have hn := hl_neg (M := M) (regV_ne g (t + 1) i)
 have h2 := ofL_hl (M := M) (base := t * varsN g) n0
 have hn2 := hl_neg (M := M) (ofL_ne (base := t * varsN g) n0)
 rw [regC]
 generalize regV g (t + 1) i = v at h hn ⊢
 generalize ofL (regD g i).next ((t * varsN g : Nat) : Int) = w at h2 hn2 ⊢
 generalize nodeM M ((t + 1) * varsN g) (1 + g.inn.length + i) = A at h ⊢
 generalize lbit (nodeM M (t * varsN g)) (regD g i).next = C at h2 ⊢
 simp only [List.mem_cons, List.not_mem_nil, or_false, HoldsC, forall_eq_or_imp, forall_eq, exists_eq_or_imp, exists_eq_left, hn, hn2, h, h2]
 cases A <;> cases C <;> simp
theorem frm_sat {g : LGraph} (hg : GraphOk g) {free : Bool} {k : Nat} {M : Nat → Bool} : (∀ c ∈ frmC g free k, HoldsC M c) ↔ FrmSat g free k M := by
 constructor
 ·intro h
  refine ⟨fun t ht => (csN_sat hg).1 ⟨fun c hc => h c ((frmC_mem g free c k).2 ⟨t, ht, .inl hc⟩), fun i hi => (insM_get g M t hi).symm, fun i hi => (stsM_get g M t hi).symm⟩, fun hk hf => ?_, fun t ht => ?_⟩
  ·subst hf
   refine ext_getD false (by rw [stsM_len]; simp) fun i hi => ?_
   rw [stsM_len] at hi
   rw [stsM_get g M 0 hi, initG_get g hi]
   exact reg0_hold.1 (fun c hc => h c ((frmC_mem g false c k).2 ⟨0, hk, .inr ⟨i, hi, hc⟩⟩))
  ·refine ext_getD false (by rw [stsM_len]; simp) fun i hi => ?_
   rw [stsM_len] at hi
   rw [stsM_get g M _ hi, nxB_get g _ hi]
   exact (regS_hold hg hi).1 (fun c hc => h c ((frmC_mem g free c k).2 ⟨t + 1, ht, .inr ⟨i, hi, hc⟩⟩))
 ·intro h c hc
  obtain ⟨t, ht, hc | ⟨i, hi, hc⟩⟩ := (frmC_mem g free c k).1 hc
  ·exact ((csN_sat hg).2 (h.sat t ht)).1 c hc
  ·cases t with
   | zero =>
    cases free with
    | true => simp [regC] at hc
    | false =>
     refine reg0_hold.2 ?_ c hc
     rw [← stsM_get g M 0 hi, h.init ht rfl, initG_get g hi]
   | succ t =>
    refine (regS_hold hg hi).2 ?_ c hc
    rw [← stsM_get g M _ hi, h.step t ht, nxB_get g _ hi]
def runB (g : LGraph) : List Bool → List (List Bool) → List (List Bool)
 | _, [] => []
 | s, r :: t => g.outs.map (lbit (bitsG g r s)) :: runB g (nxB g (bitsG g r s)) t
theorem runB_eq (g : LGraph) : ∀ (tr : List (List Bool)) (s : List Bool), runG g (lanes0 s) tr = runB g s tr
 | [], _ => rfl
 | r :: t, s => by
  have eo : ∀ (v : List Int), laneB (outsG g v) = g.outs.map (lb v) := fun v => by
   rw [laneB_bit0]
   simp only [outsG, List.map_map]
   rfl
  have en : ∀ (v : List Int), laneB (nextsG g v) = g.regs.map fun x => lb v x.next := fun v => by
   rw [laneB_bit0]
   simp only [nextsG, List.map_map]
   rfl
  have elb : lb (graphVals g (lanes0 r) (lanes0 s)) = lbit (bitsG g r s) := funext fun l => lb_lbit _ l
  simp only [runG, runB]
  rw [runG_lane, eo, en, runB_eq g t, elb]
theorem bits_same {g : LGraph} (hg : GraphOk g) {r s : List Bool} {b b' : Nat → Bool} (h : Sat g r s b) (h' : Sat g r s b') : g.outs.map (lbit b) = g.outs.map (lbit b') ∧ nxB g b = nxB g b' := by
 have hu := sat_uniq hg h h'
 exact ⟨List.map_congr_left fun x hx => lbit_congr hu x (hg.outs x hx).1 (by have := (hg.outs x hx).2; omega), List.map_congr_left fun x hx => lbit_congr hu x.next (hg.regs x hx).1 (by have := (hg.regs x hx).2; omega)⟩
abbrev outsM (g : LGraph) (M : Nat → Bool) (t : Nat) : List Bool := g.outs.map (lbit (nodeM M (t * varsN g)))
theorem frm_runs {g : LGraph} (hg : GraphOk g) {free : Bool} {k : Nat} {M : Nat → Bool} (h : FrmSat g free k M) : ∀ (m t : Nat), t + m = k → runB g (stsM g M t) ((List.range m).map fun j => insM g M (t + j)) = (List.range m).map fun j => outsM g M (t + j)
 | 0, t, _ => rfl
 | m + 1, t, e => by
  have hs := h.sat t (by omega)
  obtain ⟨e1, e2⟩ := bits_same hg (sat_bits hg (insM_len g M t) (stsM_len g M t)) hs
  rw [List.range_succ_eq_map, List.map_cons, List.map_cons, List.map_map, List.map_map, runB, Nat.add_zero, e1, e2]
  congr 1
  cases m with
  | zero => rfl
  | succ m =>
   rw [← h.step t (by omega)]
   have := frm_runs hg h (m + 1) (t + 1) (by omega)
   have ej : ∀ j, t + (j + 1) = t + 1 + j := fun j => by omega
   have f1 : ((fun j => insM g M (t + j)) ∘ Nat.succ) = fun j => insM g M (t + 1 + j) := funext fun j => by show insM g M (t + (j + 1)) = _; rw [ej]
   have f2 : ((fun j => outsM g M (t + j)) ∘ Nat.succ) = fun j => outsM g M (t + 1 + j) := funext fun j => by show outsM g M (t + (j + 1)) = _; rw [ej]
   rw [f1, f2]
   exact this
def insK (g : LGraph) (k : Nat) (M : Nat → Bool) : List (List Bool) := (List.range k).map (insM g M)
theorem frm_run {g : LGraph} (hg : GraphOk g) {free : Bool} {k : Nat} {M : Nat → Bool} (h : FrmSat g free k M) : runB g (stsM g M 0) (insK g k M) = (List.range k).map (outsM g M) := by
 have := frm_runs hg h k 0 (by omega)
 simpa [insK] using this
def stB (g : LGraph) (s : List Bool) (tr : List (List Bool)) : Nat → List Bool
 | 0 => s
 | t + 1 => nxB g (bitsG g (tr.getD t []) (stB g s tr t))
theorem stB_len (g : LGraph) {s : List Bool} (h : s.length = g.regs.length) (tr : List (List Bool)) : ∀ t, (stB g s tr t).length = g.regs.length
 | 0 => h
 | t + 1 => by simp [stB]
def playM (g : LGraph) (s : List Bool) (tr : List (List Bool)) : Nat → Bool := fun v => bitsG g (tr.getD ((v - 1) / varsN g) []) (stB g s tr ((v - 1) / varsN g)) ((v - 1) % varsN g)
theorem play_node (g : LGraph) (s : List Bool) (tr : List (List Bool)) (t : Nat) {q : Nat} (h : q < varsN g) : nodeM (playM g s tr) (t * varsN g) q = bitsG g (tr.getD t []) (stB g s tr t) q := by
 have e1 : (t * varsN g + 1 + q - 1) / varsN g = t := by
  rw [show t * varsN g + 1 + q - 1 = q + t * varsN g by omega, Nat.add_mul_div_right _ _ (by omega), Nat.div_eq_of_lt h, Nat.zero_add]
 have e2 : (t * varsN g + 1 + q - 1) % varsN g = q := by
  rw [show t * varsN g + 1 + q - 1 = q + t * varsN g by omega, Nat.add_mul_mod_self_right, Nat.mod_eq_of_lt h]
 unfold nodeM playM
 rw [e1, e2]
theorem sat_congr {g : LGraph} (hg : GraphOk g) {r s : List Bool} {b b' : Nat → Bool} (h : Sat g r s b) (e : ∀ q, q < varsN g → b' q = b q) : Sat g r s b' := by
 have e' : ∀ q, q < 1 + g.inn.length + g.regs.length + g.ands.length → b' q = b q := e
 refine ⟨by rw [e' _ (by omega)]; exact h.zero, fun i hi => by rw [e' _ (by omega)]; exact h.inn i hi, fun i hi => by rw [e' _ (by omega)]; exact h.regs i hi, fun j p hp => ?_⟩
 have hj := (List.getElem?_eq_some_iff.1 hp).1
 obtain ⟨⟨p0, p1⟩, p2, p3⟩ := hg.ands j p hp
 rw [e' _ (by omega), lbit_congr e' p.1 p0 (by omega), lbit_congr e' p.2 p2 (by omega)]
 exact h.ands j p hp
theorem play_ins (g : LGraph) (s : List Bool) (tr : List (List Bool)) (hg : GraphOk g) (hs : s.length = g.regs.length) (t : Nat) (ht : (tr.getD t []).length = g.inn.length) : insM g (playM g s tr) t = tr.getD t [] ∧ stsM g (playM g s tr) t = stB g s tr t := by
 have hb := sat_bits hg ht (stB_len g hs tr t)
 constructor
 ·refine ext_getD false (by rw [insM_len, ht]) fun i hi => ?_
  rw [insM_len] at hi
  rw [insM_get g _ t hi, play_node g s tr t (by unfold varsN; omega), hb.inn i hi]
 ·refine ext_getD false (by rw [stsM_len, stB_len g hs]) fun i hi => ?_
  rw [stsM_len] at hi
  rw [stsM_get g _ t hi, play_node g s tr t (by unfold varsN; omega), hb.regs i hi]
theorem play_sat {g : LGraph} (hg : GraphOk g) {free : Bool} {k : Nat} {s : List Bool} {tr : List (List Bool)} (hs : s.length = g.regs.length) (hf : free = false → s = initG g) (ht : ∀ t, t < k → (tr.getD t []).length = g.inn.length) : FrmSat g free k (playM g s tr) := by
 have hb : ∀ t, t < k → Sat g (insM g (playM g s tr) t) (stsM g (playM g s tr) t) (nodeM (playM g s tr) (t * varsN g)) := fun t h => by
  obtain ⟨e1, e2⟩ := play_ins g s tr hg hs t (ht t h)
  rw [e1, e2]
  exact sat_congr hg (sat_bits hg (ht t h) (stB_len g hs tr t)) fun q hq => play_node g s tr t hq
 refine ⟨hb, fun h hf2 => ?_, fun t h => ?_⟩
 ·rw [(play_ins g s tr hg hs 0 (ht 0 h)).2]
  exact hf hf2
 ·obtain ⟨e1, e2⟩ := play_ins g s tr hg hs t (ht t (by omega))
  rw [(play_ins g s tr hg hs (t + 1) (ht _ h)).2, stB]
  have := hb t (by omega)
  rw [e1, e2] at this
  exact (bits_same hg (sat_bits hg (ht t (by omega)) (stB_len g hs tr t)) this).2
theorem frm_loc {g : LGraph} (hg : GraphOk g) {P : (Nat → Bool) → Prop} {S : Sol} {B k : Nat} {free : Bool} (h : Base P S B) (hh : S.head = S.tr.length) (hn : k * varsN g ≤ S.n) (hc : ∀ c ∈ frmC g free k, Cov S c) {t q : Nat} (ht : t < k) (hq : q < varsN g) (hno : ¬ (1 ≤ q ∧ q < 1 + g.inn.length)) (hfr : free = true → t = 0 → ¬ (1 + g.inn.length ≤ q ∧ q < 1 + g.inn.length + g.regs.length))
  (ih : ∀ v, 1 ≤ v → v < t * varsN g + 1 + q → S.val.getD v 0 ≠ 0) : S.val.getD (t * varsN g + 1 + q) 0 ≠ 0 := by
 have hk : (t + 1) * varsN g ≤ k * varsN g := Nat.mul_le_mul_right _ (by omega)
 rw [Nat.succ_mul] at hk
 by_cases c1 : q = 0 ∨ 1 + g.inn.length + g.regs.length ≤ q
 ·exact csN_loc hg h hh (by unfold varsN at *; omega) (fun c hc2 => hc c ((frmC_mem g free c k).2 ⟨t, ht, .inl hc2⟩)) hq c1 (fun p hp => ih _ (by omega) (by omega))
 ·obtain ⟨i, rfl⟩ : ∃ i, q = 1 + g.inn.length + i := ⟨q - (1 + g.inn.length), by omega⟩
  have hi : i < g.regs.length := by omega
  have cl : ∀ c, c ∈ regC g free t i → Cov S c := fun c hc2 => hc c ((frmC_mem g free c k).2 ⟨t, ht, .inr ⟨i, hi, hc2⟩⟩)
  have va : (regV g t i).natAbs = t * varsN g + 1 + (1 + g.inn.length + i) := by unfold regV; omega
  have v0 := regV_ne g t i
  have fin : ∀ z : Int, z.natAbs = (regV g t i).natAbs → S.is z = 1 → S.val.getD (t * varsN g + 1 + (1 + g.inn.length + i)) 0 ≠ 0 := fun z hz h1 => by
   have := is_val (S := S) (x := z) (by omega)
   rwa [hz, va] at this
  have one : ∀ z : Int, z ≠ 0 → z.natAbs = (regV g t i).natAbs → [z] ∈ regC g free t i → S.val.getD (t * varsN g + 1 + (1 + g.inn.length + i)) 0 ≠ 0 := fun z z0 hz hm => fin z hz (h.forced hh (cl _ hm) (taut_no (fun l hl hl2 => by
   rw [List.mem_singleton] at hl hl2
   omega)) (fun y hy hne => absurd (List.mem_singleton.1 hy) hne))
  cases t with
  | zero =>
   cases free with
   | true => exact absurd ⟨by omega, by omega⟩ (hfr rfl rfl)
   | false =>
    cases hI : (regD g i).init with
    | true => exact one _ v0 rfl (by rw [regC, if_neg (by simp), if_pos hI]; simp)
    | false => exact one (-(regV g 0 i)) (by omega) (by omega) (by rw [regC, if_neg (by simp), if_neg (by rw [hI]; simp)]; simp)
  | succ t =>
   obtain ⟨n0, n1⟩ := hg.regs _ (regD_mem hi)
   rw [Nat.succ_mul] at hk va fin ih ⊢
   rw [regC] at cl
   have hwa : (ofL (regD g i).next ((t * varsN g : Nat) : Int)).natAbs = t * varsN g + 1 + ((regD g i).next / 2).toNat := by unfold ofL; split <;> omega
   have hwb : ((regD g i).next / 2).toNat < varsN g := by unfold varsN; omega
   have hlo : LitOk S.n (ofL (regD g i).next ((t * varsN g : Nat) : Int)) := ⟨ofL_ne n0, by omega⟩
   have hv := val_is h.sw.len hlo (by rw [hwa]; exact ih _ (by omega) (by omega))
   generalize ofL (regD g i).next ((t * varsN g : Nat) : Int) = w at cl hlo hv hwa
   generalize regV g (t + 1) i = v at cl va v0 fin
   rcases hv with hv | hv
   ·refine fin v rfl (h.forced hh (cl [v, -w] (by simp)) (taut_no (fun l hl hl2 => ?_)) (fun z hz hne => ?_))
    ·have w0 := hlo.1
     simp only [List.mem_cons, List.not_mem_nil, or_false] at hl hl2
     omega
    ·simp only [List.mem_cons, List.not_mem_nil, or_false] at hz
     rcases hz with rfl | rfl
     ·exact absurd rfl hne
     ·rw [is_neg' S hlo.1, hv]
   ·refine fin (-v) (by omega) (h.forced hh (cl [-v, w] (by simp)) (taut_no (fun l hl hl2 => ?_)) (fun z hz hne => ?_))
    ·have w0 := hlo.1
     simp only [List.mem_cons, List.not_mem_nil, or_false] at hl hl2
     omega
    ·simp only [List.mem_cons, List.not_mem_nil, or_false] at hz
     rcases hz with rfl | rfl
     ·exact absurd rfl hne
     ·exact hv
theorem frm_in {g : LGraph} (hg : GraphOk g) {free : Bool} {k : Nat} {c : List Int} (h : c ∈ frmC g free k) : 0 < c.length ∧ c.length ≤ 12 ∧ ∀ l ∈ c, LitOk (k * varsN g) l := by
 obtain ⟨t, ht, h2⟩ := (frmC_mem g free c k).1 h
 have hk : (t + 1) * varsN g ≤ k * varsN g := Nat.mul_le_mul_right _ (by omega)
 rw [Nat.succ_mul] at hk
 have lowb : ∀ (b : Nat) (l : Int), 0 ≤ l → (l / 2).toNat < varsN g → b + varsN g ≤ k * varsN g → LitOk (k * varsN g) (ofL l (b : Int)) := fun b l l0 l1 hb => by
  unfold ofL
  split
  ·exact ⟨by omega, by omega⟩
  ·exact ⟨by omega, by omega⟩
 have neg : ∀ {z : Int}, LitOk (k * varsN g) z → LitOk (k * varsN g) (-z) := fun {z} h => ⟨by have := h.1; omega, by rw [Int.natAbs_neg]; exact h.2⟩
 rcases h2 with hc | ⟨i, hi, hc⟩
 ·rcases (csN_mem g _ c _).1 hc with rfl | ⟨i, hi, hc⟩
  ·exact ⟨by simp, by simp, fun l hl => by rw [List.mem_singleton] at hl; subst hl; exact ⟨by omega, by unfold varsN at hk ⊢; omega⟩⟩
  ·have hp : g.ands[i]? = some (g.ands.getD i (0, 0)) := getD_some _ hi
   obtain ⟨⟨p0, p1⟩, p2, p3⟩ := hg.ands i _ hp
   have hn := and_node g (t * varsN g) i
   unfold and3 at hc
   generalize g.ands.getD i (0, 0) = p at p0 p1 p2 p3 hc
   have a1 := lowb (t * varsN g) p.1 p0 (by unfold varsN; omega) hk
   have b1 := lowb (t * varsN g) p.2 p2 (by unfold varsN; omega) hk
   have n1 : LitOk (k * varsN g) (andN g ((t * varsN g : Nat) : Int) i) := ⟨by omega, by unfold varsN at hk hn ⊢; omega⟩
   generalize ofL p.1 ((t * varsN g : Nat) : Int) = x at a1 hc
   generalize ofL p.2 ((t * varsN g : Nat) : Int) = y at b1 hc
   generalize andN g ((t * varsN g : Nat) : Int) i = n at n1 hc
   simp only [List.mem_cons, List.not_mem_nil, or_false] at hc
   rcases hc with rfl | rfl | rfl
   ·exact ⟨by simp, by simp, fun l hl => by
     simp only [List.mem_cons, List.not_mem_nil, or_false] at hl
     rcases hl with rfl | rfl
     ·exact neg n1
     ·exact a1⟩
   ·exact ⟨by simp, by simp, fun l hl => by
     simp only [List.mem_cons, List.not_mem_nil, or_false] at hl
     rcases hl with rfl | rfl
     ·exact neg n1
     ·exact b1⟩
   ·exact ⟨by simp, by simp, fun l hl => by
     simp only [List.mem_cons, List.not_mem_nil, or_false] at hl
     rcases hl with rfl | rfl | rfl
     ·exact n1
     ·exact neg a1
     ·exact neg b1⟩
 ·have hv : LitOk (k * varsN g) (regV g t i) := ⟨regV_ne g t i, by unfold regV varsN at *; omega⟩
  cases t with
  | zero =>
   rw [regC] at hc
   split at hc
   ·simp at hc
   ·split at hc
    ·rw [List.mem_singleton] at hc; subst hc; exact ⟨by simp, by simp, fun l hl => by rw [List.mem_singleton] at hl; subst hl; exact hv⟩
    ·rw [List.mem_singleton] at hc; subst hc; exact ⟨by simp, by simp, fun l hl => by rw [List.mem_singleton] at hl; subst hl; exact neg hv⟩
  | succ t =>
   obtain ⟨n0, n1⟩ := hg.regs _ (regD_mem hi)
   have hw := lowb (t * varsN g) (regD g i).next n0 (by unfold varsN; omega) (by rw [Nat.succ_mul] at hk; omega)
   rw [regC] at hc
   generalize ofL (regD g i).next ((t * varsN g : Nat) : Int) = w at hc hw
   generalize regV g (t + 1) i = v at hc hv
   simp only [List.mem_cons, List.not_mem_nil, or_false] at hc
   rcases hc with rfl | rfl
   ·exact ⟨by simp, by simp, fun l hl => by
     simp only [List.mem_cons, List.not_mem_nil, or_false] at hl
     rcases hl with rfl | rfl
     ·exact neg hv
     ·exact hw⟩
   ·exact ⟨by simp, by simp, fun l hl => by
     simp only [List.mem_cons, List.not_mem_nil, or_false] at hl
     rcases hl with rfl | rfl
     ·exact hv
     ·exact neg hw⟩
end Go.Proofs.YtkjfdacjjogpcaaPi

/- Plain law of SatRuns: with the inputs of all cycles given, the clauses of the cycles have one model, the run. No program in sight. -/
set_option linter.unusedVariables false
set_option linter.unusedSimpArgs false
set_option linter.unusedSectionVars false
namespace Go.Proofs.YtkjfdacjjogpcaaPi
def inV (g : LGraph) (q : Nat) : Nat := 1 + q / g.inn.length * varsN g + 1 + q % g.inn.length
def inC (l : List Int) (g : LGraph) (a : Int) (q : Nat) : List Int := [((inV g q : Nat) : Int) * (1 - 2 * nextV l (a + q) 2)]
def insC (l : List Int) (g : LGraph) (a : Int) (m : Nat) : List (List Int) := (List.range m).map (inC l g a)
theorem insC_next (l : List Int) (g : LGraph) (a : Int) (m : Nat) : insC l g a (m + 1) = insC l g a m ++ [inC l g a m] := by simp [insC, List.range_succ]
def inB (l : List Int) (a : Int) (q : Nat) : Bool := nextV l (a + q) 2 == 0
def inT (l : List Int) (g : LGraph) (a : Int) (k : Nat) : List (List Bool) := (List.range k).map fun t => (List.range g.inn.length).map fun i => inB l a (t * g.inn.length + i)
def csR (l : List Int) (g : LGraph) (a : Int) (k : Nat) : List (List Int) := frmC g false k ++ insC l g a (g.inn.length * k)
theorem csR_mem {l : List Int} {g : LGraph} {a : Int} {k : Nat} {c : List Int} : c ∈ csR l g a k ↔ c ∈ frmC g false k ∨ ∃ q, q < g.inn.length * k ∧ c = inC l g a q := by
 unfold csR insC
 rw [List.mem_append, List.mem_map]
 constructor
 ·rintro (h | ⟨i, h1, h2⟩)
  ·exact .inl h
  ·exact .inr ⟨i, List.mem_range.1 h1, h2.symm⟩
 ·rintro (h | ⟨i, h1, h2⟩)
  ·exact .inl h
  ·exact .inr ⟨i, List.mem_range.2 h1, h2.symm⟩
theorem inC_eq (l : List Int) (g : LGraph) (a : Int) (q : Nat) : inC l g a q = if inB l a q = true then [((inV g q : Nat) : Int)] else [-((inV g q : Nat) : Int)] := by
 have hr := nextV_range l (a + q) 2 (by omega)
 unfold inC inB
 by_cases e : nextV l (a + q) 2 = 0
 ·rw [if_pos (by simp [e]), e]; simp
 ·rw [if_neg (by simp [e]), show nextV l (a + q) 2 = 1 by omega]; congr 1; omega
theorem inC_hold {l : List Int} {g : LGraph} {a : Int} {q : Nat} {M : Nat → Bool} : HoldsC M (inC l g a q) ↔ nodeM M (q / g.inn.length * varsN g) (1 + q % g.inn.length) = inB l a q := by
 have e : q / g.inn.length * varsN g + 1 + (1 + q % g.inn.length) = inV g q := by unfold inV; omega
 have hp : 0 < inV g q := by unfold inV; omega
 rw [inC_eq]
 unfold HoldsC hl nodeM
 rw [e]
 generalize inV g q = v at hp ⊢
 split
 ·rename_i h
  rw [h]
  simp only [List.mem_singleton, exists_eq_left]
  rw [Int.natAbs_natCast, decide_eq_true (by omega)]
 ·rename_i h
  have hf : inB l a q = false := by simpa using h
  rw [hf]
  simp only [List.mem_singleton, exists_eq_left]
  rw [Int.natAbs_neg, Int.natAbs_natCast, decide_eq_false (by omega)]
theorem inT_len (l : List Int) (g : LGraph) (a : Int) (k : Nat) : (inT l g a k).length = k := by simp [inT]
theorem inT_get (l : List Int) (g : LGraph) (a : Int) (k : Nat) {t : Nat} (h : t < k) : (inT l g a k).getD t [] = (List.range g.inn.length).map fun i => inB l a (t * g.inn.length + i) := range_getD _ _ _ h
theorem inT_row {l : List Int} {g : LGraph} {a : Int} {k : Nat} : ∀ r ∈ inT l g a k, r.length = g.inn.length := fun r hr => by
 obtain ⟨t, _, rfl⟩ := List.mem_map.1 hr
 simp
theorem flat_lt {t k i n : Nat} (h1 : t < k) (h2 : i < n) : t * n + i < n * k := by
 have : (t + 1) * n ≤ k * n := Nat.mul_le_mul_right _ (by omega)
 rw [Nat.succ_mul] at this
 rw [Nat.mul_comm n k]
 omega
theorem flat_div {t i n : Nat} (h : i < n) : (t * n + i) / n = t ∧ (t * n + i) % n = i := by
 constructor
 ·rw [Nat.add_comm, Nat.add_mul_div_right _ _ (by omega), Nat.div_eq_of_lt h, Nat.zero_add]
 ·rw [Nat.add_comm, Nat.add_mul_mod_self_right, Nat.mod_eq_of_lt h]
theorem csR_sat {l : List Int} {g : LGraph} (hg : GraphOk g) {a : Int} {k : Nat} {M : Nat → Bool} : (∀ c ∈ csR l g a k, HoldsC M c) ↔ FrmSat g false k M ∧ ∀ t, t < k → insM g M t = (inT l g a k).getD t [] := by
 constructor
 ·intro h
  refine ⟨(frm_sat hg).1 fun c hc => h c (csR_mem.2 (.inl hc)), fun t ht => ?_⟩
  rw [inT_get l g a k ht]
  refine ext_getD false (by rw [insM_len]; simp) fun i hi => ?_
  rw [insM_len] at hi
  rw [insM_get g M t hi, range_getD _ _ _ hi]
  have := inC_hold.1 (h _ (csR_mem.2 (.inr ⟨t * g.inn.length + i, flat_lt ht hi, rfl⟩)))
  rw [(flat_div hi).1, (flat_div hi).2] at this
  exact this
 ·rintro ⟨h1, h2⟩ c hc
  rcases csR_mem.1 hc with hc | ⟨q, hq, rfl⟩
  ·exact (frm_sat hg).2 h1 c hc
  ·have hp : 0 < g.inn.length := Nat.pos_of_ne_zero fun e => by rw [e] at hq; simp at hq
   have ht : q / g.inn.length < k := Nat.div_lt_of_lt_mul hq
   have hi := Nat.mod_lt q hp
   refine inC_hold.2 ?_
   rw [← insM_get g M _ hi, h2 _ ht, inT_get l g a k ht, range_getD _ _ _ hi]
   congr 1
   rw [Nat.mul_comm]
   exact Nat.div_add_mod _ _
theorem csR_plant {l : List Int} {g : LGraph} (hg : GraphOk g) {a : Int} {k : Nat} : ∀ c ∈ csR l g a k, HoldsC (playM g (initG g) (inT l g a k)) c := by
 have hl : ∀ t, t < k → ((inT l g a k).getD t []).length = g.inn.length := fun t ht => by rw [inT_get l g a k ht]; simp
 exact (csR_sat hg).2 ⟨play_sat hg (by simp) (fun _ => rfl) hl, fun t ht => (play_ins g _ _ hg (by simp) t (hl t ht)).1⟩
theorem split_var {n v k : Nat} (hn : 0 < n) (h1 : 1 ≤ v) (h2 : v ≤ k * n) : ∃ t q, t < k ∧ q < n ∧ v = t * n + 1 + q := by
 refine ⟨(v - 1) / n, (v - 1) % n, Nat.div_lt_of_lt_mul (by rw [Nat.mul_comm]; omega), Nat.mod_lt _ hn, ?_⟩
 have := Nat.div_add_mod (v - 1) n
 rw [Nat.mul_comm] at this
 omega
theorem csR_det {l : List Int} {g : LGraph} (hg : GraphOk g) {P : (Nat → Bool) → Prop} {a : Int} {k : Nat} {S : Sol} {B : Nat} (h : Base P S B) (hn : S.n = k * varsN g) (hh : S.head = S.tr.length) (hc : ∀ c ∈ csR l g a k, Cov S c) : ∀ v, 1 ≤ v → v ≤ k * varsN g → S.val.getD v 0 ≠ 0 := by
 intro v
 induction v using Nat.strongRecOn with
 | _ v ih =>
  intro h1 h2
  obtain ⟨t, q, ht, hq, rfl⟩ := split_var (n := varsN g) (by unfold varsN; omega) h1 h2
  by_cases e : 1 ≤ q ∧ q < 1 + g.inn.length
  ·obtain ⟨i, rfl⟩ : ∃ i, q = 1 + i := ⟨q - 1, by omega⟩
   have hi : i < g.inn.length := by omega
   have hcv := hc _ (csR_mem.2 (.inr ⟨t * g.inn.length + i, flat_lt ht hi, rfl⟩))
   have hv : inV g (t * g.inn.length + i) = t * varsN g + 1 + (1 + i) := by unfold inV; rw [(flat_div hi).1, (flat_div hi).2]; omega
   rw [inC_eq, hv] at hcv
   split at hcv
   ·have := h.forced hh hcv (taut_no (fun l hl => by rw [List.mem_singleton] at hl ⊢; omega)) (x := ((t * varsN g + 1 + (1 + i) : Nat) : Int)) (fun y hy hne => absurd (List.mem_singleton.1 hy) hne)
    have h3 := is_val (S := S) (x := ((t * varsN g + 1 + (1 + i) : Nat) : Int)) (by omega)
    rwa [Int.natAbs_natCast] at h3
   ·have := h.forced hh hcv (taut_no (fun l hl => by rw [List.mem_singleton] at hl ⊢; omega)) (x := -((t * varsN g + 1 + (1 + i) : Nat) : Int)) (fun y hy hne => absurd (List.mem_singleton.1 hy) hne)
    have h3 := is_val (S := S) (x := -((t * varsN g + 1 + (1 + i) : Nat) : Int)) (by omega)
    rwa [Int.natAbs_neg, Int.natAbs_natCast] at h3
  ·exact frm_loc hg h hh (by omega) (fun c hc2 => hc c (csR_mem.2 (.inl hc2))) ht hq e (fun hf => by simp at hf) (fun w w1 w2 => ih w w2 w1 (by omega))
theorem csR_in {l : List Int} {g : LGraph} (hg : GraphOk g) {a : Int} {k : Nat} (hz : k * (1 + 3 * g.ands.length + 2 * g.regs.length) + g.inn.length * k ≤ 80000) : (csR l g a k).length ≤ 80000 ∧ ∀ c ∈ csR l g a k, 0 < c.length ∧ c.length ≤ 12 ∧ ∀ x ∈ c, LitOk (k * varsN g) x := by
 constructor
 ·unfold csR insC
  have := frmC_len g false k
  simp only [List.length_append, List.length_map, List.length_range]
  omega
 ·intro c hc
  rcases csR_mem.1 hc with hc | ⟨q, hq, rfl⟩
  ·exact frm_in hg hc
  ·have hp : 0 < g.inn.length := Nat.pos_of_ne_zero fun e => by rw [e] at hq; simp at hq
   have ht : q / g.inn.length < k := Nat.div_lt_of_lt_mul hq
   have hi := Nat.mod_lt q hp
   have hk : (q / g.inn.length + 1) * varsN g ≤ k * varsN g := Nat.mul_le_mul_right _ (by omega)
   rw [Nat.succ_mul] at hk
   have hv : inV g q ≤ k * varsN g ∧ 0 < inV g q := by unfold inV; unfold varsN at *; omega
   rw [inC_eq]
   split
   ·exact ⟨by simp, by simp, fun x hx => by rw [List.mem_singleton] at hx; subst hx; exact ⟨by omega, by omega⟩⟩
   ·exact ⟨by simp, by simp, fun x hx => by rw [List.mem_singleton] at hx; subst hx; exact ⟨by omega, by omega⟩⟩
theorem csR_run {l : List Int} {g : LGraph} (hg : GraphOk g) {a : Int} {k : Nat} {M : Nat → Bool} (h : ∀ c ∈ csR l g a k, HoldsC M c) (hk : 0 < k) : insK g k M = inT l g a k ∧ runG g (lanes0 (initG g)) (inT l g a k) = (List.range k).map (outsM g M) := by
 obtain ⟨h1, h2⟩ := (csR_sat hg).1 h
 have e1 : insK g k M = inT l g a k := by
  refine ext_getD [] (by rw [inT_len]; simp [insK]) fun t ht => ?_
  have ht2 : t < k := by simpa [insK] using ht
  rw [← h2 t ht2]
  exact range_getD _ _ _ ht2
 refine ⟨e1, ?_⟩
 rw [runB_eq, ← e1, ← h1.init hk rfl]
 exact frm_run hg h1
end Go.Proofs.YtkjfdacjjogpcaaPi

/- The walks of Of and of the clauses of a graph. -/
set_option linter.unusedVariables false
set_option linter.unusedSimpArgs false
set_option maxRecDepth 100000
namespace Go.Proofs.YtkjfdacjjogpcaaPi
set_option maxHeartbeats 40000000
theorem csN_next (g : LGraph) (base : Int) (k : Nat) : csN g base (k + 1) = csN g base k ++ and3 g base k := rfl
theorem Of_lit (l base : Int) (h0 : 0 ≤ l) (h1 : l ≤ 1000000) (b0 : 0 ≤ base) (b1 : base ≤ 1000000) (up : Frs) : ACalls Try.prog 28 [.i l, .i base] up fun v u => v = .i (ofL l base) ∧ u = up := by
 have d0 : decide (l < 0) = false := decide_eq_false (by omega)
 have hm := tmod2 l h0
 have wm : IntKind.i64.wrap (l % 2) = l % 2 := wrap64 (by omega)
 have hd := tdiv2 l h0 (by omega)
 have w1 : IntKind.i64.wrap (base + 1) = base + 1 := wrap64 (by omega)
 have w2 : IntKind.i64.wrap (base + 1 + l / 2) = base + 1 + l / 2 := wrap64 (by omega)
 have w3 : IntKind.i64.wrap (0 - (base + 1 + l / 2)) = -(base + 1 + l / 2) := by rw [wrap64 (by omega)]; omega
 refine ACalls.code Try.func28 rfl 23 rfl (by simp) [.tmp 4] rfl fun Q hQ => ?_
 simp only [ups, PV.up, argEnv]
 have ft := ai ty_3 (ai ty_4 (ai ty_55 trivial))
 refine Run.seq ?_
 have fx := ai w3 (ai w2 (ai w1 (ai hd (ai wm (ai hm (ai d0 ft))))))
 refine Run.go ?_
 refine End.kp [0, 1] ?_
 refine Run.seq ?_
 refine Run.block ?_
 refine Run.seq ?_
 refine Run.go ?_
 refine End.kp [0, 1, 5] ?_
 refine Run.cond _ rfl (fun hb => ?_) (fun hb => ?_)
 ·have hb2 := hb
  simp at hb
 ·have hb2 := hb
  refine Run.seq ?_
  have fx := ai w3 (ai w2 (ai w1 (ai hd (ai wm (ai hm (ai d0 ft))))))
  refine Run.go ?_
  refine End.kp [0, 1, 8] ?_
  refine Run.cond _ rfl (fun hb => ?_) (fun hb => ?_)
  ·have hb3 : l % 2 = 1 := by simpa using hb
   refine Run.seq ?_
   have fx := ai w3 (ai w2 (ai w1 (ai hd (ai wm (ai hm (ai d0 ft))))))
   refine Run.go ?_
   refine End.kp [4] ?_
   refine Run.ret (hQ _ _ ⟨.inr rfl, _, rfl, _, rfl, ?_⟩)
   exact ⟨by rw [ofL, if_pos hb3], rfl⟩
  ·have hb3 : ¬ (l % 2 = 1) := by simpa using hb
   refine Run.skip ?_
   refine End.blk ?_
   refine End.kp [0, 1] ?_
   refine Run.seq ?_
   have fx := ai w3 (ai w2 (ai w1 (ai hd (ai wm (ai hm (ai d0 ft))))))
   refine Run.go ?_
   refine End.kp [4] ?_
   refine Run.ret (hQ _ _ ⟨.inr rfl, _, rfl, _, rfl, ?_⟩)
   exact ⟨by rw [ofL, if_neg hb3], rfl⟩
theorem clausesG_ok (g : LGraph) (hg : GraphOk g) (base : Nat) (hb : base ≤ 100000) (up : Frs) : ACalls Try.prog 42 [g.pv, .i (base : Nat)] up fun v u => v = .im (.sl (clss (csN g base g.ands.length))) ∧ u = up := by
 obtain ⟨z1, z2, z3, z4, z5⟩ := hg.small
 have w1 : IntKind.i64.wrap ((base : Int) + 1) = (base : Int) + 1 := wrap64 (by omega)
 have w2 : IntKind.i64.wrap (0 - ((base : Int) + 1)) = -((base : Int) + 1) := by rw [wrap64 (by omega)]; omega
 refine ACalls.code Try.func42 rfl 60 rfl (by simp) [.tmp 4] rfl fun Q hQ => ?_
 simp only [ups, PV.up, argEnv]
 have ft := ai ty_2 (ai ty_3 (ai ty_22 (ai ty_28 (ai ty_31 (ai ty_35 (ai ty_55 (ai ty_59 trivial)))))))
 refine Run.seq ?_
 have fx := ai (@List.length_map.{0, 0}) (ai w2 (ai w1 ft))
 refine Run.go ?_
 refine End.kp [1, 2] ?_
 refine Run.seq ?_
 refine Run.region rfl fun K hK => GOps.simK 3 ?_
 refine GOps.litF (rows := ints [-((base : Int) + 1)]) ?_ rfl rfl (by simp only [litF, fx] <;> rfl)
 refine GOps.sim ?_
 refine GOps.done (hK _ ?_); clear hK K
 refine End.kp [1, 2, 5] ?_
 refine Run.seq ?_
 have fx := ai (@List.length_map.{0, 0}) (ai w2 (ai w1 ft))
 refine Run.region rfl fun K hK => GOps.sim ?_
 refine GOps.call rfl rfl rfl rfl (by kernel_rfl) (ACalls.sim ?_)
 refine (GFirst_ok g hg.small _).mono fun v u hv => ?_
 obtain ⟨rfl, rfl⟩ := hv
 refine ⟨_, _, rfl, GOps.sim ?_⟩
 refine GOps.done (hK _ ?_); clear hK K
 refine End.kp [1, 2, 5, 6] ?_
 refine Run.seq ?_
 refine Run.seq ?_
 refine Run.go ?_
 refine End.kp [1, 5, 6, 20, 21, 22] ?_
 refine Run.block ?_
 refine Run.ghost (Ghost.form [(1, .i (base : Nat)), (5, .ms 0 1 1), (6, .i (1 + g.inn.length + g.regs.length)), (20, .im (.sl (g.ands.map nd))), (21, .i g.ands.length), (22, .i (0 : Nat))] 2 ⟨rfl, rfl, rfl, rfl, rfl, rfl, trivial⟩ rfl (by simp only [ASt.push, List.nil_append, List.cons_append, List.take_succ_cons, List.take_zero, List.all_cons, List.all_nil, AObj.under, unders, PV.under, Bool.and_true, Bool.and_self])) ?_
 refine Run.loop (fun m st => ∃ i : Nat, m = g.ands.length - i ∧ i ≤ g.ands.length ∧ st = ⟨[(1, .i (base : Nat)), (5, .ms 0 1 (csN g base i).length), (6, .i (1 + g.inn.length + g.regs.length)), (20, .im (.sl (g.ands.map nd))), (21, .i g.ands.length), (22, .i (i : Nat))], [.box [.im (.sl (strs g.inn)), .im (.sl (strs g.out)), .im (.sl (g.regs.map LReg.im)), .im (.sl (g.ands.map nd)), .im (.sl (ints g.outs))], .row 22 1 (clss (csN g base i)) 0], up⟩) g.ands.length ⟨0, rfl, by omega, rfl⟩ fun m st hI => ?_
 obtain ⟨i, hm, hi, rfl⟩ := hI
 subst m
 have hcl := csN_len g base i
 have hcc : (clss (csN g base i)).length = (csN g base i).length := by simp
 have hap : ((csN g base i).length + 3) * 24 ≤ 140737488355328 := by omega
 refine Run.seq ?_
 have fx := ai hap (ai hcc (ai (@List.length_map.{0, 0}) (ai w2 (ai w1 ft))))
 refine Run.go ?_
 refine End.kp [1, 5, 6, 20, 21, 22, 23] ?_
 refine Run.seq ?_
 refine Run.cond _ rfl (fun hb => ?_) (fun hb => ?_)
 ·have hb2 := of_decide_eq_true hb
  have hin : i < g.ands.length := by omega
  have wi := wsucc hin (by omega)
  obtain ⟨p, hpi, hpm, hp⟩ := node_at g.ands i hin
  obtain ⟨⟨p0, p1⟩, p2, p3⟩ := hg.ands i p hpi
  have hpd : g.ands.getD i (0, 0) = p := by rw [List.getD_eq_getElem?_getD, hpi]; rfl
  have hil : (i : Int) < (g.ands.length : Int) := by omega
  have x1 : IntKind.i64.wrap ((base : Int) + 1 + (1 + g.inn.length + g.regs.length)) = (base : Int) + 1 + (1 + g.inn.length + g.regs.length) := wrap64 (by omega)
  have x2 : IntKind.i64.wrap ((base : Int) + 1 + (1 + g.inn.length + g.regs.length) + (i : Int)) = andN g base i := by rw [wrap64 (by omega)]; unfold andN; omega
  have x3 : IntKind.i64.wrap (0 - andN g base i) = -(andN g base i) := by unfold andN; rw [wrap64 (by omega)]; omega
  have x4 : IntKind.i64.wrap (0 - ofL p.1 base) = -(ofL p.1 base) := by unfold ofL; split <;> (rw [wrap64 (by omega)]; omega)
  have x5 : IntKind.i64.wrap (0 - ofL p.2 base) = -(ofL p.2 base) := by unfold ofL; split <;> (rw [wrap64 (by omega)]; omega)
  refine Run.skip ?_
  refine End.kp [1, 5, 6, 20, 21, 22] ?_
  refine Run.seq ?_
  refine Run.block ?_
  refine Run.seq ?_
  have fx := ai (@Int.toNat_natCast) (ai (@Int.natCast_nonneg) (ai x5 (ai x4 (ai x3 (ai x2 (ai x1 (ai hil (ai hp (ai wi (ai hap (ai hcc (ai (@List.length_map.{0, 0}) (ai w2 (ai w1 ft))))))))))))))
  refine Run.go ?_
  refine End.kp [1, 5, 6, 7, 8, 20, 21, 22] ?_
  refine Run.seq ?_
  refine Run.drawA fun K hK => ?_
  refine DOps.sim ?_
  refine DOps.call (.i (ofL p.1 base)) [] [] rfl rfl rfl rfl (by kernel_rfl) (by simp [Agree]) (fun u hu => Of_lit p.1 base p0 (by omega) (by omega) (by omega) u) ?_
  refine DOps.sim ?_
  refine DOps.call (.i (ofL p.2 base)) [] [] rfl rfl rfl rfl (by kernel_rfl) (by simp [Agree]) (fun u hu => Of_lit p.2 base p2 (by omega) (by omega) (by omega) u) ?_
  refine DOps.sim ?_
  refine DOps.nil ?_ (hK _ ?_)
  ·rfl
  clear hK K
  refine End.kp [1, 5, 6, 9, 10, 11, 20, 21, 22] ?_
  refine Run.region rfl fun K hK => GOps.simK 4 ?_
  refine GOps.litF (rows := ints [-(andN g base i), ofL p.1 base]) ?_ rfl rfl (by simp only [litF, fx] <;> rfl)
  refine GOps.simK 3 ?_
  refine GOps.litF (rows := ints [-(andN g base i), ofL p.2 base]) ?_ rfl rfl (by simp only [litF, fx] <;> rfl)
  refine GOps.simK 5 ?_
  refine GOps.litF (rows := ints [andN g base i, -(ofL p.1 base), -(ofL p.2 base)]) ?_ rfl rfl (by simp only [litF, fx] <;> rfl)
  refine GOps.litF (rows := clss [[-(andN g base i), ofL p.1 base], [-(andN g base i), ofL p.2 base], [andN g base i, -(ofL p.1 base), -(ofL p.2 base)]]) ?_ rfl rfl (by simp only [litF, fx] <;> rfl)
  refine GOps.sim ?_
  refine GOps.done (hK _ ?_); clear hK K
  refine End.blk ?_
  refine End.kp [1, 5, 6, 20, 21, 22] ?_
  have fx := ai (@Int.toNat_natCast) (ai (@Int.natCast_nonneg) (ai x5 (ai x4 (ai x3 (ai x2 (ai x1 (ai hil (ai hp (ai wi (ai hap (ai hcc (ai (@List.length_map.{0, 0}) (ai w2 (ai w1 ft))))))))))))))
  refine Run.go ?_
  refine End.lp ?_
  refine ⟨g.ands.length - (i + 1), _, by omega, Ghost.form [(1, .i (base : Nat)), (5, .ms 0 1 ((csN g base i).length + 3)), (6, .i (1 + g.inn.length + g.regs.length)), (20, .im (.sl (g.ands.map nd))), (21, .i g.ands.length), (22, .i (i + 1 : Nat))] 2 ⟨rfl, rfl, rfl, rfl, rfl, rfl, trivial⟩ rfl (by simp only [ASt.push, List.nil_append, List.cons_append, List.take_succ_cons, List.take_zero, List.all_cons, List.all_nil, AObj.under, unders, PV.under, Bool.and_true, Bool.and_self]), i + 1, rfl, by omega, ?_⟩
  have e1 : clss (csN g base (i + 1)) = clss (csN g base i) ++ clss [[-(andN g base i), ofL p.1 base], [-(andN g base i), ofL p.2 base], [andN g base i, -(ofL p.1 base), -(ofL p.2 base)]] := by
   rw [csN_next, and3, hpd]
   exact List.map_append ..
  have e2 : (csN g base (i + 1)).length = (csN g base i).length + 3 := by rw [csN_next, List.length_append]; rfl
  rw [e1, e2]
  rfl
 ·have hb2 := of_decide_eq_false hb
  have hie : i = g.ands.length := by omega
  rw [hie] at hcc ⊢
  refine Run.exit rfl ?_
  refine End.kp [5] ?_
  refine Run.seq ?_
  refine Run.ghost (Ghost.shut (t := 5) (j := 1) rfl rfl hcc) ?_
  simp only [eput, edel]
  have fx := ai hap (ai hcc (ai (@List.length_map.{0, 0}) (ai w2 (ai w1 ft))))
  refine Run.go ?_
  refine End.kp [4] ?_
  refine Run.ret (hQ _ _ ⟨.inr rfl, _, rfl, _, rfl, ?_⟩)
  exact ⟨rfl, rfl⟩
end Go.Proofs.YtkjfdacjjogpcaaPi

/- The walk of Frames: the clauses of the cycles of a graph. -/
set_option linter.unusedVariables false
set_option linter.unusedSimpArgs false
set_option maxRecDepth 100000
namespace Go.Proofs.YtkjfdacjjogpcaaPi
set_option maxHeartbeats 40000000
theorem clss_all (l : List (List Int)) : ((clss l).all fun r => r.length == 1) = true := by
 rw [List.all_eq_true]
 intro r hr
 obtain ⟨x, _, rfl⟩ := List.mem_map.1 hr
 rfl
theorem regC_pos {g : LGraph} {free : Bool} {t i : Nat} (h : 0 < t) : regC g free t i = [[-(regV g t i), ofL (regD g i).next (((t - 1) * varsN g : Nat) : Int)], [regV g t i, -(ofL (regD g i).next (((t - 1) * varsN g : Nat) : Int))]] := by
 cases t with
 | zero => exact absurd h (Nat.lt_irrefl _)
 | succ t => rfl
def frmL (g : LGraph) (free : Bool) (t i : Nat) : List (List Int) := frmC g free t ++ csN g ((t * varsN g : Nat) : Int) g.ands.length ++ regsC g free t i
theorem frmL_zero (g : LGraph) (free : Bool) (t : Nat) : frmL g free t 0 = frmC g free t ++ csN g ((t * varsN g : Nat) : Int) g.ands.length := by unfold frmL regsC; simp
theorem frmL_next (g : LGraph) (free : Bool) (t i : Nat) : frmL g free t (i + 1) = frmL g free t i ++ regC g free t i := by
 unfold frmL
 rw [regsC, List.append_assoc, List.append_assoc, List.append_assoc]
theorem frmL_len (g : LGraph) (free : Bool) (t i : Nat) (h : i ≤ g.regs.length) : (frmL g free t i).length ≤ t * (1 + 3 * g.ands.length + 2 * g.regs.length) + (1 + 3 * g.ands.length + 2 * g.regs.length) := by
 unfold frmL
 rw [List.length_append, List.length_append, csN_len]
 have := frmC_len g free t
 have := regsC_len g free t i
 omega
theorem FramesX_ok (g : LGraph) (hg : GraphOk g) (k : Nat) (hk : k ≤ 64) (hkn : k * varsN g ≤ 20000) (free : Bool) (f : List AObj) (rest : Frs) : ACalls Try.prog 24 [g.pv, .i (k : Nat), .im (.bool free)] (f :: rest) fun v u => v = .tup [.ms 0 (f.length + 1) (frmC g free k).length, .i 0] ∧ u = (f ++ [.box [.im (.sl (strs g.inn)), .im (.sl (strs g.out)), .im (.sl (g.regs.map LReg.im)), .im (.sl (g.ands.map nd)), .im (.sl (ints g.outs))], .row 22 1 (clss (frmC g free k)) 0]) :: rest := by
 obtain ⟨z1, z2, z3, z4, z5⟩ := hg.small
 have d1 : decide ((k : Int) < 0) = false := decide_eq_false (by omega)
 have d2 : decide ((64 : Int) < (k : Int)) = false := decide_eq_false (by omega)
 have hnod : (1 + (g.inn.length : Int) + g.regs.length + g.ands.length) = ((varsN g : Nat) : Int) := by unfold varsN; omega
 obtain ⟨N, hN⟩ : ∃ N, N = varsN g := ⟨_, rfl⟩
 rw [← hN] at hnod hkn
 have hNs : N ≤ 20000 := by rw [hN]; unfold varsN; omega
 have w1 : IntKind.i64.wrap ((k : Int) * (N : Int)) = ((k * N : Nat) : Int) := by rw [← Int.natCast_mul, wrap64 (by omega)]
 have d3 : decide ((20000 : Int) < ((k * N : Nat) : Int)) = false := decide_eq_false (by omega)
 have hsz : k * (1 + 3 * g.ands.length + 2 * g.regs.length) ≤ 64 * 20000 := Nat.mul_le_mul hk (by omega)
 refine ACalls.codeX Try.func24 rfl 102 rfl (by simp) [.tmp 6, .tmp 7] rfl fun Q hQ => ?_
 simp only [ups, PV.up, argEnv]
 have ft := ai ty_2 (ai ty_3 (ai ty_4 (ai ty_9 (ai ty_22 (ai ty_26 (ai ty_27 (ai ty_31 (ai ty_35 (ai ty_36 (ai ty_55 (ai ty_57 trivial)))))))))))
 refine Run.seq ?_
 have fx := ai (@List.length_map.{0, 0}) (ai d3 (ai w1 (ai d2 (ai d1 ft))))
 refine Run.go ?_
 refine End.kp [1, 2, 3] ?_
 refine Run.seq ?_
 refine Run.seq ?_
 refine Run.region rfl fun K hK => GOps.sim ?_
 refine GOps.call rfl rfl rfl rfl (by kernel_rfl) (ACalls.sim ?_)
 refine (Check_ok g hg _).mono fun v u hv => ?_
 obtain ⟨rfl, rfl⟩ := hv
 refine ⟨_, _, rfl, GOps.sim ?_⟩
 refine GOps.done (hK _ ?_); clear hK K
 refine End.kp [1, 2, 3, 8] ?_
 refine Run.seq ?_
 refine Run.go ?_
 refine End.kp [1, 2, 3, 8, 19] ?_
 refine Run.cond _ rfl (fun hb => ?_) (fun hb => ?_)
 ·have hb2 := hb
  simp at hb
 ·have hb2 := hb
  refine Run.skip ?_
  refine End.kp [1, 2, 3] ?_
  refine Run.seq ?_
  have fx := ai (@List.length_map.{0, 0}) (ai d3 (ai w1 (ai d2 (ai d1 ft))))
  refine Run.region rfl fun K hK => GOps.sim ?_
  refine GOps.call rfl rfl rfl rfl (by kernel_rfl) (ACalls.sim ?_)
  refine (GNodes_ok g hg.small _).mono fun v u hv => ?_
  obtain ⟨rfl, rfl⟩ := hv
  rw [hnod]
  have fx := ai (@List.length_map.{0, 0}) (ai d3 (ai w1 (ai d2 (ai d1 ft))))
  refine ⟨_, _, rfl, GOps.sim ?_⟩
  refine GOps.done (hK _ ?_); clear hK K
  refine End.kp [1, 2, 3, 9] ?_
  refine Run.seq ?_
  refine Run.seq ?_
  refine Run.go ?_
  refine End.kp [1, 2, 3, 9, 28] ?_
  refine Run.cond _ rfl (fun hb => ?_) (fun hb => ?_)
  ·have hb3 := hb
   simp at hb
  ·have hb3 := hb
   refine Run.skip ?_
   refine End.kp [1, 2, 3, 9] ?_
   refine Run.seq ?_
   refine Run.seq ?_
   have fx := ai (@List.length_map.{0, 0}) (ai d3 (ai w1 (ai d2 (ai d1 ft))))
   refine Run.go ?_
   refine End.kp [1, 2, 3, 9, 32] ?_
   refine Run.cond _ rfl (fun hb => ?_) (fun hb => ?_)
   ·have hb4 := hb
    simp at hb
   ·have hb4 := hb
    refine Run.skip ?_
    refine End.kp [1, 2, 3, 9] ?_
    refine Run.seq ?_
    have fx := ai (@List.length_map.{0, 0}) (ai d3 (ai w1 (ai d2 (ai d1 ft))))
    refine Run.go ?_
    refine End.kp [1, 2, 3, 9, 10] ?_
    refine Run.seq ?_
    refine Run.seq ?_
    refine Run.go ?_
    refine End.kp [2, 3, 9, 10, 33, 34] ?_
    refine Run.block ?_
    refine Run.ghost (Ghost.thaw (u := 10) 22 1 (by decide) rfl) ?_
    refine Run.ghost (Ghost.form [(2, .im (.bool free)), (3, .ptr 0 0 0), (9, .i (N : Nat)), (10, .ms 0 1 0), (33, .i (k : Nat)), (34, .i (0 : Nat))] 2 ⟨rfl, rfl, rfl, rfl, rfl, rfl, trivial⟩ rfl (by simp only [ASt.push, List.nil_append, List.cons_append, List.take_succ_cons, List.take_zero, List.all_cons, List.all_nil, AObj.under, unders, PV.under, Bool.and_true, Bool.and_self])) ?_
    refine Run.loop (fun m st => ∃ t : Nat, m = k - t ∧ t ≤ k ∧ st = ⟨[(2, .im (.bool free)), (3, .ptr 0 0 0), (9, .i (N : Nat)), (10, .ms 0 1 (frmC g free t).length), (33, .i (k : Nat)), (34, .i (t : Nat))], [.box [.im (.sl (strs g.inn)), .im (.sl (strs g.out)), .im (.sl (g.regs.map LReg.im)), .im (.sl (g.ands.map nd)), .im (.sl (ints g.outs))], .row 22 1 (clss (frmC g free t)) 0], f :: rest⟩) k ⟨0, rfl, by omega, rfl⟩ fun m st hI => ?_
    obtain ⟨t, hm, htk, rfl⟩ := hI
    subst m
    have hcc : (clss (frmC g free t)).length = (frmC g free t).length := by simp
    have hlt := frmC_len g free t
    have hsz2 : t * (1 + 3 * g.ands.length + 2 * g.regs.length) ≤ k * (1 + 3 * g.ands.length + 2 * g.regs.length) := Nat.mul_le_mul_right _ htk
    have htn : t * N ≤ k * N := Nat.mul_le_mul_right _ htk
    have hcl := csN_len g ((t * varsN g : Nat) : Int) g.ands.length
    have hap : ((frmC g free t).length + (csN g ((t * varsN g : Nat) : Int) g.ands.length).length) * 24 ≤ 140737488355328 := by omega
    have hcm : (clss (csN g ((t * varsN g : Nat) : Int) g.ands.length)).length = (csN g ((t * varsN g : Nat) : Int) g.ands.length).length := by simp
    have w2 : IntKind.i64.wrap ((t : Int) * (N : Int)) = ((t * N : Nat) : Int) := by rw [← Int.natCast_mul, wrap64 (by omega)]
    refine Run.seq ?_
    have fx := ai hcm (ai w2 (ai hap (ai hcc (ai (@List.length_map.{0, 0}) (ai d3 (ai w1 (ai d2 (ai d1 ft))))))))
    refine Run.go ?_
    refine End.kp [2, 3, 9, 10, 33, 34, 35] ?_
    refine Run.seq ?_
    refine Run.cond _ rfl (fun hb => ?_) (fun hb => ?_)
    ·have hb5 := of_decide_eq_true hb
     have htk2 : t < k := by omega
     have wt := wsucc htk2 (by omega)
     have hall := clss_all (csN g ((t * varsN g : Nat) : Int) g.ands.length)
     have hcla : ∀ u, ACalls Try.prog 42 [g.pv, .i ((t * N : Nat) : Int)] u fun v u' => v = .im (.sl (clss (csN g ((t * varsN g : Nat) : Int) g.ands.length))) ∧ u' = u := fun u => by rw [hN]; exact clausesG_ok g hg (t * varsN g) (by rw [← hN]; omega) u
     refine Run.skip ?_
     refine End.kp [2, 3, 9, 10, 33, 34] ?_
     refine Run.seq ?_
     refine Run.block ?_
     refine Run.seq ?_
     have fx := ai (@Int.toNat_natCast) (ai (@Int.natCast_nonneg) (ai hall (ai wt (ai hcm (ai w2 (ai hap (ai hcc (ai (@List.length_map.{0, 0}) (ai d3 (ai w1 (ai d2 (ai d1 ft))))))))))))
     refine Run.go ?_
     refine End.kp [2, 3, 9, 10, 11, 33, 34] ?_
     refine Run.seq ?_
     refine Run.region rfl fun K hK => GOps.sim ?_
     refine GOps.call rfl rfl rfl rfl (by kernel_rfl) (ACalls.sim ?_)
     refine (hcla _).mono fun v u hv => ?_
     obtain ⟨rfl, rfl⟩ := hv
     refine ⟨_, _, rfl, GOps.sim ?_⟩
     refine GOps.done (hK _ ?_); clear hK K
     refine End.kp [2, 3, 9, 10, 11, 33, 34] ?_
     refine Run.seq ?_
     refine Run.go ?_
     refine End.kp [2, 3, 9, 10, 11, 33, 34, 45, 46, 47] ?_
     refine Run.block ?_
     refine Run.ghost (Ghost.form [(2, .im (.bool free)), (3, .ptr 0 0 0), (9, .i (N : Nat)), (10, .ms 0 1 ((frmC g free t).length + (csN g ((t * varsN g : Nat) : Int) g.ands.length).length)), (11, .i (t : Nat)), (33, .i (k : Nat)), (34, .i (t : Nat)), (45, .im (.sl (g.regs.map LReg.im))), (46, .i g.regs.length), (47, .i (0 : Nat))] 2 ⟨rfl, rfl, rfl, rfl, rfl, rfl, rfl, rfl, rfl, rfl, trivial⟩ rfl (by simp only [ASt.push, List.nil_append, List.cons_append, List.take_succ_cons, List.take_zero, List.all_cons, List.all_nil, AObj.under, unders, PV.under, Bool.and_true, Bool.and_self])) ?_
     rw [← List.length_append, show clss (frmC g free t) ++ clss (csN g ((t * varsN g : Nat) : Int) g.ands.length) = clss (frmL g free t 0) by rw [frmL_zero]; exact (List.map_append ..).symm, ← frmL_zero]
     refine Run.loop (fun m st => ∃ i : Nat, m = g.regs.length - i ∧ i ≤ g.regs.length ∧ st = ⟨[(2, .im (.bool free)), (3, .ptr 0 0 0), (9, .i (N : Nat)), (10, .ms 0 1 (frmL g free t i).length), (11, .i (t : Nat)), (33, .i (k : Nat)), (34, .i (t : Nat)), (45, .im (.sl (g.regs.map LReg.im))), (46, .i g.regs.length), (47, .i (i : Nat))], [.box [.im (.sl (strs g.inn)), .im (.sl (strs g.out)), .im (.sl (g.regs.map LReg.im)), .im (.sl (g.ands.map nd)), .im (.sl (ints g.outs))], .row 22 1 (clss (frmL g free t i)) 0], f :: rest⟩) g.regs.length ⟨0, rfl, by omega, rfl⟩ fun m st hI => ?_
     obtain ⟨i, hm, hi, rfl⟩ := hI
     subst m
     have hcc2 : (clss (frmL g free t i)).length = (frmL g free t i).length := by simp
     have hlt2 := frmL_len g free t i hi
     have hap2 : ((frmL g free t i).length + 2) * 24 ≤ 140737488355328 := by omega
     have hap1 : ((frmL g free t i).length + 1) * 24 ≤ 140737488355328 := by omega
     refine Run.seq ?_
     have fx := ai hap1 (ai hap2 (ai hcc2 (ai (@Int.toNat_natCast) (ai (@Int.natCast_nonneg) (ai hall (ai wt (ai hcm (ai w2 (ai hap (ai hcc (ai (@List.length_map.{0, 0}) (ai d3 (ai w1 (ai d2 (ai d1 ft)))))))))))))))
     refine Run.go ?_
     refine End.kp [2, 3, 9, 10, 11, 33, 34, 45, 46, 47, 48] ?_
     refine Run.seq ?_
     refine Run.cond _ rfl (fun hb => ?_) (fun hb => ?_)
     ·have hb6 := of_decide_eq_true hb
      have hin : i < g.regs.length := by omega
      have wi := wsucc hin (by omega)
      have hil : (i : Int) < (g.regs.length : Int) := by omega
      obtain ⟨x, hxi, hxm, hx⟩ := reg_at g.regs i hin
      obtain ⟨n0, n1⟩ := hg.regs x hxm
      have hxd : regD g i = x := by rw [regD, List.getD_eq_getElem?_getD, hxi]; rfl
      have v1 : IntKind.i64.wrap (((t * N : Nat) : Int) + 2) = ((t * N : Nat) : Int) + 2 := wrap64 (by omega)
      have v2 : IntKind.i64.wrap (((t * N : Nat) : Int) + 2 + (g.inn.length : Int)) = ((t * N : Nat) : Int) + 2 + (g.inn.length : Int) := wrap64 (by omega)
      have v3 : IntKind.i64.wrap (((t * N : Nat) : Int) + 2 + (g.inn.length : Int) + (i : Int)) = regV g t i := by rw [wrap64 (by omega)]; unfold regV; rw [← hN]
      have v4 : IntKind.i64.wrap (0 - regV g t i) = -(regV g t i) := by unfold regV; rw [← hN, wrap64 (by omega)]; omega
      refine Run.skip ?_
      refine End.kp [2, 3, 9, 10, 11, 33, 34, 45, 46, 47] ?_
      refine Run.seq ?_
      refine Run.block ?_
      refine Run.seq ?_
      have fx := ai strs_len (ai v4 (ai v3 (ai v2 (ai v1 (ai hx (ai hil (ai wi (ai hap1 (ai hap2 (ai hcc2 (ai (@Int.toNat_natCast) (ai (@Int.natCast_nonneg) (ai hall (ai wt (ai hcm (ai w2 (ai hap (ai hcc (ai (@List.length_map.{0, 0}) (ai d3 (ai w1 (ai d2 (ai d1 ft)))))))))))))))))))))))
      refine Run.go ?_
      refine End.kp [2, 3, 9, 10, 11, 12, 13, 33, 34, 45, 46, 47] ?_
      refine Run.seq ?_
      refine Run.go ?_
      refine End.kp [2, 3, 9, 10, 11, 13, 14, 33, 34, 45, 46, 47] ?_
      refine Run.block ?_
      refine Run.seq ?_
      refine Run.go ?_
      refine End.kp [2, 3, 9, 10, 11, 13, 14, 33, 34, 45, 46, 47, 68] ?_
      refine Run.cond _ rfl (fun hb => ?_) (fun hb => ?_)
      ·have hb7 := of_decide_eq_true hb
       have htp : 0 < t := by omega
       have u1 : IntKind.i64.wrap ((t : Int) - 1) = ((t - 1 : Nat) : Int) := by rw [wrap64 (by omega)]; omega
       have htn2 : (t - 1) * N ≤ t * N := Nat.mul_le_mul_right _ (by omega)
       have u2 : IntKind.i64.wrap (((t - 1 : Nat) : Int) * (N : Int)) = (((t - 1) * N : Nat) : Int) := by rw [← Int.natCast_mul, wrap64 (by omega)]
       have u3 : IntKind.i64.wrap (0 - ofL x.next (((t - 1) * N : Nat) : Int)) = -(ofL x.next (((t - 1) * N : Nat) : Int)) := by unfold ofL; split <;> (rw [wrap64 (by omega)]; omega)
       refine Run.seq ?_
       have fx := ai u3 (ai u2 (ai u1 (ai strs_len (ai v4 (ai v3 (ai v2 (ai v1 (ai hx (ai hil (ai wi (ai hap1 (ai hap2 (ai hcc2 (ai (@Int.toNat_natCast) (ai (@Int.natCast_nonneg) (ai hall (ai wt (ai hcm (ai w2 (ai hap (ai hcc (ai (@List.length_map.{0, 0}) (ai d3 (ai w1 (ai d2 (ai d1 ft))))))))))))))))))))))))))
       refine Run.region rfl fun K hK => GOps.sim ?_
       refine GOps.call rfl rfl rfl rfl (by kernel_rfl) (ACalls.sim ?_)
       refine (Of_lit x.next _ n0 (by omega) (by omega) (by omega) _).mono fun v u hv => ?_
       obtain ⟨rfl, rfl⟩ := hv
       refine ⟨_, _, rfl, GOps.sim ?_⟩
       refine GOps.done (hK _ ?_); clear hK K
       refine End.kp [2, 3, 9, 10, 11, 14, 15, 33, 34, 45, 46, 47] ?_
       refine Run.region rfl fun K hK => GOps.simK 4 ?_
       refine GOps.litF (rows := ints [-(regV g t i), ofL x.next (((t - 1) * N : Nat) : Int)]) ?_ rfl rfl (by simp only [litF, fx] <;> rfl)
       refine GOps.simK 3 ?_
       refine GOps.litF (rows := ints [regV g t i, -(ofL x.next (((t - 1) * N : Nat) : Int))]) ?_ rfl rfl (by simp only [litF, fx] <;> rfl)
       refine GOps.litF (rows := clss [[-(regV g t i), ofL x.next (((t - 1) * N : Nat) : Int)], [regV g t i, -(ofL x.next (((t - 1) * N : Nat) : Int))]]) ?_ rfl rfl (by simp only [litF, fx] <;> rfl)
       refine GOps.sim ?_
       refine GOps.done (hK _ ?_); clear hK K
       refine End.blk ?_
       refine End.blk ?_
       refine End.kp [2, 3, 9, 10, 11, 33, 34, 45, 46, 47] ?_
       have fx := ai u3 (ai u2 (ai u1 (ai strs_len (ai v4 (ai v3 (ai v2 (ai v1 (ai hx (ai hil (ai wi (ai hap1 (ai hap2 (ai hcc2 (ai (@Int.toNat_natCast) (ai (@Int.natCast_nonneg) (ai hall (ai wt (ai hcm (ai w2 (ai hap (ai hcc (ai (@List.length_map.{0, 0}) (ai d3 (ai w1 (ai d2 (ai d1 ft))))))))))))))))))))))))))
       refine Run.go ?_
       refine End.lp ?_
       have ec : regC g free t i = [[-(regV g t i), ofL x.next (((t - 1) * N : Nat) : Int)], [regV g t i, -(ofL x.next (((t - 1) * N : Nat) : Int))]] := by rw [regC_pos htp, hxd, ← hN]
       have e1 : clss (frmL g free t (i + 1)) = clss (frmL g free t i) ++ clss [[-(regV g t i), ofL x.next (((t - 1) * N : Nat) : Int)], [regV g t i, -(ofL x.next (((t - 1) * N : Nat) : Int))]] := by rw [frmL_next, ec]; exact List.map_append ..
       have e2 : (frmL g free t (i + 1)).length = (frmL g free t i).length + 2 := by rw [frmL_next, ec, List.length_append]; rfl
       refine ⟨g.regs.length - (i + 1), _, by omega, Ghost.form [(2, .im (.bool free)), (3, .ptr 0 0 0), (9, .i (N : Nat)), (10, .ms 0 1 ((frmL g free t i).length + 2)), (11, .i (t : Nat)), (33, .i (k : Nat)), (34, .i (t : Nat)), (45, .im (.sl (g.regs.map LReg.im))), (46, .i g.regs.length), (47, .i (i + 1 : Nat))] 2 ⟨rfl, rfl, rfl, rfl, rfl, rfl, rfl, rfl, rfl, rfl, trivial⟩ rfl (by simp only [ASt.push, List.nil_append, List.cons_append, List.take_succ_cons, List.take_zero, List.all_cons, List.all_nil, AObj.under, unders, PV.under, Bool.and_true, Bool.and_self]), i + 1, rfl, by omega, ?_⟩
       rw [e1, e2]
       rfl
      ·have hb7 := of_decide_eq_false hb
       have ht0 : t = 0 := by omega
       refine Run.seq ?_
       have fx := ai strs_len (ai v4 (ai v3 (ai v2 (ai v1 (ai hx (ai hil (ai wi (ai hap1 (ai hap2 (ai hcc2 (ai (@Int.toNat_natCast) (ai (@Int.natCast_nonneg) (ai hall (ai wt (ai hcm (ai w2 (ai hap (ai hcc (ai (@List.length_map.{0, 0}) (ai d3 (ai w1 (ai d2 (ai d1 ft)))))))))))))))))))))))
       refine Run.go ?_
       refine End.kp [2, 3, 9, 10, 11, 13, 14, 33, 34, 45, 46, 47, 89] ?_
       refine Run.cond _ rfl (fun hb => ?_) (fun hb => ?_)
       ·have hb8 : free = true := hb
        refine Run.skip ?_
        refine End.blk ?_
        refine End.blk ?_
        refine End.kp [2, 3, 9, 10, 11, 33, 34, 45, 46, 47] ?_
        have fx := ai strs_len (ai v4 (ai v3 (ai v2 (ai v1 (ai hx (ai hil (ai wi (ai hap1 (ai hap2 (ai hcc2 (ai (@Int.toNat_natCast) (ai (@Int.natCast_nonneg) (ai hall (ai wt (ai hcm (ai w2 (ai hap (ai hcc (ai (@List.length_map.{0, 0}) (ai d3 (ai w1 (ai d2 (ai d1 ft)))))))))))))))))))))))
        refine Run.go ?_
        refine End.lp ?_
        have ec : regC g free t i = [] := by rw [ht0, regC, if_pos hb8]
        have e1 : clss (frmL g free t (i + 1)) = clss (frmL g free t i) ++ clss [] := by rw [frmL_next, ec]; exact List.map_append ..
        have e2 : (frmL g free t (i + 1)).length = (frmL g free t i).length + 0 := by rw [frmL_next, ec, List.length_append]; rfl
        refine ⟨g.regs.length - (i + 1), _, by omega, Ghost.form [(2, .im (.bool free)), (3, .ptr 0 0 0), (9, .i (N : Nat)), (10, .ms 0 1 (frmL g free t i).length), (11, .i (t : Nat)), (33, .i (k : Nat)), (34, .i (t : Nat)), (45, .im (.sl (g.regs.map LReg.im))), (46, .i g.regs.length), (47, .i (i + 1 : Nat))] 2 ⟨rfl, rfl, rfl, rfl, rfl, rfl, rfl, rfl, rfl, rfl, trivial⟩ rfl (by simp only [ASt.push, List.nil_append, List.cons_append, List.take_succ_cons, List.take_zero, List.all_cons, List.all_nil, AObj.under, unders, PV.under, Bool.and_true, Bool.and_self]), i + 1, rfl, by omega, ?_⟩
        rw [e1, e2]
        simp
       ·have hb8 : free = false := hb
        refine Run.seq ?_
        have fx := ai strs_len (ai v4 (ai v3 (ai v2 (ai v1 (ai hx (ai hil (ai wi (ai hap1 (ai hap2 (ai hcc2 (ai (@Int.toNat_natCast) (ai (@Int.natCast_nonneg) (ai hall (ai wt (ai hcm (ai w2 (ai hap (ai hcc (ai (@List.length_map.{0, 0}) (ai d3 (ai w1 (ai d2 (ai d1 ft)))))))))))))))))))))))
        refine Run.go ?_
        refine End.kp [2, 3, 9, 10, 11, 14, 33, 34, 45, 46, 47, 91] ?_
        refine Run.cond _ rfl (fun hb => ?_) (fun hb => ?_)
        ·have hb9 : x.init = true := hb
         have fx := ai strs_len (ai v4 (ai v3 (ai v2 (ai v1 (ai hx (ai hil (ai wi (ai hap1 (ai hap2 (ai hcc2 (ai (@Int.toNat_natCast) (ai (@Int.natCast_nonneg) (ai hall (ai wt (ai hcm (ai w2 (ai hap (ai hcc (ai (@List.length_map.{0, 0}) (ai d3 (ai w1 (ai d2 (ai d1 ft)))))))))))))))))))))))
         refine Run.region rfl fun K hK => GOps.simK 2 ?_
         refine GOps.litF (rows := ints [regV g t i]) ?_ rfl rfl (by simp only [litF, fx] <;> rfl)
         refine GOps.litF (rows := clss [[regV g t i]]) ?_ rfl rfl (by simp only [litF, fx] <;> rfl)
         refine GOps.sim ?_
         refine GOps.done (hK _ ?_); clear hK K
         refine End.blk ?_
         refine End.blk ?_
         refine End.kp [2, 3, 9, 10, 11, 33, 34, 45, 46, 47] ?_
         have fx := ai strs_len (ai v4 (ai v3 (ai v2 (ai v1 (ai hx (ai hil (ai wi (ai hap1 (ai hap2 (ai hcc2 (ai (@Int.toNat_natCast) (ai (@Int.natCast_nonneg) (ai hall (ai wt (ai hcm (ai w2 (ai hap (ai hcc (ai (@List.length_map.{0, 0}) (ai d3 (ai w1 (ai d2 (ai d1 ft)))))))))))))))))))))))
         refine Run.go ?_
         refine End.lp ?_
         have ec : regC g free t i = [[regV g t i]] := by rw [ht0, regC, if_neg (by simp [hb8]), hxd, if_pos hb9]
         have e1 : clss (frmL g free t (i + 1)) = clss (frmL g free t i) ++ clss [[regV g t i]] := by rw [frmL_next, ec]; exact List.map_append ..
         have e2 : (frmL g free t (i + 1)).length = (frmL g free t i).length + 1 := by rw [frmL_next, ec, List.length_append]; rfl
         refine ⟨g.regs.length - (i + 1), _, by omega, Ghost.form [(2, .im (.bool free)), (3, .ptr 0 0 0), (9, .i (N : Nat)), (10, .ms 0 1 ((frmL g free t i).length + 1)), (11, .i (t : Nat)), (33, .i (k : Nat)), (34, .i (t : Nat)), (45, .im (.sl (g.regs.map LReg.im))), (46, .i g.regs.length), (47, .i (i + 1 : Nat))] 2 ⟨rfl, rfl, rfl, rfl, rfl, rfl, rfl, rfl, rfl, rfl, trivial⟩ rfl (by simp only [ASt.push, List.nil_append, List.cons_append, List.take_succ_cons, List.take_zero, List.all_cons, List.all_nil, AObj.under, unders, PV.under, Bool.and_true, Bool.and_self]), i + 1, rfl, by omega, ?_⟩
         rw [e1, e2]
         rfl
        ·have hb9 : x.init = false := hb
         have fx := ai strs_len (ai v4 (ai v3 (ai v2 (ai v1 (ai hx (ai hil (ai wi (ai hap1 (ai hap2 (ai hcc2 (ai (@Int.toNat_natCast) (ai (@Int.natCast_nonneg) (ai hall (ai wt (ai hcm (ai w2 (ai hap (ai hcc (ai (@List.length_map.{0, 0}) (ai d3 (ai w1 (ai d2 (ai d1 ft)))))))))))))))))))))))
         refine Run.region rfl fun K hK => GOps.simK 3 ?_
         refine GOps.litF (rows := ints [-(regV g t i)]) ?_ rfl rfl (by simp only [litF, fx] <;> rfl)
         refine GOps.litF (rows := clss [[-(regV g t i)]]) ?_ rfl rfl (by simp only [litF, fx] <;> rfl)
         refine GOps.sim ?_
         refine GOps.done (hK _ ?_); clear hK K
         refine End.blk ?_
         refine End.blk ?_
         refine End.kp [2, 3, 9, 10, 11, 33, 34, 45, 46, 47] ?_
         have fx := ai strs_len (ai v4 (ai v3 (ai v2 (ai v1 (ai hx (ai hil (ai wi (ai hap1 (ai hap2 (ai hcc2 (ai (@Int.toNat_natCast) (ai (@Int.natCast_nonneg) (ai hall (ai wt (ai hcm (ai w2 (ai hap (ai hcc (ai (@List.length_map.{0, 0}) (ai d3 (ai w1 (ai d2 (ai d1 ft)))))))))))))))))))))))
         refine Run.go ?_
         refine End.lp ?_
         have ec : regC g free t i = [[-(regV g t i)]] := by rw [ht0, regC, if_neg (by simp [hb8]), hxd, if_neg (by simp [hb9])]
         have e1 : clss (frmL g free t (i + 1)) = clss (frmL g free t i) ++ clss [[-(regV g t i)]] := by rw [frmL_next, ec]; exact List.map_append ..
         have e2 : (frmL g free t (i + 1)).length = (frmL g free t i).length + 1 := by rw [frmL_next, ec, List.length_append]; rfl
         refine ⟨g.regs.length - (i + 1), _, by omega, Ghost.form [(2, .im (.bool free)), (3, .ptr 0 0 0), (9, .i (N : Nat)), (10, .ms 0 1 ((frmL g free t i).length + 1)), (11, .i (t : Nat)), (33, .i (k : Nat)), (34, .i (t : Nat)), (45, .im (.sl (g.regs.map LReg.im))), (46, .i g.regs.length), (47, .i (i + 1 : Nat))] 2 ⟨rfl, rfl, rfl, rfl, rfl, rfl, rfl, rfl, rfl, rfl, trivial⟩ rfl (by simp only [ASt.push, List.nil_append, List.cons_append, List.take_succ_cons, List.take_zero, List.all_cons, List.all_nil, AObj.under, unders, PV.under, Bool.and_true, Bool.and_self]), i + 1, rfl, by omega, ?_⟩
         rw [e1, e2]
         rfl
     ·have hb6 := of_decide_eq_false hb
      have hie : i = g.regs.length := by omega
      subst hie
      refine Run.exit rfl ?_
      refine End.blk ?_
      refine End.kp [2, 3, 9, 10, 33, 34] ?_
      have fx := ai hap1 (ai hap2 (ai hcc2 (ai (@Int.toNat_natCast) (ai (@Int.natCast_nonneg) (ai hall (ai wt (ai hcm (ai w2 (ai hap (ai hcc (ai (@List.length_map.{0, 0}) (ai d3 (ai w1 (ai d2 (ai d1 ft)))))))))))))))
      refine Run.go ?_
      refine End.lp ?_
      refine ⟨k - (t + 1), _, by omega, Ghost.form [(2, .im (.bool free)), (3, .ptr 0 0 0), (9, .i (N : Nat)), (10, .ms 0 1 (frmC g free (t + 1)).length), (33, .i (k : Nat)), (34, .i (t + 1 : Nat))] 2 ⟨rfl, rfl, rfl, rfl, rfl, rfl, trivial⟩ rfl (by simp only [ASt.push, List.nil_append, List.cons_append, List.take_succ_cons, List.take_zero, List.all_cons, List.all_nil, AObj.under, unders, PV.under, Bool.and_true, Bool.and_self]), t + 1, rfl, by omega, rfl⟩
    ·have hb5 := of_decide_eq_false hb
     have hte : t = k := by omega
     subst hte
     refine Run.exit rfl ?_
     refine End.kp [10] ?_
     refine Run.seq ?_
     have fx := ai hcm (ai w2 (ai hap (ai hcc (ai (@List.length_map.{0, 0}) (ai d3 (ai w1 (ai d2 (ai d1 ft))))))))
     refine Run.go ?_
     refine End.kp [6, 7] ?_
     refine Run.ret (hQ _ _ ⟨.inr rfl, _, rfl, _, _, rfl, ?_⟩)
     exact ⟨rfl, rfl⟩
end Go.Proofs.YtkjfdacjjogpcaaPi

/- The walk of Inputs: the inputs of a model of Frames. -/
set_option linter.unusedVariables false
set_option linter.unusedSimpArgs false
set_option maxRecDepth 100000
namespace Go.Proofs.YtkjfdacjjogpcaaPi
set_option maxHeartbeats 40000000
theorem insK_next (g : LGraph) (k : Nat) (M : Nat → Bool) (t : Nat) : (insK g (t + 1) M) = insK g t M ++ [insM g M t] := by simp [insK, List.range_succ]
theorem insK_len (g : LGraph) (k : Nat) (M : Nat → Bool) : (insK g k M).length = k := by simp [insK]
theorem Inputs_ok (g : LGraph) (hg : GSmall g) (k : Nat) (hk : k ≤ 64) (hkn : k * varsN g ≤ 20000) (m : List Bool) (hml : m.length = k * varsN g) (up : Frs) : ACalls Try.prog 27 [g.pv, .i (k : Nat), .im (.sl (bools m))] up fun v u => v = .im (.sl (boolss (insK g k (fun v => m.getD (v - 1) false)))) ∧ u = up := by
 obtain ⟨z1, z2, z3, z4, z5⟩ := hg
 have hnod : (1 + (g.inn.length : Int) + g.regs.length + g.ands.length) = ((varsN g : Nat) : Int) := by unfold varsN; omega
 obtain ⟨N, hN⟩ : ∃ N, N = varsN g := ⟨_, rfl⟩
 rw [← hN] at hnod hkn hml
 have hNs : N ≤ 20000 := by rw [hN]; unfold varsN; omega
 have hNi : 1 + g.inn.length ≤ N := by rw [hN]; unfold varsN; omega
 have mx1 : ¬ ((k : Int) < 0) := by omega
 have mx2 : ¬ ((64 : Int) < (k : Int)) := by omega
 have mx3 : (if (k : Int) < 0 then (0 : Int) else (k : Int)) = (k : Int) := if_neg mx1
 have hc : (0 : Int) ≤ g.inn.length := by omega
 have hm1 : ((1 : Nat) : Int) * (g.inn.length : Int) ≤ 281474976710656 := by omega
 have hm2 : (g.inn.length : Int) ≤ 9223372036854775807 := by omega
 refine ACalls.code Try.func27 rfl 54 rfl (by simp) [.tmp 6] rfl fun Q hQ => ?_
 simp only [ups, PV.up, argEnv]
 have ft := ai ty_3 (ai ty_4 (ai ty_9 (ai ty_26 (ai ty_31 (ai ty_33 (ai ty_62 trivial))))))
 refine Run.seq ?_
 have fx := ai mx2 (ai mx1 (ai hm2 (ai hm1 (ai hc (ai bools_len (ai strs_len ft))))))
 refine Run.go ?_
 refine End.kp [1, 2, 3] ?_
 refine Run.seq ?_
 refine Run.go ?_
 refine End.kp [1, 2, 3, 7] ?_
 refine Run.seq ?_
 refine Run.region rfl fun K hK => GOps.sim ?_
 refine GOps.call rfl rfl rfl rfl (by kernel_rfl) (ACalls.sim ?_)
 refine (GNodes_ok g ⟨z1, z2, z3, z4, z5⟩ _).mono fun v u hv => ?_
 obtain ⟨rfl, rfl⟩ := hv
 rw [hnod]
 have fx := ai mx2 (ai mx1 (ai hm2 (ai hm1 (ai hc (ai bools_len (ai strs_len ft))))))
 refine ⟨_, _, rfl, GOps.sim ?_⟩
 refine GOps.done (hK _ ?_); clear hK K
 refine End.kp [1, 2, 3, 7, 8] ?_
 refine Run.seq ?_
 refine Run.seq ?_
 refine Run.go ?_
 refine End.kp [2, 3, 7, 8, 17, 18] ?_
 refine Run.block ?_
 refine Run.ghost (Ghost.thaw (u := 7) 33 1 (by decide) rfl) ?_
 refine Run.ghost (Ghost.form [(2, .im (.sl (bools m))), (3, .ptr 0 0 0), (7, .ms 0 1 0), (8, .i (N : Nat)), (17, .i (k : Nat)), (18, .i (0 : Nat))] 2 ⟨rfl, rfl, rfl, rfl, rfl, rfl, trivial⟩ rfl (by simp only [ASt.push, List.nil_append, List.cons_append, List.take_succ_cons, List.take_zero, List.all_cons, List.all_nil, AObj.under, unders, PV.under, Bool.and_true, Bool.and_self])) ?_
 refine Run.loop (fun s st => ∃ t : Nat, s = k - t ∧ t ≤ k ∧ st = ⟨[(2, .im (.sl (bools m))), (3, .ptr 0 0 0), (7, .ms 0 1 t), (8, .i (N : Nat)), (17, .i (k : Nat)), (18, .i (t : Nat))], [.box [.im (.sl (strs g.inn)), .im (.sl (strs g.out)), .im (.sl (g.regs.map LReg.im)), .im (.sl (g.ands.map nd)), .im (.sl (ints g.outs))], .row 33 1 (boolss (insK g t (fun v => m.getD (v - 1) false))) 0], up⟩) k ⟨0, rfl, by omega, rfl⟩ fun s st hI => ?_
 obtain ⟨t, hm, htk, rfl⟩ := hI
 subst s
 have hol : (boolss (insK g t (fun v => m.getD (v - 1) false))).length = t := by rw [boolss_len, insK_len]
 have hap : (t + 1) * 24 ≤ 140737488355328 := by omega
 have htn : t * N ≤ k * N := Nat.mul_le_mul_right _ htk
 have w2 : IntKind.i64.wrap ((t : Int) * (N : Int)) = ((t * N : Nat) : Int) := by rw [← Int.natCast_mul, wrap64 (by omega)]
 have w3 : IntKind.i64.wrap (((t * N : Nat) : Int) + 1) = ((t * N + 1 : Nat) : Int) := by rw [wrap64 (by omega)]; omega
 refine Run.seq ?_
 have fx := ai w3 (ai w2 (ai hap (ai hol (ai mx2 (ai mx1 (ai hm2 (ai hm1 (ai hc (ai bools_len (ai strs_len ft))))))))))
 refine Run.go ?_
 refine End.kp [2, 3, 7, 8, 17, 18, 19] ?_
 refine Run.seq ?_
 refine Run.cond _ rfl (fun hb => ?_) (fun hb => ?_)
 ·have hb5 := of_decide_eq_true hb
  have htk2 : t < k := by omega
  have wt := wsucc htk2 (by omega)
  have htn2 : (t + 1) * N ≤ k * N := Nat.mul_le_mul_right _ (by omega)
  rw [Nat.succ_mul] at htn2
  obtain ⟨Q, hQr⟩ : ∃ Q, Q = List.range g.inn.length := ⟨_, rfl⟩
  have hQl : Q.length = g.inn.length := by rw [hQr, List.length_range]
  refine Run.skip ?_
  refine End.kp [2, 3, 7, 8, 17, 18] ?_
  refine Run.seq ?_
  refine Run.block ?_
  refine Run.seq ?_
  have fx := ai (@Int.toNat_natCast) (ai (@Int.natCast_nonneg) (ai wt (ai w3 (ai w2 (ai hap (ai hol (ai mx2 (ai mx1 (ai hm2 (ai hm1 (ai hc (ai bools_len (ai strs_len ft)))))))))))))
  refine Run.go ?_
  refine End.kp [2, 3, 7, 8, 9, 17, 18] ?_
  refine Run.seq ?_
  refine Run.go ?_
  refine End.kp [2, 3, 7, 8, 9, 10, 17, 18] ?_
  refine Run.seq ?_
  refine Run.seq ?_
  refine Run.go ?_
  refine End.kp [2, 3, 7, 8, 9, 10, 17, 18, 26, 27] ?_
  refine Run.block ?_
  refine Run.ghost (Ghost.form [(2, .im (.sl (bools m))), (3, .ptr 0 0 0), (7, .ms 0 1 t), (8, .i (N : Nat)), (9, .i (t : Nat)), (10, .ms 0 2 g.inn.length), (17, .i (k : Nat)), (18, .i (t : Nat)), (26, .i g.inn.length), (27, .i (0 : Nat))] 3 ⟨rfl, rfl, rfl, rfl, rfl, rfl, rfl, rfl, rfl, rfl, trivial⟩ rfl (by simp only [ASt.push, List.nil_append, List.cons_append, List.take_succ_cons, List.take_zero, List.all_cons, List.all_nil, AObj.under, unders, PV.under, Bool.and_true, Bool.and_self])) ?_
  rw [← hQl]
  refine Run.loop (fun s st => ∃ i : Nat, s = Q.length - i ∧ i ≤ Q.length ∧ st = ⟨[(2, .im (.sl (bools m))), (3, .ptr 0 0 0), (7, .ms 0 1 t), (8, .i (N : Nat)), (9, .i (t : Nat)), (10, .ms 0 2 Q.length), (17, .i (k : Nat)), (18, .i (t : Nat)), (26, .i Q.length), (27, .i (i : Nat))], [.box [.im (.sl (strs g.inn)), .im (.sl (strs g.out)), .im (.sl (g.regs.map LReg.im)), .im (.sl (g.ands.map nd)), .im (.sl (ints g.outs))], .row 33 1 (boolss (insK g t (fun v => m.getD (v - 1) false))) 0, .row 4 1 ((Q.take i).map (fun i => [Im.bool (nodeM (fun v => m.getD (v - 1) false) (t * varsN g) (1 + i))]) ++ List.replicate (Q.length - i) [.bool false]) 0], up⟩) Q.length ⟨0, rfl, by omega, by simp⟩ fun s st hI => ?_
  obtain ⟨i, hm, hi, rfl⟩ := hI
  subst s
  have hrl := fill_len (fun i => [Im.bool (nodeM (fun v => m.getD (v - 1) false) (t * varsN g) (1 + i))]) Q [.bool false] i hi
  refine Run.seq ?_
  have fx := ai hrl (ai (@Int.toNat_natCast) (ai (@Int.natCast_nonneg) (ai wt (ai w3 (ai w2 (ai hap (ai hol (ai mx2 (ai mx1 (ai hm2 (ai hm1 (ai hc (ai bools_len (ai strs_len ft))))))))))))))
  refine Run.go ?_
  refine End.kp [2, 3, 7, 8, 9, 10, 17, 18, 26, 27, 28] ?_
  refine Run.seq ?_
  refine Run.cond _ rfl (fun hb => ?_) (fun hb => ?_)
  ·have hb6 := of_decide_eq_true hb
   have hin : i < Q.length := by omega
   have wi := wsucc hin (by omega)
   have hil : (i : Int) < (Q.length : Int) := by omega
   have w4 : IntKind.i64.wrap (((t * N + 1 : Nat) : Int) + (i : Int)) = ((t * N + 1 + i : Nat) : Int) := by rw [wrap64 (by omega)]; omega
   have hvm : t * N + 1 + i < m.length := by omega
   have hvi : ((t * N + 1 + i : Nat) : Int) < (m.length : Int) := by omega
   have hvg := bools_get m (t * N + 1 + i) hvm
   have hri := fill_get (fun i => [Im.bool (nodeM (fun v => m.getD (v - 1) false) (t * varsN g) (1 + i))]) Q [.bool false] i hin
   have hfd : Q.getD i 0 = i := by rw [hQr, List.getD_eq_getElem?_getD, List.getElem?_range (by omega)]; rfl
   have hfm2 := fill_map (fun i => [Im.bool (nodeM (fun v => m.getD (v - 1) false) (t * varsN g) (1 + i))]) Q [.bool false] 0 i hin
   rw [hfd, show nodeM (fun v => m.getD (v - 1) false) (t * varsN g) (1 + i) = m.getD (t * N + 1 + i) false by rw [← hN]; show m.getD (t * N + 1 + (1 + i) - 1) false = _; rw [show t * N + 1 + (1 + i) - 1 = t * N + 1 + i by omega]] at hfm2
   refine Run.skip ?_
   refine End.kp [2, 3, 7, 8, 9, 10, 17, 18, 26, 27] ?_
   refine Run.seq ?_
   refine Run.block ?_
   refine Run.seq ?_
   have fx := ai (@Int.ofNat_lt) (ai hin (ai hri (ai hvg (ai hvm (ai hvi (ai w4 (ai hil (ai wi (ai hrl (ai (@Int.toNat_natCast) (ai (@Int.natCast_nonneg) (ai wt (ai w3 (ai w2 (ai hap (ai hol (ai mx2 (ai mx1 (ai hm2 (ai hm1 (ai hc (ai bools_len (ai strs_len ft)))))))))))))))))))))))
   refine Run.go ?_
   refine End.kp [2, 3, 7, 8, 9, 10, 11, 17, 18, 26, 27] ?_
   refine Run.seq ?_
   refine Run.go ?_
   refine End.kp [2, 3, 7, 8, 9, 10, 11, 12, 17, 18, 26, 27] ?_
   refine Run.seq ?_
   refine Run.go ?_
   refine End.kp [2, 3, 7, 8, 9, 10, 11, 12, 17, 18, 26, 27, 39] ?_
   refine Run.cond _ rfl (fun hb => ?_) (fun hb => ?_)
   ·have hb7 := hb
    have fx := ai (@Int.ofNat_lt) (ai hin (ai hri (ai hvg (ai hvm (ai hvi (ai w4 (ai hil (ai wi (ai hrl (ai (@Int.toNat_natCast) (ai (@Int.natCast_nonneg) (ai wt (ai w3 (ai w2 (ai hap (ai hol (ai mx2 (ai mx1 (ai hm2 (ai hm1 (ai hc (ai bools_len (ai strs_len ft)))))))))))))))))))))))
    refine Run.go ?_
    refine End.blk ?_
    refine End.kp [2, 3, 7, 8, 9, 10, 17, 18, 26, 27] ?_
    refine Run.go ?_
    refine End.lp ?_
    refine ⟨Q.length - (i + 1), _, by omega, Ghost.form [(2, .im (.sl (bools m))), (3, .ptr 0 0 0), (7, .ms 0 1 t), (8, .i (N : Nat)), (9, .i (t : Nat)), (10, .ms 0 2 Q.length), (17, .i (k : Nat)), (18, .i (t : Nat)), (26, .i Q.length), (27, .i (i + 1 : Nat))] 3 ⟨rfl, rfl, rfl, rfl, rfl, rfl, rfl, rfl, rfl, rfl, trivial⟩ rfl (by simp only [ASt.push, List.nil_append, List.cons_append, List.take_succ_cons, List.take_zero, List.all_cons, List.all_nil, AObj.under, unders, PV.under, Bool.and_true, Bool.and_self]), i + 1, rfl, by omega, ?_⟩
    rw [← hfm2]
    rfl
   ·have hb7 := hb
    simp at hb
  ·have hb6 := of_decide_eq_false hb
   have hie : i = Q.length := by omega
   subst hie
   rw [fill_all] at hrl ⊢
   have hbr : Q.map (fun i => [Im.bool (nodeM (fun v => m.getD (v - 1) false) (t * varsN g) (1 + i))]) = bools (insM g (fun v => m.getD (v - 1) false) t) := by rw [hQr, insM, bools, List.map_map]; rfl
   rw [hbr] at hrl ⊢
   refine Run.exit rfl ?_
   refine End.kp [2, 3, 7, 8, 10, 17, 18] ?_
   have fx := ai hrl (ai (@Int.toNat_natCast) (ai (@Int.natCast_nonneg) (ai wt (ai w3 (ai w2 (ai hap (ai hol (ai mx2 (ai mx1 (ai hm2 (ai hm1 (ai hc (ai bools_len (ai strs_len ft))))))))))))))
   refine Run.ghost (Ghost.shut (t := 10) (j := 2) rfl rfl hrl) ?_
   simp only [eput, edel]
   refine Run.region rfl fun K hK => GOps.simK 2 ?_
   refine GOps.litF (rows := boolss [insM g (fun v => m.getD (v - 1) false) t]) ?_ rfl rfl (by simp only [litF, fx] <;> rfl)
   refine GOps.sim ?_
   refine GOps.done (hK _ ?_); clear hK K
   refine End.blk ?_
   refine End.kp [2, 3, 7, 8, 17, 18] ?_
   have fx := ai hrl (ai (@Int.toNat_natCast) (ai (@Int.natCast_nonneg) (ai wt (ai w3 (ai w2 (ai hap (ai hol (ai mx2 (ai mx1 (ai hm2 (ai hm1 (ai hc (ai bools_len (ai strs_len ft))))))))))))))
   refine Run.go ?_
   refine End.lp ?_
   refine ⟨k - (t + 1), _, by omega, Ghost.form [(2, .im (.sl (bools m))), (3, .ptr 0 0 0), (7, .ms 0 1 (t + 1)), (8, .i (N : Nat)), (17, .i (k : Nat)), (18, .i (t + 1 : Nat))] 2 ⟨rfl, rfl, rfl, rfl, rfl, rfl, trivial⟩ rfl (by simp only [ASt.push, List.nil_append, List.cons_append, List.take_succ_cons, List.take_zero, List.all_cons, List.all_nil, AObj.under, unders, PV.under, Bool.and_true, Bool.and_self]), t + 1, rfl, by omega, ?_⟩
   rw [show boolss (insK g (t + 1) (fun v => m.getD (v - 1) false)) = boolss (insK g t (fun v => m.getD (v - 1) false)) ++ boolss [insM g (fun v => m.getD (v - 1) false) t] by unfold boolss; rw [insK_next g k, List.map_append]]
   rfl
 ·have hb5 := of_decide_eq_false hb
  have hte : t = k := by omega
  subst hte
  refine Run.exit rfl ?_
  refine End.kp [7] ?_
  refine Run.seq ?_
  refine Run.ghost (Ghost.shut (t := 7) (j := 1) rfl rfl hol) ?_
  simp only [eput, edel]
  have fx := ai w3 (ai w2 (ai hap (ai hol (ai mx2 (ai mx1 (ai hm2 (ai hm1 (ai hc (ai bools_len (ai strs_len ft))))))))))
  refine Run.go ?_
  refine End.kp [6] ?_
  refine Run.ret (hQ _ _ ⟨.inr rfl, _, rfl, _, rfl, ?_⟩)
  exact ⟨rfl, rfl⟩
end Go.Proofs.YtkjfdacjjogpcaaPi

