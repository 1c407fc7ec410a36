/- Plain law: words as 64 bits; the values of literals and nodes of a graph. -/
import Derived.Test.YtkmnmokjlpenhaaWR
import Derived.Test.YtkmnmokjlpenhaaWN
set_option linter.unusedVariables false
set_option linter.unusedSimpArgs false
namespace Go.Proofs.YtkmnmokjlpenhaaPi

/-- A word's bits. -/
abbrev bv (x : Int) : BitVec 64 := BitVec.ofInt 64 x
def U64 (x : Int) : Prop := 0 ≤ x ∧ x < 18446744073709551616
theorem bv_nat (r : BitVec 64) : bv (r.toNat : Int) = r := by
  apply BitVec.eq_of_toNat_eq
  simp
theorem u64_nat (r : BitVec 64) : U64 (r.toNat : Int) := by
  have := r.isLt
  exact ⟨by omega, by omega⟩
theorem wrap_nat (r : BitVec 64) : IntKind.u64.wrap (r.toNat : Int) = r.toNat := wrapU (by have := r.isLt; omega)
theorem u64_eq {x y : Int} (hx : U64 x) (hy : U64 y) (h : bv x = bv y) : x = y := by
  have h1 := congrArg BitVec.toNat h
  simp only [BitVec.toNat_ofInt] at h1
  obtain ⟨x0, x1⟩ := hx
  obtain ⟨y0, y1⟩ := hy
  have e1 : x % ((2 ^ 64 : Nat) : Int) = x := Int.emod_eq_of_lt x0 (by simpa using x1)
  have e2 : y % ((2 ^ 64 : Nat) : Int) = y := Int.emod_eq_of_lt y0 (by simpa using y1)
  rw [e1, e2] at h1
  omega
theorem bits_and (x y : Int) : bits .and .u64 x y = ((bv x &&& bv y).toNat : Int) := wrap_nat _
theorem bits_or (x y : Int) : bits .or .u64 x y = ((bv x ||| bv y).toNat : Int) := wrap_nat _
theorem bits_andNot (x y : Int) : bits .andNot .u64 x y = ((bv x &&& ~~~ (bv y)).toNat : Int) := wrap_nat _
theorem bits_xor (x y : Int) : bits .xor .u64 x y = ((bv x ^^^ bv y).toNat : Int) := wrap_nat _
theorem bv_and (x y : Int) : bv (bits .and .u64 x y) = bv x &&& bv y := by rw [bits_and, bv_nat]
theorem bv_or (x y : Int) : bv (bits .or .u64 x y) = bv x ||| bv y := by rw [bits_or, bv_nat]
theorem bv_andNot (x y : Int) : bv (bits .andNot .u64 x y) = bv x &&& ~~~ (bv y) := by rw [bits_andNot, bv_nat]
theorem bv_xor (x y : Int) : bv (bits .xor .u64 x y) = bv x ^^^ bv y := by rw [bits_xor, bv_nat]
theorem u64_and (x y : Int) : U64 (bits .and .u64 x y) := by rw [bits_and]; exact u64_nat _
theorem u64_or (x y : Int) : U64 (bits .or .u64 x y) := by rw [bits_or]; exact u64_nat _
theorem u64_xor (x y : Int) : U64 (bits .xor .u64 x y) := by rw [bits_xor]; exact u64_nat _
theorem bv_vnot (x : Int) : bv (vnot x) = ~~~ bv x := by
  rw [vnot, bv_xor]
  have : bv (if IntKind.u64.signed = true then -1 else IntKind.u64.max) = BitVec.allOnes 64 := by decide
  rw [this]
  apply BitVec.eq_of_getLsbD_eq
  intro i hi
  simp only [BitVec.getLsbD_xor, BitVec.getLsbD_allOnes, BitVec.getLsbD_not, hi, decide_true, Bool.true_and, Bool.true_xor]
theorem u64_vnot (x : Int) : U64 (vnot x) := u64_xor _ _
theorem bv_ext {x y : BitVec 64} (h : ∀ i, i < 64 → x.getLsbD i = y.getLsbD i) : x = y := BitVec.eq_of_getLsbD_eq h

/-- The bits of a literal. -/
def litB (v : List Int) (l : Int) : BitVec 64 := if l % 2 = 1 then ~~~ bv (v.getD (l / 2).toNat 0) else bv (v.getD (l / 2).toNat 0)
theorem bv_of (v : List Int) (l : Int) : bv (ofV v l) = litB v l := by
  unfold ofV litB
  split
  · exact bv_vnot _
  · rfl
theorem litB_flip (v : List Int) (l : Int) (h : 0 ≤ l) : litB v (flipL l) = ~~~ litB v l := by
  unfold litB flipL
  by_cases h2 : l % 2 = 0
  · rw [if_pos h2, if_pos (by omega), if_neg (show ¬ l % 2 = 1 by omega)]
    congr 3
    omega
  · rw [if_neg h2, if_neg (by omega), if_pos (show l % 2 = 1 by omega)]
    have : ((l - 1) / 2).toNat = (l / 2).toNat := by omega
    rw [this]
    apply bv_ext
    intro i hi
    simp [hi]
theorem valsA_pre : ∀ (ps : List (Int × Int)) (v : List Int) (k : Nat), k < v.length → (valsA ps v).getD k 0 = v.getD k 0
  | [], v, k, h => rfl
  | p :: ps, v, k, h => by
    rw [valsA, valsA_pre ps _ k (by simp; omega)]
    simp [List.getElem?_append_left h]
theorem valsA_litB (ps : List (Int × Int)) (v : List Int) (l : Int) (h0 : 0 ≤ l) (h : l < 2 * (v.length : Int)) : litB (valsA ps v) l = litB v l := by
  unfold litB
  rw [valsA_pre ps v (l / 2).toNat (by omega)]
theorem valsA_node : ∀ (ps : List (Int × Int)) (v : List Int) (i : Nat) (p : Int × Int), ps[i]? = some p → (∀ (i : Nat) (p : Int × Int), ps[i]? = some p → (0 ≤ p.1 ∧ p.1 < 2 * ((v.length : Int) + i)) ∧ 0 ≤ p.2 ∧ p.2 < 2 * ((v.length : Int) + i)) →
    bv ((valsA ps v).getD (v.length + i) 0) = litB (valsA ps v) p.1 &&& litB (valsA ps v) p.2
  | [], v, i, p, h, _ => by simp at h
  | q :: qs, v, 0, p, h, hr => by
    simp at h
    subst h
    obtain ⟨⟨a1, a2⟩, a3, a4⟩ := hr 0 q rfl
    rw [valsA]
    have hl : (v ++ [bits .and .u64 (ofV v q.1) (ofV v q.2)]).length = v.length + 1 := by simp
    rw [valsA_pre qs _ _ (by omega), valsA_litB qs _ q.1 a1 (by rw [hl]; omega), valsA_litB qs _ q.2 a3 (by rw [hl]; omega)]
    have e : ∀ l : Int, 0 ≤ l → l < 2 * (v.length : Int) → litB (v ++ [bits .and .u64 (ofV v q.1) (ofV v q.2)]) l = litB v l := fun l h1 h2 => by
      unfold litB
      have : (v ++ [bits .and .u64 (ofV v q.1) (ofV v q.2)]).getD (l / 2).toNat 0 = v.getD (l / 2).toNat 0 := by
        simp only [List.getD_eq_getElem?_getD]
        rw [List.getElem?_append_left (by omega)]
      rw [this]
    rw [e q.1 a1 (by omega), e q.2 a3 (by omega)]
    simp [bv_and, bv_of]
  | q :: qs, v, i + 1, p, h, hr => by
    rw [valsA]
    have hl : (v ++ [bits .and .u64 (ofV v q.1) (ofV v q.2)]).length = v.length + 1 := by simp
    have := valsA_node qs (v ++ [bits .and .u64 (ofV v q.1) (ofV v q.2)]) i p (by simpa using h) (fun j p' hp' => by
      have := hr (j + 1) p' (by simpa using hp')
      rw [hl]
      omega)
    rw [hl] at this
    rw [show v.length + (i + 1) = v.length + 1 + i by omega]
    exact this
theorem valsA_u64 : ∀ (ps : List (Int × Int)) (v : List Int), (∀ x ∈ v, U64 x) → ∀ x ∈ valsA ps v, U64 x
  | [], v, h => h
  | p :: ps, v, h => by
    rw [valsA]
    refine valsA_u64 ps _ fun x hx => ?_
    simp only [List.mem_append, List.mem_singleton] at hx
    rcases hx with hx | rfl
    · exact h x hx
    · exact u64_and _ _
theorem getD_u64 {v : List Int} (h : ∀ x ∈ v, U64 x) (k : Nat) : U64 (v.getD k 0) := by
  rw [List.getD_eq_getElem?_getD]
  cases hk : v[k]? with
  | none => exact ⟨by simp, by simp⟩
  | some x => exact h x (List.mem_of_getElem? hk)
theorem ofV_u64 {v : List Int} (h : ∀ x ∈ v, U64 x) (l : Int) : U64 (ofV v l) := by
  unfold ofV
  split
  · exact u64_vnot _
  · exact getD_u64 h _

section
variable {g : LGraph} (hg : GraphOk g) {inn st : List Int} (h1 : inn.length = g.inn.length) (h2 : st.length = g.regs.length)
include hg h1 h2
theorem g_and (i : Nat) (p : Int × Int) (hp : g.ands[i]? = some p) : litB (graphVals g inn st) (2 * (1 + (g.inn.length : Int) + g.regs.length + i)) = litB (graphVals g inn st) p.1 &&& litB (graphVals g inn st) p.2 := by
  have hl : ([0] ++ inn ++ st).length = 1 + g.inn.length + g.regs.length := by simp; omega
  have := valsA_node g.ands ([0] ++ inn ++ st) i p hp (fun j q hq => by
    have := hg.ands j q hq
    rw [hl]
    omega)
  rw [hl] at this
  rw [graphVals, litB, if_neg (by omega)]
  have e : (2 * (1 + (g.inn.length : Int) + g.regs.length + i) / 2).toNat = 1 + g.inn.length + g.regs.length + i := by omega
  rw [e]
  exact this
theorem g_nodeOf {l : Int} {p : Int × Int} (h : nodeOf g l = some p) : litB (graphVals g inn st) l = litB (graphVals g inn st) p.1 &&& litB (graphVals g inn st) p.2 := by
  obtain ⟨i, hi, rfl⟩ := nodeOf_mem h
  exact g_and hg h1 h2 i p hi
theorem g_off : litB (graphVals g inn st) 0 = 0#64 := by
  have _ := hg
  rw [graphVals, valsA_litB _ _ _ (by omega) (by simp; omega)]
  simp [litB]
theorem g_on : litB (graphVals g inn st) 1 = BitVec.allOnes 64 := by
  have := litB_flip (graphVals g inn st) 0 (by omega)
  rw [g_off hg h1 h2] at this
  rw [show (1 : Int) = flipL 0 by decide, this]
  decide
theorem g_reg (i : Nat) (hi : i < g.regs.length) : litB (graphVals g inn st) (2 * (1 + (g.inn.length : Int) + i)) = bv (st.getD i 0) := by
  have _ := hg
  rw [graphVals, valsA_litB _ _ _ (by omega) (by simp; omega), litB, if_neg (by omega)]
  have e : (2 * (1 + (g.inn.length : Int) + i) / 2).toNat = 1 + inn.length + i := by omega
  rw [e]
  congr 1
  simp only [List.getD_eq_getElem?_getD]
  rw [List.getElem?_append_right (by simp; omega)]
  congr 2
  simp
  omega
end
theorem colV_u64 (rows : List (List Bool)) (i : Nat) : ∀ k, U64 (colV rows i k)
  | 0 => ⟨by simp [colV], by simp [colV]⟩
  | k + 1 => by
    unfold colV orBit
    split
    · exact u64_or _ _
    · exact colV_u64 rows i k
theorem spreadV_u64 (rows : List (List Bool)) (K : Nat) : ∀ x ∈ spreadV rows K, U64 x := by
  intro x hx
  simp only [spreadV, List.mem_map] at hx
  obtain ⟨q, _, rfl⟩ := hx
  exact colV_u64 rows q _
end Go.Proofs.YtkmnmokjlpenhaaPi
