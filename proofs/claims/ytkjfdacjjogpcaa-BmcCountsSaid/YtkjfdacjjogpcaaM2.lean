/- Part 2 of the proof: the texts WX, WY, WGA, WGB, WGC, WGD, WO, WUA, WGE, WTA, WTB, PTB, PSat, PSol, PSolB, PSolC, PSolD, WSA, WSB, WSC, WSD, WSI, WSJ, one behind the other. Each holds for every input that it names; no condition is hidden. -/
import Derived.Test.YtkjfdacjjogpcaaM1
import Derived.Test.YtkjfdacjjogpcaaPiVecM
import Derived.Test.YtkjfdacjjogpcaaPiVecS
set_option linter.unusedVariables false
set_option linter.unusedSimpArgs false
set_option linter.unusedSectionVars false
namespace Go.Proofs.YtkjfdacjjogpcaaPi
set_option maxRecDepth 100000
set_option maxHeartbeats 4000000
def seenE : Int → List (Int × Int) → List (List Im × Im)
 | _, [] => []
 | b, p :: ps => ([.int .i64 p.1, .int .i64 p.2], .int .i64 (2 * b)) :: seenE (b + 1) ps
theorem seenE_snoc (p : Int × Int) : ∀ (ps : List (Int × Int)) (b : Int), seenE b (ps ++ [p]) = seenE b ps ++ [([.int .i64 p.1, .int .i64 p.2], .int .i64 (2 * (b + ps.length)))]
 | [], b => by simp [seenE]
 | x :: ps, b => by
  simp only [List.cons_append, seenE, seenE_snoc p ps (b + 1), List.length_cons]
  rw [show b + 1 + (ps.length : Int) = b + ((ps.length + 1 : Nat) : Int) by omega]
def findA (p : Int × Int) : List (Int × Int) → Nat → Option Nat
 | [], _ => none
 | x :: ps, i => if x = p then some i else findA p ps (i + 1)
theorem findKs_seen (p : Int × Int) : ∀ (ps : List (Int × Int)) (b : Int) (i : Nat), findKs Try.prog [55, 55] [.int .i64 p.1, .int .i64 p.2] (seenE b ps) i = some ((findA p ps i).map fun k => (k, .int .i64 (2 * (b + (k : Int) - i))))
 | [], b, i => rfl
 | x :: ps, b, i => by
  have he : eqIms Try.prog [55, 55] ([Im.int .i64 p.1, .int .i64 p.2].map .im) ([Im.int .i64 x.1, .int .i64 x.2].map .im) = some (decide (x = p)) := by
   simp only [List.map_cons, List.map_nil, eqIms, ty_55, Option.isSome_some, and_self, if_true, Option.map_some, Option.some.injEq]
   by_cases h : x = p
   ·subst h; simp
   ·rw [decide_eq_false h]
    by_cases h1 : p.1 = x.1
    ·have h2 : ¬ p.2 = x.2 := fun e => h (Prod.ext h1.symm e.symm)
     simp [h1, h2]
    ·simp [h1]
  simp only [seenE, findKs, he]
  by_cases h : x = p
  ·simp only [decide_eq_true h, findA, if_pos h, List.length_cons, List.length_nil, Option.map_some]
   simp
  ·simp only [decide_eq_false h, findA, if_neg h, List.length_cons, List.length_nil]
   rw [if_pos (by omega), findKs_seen p ps (b + 1) (i + 1)]
   congr 1
   cases findA p ps (i + 1) with
   | none => rfl
   | some k => simp only [Option.map_some, Option.some.injEq, Prod.mk.injEq, true_and, Im.int.injEq]; omega
theorem findA_range (p : Int × Int) : ∀ (ps : List (Int × Int)) (i k : Nat), findA p ps i = some k → i ≤ k ∧ ps[k - i]? = some p
 | [], i, k, h => by simp [findA] at h
 | x :: ps, i, k, h => by
  simp only [findA] at h
  split at h
  ·rename_i e
   simp only [Option.some.injEq] at h
   subst h
   simp [e]
  ·obtain ⟨h1, h2⟩ := findA_range p ps (i + 1) k h
   refine ⟨by omega, ?_⟩
   rw [show k - i = (k - (i + 1)) + 1 by omega]
   simpa using h2
structure LMk where
 inn : List ByteArray
 regs : List LReg
 ands : List (Int × Int)
 bad : Int
abbrev LMk.first (m : LMk) : Int := 1 + m.inn.length + m.regs.length
abbrev mkBox (r q : Nat) (m : LMk) : AObj := .box [.im (.sl (strs m.inn)), .im (.sl (m.regs.map LReg.im)), .ms 0 r m.ands.length, .map 0 q, .i m.bad]
abbrev mkRow (m : LMk) : AObj := .row 59 2 (m.ands.map nd) 0
abbrev mkMap (m : LMk) : AObj := .map (seenE m.first m.ands)
structure MkAt (up : Frs) (d j r q : Nat) (m : LMk) : Prop where
 box : fget up d j = some (mkBox r q m)
 row : fget up d r = some (mkRow m)
 map : fget up d q = some (mkMap m)
structure MkSmall (m : LMk) : Prop where
 inn : m.inn.length ≤ 200
 regs : m.regs.length ≤ 300
 ands : m.ands.length ≤ 4000
def setMk (up : Frs) (d j r q : Nat) (m : LMk) : Frs := fset (fset (fset up d j (mkBox r q m)) d r (mkRow m)) d q (mkMap m)
theorem setMk_self {up : Frs} {d j r q : Nat} {m : LMk} (h : MkAt up d j r q m) : setMk up d j r q m = up := by
 rw [setMk, fset_self up d j _ h.box, fset_self up d r _ h.row, fset_self up d q _ h.map]
theorem setMk_at {up : Frs} {d j r q : Nat} {m m' : LMk} (h : MkAt up d j r q m) : MkAt (setMk up d j r q m') d j r q m' := by
 have h1 : ¬ (d = d ∧ j = r) := ref_ne h.row h.box (by simp)
 have h2 : ¬ (d = d ∧ j = q) := ref_ne h.map h.box (by simp)
 have h3 : ¬ (d = d ∧ r = q) := ref_ne h.map h.row (by simp)
 have hr2 : fget (fset up d j (mkBox r q m')) d r = some (mkRow m) := by rw [fget_fset_ne (ref_ne h.box h.row (by simp))]; exact h.row
 have hq2 : fget (fset up d j (mkBox r q m')) d q = some (mkMap m) := by rw [fget_fset_ne (ref_ne h.box h.map (by simp))]; exact h.map
 have hq3 : fget (fset (fset up d j (mkBox r q m')) d r (mkRow m')) d q = some (mkMap m) := by rw [fget_fset_ne (ref_ne h.row h.map (by simp))]; exact hq2
 refine ⟨?_, ?_, ?_⟩
 ·rw [setMk, fget_fset_ne h2, fget_fset_ne h1, fget_fset_same _ _ _ _ _ h.box]
 ·rw [setMk, fget_fset_ne h3, fget_fset_same _ _ _ _ _ hr2]
 ·rw [setMk, fget_fset_same _ _ _ _ _ hq3]
theorem setMk_set {up : Frs} {d j r q : Nat} {m m' m2 : LMk} (h : MkAt up d j r q m) : setMk (setMk up d j r q m') d j r q m2 = setMk up d j r q m2 := by
 have h1 : ¬ (d = d ∧ j = r) := ref_ne h.row h.box (by simp)
 have h2 : ¬ (d = d ∧ j = q) := ref_ne h.map h.box (by simp)
 have h3 : ¬ (d = d ∧ r = q) := ref_ne h.map h.row (by simp)
 unfold setMk
 rw [fset_comm (fset (fset up d j (mkBox r q m')) d r (mkRow m')) d q d j _ _ (fun e => h2 ⟨rfl, e.2.symm⟩), fset_comm (fset up d j (mkBox r q m')) d r d j _ _ (fun e => h1 ⟨rfl, e.2.symm⟩), fset_fset]
 rw [fset_comm (fset (fset up d j (mkBox r q m2)) d r (mkRow m')) d q d r _ _ (fun e => h3 ⟨rfl, e.2.symm⟩), fset_fset, fset_fset]
def mkAnd (m : LMk) (a b : Int) : Int × LMk :=
 if min a b = 0 ∨ min a b = flipL (max a b) then (0, m) else if min a b = 1 ∨ min a b = max a b then (max a b, m) else
 match findA (min a b, max a b) m.ands 0 with
 | some k => (2 * (m.first + k), m)
 | none => (2 * (m.first + m.ands.length), { m with ands := m.ands ++ [(min a b, max a b)] })
theorem mNodes_ok (m : LMk) (hm : MkSmall m) (up : Frs) (d j r q : Nat) (hk : MkAt up d j r q m) : ACalls Try.prog 100 [.ptr d j 0] up fun v u => v = .i (1 + m.inn.length + m.regs.length + m.ands.length) ∧ u = up := by
 obtain ⟨z1, z2, z3⟩ := hm
 have kb := hk.box
 have kr := hk.row
 have kq := hk.map
 have w1 : IntKind.i64.wrap (1 + (m.inn.length : Int)) = 1 + (m.inn.length : Int) := wrap64 (by omega)
 have w2 : IntKind.i64.wrap (1 + (m.inn.length : Int) + m.regs.length) = 1 + (m.inn.length : Int) + m.regs.length := wrap64 (by omega)
 have w3 : IntKind.i64.wrap (1 + (m.inn.length : Int) + m.regs.length + m.ands.length) = 1 + (m.inn.length : Int) + m.regs.length + m.ands.length := wrap64 (by omega)
 refine ACalls.code Try.func100 rfl 21 rfl (by simp) [.tmp 2] rfl fun Q hQ => ?_
 simp only [ups, PV.up, argEnv]
 have ft := ai ty_2 (ai ty_3 (ai ty_9 (ai ty_26 (ai ty_27 (ai ty_28 (ai ty_57 (ai ty_59 (ai ty_123 (ai ty_156 trivial)))))))))
 refine Run.seq ?_
 have fx := ai w3 (ai w2 (ai w1 (ai rim_len (ai strs_len (ai kb ft)))))
 refine Run.go ?_
 refine End.kp [0] ?_
 refine Run.seq ?_
 refine Run.drawA fun K hK => ?_
 refine DOps.sim ?_
 refine DOps.nil (metAll_quiet rfl) (hK _ ?_); clear hK K
 refine End.kp [2] ?_
 refine Run.ret (hQ _ _ ⟨.inr rfl, _, rfl, _, rfl, ?_⟩)
 exact ⟨rfl, rfl⟩
theorem mIn_ok (i : Nat) (m : LMk) (hm : MkSmall m) (up : Frs) (d j r q : Nat) (hk : MkAt up d j r q m) (hi : i < m.inn.length) : ACalls Try.prog 63 [.ptr d j 0, .i i] up fun v u => v = .i (2 * (1 + i)) ∧ u = up := by
 obtain ⟨z1, z2, z3⟩ := hm
 have kb := hk.box
 have kr := hk.row
 have kq := hk.map
 have w1 : IntKind.i64.wrap (1 + (m.inn.length : Int)) = 1 + (m.inn.length : Int) := wrap64 (by omega)
 have w2 : IntKind.i64.wrap (1 + (m.inn.length : Int) + m.regs.length) = 1 + (m.inn.length : Int) + m.regs.length := wrap64 (by omega)
 have w3 : IntKind.i64.wrap (1 + (m.inn.length : Int) + m.regs.length + m.ands.length) = 1 + (m.inn.length : Int) + m.regs.length + m.ands.length := wrap64 (by omega)
 
 have d1 : decide ((i : Int) < 0) = false := decide_eq_false (by omega)
 have d2 : decide ((m.inn.length : Int) ≤ i) = false := decide_eq_false (by omega)
 have w4 : IntKind.i64.wrap (1 + (i : Int)) = 1 + i := wrap64 (by omega)
 have w5 : IntKind.i64.wrap (2 * (1 + (i : Int))) = 2 * (1 + i) := wrap64 (by omega)
 refine ACalls.code Try.func63 rfl 21 rfl (by simp) [.tmp 4] rfl fun Q hQ => ?_
 simp only [ups, PV.up, argEnv]
 have ft := ai ty_3 (ai ty_4 (ai ty_9 (ai ty_26 (ai ty_36 (ai ty_55 (ai ty_123 (ai ty_156 trivial)))))))
 refine Run.seq ?_
 have fx := ai (@ge_iff_le Int _) (ai w5 (ai w4 (ai d2 (ai d1 (ai strs_len (ai kb ft))))))
 refine Run.go ?_
 refine End.kp [0, 1] ?_
 refine Run.seq ?_
 refine Run.seq ?_
 refine Run.go ?_
 refine End.kp [0, 1, 15] ?_
 refine Run.cond _ rfl (fun hb => ?_) (fun hb => ?_)
 ·have hb2 := hb
  simp at hb
 ·have hb2 := hb
  refine Run.skip ?_
  refine End.kp [1] ?_
  refine Run.seq ?_
  refine Run.go ?_
  refine End.kp [4] ?_
  refine Run.ret (hQ _ _ ⟨.inr rfl, _, rfl, _, rfl, ?_⟩)
  exact ⟨rfl, rfl⟩
theorem mand_zero (a b : Int) (h : min a b = 0 ∨ min a b = flipL (max a b)) (a0 : 0 ≤ a ∧ a ≤ 1000000) (b0 : 0 ≤ b ∧ b ≤ 1000000) (up : Frs) (d j : Nat) : ACalls Try.prog 91 [.ptr d j 0, .i a, .i b] up fun v u => v = .tup [.i 0, .im (.bool true)] ∧ u = up := by
 have hlo : (if b < a then b else a) = min a b := by split <;> omega
 have hhi : (if a < b then b else a) = max a b := by split <;> omega
 have fh := xor_one (max a b) (by omega) (by omega)
 refine ACalls.code Try.func91 rfl 78 rfl (by simp) [.tmp 6, .tmp 7] rfl fun Q hQ => ?_
 simp only [ups, PV.up, argEnv]
 have ft := ai ty_2 (ai ty_3 (ai ty_4 (ai ty_28 (ai ty_36 (ai ty_55 (ai ty_59 (ai ty_123 (ai ty_154 (ai ty_156 trivial)))))))))
 refine Run.seq ?_
 have fx := ai fh (ai hhi (ai hlo ft))
 refine Run.go ?_
 refine End.kp [0, 1, 2] ?_
 refine Run.seq ?_
 refine Run.go ?_
 refine End.kp [0, 1, 2] ?_
 refine Run.seq ?_
 refine Run.block ?_
 refine Run.seq ?_
 rcases Bool.eq_false_or_eq_true ((min a b == 0)) with hs2 | hs2
 ·skip
  have fx := ai hs2 fx
  refine Run.go ?_
  refine End.kp [0, 1, 2, 18] ?_
  refine Run.cond _ rfl (fun hb => ?_) (fun hb => ?_)
  ·have hb2 := hb
   refine Run.seq ?_
   refine Run.go ?_
   refine End.kp [6, 7] ?_
   refine Run.ret (hQ _ _ ⟨.inr rfl, _, rfl, _, rfl, ?_⟩)
   exact ⟨rfl, rfl⟩
  ·have hb2 := hb
   simp at hb
 ·skip
  have fx := ai hs2 fx
  refine Run.go ?_
  refine End.kp [0, 1, 2, 18] ?_
  refine Run.cond _ rfl (fun hb => ?_) (fun hb => ?_)
  ·have hb2 := hb
   refine Run.seq ?_
   refine Run.go ?_
   refine End.kp [6, 7] ?_
   refine Run.ret (hQ _ _ ⟨.inr rfl, _, rfl, _, rfl, ?_⟩)
   exact ⟨rfl, rfl⟩
  ·rcases h with h | h
   ·simp [h] at hs2
   ·simp [h] at hb
   skip
theorem mand_one (a b : Int) (h0 : ¬ (min a b = 0 ∨ min a b = flipL (max a b))) (h : min a b = 1 ∨ min a b = max a b) (a0 : 0 ≤ a ∧ a ≤ 1000000) (b0 : 0 ≤ b ∧ b ≤ 1000000) (up : Frs) (d j : Nat) : ACalls Try.prog 91 [.ptr d j 0, .i a, .i b] up fun v u => v = .tup [.i (max a b), .im (.bool true)] ∧ u = up := by
 have hlo : (if b < a then b else a) = min a b := by split <;> omega
 have hhi : (if a < b then b else a) = max a b := by split <;> omega
 have fh := xor_one (max a b) (by omega) (by omega)
 have e1 : (min a b == 0) = false := by simpa using fun e => h0 (.inl e)
 have e2 : (min a b == flipL (max a b)) = false := by simpa using fun e => h0 (.inr e)
 refine ACalls.code Try.func91 rfl 78 rfl (by simp) [.tmp 6, .tmp 7] rfl fun Q hQ => ?_
 simp only [ups, PV.up, argEnv]
 have ft := ai ty_2 (ai ty_3 (ai ty_4 (ai ty_28 (ai ty_36 (ai ty_55 (ai ty_59 (ai ty_123 (ai ty_154 (ai ty_156 trivial)))))))))
 refine Run.seq ?_
 have fx := ai e2 (ai e1 (ai fh (ai hhi (ai hlo ft))))
 refine Run.go ?_
 refine End.kp [0, 1, 2] ?_
 refine Run.seq ?_
 refine Run.go ?_
 refine End.kp [0, 1, 2] ?_
 refine Run.seq ?_
 refine Run.block ?_
 refine Run.seq ?_
 refine Run.go ?_
 refine End.kp [0, 1, 2, 18] ?_
 refine Run.cond _ rfl (fun hb => ?_) (fun hb => ?_)
 ·have hb2 := hb
  simp at hb
 ·have hb2 := hb
  refine Run.seq ?_
  rcases Bool.eq_false_or_eq_true ((min a b == 1)) with hs4 | hs4
  ·skip
   have fx := ai hs4 fx
   refine Run.go ?_
   refine End.kp [0, 1, 2, 27] ?_
   refine Run.cond _ rfl (fun hb => ?_) (fun hb => ?_)
   ·have hb2 := hb
    refine Run.seq ?_
    refine Run.go ?_
    refine End.kp [6, 7] ?_
    refine Run.ret (hQ _ _ ⟨.inr rfl, _, rfl, _, rfl, ?_⟩)
    exact ⟨rfl, rfl⟩
   ·have hb2 := hb
    simp at hb
  ·skip
   have fx := ai hs4 fx
   refine Run.go ?_
   refine End.kp [0, 1, 2, 27] ?_
   refine Run.cond _ rfl (fun hb => ?_) (fun hb => ?_)
   ·have hb2 := hb
    refine Run.seq ?_
    refine Run.go ?_
    refine End.kp [6, 7] ?_
    refine Run.ret (hQ _ _ ⟨.inr rfl, _, rfl, _, rfl, ?_⟩)
    exact ⟨rfl, rfl⟩
   ·rcases h with h | h
    ·simp [h] at hs4
    ·simp [h] at hb
    skip
theorem mand_old (a b : Int) (h0 : ¬ (min a b = 0 ∨ min a b = flipL (max a b))) (h1 : ¬ (min a b = 1 ∨ min a b = max a b)) (a0 : 0 ≤ a ∧ a ≤ 1000000) (b0 : 0 ≤ b ∧ b ≤ 1000000) (m : LMk) (hm : MkSmall m) (up : Frs) (d j r q : Nat) (hk : MkAt up d j r q m) (k : Nat) (hf : findA (min a b, max a b) m.ands 0 = some k) : ACalls Try.prog 91 [.ptr d j 0, .i a, .i b] up fun v u => v = .tup [.i (2 * (m.first + k)), .im (.bool true)] ∧ u = up := by
 obtain ⟨z1, z2, z3⟩ := hm
 have kb := hk.box
 have kr := hk.row
 have kq := hk.map
 have w1 : IntKind.i64.wrap (1 + (m.inn.length : Int)) = 1 + (m.inn.length : Int) := wrap64 (by omega)
 have w2 : IntKind.i64.wrap (1 + (m.inn.length : Int) + m.regs.length) = 1 + (m.inn.length : Int) + m.regs.length := wrap64 (by omega)
 have w3 : IntKind.i64.wrap (1 + (m.inn.length : Int) + m.regs.length + m.ands.length) = 1 + (m.inn.length : Int) + m.regs.length + m.ands.length := wrap64 (by omega)
 
 have hlo : (if b < a then b else a) = min a b := by split <;> omega
 have hhi : (if a < b then b else a) = max a b := by split <;> omega
 have fh := xor_one (max a b) (by omega) (by omega)
 have e1 : (min a b == 0) = false := by simpa using fun e => h0 (.inl e)
 have e2 : (min a b == flipL (max a b)) = false := by simpa using fun e => h0 (.inr e)
 have e3 : (min a b == 1) = false := by simpa using fun e => h1 (.inl e)
 have e4 : (min a b == max a b) = false := by simpa using fun e => h1 (.inr e)
 have hfind := findKs_seen (min a b, max a b) m.ands m.first 0
 rw [hf] at hfind
 
 simp only [Option.map_some] at hfind
 have ek : 2 * (m.first + (k : Int) - ((0 : Nat) : Int)) = 2 * (m.first + k) := by omega
 rw [ek] at hfind
 refine ACalls.code Try.func91 rfl 78 rfl (by simp) [.tmp 6, .tmp 7] rfl fun Q hQ => ?_
 simp only [ups, PV.up, argEnv]
 have ft := ai ty_2 (ai ty_3 (ai ty_4 (ai ty_28 (ai ty_36 (ai ty_55 (ai ty_59 (ai ty_123 (ai ty_154 (ai ty_156 trivial)))))))))
 refine Run.seq ?_
 have fx := ai e4 (ai e3 (ai e2 (ai e1 (ai fh (ai hhi (ai hlo (ai kq (ai kr (ai kb ft)))))))))
 refine Run.go ?_
 refine End.kp [0, 1, 2] ?_
 refine Run.seq ?_
 refine Run.go ?_
 refine End.kp [0, 1, 2] ?_
 refine Run.seq ?_
 refine Run.block ?_
 refine Run.seq ?_
 refine Run.go ?_
 refine End.kp [0, 1, 2, 18] ?_
 refine Run.cond _ rfl (fun hb => ?_) (fun hb => ?_)
 ·have hb2 := hb
  simp at hb
 ·have hb2 := hb
  refine Run.seq ?_
  refine Run.go ?_
  refine End.kp [0, 1, 2, 27] ?_
  refine Run.cond _ rfl (fun hb => ?_) (fun hb => ?_)
  ·have hb2 := hb
   simp at hb
  ·have hb2 := hb
   refine Run.skip ?_
   refine End.blk ?_
   refine End.kp [0, 1, 2] ?_
   refine Run.seq ?_
   refine Run.go ?_
   refine End.kp [0, 8] ?_
   refine Run.seq ?_
   refine Run.seq ?_
   refine Run.drawA fun K hK => ?_
   refine DOps.sim ?_
   refine DOps.lookK (d := d + 1) (j := q) [.int .i64 (min a b), .int .i64 (max a b)] (seenE m.first m.ands) _ hfind kq ?_
   simp only [hitPV, if_true]
   refine DOps.sim ?_
   refine DOps.nil (by rfl) (hK _ ?_); clear hK K
   refine End.kp [0, 8, 9, 10] ?_
   refine Run.seq ?_
   refine Run.go ?_
   refine End.kp [0, 8, 9, 48] ?_
   refine Run.cond _ rfl (fun hb => ?_) (fun hb => ?_)
   ·have hb2 := hb
    refine Run.seq ?_
    have fx := ai e4 (ai e3 (ai e2 (ai e1 (ai fh (ai hhi (ai hlo (ai kq (ai kr (ai kb ft)))))))))
    refine Run.go ?_
    refine End.kp [6, 7] ?_
    refine Run.ret (hQ _ _ ⟨.inr rfl, _, rfl, _, rfl, ?_⟩)
    exact ⟨rfl, rfl⟩
   ·have hb2 := hb
    simp at hb
theorem mand_new (a b : Int) (h0 : ¬ (min a b = 0 ∨ min a b = flipL (max a b))) (h1 : ¬ (min a b = 1 ∨ min a b = max a b)) (a0 : 0 ≤ a ∧ a ≤ 1000000) (b0 : 0 ≤ b ∧ b ≤ 1000000) (m : LMk) (hm : MkSmall m) (up : Frs) (d j r q : Nat) (hk : MkAt up d j r q m) (hf : findA (min a b, max a b) m.ands 0 = none) (hn : m.ands.length < 4000) : ACalls Try.prog 91 [.ptr d j 0, .i a, .i b] up fun v u => v = .tup [.i (2 * (m.first + m.ands.length)), .im (.bool true)] ∧ u = setMk up d j r q { m with ands := m.ands ++ [(min a b, max a b)] } := by
 obtain ⟨z1, z2, z3⟩ := hm
 have kb := hk.box
 have kr := hk.row
 have kq := hk.map
 have w1 : IntKind.i64.wrap (1 + (m.inn.length : Int)) = 1 + (m.inn.length : Int) := wrap64 (by omega)
 have w2 : IntKind.i64.wrap (1 + (m.inn.length : Int) + m.regs.length) = 1 + (m.inn.length : Int) + m.regs.length := wrap64 (by omega)
 have w3 : IntKind.i64.wrap (1 + (m.inn.length : Int) + m.regs.length + m.ands.length) = 1 + (m.inn.length : Int) + m.regs.length + m.ands.length := wrap64 (by omega)
 
 have hlo : (if b < a then b else a) = min a b := by split <;> omega
 have hhi : (if a < b then b else a) = max a b := by split <;> omega
 have fh := xor_one (max a b) (by omega) (by omega)
 have e1 : (min a b == 0) = false := by simpa using fun e => h0 (.inl e)
 have e2 : (min a b == flipL (max a b)) = false := by simpa using fun e => h0 (.inr e)
 have e3 : (min a b == 1) = false := by simpa using fun e => h1 (.inl e)
 have e4 : (min a b == max a b) = false := by simpa using fun e => h1 (.inr e)
 have hfind := findKs_seen (min a b, max a b) m.ands m.first 0
 rw [hf] at hfind
 
 simp only [Option.map_none] at hfind
 have e5 : ((m.ands.length : Int) == 4000) = false := by simp; omega
 have w4 : IntKind.i64.wrap (2 * (1 + (m.inn.length : Int) + m.regs.length + m.ands.length)) = 2 * (1 + (m.inn.length : Int) + m.regs.length + m.ands.length) := wrap64 (by omega)
 have n1 : ¬ (d = d ∧ j = r) := ref_ne kr kb (by simp)
 have n2 : ¬ (d = d ∧ j = q) := ref_ne kq kb (by simp)
 have n3 : ¬ (d = d ∧ r = q) := ref_ne kq kr (by simp)
 have hap : (m.ands.length + 1) * 16 ≤ 140737488355328 := by omega
 have kq2 : ∀ o o2, fget (fset (fset up d r o) d j o2) d q = some (mkMap m) := fun o o2 => by rw [fget_fset_ne (fun e => n2 ⟨rfl, e.2.symm⟩), fget_fset_ne (fun e => n3 ⟨rfl, e.2.symm⟩)]; exact kq
 have kb2 : ∀ o, fget (fset up d r o) d j = some (mkBox r q m) := fun o => by rw [fget_fset_ne n1]; exact kb
 have kb3 : ∀ o o2, fget (fset (fset up d r o) d j o2) d j = some o2 := fun o o2 => fget_fset_same _ _ _ _ _ (kb2 o)
 refine ACalls.code Try.func91 rfl 78 rfl (by simp) [.tmp 6, .tmp 7] rfl fun Q hQ => ?_
 simp only [ups, PV.up, argEnv]
 have ft := ai ty_2 (ai ty_3 (ai ty_4 (ai ty_28 (ai ty_36 (ai ty_55 (ai ty_59 (ai ty_123 (ai ty_154 (ai ty_156 trivial)))))))))
 refine Run.seq ?_
 have fx := ai hap (ai nd_len (ai w4 (ai e5 (ai e4 (ai e3 (ai e2 (ai e1 (ai fh (ai hhi (ai hlo (ai kb3 (ai kb2 (ai kq (ai kr (ai kb ft)))))))))))))))
 refine Run.go ?_
 refine End.kp [0, 1, 2] ?_
 refine Run.seq ?_
 refine Run.go ?_
 refine End.kp [0, 1, 2] ?_
 refine Run.seq ?_
 refine Run.block ?_
 refine Run.seq ?_
 refine Run.go ?_
 refine End.kp [0, 1, 2, 18] ?_
 refine Run.cond _ rfl (fun hb => ?_) (fun hb => ?_)
 ·have hb2 := hb
  simp at hb
 ·have hb2 := hb
  refine Run.seq ?_
  refine Run.go ?_
  refine End.kp [0, 1, 2, 27] ?_
  refine Run.cond _ rfl (fun hb => ?_) (fun hb => ?_)
  ·have hb2 := hb
   simp at hb
  ·have hb2 := hb
   refine Run.skip ?_
   refine End.blk ?_
   refine End.kp [0, 1, 2] ?_
   refine Run.seq ?_
   refine Run.go ?_
   refine End.kp [0, 8] ?_
   refine Run.seq ?_
   refine Run.seq ?_
   refine Run.drawA fun K hK => ?_
   refine DOps.sim ?_
   refine DOps.lookK (d := d + 1) (j := q) [.int .i64 (min a b), .int .i64 (max a b)] (seenE m.first m.ands) _ hfind kq ?_
   simp only [hitPV, if_true]
   refine DOps.sim ?_
   refine DOps.nil (by rfl) (hK _ ?_); clear hK K
   refine End.kp [0, 8, 9, 10] ?_
   refine Run.seq ?_
   refine Run.go ?_
   refine End.kp [0, 8, 9, 48] ?_
   refine Run.cond _ rfl (fun hb => ?_) (fun hb => ?_)
   ·have hb2 := hb
    simp at hb
   ·have hb2 := hb
    refine Run.skip ?_
    refine End.kp [0, 8] ?_
    refine Run.seq ?_
    refine Run.seq ?_
    have fx := ai hap (ai nd_len (ai w4 (ai e5 (ai e4 (ai e3 (ai e2 (ai e1 (ai fh (ai hhi (ai hlo (ai kb3 (ai kb2 (ai kq (ai kr (ai kb ft)))))))))))))))
    refine Run.go ?_
    refine End.kp [0, 8, 55] ?_
    refine Run.cond _ rfl (fun hb => ?_) (fun hb => ?_)
    ·have hb2 := hb
     simp at hb
    ·have hb2 := hb
     refine Run.skip ?_
     refine End.kp [0, 8] ?_
     refine Run.seq ?_
     refine Run.region rfl fun K hK => GOps.sim ?_
     refine GOps.call rfl rfl rfl rfl (by kernel_rfl) (ACalls.sim ?_)
     refine (mNodes_ok m ⟨z1, z2, z3⟩ _ (d + 1) j r q ⟨kb, kr, kq⟩).mono fun v u hv => ?_
     obtain ⟨rfl, rfl⟩ := hv
     refine ⟨_, _, rfl, GOps.sim ?_⟩
     refine GOps.done (hK _ ?_); clear hK K
     refine End.kp [0, 8, 11] ?_
     refine Run.seq ?_
     refine Run.ghost (.spares 1) ?_
     simp only [ASt.pushN, ASt.push, List.append_assoc, List.cons_append, List.nil_append]
     refine Run.drawA fun K hK => ?_
     refine DOps.sim ?_
     refine DOps.nil (by rfl) (hK _ ?_); clear hK K
     refine End.kp [0, 8, 11] ?_
     refine Run.seq ?_
     refine Run.drawA fun K hK => ?_
     refine DOps.sim ?_
     refine DOps.updK (d := d + 1) (j := q) [.int .i64 (min a b), .int .i64 (max a b)] (seenE m.first m.ands) hfind (by exact kq2 _ _) ?_
     refine DOps.sim ?_
     refine DOps.nil (by rfl) (hK _ ?_); clear hK K
     refine End.kp [11] ?_
     refine Run.seq ?_
     refine Run.go ?_
     refine End.kp [6, 7] ?_
     refine Run.ret (hQ _ _ ⟨.inr rfl, _, rfl, _, rfl, ?_⟩)
     refine ⟨rfl, ?_⟩
     have e1 : mkMap { m with ands := m.ands ++ [(min a b, max a b)] } = .map (seenE m.first m.ands ++ [([.int .i64 (min a b), .int .i64 (max a b)], .int .i64 (2 * (m.first + m.ands.length)))]) := by
      simp only [mkMap]
      rw [seenE_snoc]
     have e2 : mkRow { m with ands := m.ands ++ [(min a b, max a b)] } = .row 59 2 (m.ands.map nd ++ [[.int .i64 (min a b), .int .i64 (max a b)]]) 0 := by simp
     have e3 : mkBox r q { m with ands := m.ands ++ [(min a b, max a b)] } = .box [.im (.sl (strs m.inn)), .im (.sl (m.regs.map LReg.im)), .ms 0 r (m.ands.length + 1), .map 0 q, .i m.bad] := by simp
     rw [setMk, e1, e2, e3, fset_comm up d r d j _ _ (fun e => n1 ⟨rfl, e.2.symm⟩)]

set_option maxRecDepth 100000
set_option maxHeartbeats 4000000
theorem CloneR_nil (up : Frs) : ACalls Try.prog 55 [.im (.sl (([] : List LReg).map LReg.im))] up fun v u => v = .im (.sl (([] : List LReg).map LReg.im)) ∧ u = up := by
 refine ACalls.code Try.func55 rfl 8 rfl (by simp) [.tmp 2] rfl fun Q hQ => ?_
 simp only [ups, PV.up, argEnv]
 have ft := ai ty_4 (ai ty_27 (ai ty_57 trivial))
 refine Run.seq ?_
 have fx := ai (@List.map_nil.{0, 0}) ft
 refine Run.go ?_
 refine End.kp [0] ?_
 refine Run.seq ?_
 refine Run.seq ?_
 refine Run.go ?_
 refine End.kp [0, 4] ?_
 refine Run.cond_any rfl ?_ ?_
 ·skip
  refine Run.seq ?_
  refine Run.go ?_
  refine End.kp [2] ?_
  refine Run.resC hQ ?_
  exact ⟨rfl, rfl⟩
 ·skip
  refine Run.skip ?_
  refine End.kp [0] ?_
  refine Run.seq ?_
  refine Run.go ?_
  refine End.kp [2] ?_
  refine Run.resC hQ ?_
  exact ⟨rfl, rfl⟩
theorem CloneR_cons (x : LReg) (xs : List LReg) (h : xs.length ≤ 1000000) (up : Frs) : ACalls Try.prog 55 [.im (.sl ((x :: xs).map LReg.im))] up fun v u => v = .im (.sl ((x :: xs).map LReg.im)) ∧ u = up := by
 have hall : (xs.map LReg.im).all (fun r => r.length == 3) = true := by simp
 have hlen : ((xs.map LReg.im).length + 1) * 32 ≤ 140737488355328 := by rw [List.length_map]; omega
 refine ACalls.code Try.func55 rfl 8 rfl (by simp) [.tmp 2] rfl fun Q hQ => ?_
 simp only [ups, PV.up, argEnv]
 have ft := ai ty_4 (ai ty_27 (ai ty_57 trivial))
 refine Run.seq ?_
 have fx := ai hlen (ai hall (ai (@List.map_cons.{0, 0}) ft))
 refine Run.go ?_
 refine End.kp [0] ?_
 refine Run.seq ?_
 refine Run.seq ?_
 refine Run.go ?_
 refine End.kp [0, 4] ?_
 refine Run.cond _ rfl (fun hb => ?_) (fun hb => ?_)
 ·have hb := hb
  simp at hb
 ·have hb := hb
  refine Run.skip ?_
  refine End.kp [0] ?_
  refine Run.seq ?_
  refine Run.go ?_
  refine End.move (Ghost.shut (t := 2) (j := 0) rfl rfl rfl) ?_
  simp only [eput, edel]
  refine End.kp [2] ?_
  refine Run.ret (hQ _ _ ⟨.inr rfl, _, rfl, _, rfl, ?_⟩)
  exact ⟨rfl, rfl⟩
theorem CloneR_ok (q : List LReg) (h : q.length ≤ 1000000) (up : Frs) : ACalls Try.prog 55 [.im (.sl (q.map LReg.im))] up fun v u => v = .im (.sl (q.map LReg.im)) ∧ u = up := by
 cases q with
 | nil => exact CloneR_nil up
 | cons x xs => exact CloneR_cons x xs (by simp at h; omega) up
theorem New_ok (inn : List ByteArray) (regs : List LReg) (h1 : inn.length ≤ 1000) (h2 : regs.length ≤ 1000) (f : List AObj) (rest : Frs) : ACalls Try.prog 62 [.im (.sl (strs inn)), .im (.sl (regs.map LReg.im))] (f :: rest) fun v u =>
  v = .ptr 0 (f.length + 1) 0 ∧ u = (f ++ [mkMap ⟨inn, regs, [], 0⟩, mkBox (f.length + 2) (f.length + 0) ⟨inn, regs, [], 0⟩, mkRow ⟨inn, regs, [], 0⟩]) :: rest := by
 refine ACalls.codeX Try.func62 rfl 12 rfl (by simp) [.tmp 4] rfl fun Q hQ => ?_
 simp only [ups, PV.up, argEnv]
 have ft := ai ty_3 (ai ty_9 (ai ty_26 (ai ty_27 (ai ty_57 (ai ty_123 (ai ty_154 (ai ty_156 trivial)))))))
 refine Run.seq ?_
 have fx := ft
 refine Run.go ?_
 refine End.kp [0, 1] ?_
 refine Run.seq ?_
 refine Run.region rfl fun K hK => GOps.sim ?_
 refine GOps.call rfl rfl rfl rfl (by kernel_rfl) (ACalls.sim ?_)
 refine (CloneS_ok inn (by omega) _).mono fun v u hv => ?_
 obtain ⟨rfl, rfl⟩ := hv
 refine ⟨_, _, rfl, GOps.sim ?_⟩
 refine GOps.call rfl rfl rfl rfl (by kernel_rfl) (ACalls.sim ?_)
 refine (CloneR_ok regs (by omega) _).mono fun v u hv => ?_
 obtain ⟨rfl, rfl⟩ := hv
 refine ⟨_, _, rfl, GOps.sim ?_⟩
 refine GOps.done (hK _ ?_); clear hK K
 refine End.move (Ghost.thawBox (j := 1) (i := 2) 59 2 (by decide) rfl rfl) ?_
 refine End.kp [4] ?_
 refine Run.ret (hQ _ _ ⟨.inr rfl, _, rfl, _, _, rfl, ?_⟩)
 exact ⟨rfl, rfl⟩
theorem mknown_ok (m : LMk) (hm : MkSmall m) (up : Frs) (d j r q : Nat) (hk : MkAt up d j r q m) (l : List Int) (hl : ∀ x ∈ l, 0 ≤ x ∧ x < 2 * (1 + (m.inn.length : Int) + m.regs.length + m.ands.length)) (hn : l.length ≤ 1000) : ACalls Try.prog 88 [.ptr d j 0, .im (.sl (ints l))] up fun v u => v = .im (.bool true) ∧ u = up := by
 have hm2 := hm
 obtain ⟨z1, z2, z3⟩ := hm
 refine ACalls.code Try.func88 rfl 21 rfl (by simp) [.tmp 4] rfl fun Q hQ => ?_
 simp only [ups, PV.up, argEnv]
 have ft := ai ty_3 (ai ty_4 (ai ty_29 (ai ty_36 (ai ty_55 (ai ty_123 trivial)))))
 refine Run.seq ?_
 have fx := ai ints_len ft
 refine Run.go ?_
 refine End.kp [0, 1] ?_
 refine Run.seq ?_
 refine Run.seq ?_
 refine Run.go ?_
 refine End.kp [0, 7, 8, 9] ?_
 refine Run.block ?_
 refine Run.ghost (Ghost.form [(0, .ptr (d + 1) j 0), (7, .im (.sl (ints l))), (8, .i l.length), (9, .i (0 : Nat))] 0 ⟨rfl, rfl, rfl, rfl, trivial⟩ rfl rfl) ?_
 refine Run.loop (fun m' st => ∃ i : Nat, m' = l.length - i ∧ i ≤ l.length ∧ st = ⟨[(0, .ptr (d + 1) j 0), (7, .im (.sl (ints l))), (8, .i l.length), (9, .i (i : Nat))], [], up⟩) l.length ⟨0, rfl, by omega, rfl⟩ fun m' st hI => ?_
 obtain ⟨i, rfl, hi, rfl⟩ := hI
 refine Run.seq ?_
 refine Run.go ?_
 refine End.kp [0, 7, 8, 9, 10] ?_
 refine Run.seq ?_
 refine Run.cond _ rfl (fun hb => ?_) (fun hb => ?_)
 ·have hb2 := of_decide_eq_true hb
  have hin : i < l.length := by omega
  have wi := wsucc hin (by omega)
  obtain ⟨x, hxi, hxm, hx⟩ := int_at l i hin
  obtain ⟨x1, x2⟩ := hl x hxm
  refine Run.skip ?_
  refine End.kp [0, 7, 8, 9] ?_
  refine Run.seq ?_
  refine Run.block ?_
  refine Run.seq ?_
  have fx := ai zTn (ai zNn (ai hx (ai wi fx)))
  refine Run.go ?_
  refine End.kp [0, 6, 7, 8, 9] ?_
  refine Run.seq ?_
  refine Run.region rfl fun K hK => GOps.sim ?_
  refine GOps.call rfl rfl rfl rfl (by kernel_rfl) (ACalls.sim ?_)
  refine (mNodes_ok m hm2 _ (d + 1) j r q ⟨hk.box, hk.row, hk.map⟩).mono fun v u hv => ?_
  obtain ⟨rfl, rfl⟩ := hv
  refine ⟨_, _, rfl, GOps.sim ?_⟩
  refine GOps.call rfl rfl rfl rfl (by kernel_rfl) (ACalls.sim ?_)
  refine (before_ok x (1 + (m.inn.length : Int) + m.regs.length + m.ands.length) x1 x2 (by omega) _).mono fun v u hv => ?_
  obtain ⟨rfl, rfl⟩ := hv
  refine ⟨_, _, rfl, GOps.sim ?_⟩
  refine GOps.done (hK _ ?_); clear hK K
  refine End.kp [0, 7, 8, 9, 17] ?_
  refine Run.cond _ rfl (fun hb => ?_) (fun hb => ?_)
  ·have hb2 := hb
   simp at hb
  ·have hb2 := hb
   refine Run.skip ?_
   refine End.blk ?_
   refine End.kp [0, 7, 8, 9] ?_
   have fx := ai zTn (ai zNn (ai hx (ai wi (ai ints_len ft))))
   refine Run.go ?_
   refine End.lp ?_
   refine ⟨l.length - (i + 1), _, by omega, Ghost.form [(0, .ptr (d + 1) j 0), (7, .im (.sl (ints l))), (8, .i l.length), (9, .i (i + 1 : Nat))] 0 ⟨rfl, rfl, rfl, rfl, trivial⟩ rfl rfl, i + 1, rfl, by omega, rfl⟩
 ·have hb2 := of_decide_eq_false hb
  refine Run.exit rfl ?_
  refine End.kp [] ?_
  refine Run.seq ?_
  refine Run.go ?_
  refine End.kp [4] ?_
  refine Run.ret (hQ _ _ ⟨.inr rfl, _, rfl, _, rfl, ?_⟩)
  exact ⟨rfl, rfl⟩
theorem mand_ok (a b : Int) (m : LMk) (hm : MkSmall m) (up : Frs) (d j r q : Nat) (hk : MkAt up d j r q m) (hn : m.ands.length < 4000) (a0 : 0 ≤ a ∧ a ≤ 1000000) (b0 : 0 ≤ b ∧ b ≤ 1000000) : ACalls Try.prog 91 [.ptr d j 0, .i a, .i b] up fun v u => v = .tup [.i (mkAnd m a b).1, .im (.bool true)] ∧ u = setMk up d j r q (mkAnd m a b).2 := by
 unfold mkAnd
 by_cases h0 : min a b = 0 ∨ min a b = flipL (max a b)
 ·rw [if_pos h0]
  refine (mand_zero a b h0 a0 b0 up d j).mono fun v u ⟨h1, h2⟩ => ⟨h1, by rw [h2]; exact (setMk_self hk).symm⟩
 rw [if_neg h0]
 by_cases h1 : min a b = 1 ∨ min a b = max a b
 ·rw [if_pos h1]
  refine (mand_one a b h0 h1 a0 b0 up d j).mono fun v u ⟨h1, h2⟩ => ⟨h1, by rw [h2]; exact (setMk_self hk).symm⟩
 rw [if_neg h1]
 cases hf : findA (min a b, max a b) m.ands 0 with
 | some k => exact (mand_old a b h0 h1 a0 b0 m hm up d j r q hk k hf).mono fun v u ⟨h1, h2⟩ => ⟨h1, by rw [h2]; exact (setMk_self hk).symm⟩
 | none => exact mand_new a b h0 h1 a0 b0 m hm up d j r q hk hf hn
theorem mAnd_ok (a b : Int) (m : LMk) (hm : MkSmall m) (up : Frs) (d j r q : Nat) (hk : MkAt up d j r q m) (hn : m.ands.length < 4000) (a0 : 0 ≤ a ∧ a < 2 * (1 + (m.inn.length : Int) + m.regs.length + m.ands.length)) (b0 : 0 ≤ b ∧ b < 2 * (1 + (m.inn.length : Int) + m.regs.length + m.ands.length)) : ACalls Try.prog 66 [.ptr d j 0, .i a, .i b] up fun v u => v = .i (mkAnd m a b).1 ∧ u = setMk up d j r q (mkAnd m a b).2 := by
 have hm2 := hm
 obtain ⟨z1, z2, z3⟩ := hm
 refine ACalls.code Try.func66 rfl 23 rfl (by simp) [.tmp 6] rfl fun Q hQ => ?_
 simp only [ups, PV.up, argEnv]
 have ft := ai ty_2 (ai ty_4 (ai ty_29 (ai ty_55 (ai ty_123 trivial))))
 refine Run.seq ?_
 have fx := ft
 refine Run.go ?_
 refine End.kp [0, 1, 2] ?_
 refine Run.seq ?_
 refine Run.seq ?_
 refine Run.region rfl fun K hK => GOps.sim ?_
 refine GOps.call rfl rfl rfl rfl (by kernel_rfl) (ACalls.sim ?_)
 refine (mknown_ok m hm2 _ (d + 1) j r q ⟨hk.box, hk.row, hk.map⟩ [a, b] (fun x hx => by simp at hx; rcases hx with rfl | rfl <;> assumption) (by simp)).mono fun v u hv => ?_
 obtain ⟨rfl, rfl⟩ := hv
 refine ⟨_, _, rfl, GOps.sim ?_⟩
 refine GOps.done (hK _ ?_); clear hK K
 refine End.kp [0, 1, 2, 14] ?_
 refine Run.cond _ rfl (fun hb => ?_) (fun hb => ?_)
 ·have hb2 := hb
  simp at hb
 ·have hb2 := hb
  refine Run.skip ?_
  refine End.kp [0, 1, 2] ?_
  refine Run.seq ?_
  have fx := ft
  refine Run.region rfl fun K hK => GOps.sim ?_
  refine GOps.call rfl rfl rfl rfl (by kernel_rfl) (ACalls.sim ?_)
  refine (mand_ok a b m hm2 _ (d + 1) j r q ⟨hk.box, hk.row, hk.map⟩ hn (by omega) (by omega)).mono fun v u hv => ?_
  obtain ⟨rfl, rfl⟩ := hv
  refine ⟨_, _, rfl, GOps.sim ?_⟩
  refine GOps.done (hK _ ?_); clear hK K
  refine End.kp [7] ?_
  refine Run.seq ?_
  refine Run.go ?_
  refine End.kp [6] ?_
  refine Run.ret (hQ _ _ ⟨.inr rfl, _, rfl, _, rfl, ?_⟩)
  exact ⟨rfl, rfl⟩

set_option maxRecDepth 100000
set_option maxHeartbeats 4000000
abbrev iI (x : Int) : List Im := [.int .i64 x]
theorem CloneRI_nil (k : Nat) (up : Frs) (hk : fget up 0 k = some .dead) : ACalls Try.prog 55 [.im (.sl (([] : List LReg).map LReg.im))] up fun v u => v = .ms 0 k 0 ∧ u = fset up 0 k (.row 57 3 (([] : List LReg).map LReg.im) 0) := by
 refine ACalls.codeI Try.func55 rfl 8 rfl (by simp) [.tmp 2] rfl k fun Q hQ => ?_
 simp only [ups, PV.up, argEnv]
 have ft := ai ty_4 (ai ty_27 (ai ty_57 trivial))
 refine Run.seq ?_
 have fx := ai (@List.map_nil.{0, 0}) ft
 refine Run.go ?_
 refine End.kp [0] ?_
 refine Run.seq ?_
 refine Run.seq ?_
 refine Run.go ?_
 refine End.kp [0, 4] ?_
 refine Run.cond_any rfl ?_ ?_
 ·skip
  refine Run.seq ?_
  refine Run.go ?_
  refine End.move (Ghost.thaw (u := 2) 57 3 (by decide) rfl) ?_
  refine End.kp [2] ?_
  refine Run.resI 0 hQ hk ?_
  exact ⟨rfl, rfl⟩
 ·skip
  refine Run.skip ?_
  refine End.kp [0] ?_
  refine Run.seq ?_
  refine Run.go ?_
  refine End.kp [2] ?_
  refine Run.resI 0 hQ hk ?_
  exact ⟨rfl, rfl⟩
theorem CloneRI_cons (k : Nat) (x : LReg) (xs : List LReg) (h : xs.length ≤ 1000000) (up : Frs) (hk : fget up 0 k = some .dead) : ACalls Try.prog 55 [.im (.sl ((x :: xs).map LReg.im))] up fun v u => v = .ms 0 k (x :: xs).length ∧ u = fset up 0 k (.row 57 3 ((x :: xs).map LReg.im) 0) := by
 have hall : (xs.map LReg.im).all (fun r => r.length == 3) = true := by simp
 have hlen : (xs.length + 1) * 32 ≤ 140737488355328 := by omega
 refine ACalls.codeI Try.func55 rfl 8 rfl (by simp) [.tmp 2] rfl k fun Q hQ => ?_
 simp only [ups, PV.up, argEnv]
 have ft := ai ty_4 (ai ty_27 (ai ty_57 trivial))
 refine Run.seq ?_
 have fx := ai (@List.length_map.{0, 0}) (ai hlen (ai hall (ai (@List.map_cons.{0, 0}) ft)))
 refine Run.go ?_
 refine End.kp [0] ?_
 refine Run.seq ?_
 refine Run.seq ?_
 refine Run.go ?_
 refine End.kp [0, 4] ?_
 refine Run.cond _ rfl (fun hb => ?_) (fun hb => ?_)
 ·have hb := hb
  simp at hb
 ·have hb := hb
  refine Run.skip ?_
  refine End.kp [0] ?_
  refine Run.seq ?_
  refine Run.go ?_
  refine End.kp [2] ?_
  refine Run.resI 0 hQ hk ?_
  exact ⟨rfl, rfl⟩
theorem CloneRI_ok (q : List LReg) (h : q.length ≤ 1000000) (k : Nat) (up : Frs) (hk : fget up 0 k = some .dead) : ACalls Try.prog 55 [.im (.sl (q.map LReg.im))] up fun v u => v = .ms 0 k q.length ∧ u = fset up 0 k (.row 57 3 (q.map LReg.im) 0) := by
 cases q with
 | nil => exact CloneRI_nil k up hk
 | cons x xs => exact CloneRI_cons k x xs (by simp at h; omega) up hk
theorem CloneN_nil (up : Frs) : ACalls Try.prog 101 [.im (.sl (([] : List (Int × Int)).map nd))] up fun v u => v = .im (.sl (([] : List (Int × Int)).map nd)) ∧ u = up := by
 refine ACalls.code Try.func101 rfl 8 rfl (by simp) [.tmp 2] rfl fun Q hQ => ?_
 simp only [ups, PV.up, argEnv]
 have ft := ai ty_4 (ai ty_28 (ai ty_59 trivial))
 refine Run.seq ?_
 have fx := ai (@List.map_nil.{0, 0}) ft
 refine Run.go ?_
 refine End.kp [0] ?_
 refine Run.seq ?_
 refine Run.seq ?_
 refine Run.go ?_
 refine End.kp [0, 4] ?_
 refine Run.cond_any rfl ?_ ?_
 ·skip
  refine Run.seq ?_
  refine Run.go ?_
  refine End.kp [2] ?_
  refine Run.resC hQ ?_
  exact ⟨rfl, rfl⟩
 ·skip
  refine Run.skip ?_
  refine End.kp [0] ?_
  refine Run.seq ?_
  refine Run.go ?_
  refine End.kp [2] ?_
  refine Run.resC hQ ?_
  exact ⟨rfl, rfl⟩
theorem CloneN_cons (x : (Int × Int)) (xs : List (Int × Int)) (h : xs.length ≤ 1000000) (up : Frs) : ACalls Try.prog 101 [.im (.sl ((x :: xs).map nd))] up fun v u => v = .im (.sl ((x :: xs).map nd)) ∧ u = up := by
 have hall : (xs.map nd).all (fun r => r.length == 2) = true := by simp
 have hlen : ((xs.map nd).length + 1) * 16 ≤ 140737488355328 := by rw [List.length_map]; omega
 refine ACalls.code Try.func101 rfl 8 rfl (by simp) [.tmp 2] rfl fun Q hQ => ?_
 simp only [ups, PV.up, argEnv]
 have ft := ai ty_4 (ai ty_28 (ai ty_59 trivial))
 refine Run.seq ?_
 have fx := ai hlen (ai hall (ai (@List.map_cons.{0, 0}) ft))
 refine Run.go ?_
 refine End.kp [0] ?_
 refine Run.seq ?_
 refine Run.seq ?_
 refine Run.go ?_
 refine End.kp [0, 4] ?_
 refine Run.cond _ rfl (fun hb => ?_) (fun hb => ?_)
 ·have hb := hb
  simp at hb
 ·have hb := hb
  refine Run.skip ?_
  refine End.kp [0] ?_
  refine Run.seq ?_
  refine Run.go ?_
  refine End.move (Ghost.shut (t := 2) (j := 0) rfl rfl rfl) ?_
  simp only [eput, edel]
  refine End.kp [2] ?_
  refine Run.ret (hQ _ _ ⟨.inr rfl, _, rfl, _, rfl, ?_⟩)
  exact ⟨rfl, rfl⟩
theorem CloneN_ok (q : List (Int × Int)) (h : q.length ≤ 1000000) (up : Frs) : ACalls Try.prog 101 [.im (.sl (q.map nd))] up fun v u => v = .im (.sl (q.map nd)) ∧ u = up := by
 cases q with
 | nil => exact CloneN_nil up
 | cons x xs => exact CloneN_cons x xs (by simp at h; omega) up
def ToOk (to : List Int) : Prop := ∀ x ∈ to, 0 ≤ x ∧ x ≤ 1000000
theorem ToOk.get {to : List Int} (h : ToOk to) (k : Nat) : 0 ≤ to.getD k 0 ∧ to.getD k 0 ≤ 1000000 := by
 rw [List.getD_eq_getElem?_getD]
 cases hk : to[k]? with
 | none => simp
 | some x => exact h x (List.mem_of_getElem? hk)
theorem GNodes_ok (g : LGraph) (hg : GSmall g) (up : Frs) : ACalls Try.prog 17 [g.pv] up fun v u => v = .i (1 + g.inn.length + g.regs.length + g.ands.length) ∧ u = up := by
 have hg2 := hg
 obtain ⟨z1, z2, z3, z4, z5⟩ := hg
 have w1 : IntKind.i64.wrap (1 + (g.inn.length : Int) + g.regs.length + g.ands.length) = 1 + (g.inn.length : Int) + g.regs.length + g.ands.length := wrap64 (by omega)
 refine ACalls.code Try.func17 rfl 9 rfl (by simp) [.tmp 2] rfl fun Q hQ => ?_
 simp only [ups, PV.up, argEnv]
 have ft := ai ty_3 (ai ty_28 (ai ty_31 (ai ty_59 trivial)))
 refine Run.seq ?_
 have fx := ai w1 (ai nd_len ft)
 refine Run.go ?_
 refine End.kp [1] ?_
 refine Run.seq ?_
 refine Run.drawA fun K hK => ?_
 refine DOps.sim ?_
 refine DOps.call (.i (1 + (g.inn.length : Int) + g.regs.length)) [] [] rfl rfl rfl rfl (by kernel_rfl) (by simp [Agree]) (fun u hu => GFirst_ok g hg2 u) ?_
 refine DOps.sim ?_
 refine DOps.nil (metAll_quiet rfl) (hK _ ?_); clear hK K
 refine End.kp [2] ?_
 refine Run.ret (hQ _ _ ⟨.inr rfl, _, rfl, _, rfl, ?_⟩)
 exact ⟨rfl, rfl⟩

set_option maxHeartbeats 4000000

set_option maxHeartbeats 4000000

set_option maxHeartbeats 4000000
theorem mkAnd_range (m : LMk) (a b : Int) (a0 : 0 ≤ a ∧ a < 2 * (m.first + m.ands.length)) (b0 : 0 ≤ b ∧ b < 2 * (m.first + m.ands.length)) :
  (0 ≤ (mkAnd m a b).1 ∧ (mkAnd m a b).1 < 2 * (m.first + (mkAnd m a b).2.ands.length)) ∧ (mkAnd m a b).2.inn = m.inn ∧ (mkAnd m a b).2.regs = m.regs ∧ m.ands.length ≤ (mkAnd m a b).2.ands.length ∧ (mkAnd m a b).2.ands.length ≤ m.ands.length + 1 := by
 unfold mkAnd
 split
 ·refine ⟨⟨by simp, ?_⟩, rfl, rfl, Nat.le_refl _, by simp⟩
  simp only
  omega
 ·split
  ·refine ⟨⟨?_, ?_⟩, rfl, rfl, Nat.le_refl _, by simp⟩ <;> simp only <;> omega
  ·split
   ·rename_i k hk
    obtain ⟨h1, h2⟩ := findA_range _ _ _ _ hk
    have h3 := (List.getElem?_eq_some_iff.1 h2).1
    refine ⟨⟨?_, ?_⟩, rfl, rfl, Nat.le_refl _, by simp⟩ <;> simp only [LMk.first] at * <;> omega
   ·refine ⟨⟨?_, ?_⟩, rfl, rfl, by simp, by simp⟩
    ·simp only [LMk.first] at *; omega
    ·simp only [LMk.first, List.length_append, List.length_cons, List.length_nil] at *; omega

set_option maxHeartbeats 4000000

set_option maxHeartbeats 4000000

set_option maxHeartbeats 4000000

set_option maxRecDepth 100000
set_option maxHeartbeats 4000000
theorem CloneL_nil (up : Frs) : ACalls Try.prog 102 [.im (.sl (([] : List Int).map iI))] up fun v u => v = .im (.sl (([] : List Int).map iI)) ∧ u = up := by
 refine ACalls.code Try.func102 rfl 8 rfl (by simp) [.tmp 2] rfl fun Q hQ => ?_
 simp only [ups, PV.up, argEnv]
 have ft := ai ty_4 (ai ty_29 (ai ty_55 trivial))
 refine Run.seq ?_
 have fx := ai (@List.map_nil.{0, 0}) ft
 refine Run.go ?_
 refine End.kp [0] ?_
 refine Run.seq ?_
 refine Run.seq ?_
 refine Run.go ?_
 refine End.kp [0, 4] ?_
 refine Run.cond_any rfl ?_ ?_
 ·skip
  refine Run.seq ?_
  refine Run.go ?_
  refine End.kp [2] ?_
  refine Run.resC hQ ?_
  exact ⟨rfl, rfl⟩
 ·skip
  refine Run.skip ?_
  refine End.kp [0] ?_
  refine Run.seq ?_
  refine Run.go ?_
  refine End.kp [2] ?_
  refine Run.resC hQ ?_
  exact ⟨rfl, rfl⟩
theorem CloneL_cons (x : Int) (xs : List Int) (h : xs.length ≤ 1000000) (up : Frs) : ACalls Try.prog 102 [.im (.sl ((x :: xs).map iI))] up fun v u => v = .im (.sl ((x :: xs).map iI)) ∧ u = up := by
 have hall : (xs.map iI).all (fun r => r.length == 1) = true := by simp
 have hlen : ((xs.map iI).length + 1) * 8 ≤ 140737488355328 := by rw [List.length_map]; omega
 refine ACalls.code Try.func102 rfl 8 rfl (by simp) [.tmp 2] rfl fun Q hQ => ?_
 simp only [ups, PV.up, argEnv]
 have ft := ai ty_4 (ai ty_29 (ai ty_55 trivial))
 refine Run.seq ?_
 have fx := ai hlen (ai hall (ai (@List.map_cons.{0, 0}) ft))
 refine Run.go ?_
 refine End.kp [0] ?_
 refine Run.seq ?_
 refine Run.seq ?_
 refine Run.go ?_
 refine End.kp [0, 4] ?_
 refine Run.cond _ rfl (fun hb => ?_) (fun hb => ?_)
 ·have hb := hb
  simp at hb
 ·have hb := hb
  refine Run.skip ?_
  refine End.kp [0] ?_
  refine Run.seq ?_
  refine Run.go ?_
  refine End.move (Ghost.shut (t := 2) (j := 0) rfl rfl rfl) ?_
  simp only [eput, edel]
  refine End.kp [2] ?_
  refine Run.ret (hQ _ _ ⟨.inr rfl, _, rfl, _, rfl, ?_⟩)
  exact ⟨rfl, rfl⟩
theorem CloneL_ok (q : List Int) (h : q.length ≤ 1000000) (up : Frs) : ACalls Try.prog 102 [.im (.sl (q.map iI))] up fun v u => v = .im (.sl (q.map iI)) ∧ u = up := by
 cases q with
 | nil => exact CloneL_nil up
 | cons x xs => exact CloneL_cons x xs (by simp at h; omega) up
def mkPair (m : LMk) (a b c d : Int) : Int × LMk :=
 (flipL (mkAnd (mkAnd (mkAnd m a b).2 c d).2 (flipL (mkAnd m a b).1) (flipL (mkAnd (mkAnd m a b).2 c d).1)).1, (mkAnd (mkAnd (mkAnd m a b).2 c d).2 (flipL (mkAnd m a b).1) (flipL (mkAnd (mkAnd m a b).2 c d).1)).2)
abbrev LMk.top (m : LMk) : Int := 2 * (m.first + m.ands.length)
abbrev InM (m : LMk) (a : Int) : Prop := 0 ≤ a ∧ a < m.top
structure AfterM (m m' : LMk) (n : Nat) : Prop where
 inn : m'.inn = m.inn
 regs : m'.regs = m.regs
 less : m.ands.length ≤ m'.ands.length
 most : m'.ands.length ≤ m.ands.length + n
theorem AfterM.first {m m' : LMk} {n : Nat} (h : AfterM m m' n) : m'.first = m.first := by rw [LMk.first, LMk.first, h.inn, h.regs]
theorem AfterM.small {m m' : LMk} {n : Nat} (h : AfterM m m' n) (hm : MkSmall m) (hn : m.ands.length + n ≤ 4000) : MkSmall m' := ⟨by rw [h.inn]; exact hm.inn, by rw [h.regs]; exact hm.regs, by have := h.most; omega⟩
theorem AfterM.up {m m' : LMk} {n : Nat} (h : AfterM m m' n) {a : Int} (ha : InM m a) : InM m' a := by
 have := h.first
 have := h.less
 unfold InM LMk.top at *
 omega
theorem AfterM.trans {m m' m2 : LMk} {n k : Nat} (h : AfterM m m' n) (h' : AfterM m' m2 k) : AfterM m m2 (n + k) := ⟨by rw [h'.inn, h.inn], by rw [h'.regs, h.regs], by have := h.less; have := h'.less; omega, by have := h.most; have := h'.most; omega⟩
theorem AfterM.refl (m : LMk) (n : Nat) : AfterM m m n := ⟨rfl, rfl, Nat.le_refl _, by omega⟩
theorem mkAnd_after (m : LMk) {a b : Int} (ha : InM m a) (hb : InM m b) : AfterM m (mkAnd m a b).2 1 ∧ InM (mkAnd m a b).2 (mkAnd m a b).1 := by
 obtain ⟨h1, h2, h3, h4, h5⟩ := mkAnd_range m a b ha hb
 refine ⟨⟨h2, h3, h4, h5⟩, ?_⟩
 have e : (mkAnd m a b).2.first = m.first := by rw [LMk.first, LMk.first, h2, h3]
 unfold InM LMk.top
 rw [e]
 exact h1
theorem flip_in {m : LMk} {a : Int} (h : InM m a) : InM m (flipL a) := by
 have h1 := flipL_lt a (m.first + m.ands.length) h.1 h.2
 exact h1
theorem mkPair_after (m : LMk) {a b c d : Int} (ha : InM m a) (hb : InM m b) (hc : InM m c) (hd : InM m d) : AfterM m (mkPair m a b c d).2 3 ∧ InM (mkPair m a b c d).2 (mkPair m a b c d).1 := by
 obtain ⟨p1, p2⟩ := mkAnd_after m ha hb
 obtain ⟨q1, q2⟩ := mkAnd_after (mkAnd m a b).2 (p1.up hc) (p1.up hd)
 obtain ⟨r1, r2⟩ := mkAnd_after (mkAnd (mkAnd m a b).2 c d).2 (flip_in (q1.up p2)) (flip_in q2)
 exact ⟨(p1.trans q1).trans r1, flip_in r2⟩
theorem Not_ok (l : Int) (h0 : 0 ≤ l) (h1 : l ≤ 1000000000) (up : Frs) : ACalls Try.prog 90 [.i l] up fun v u => v = .i (flipL l) ∧ u = up := by
 have d1 : decide (l < 0) = false := decide_eq_false (by omega)
 have hx := xor_one l h0 h1
 refine ACalls.code Try.func90 rfl 8 rfl (by simp) [.tmp 2] rfl fun Q hQ => ?_
 simp only [ups, PV.up, argEnv]
 have ft := ai ty_4 (ai ty_55 trivial)
 refine Run.seq ?_
 have fx := ai hx (ai d1 ft)
 refine Run.go ?_
 refine End.kp [0] ?_
 refine Run.seq ?_
 refine Run.seq ?_
 refine Run.go ?_
 refine End.kp [0, 4] ?_
 refine Run.cond _ rfl (fun hb => ?_) (fun hb => ?_)
 ·have hb2 := hb
  simp at hb
 ·have hb2 := hb
  refine Run.skip ?_
  refine End.kp [0] ?_
  refine Run.seq ?_
  refine Run.go ?_
  refine End.kp [2] ?_
  refine Run.ret (hQ _ _ ⟨.inr rfl, _, rfl, _, rfl, ?_⟩)
  exact ⟨rfl, rfl⟩
theorem mpair_ok (a b c e : Int) (m : LMk) (hm : MkSmall m) (up : Frs) (d j r q : Nat) (hk : MkAt up d j r q m) (hn : m.ands.length + 3 ≤ 4000) (ha : InM m a) (hb : InM m b) (hc : InM m c) (he : InM m e) : ACalls Try.prog 89 [.ptr d j 0, .i a, .i b, .i c, .i e] up fun v u => v = .tup [.i (mkPair m a b c e).1, .im (.bool true)] ∧ u = setMk up d j r q (mkPair m a b c e).2 := by
 have hm2 := hm
 obtain ⟨z1, z2, z3⟩ := hm
 obtain ⟨p1, p2⟩ := mkAnd_after m ha hb
 obtain ⟨q1, q2⟩ := mkAnd_after (mkAnd m a b).2 (p1.up hc) (p1.up he)
 obtain ⟨r1, r2⟩ := mkAnd_after (mkAnd (mkAnd m a b).2 c e).2 (flip_in (q1.up p2)) (flip_in q2)
 have s1 := p1.small hm2 (by omega)
 have l1 := p1.most
 have s2 := q1.small s1 (by omega)
 have l2 := q1.most
 have f1 := p1.first
 have f2 := q1.first
 have f3 := r1.first
 have l3 := r1.most
 have hP : mkPair m a b c e = (flipL (mkAnd (mkAnd (mkAnd m a b).2 c e).2 (flipL (mkAnd m a b).1) (flipL (mkAnd (mkAnd m a b).2 c e).1)).1, (mkAnd (mkAnd (mkAnd m a b).2 c e).2 (flipL (mkAnd m a b).1) (flipL (mkAnd (mkAnd m a b).2 c e).1)).2) := rfl
 have hb' := p1.up hc
 have he' := p1.up he
 have hx' := flip_in (q1.up p2)
 have hy' := flip_in q2
 unfold InM LMk.top LMk.first at *
 have k1 := fun u (hu : MkAt u (d + 1) j r q m) => mand_ok a b m hm2 u (d + 1) j r q hu (by omega) (by omega) (by omega)
 generalize mkAnd m a b = X at *
 obtain ⟨x, m1⟩ := X
 simp only at *
 have k2 := fun u (hu : MkAt u (d + 1) j r q m1) => mand_ok c e m1 s1 u (d + 1) j r q hu (by omega) (by omega) (by omega)
 generalize mkAnd m1 c e = Y at *
 obtain ⟨y, m2⟩ := Y
 simp only at *
 have k3 := fun u (hu : MkAt u (d + 1) j r q m2) => mand_ok (flipL x) (flipL y) m2 s2 u (d + 1) j r q hu (by omega) (by omega) (by omega)
 generalize mkAnd m2 (flipL x) (flipL y) = Z at *
 obtain ⟨z, m3⟩ := Z
 simp only at *
 refine ACalls.code Try.func89 rfl 50 rfl (by simp) [.tmp 10, .tmp 11] rfl fun Q hQ => ?_
 simp only [ups, PV.up, argEnv]
 have ft := ai ty_4 (ai ty_55 (ai ty_123 trivial))
 refine Run.seq ?_
 have fx := ft
 refine Run.go ?_
 refine End.kp [0, 1, 2, 3, 4] ?_
 refine Run.seq ?_
 refine Run.region rfl fun K hK => GOps.sim ?_
 refine GOps.call rfl rfl rfl rfl (by kernel_rfl) (ACalls.sim ?_)
 refine (k1 _ ⟨hk.box, hk.row, hk.map⟩).mono fun v u hv => ?_
 obtain ⟨rfl, rfl⟩ := hv
 refine ⟨_, _, rfl, GOps.sim ?_⟩
 refine GOps.done (hK _ ?_); clear hK K
 refine End.kp [0, 3, 4, 12, 13] ?_
 refine Run.seq ?_
 refine Run.region rfl fun K hK => GOps.sim ?_
 refine GOps.call rfl rfl rfl rfl (by kernel_rfl) (ACalls.sim ?_)
 refine (k2 _ (by have hh := setMk_at (m' := m1) hk; exact ⟨hh.box, hh.row, hh.map⟩)).mono fun v u hv => ?_
 obtain ⟨rfl, rfl⟩ := hv
 refine ⟨_, _, rfl, GOps.sim ?_⟩
 refine GOps.done (hK _ ?_); clear hK K
 refine End.kp [0, 12, 13, 14, 15] ?_
 refine Run.seq ?_
 refine Run.seq ?_
 refine Run.go ?_
 refine End.kp [0, 12, 14, 36] ?_
 refine Run.cond _ rfl (fun hb => ?_) (fun hb => ?_)
 ·have hb2 := hb
  simp at hb
 ·have hb2 := hb
  refine Run.skip ?_
  refine End.kp [0, 12, 14] ?_
  refine Run.seq ?_
  have fx := ft
  refine Run.region rfl fun K hK => GOps.sim ?_
  refine GOps.call rfl rfl rfl rfl (by kernel_rfl) (ACalls.sim ?_)
  refine (Not_ok x (by omega) (by omega) _).mono fun v u hv => ?_
  obtain ⟨rfl, rfl⟩ := hv
  refine ⟨_, _, rfl, GOps.sim ?_⟩
  refine GOps.call rfl rfl rfl rfl (by kernel_rfl) (ACalls.sim ?_)
  refine (Not_ok y (by omega) (by omega) _).mono fun v u hv => ?_
  obtain ⟨rfl, rfl⟩ := hv
  refine ⟨_, _, rfl, GOps.sim ?_⟩
  refine GOps.call rfl rfl rfl rfl (by kernel_rfl) (ACalls.sim ?_)
  refine (k3 _ (by have hh := setMk_at (m' := m2) (setMk_at (m' := m1) hk); exact ⟨hh.box, hh.row, hh.map⟩)).mono fun v u hv => ?_
  obtain ⟨rfl, rfl⟩ := hv
  refine ⟨_, _, rfl, GOps.sim ?_⟩
  refine GOps.done (hK _ ?_); clear hK K
  refine End.kp [13, 16] ?_
  refine Run.seq ?_
  refine Run.seq ?_
  refine Run.go ?_
  refine End.kp [16, 47] ?_
  refine Run.cond _ rfl (fun hb => ?_) (fun hb => ?_)
  ·have hb2 := hb
   simp at hb
  ·have hb2 := hb
   refine Run.skip ?_
   refine End.kp [16] ?_
   refine Run.seq ?_
   have fx := ft
   refine Run.region rfl fun K hK => GOps.sim ?_
   refine GOps.call rfl rfl rfl rfl (by kernel_rfl) (ACalls.sim ?_)
   refine (Not_ok z (by omega) (by omega) _).mono fun v u hv => ?_
   obtain ⟨rfl, rfl⟩ := hv
   refine ⟨_, _, rfl, GOps.sim ?_⟩
   refine GOps.done (hK _ ?_); clear hK K
   refine End.kp [10, 11] ?_
   refine Run.ret (hQ _ _ ⟨.inr rfl, _, rfl, _, rfl, ?_⟩)
   rw [hP]
   exact ⟨rfl, by have h1 := setMk_at (m' := m1) hk; show setMk (setMk (setMk up d j r q m1) d j r q m2) d j r q m3 = _; rw [setMk_set h1, setMk_set hk]⟩

set_option maxHeartbeats 4000000
theorem shl1 (n : Nat) (h : n ≤ 6) : IntKind.i64.wrap (1 * 2 ^ min n IntKind.i64.bits) = ((2 ^ n : Nat) : Int) := by
 have h64 : min n IntKind.i64.bits = n := by show min n 64 = n; omega
 rw [h64, Int.one_mul]
 have : n = 0 ∨ n = 1 ∨ n = 2 ∨ n = 3 ∨ n = 4 ∨ n = 5 ∨ n = 6 := by omega
 rcases this with rfl | rfl | rfl | rfl | rfl | rfl | rfl <;> decide

set_option maxHeartbeats 4000000
theorem AfterM.more {m m' : LMk} {n k : Nat} (h : AfterM m m' n) (hk : n ≤ k) : AfterM m m' k := ⟨h.inn, h.regs, h.less, by have := h.most; omega⟩

set_option maxRecDepth 100000
set_option maxHeartbeats 4000000

set_option maxHeartbeats 4000000

set_option maxHeartbeats 4000000

section

def lb (v : List Int) (l : Int) : Bool := bit0 (ofV v l)
theorem lb_litB (v : List Int) (l : Int) : lb v l = (litB v l).getLsbD 0 := by
 rw [← bv_of]; rfl
theorem lb_def (v : List Int) (l : Int) : lb v l = if l % 2 = 1 then !bit0 (v.getD (l / 2).toNat 0) else bit0 (v.getD (l / 2).toNat 0) := by
 unfold lb ofV
 split
 ·rw [vnot, bit0_not]
 ·rfl
theorem lb_even (v : List Int) (k : Nat) : lb v (2 * (k : Int)) = bit0 (v.getD k 0) := by
 rw [lb_def, if_neg (by omega), show (2 * (k : Int) / 2).toNat = k by omega]
theorem node_lb {g : LGraph} (hg : GraphOk g) {inn st : List Int} (h1 : inn.length = g.inn.length) (h2 : st.length = g.regs.length) (i : Nat) (p : Int × Int) (hp : g.ands[i]? = some p) : bit0 ((graphVals g inn st).getD (1 + g.inn.length + g.regs.length + i) 0) = (lb (graphVals g inn st) p.1 && lb (graphVals g inn st) p.2) := by
 have h := g_and hg h1 h2 i p hp
 rw [← lb_even, show (2 * ((1 + g.inn.length + g.regs.length + i : Nat) : Int)) = 2 * (1 + (g.inn.length : Int) + g.regs.length + i) by omega, lb_litB, h, lb_litB, lb_litB]
 simp
section
variable {g : LGraph} (hg : GraphOk g)
include hg
end

section
variable {g : LGraph} (hg : GraphOk g) {inn st : List Int} (h1 : inn.length = g.inn.length) (h2 : st.length = g.regs.length)
include hg h1 h2
end


section
variable {g : LGraph} {inn st : List Int} (h1 : inn.length = g.inn.length) (h2 : st.length = g.regs.length)
include h1 h2
end


abbrev vl (base : List Int) (m : LMk) (l : Int) : Bool := lb (valsA m.ands base) l
section
variable {g : LGraph} {inn st : List Int} (h1 : inn.length = g.inn.length) (h2 : st.length = g.regs.length)
include h1 h2
end
section
variable {g : LGraph} {inn st : List Int} (h1 : inn.length = g.inn.length) (h2 : st.length = g.regs.length)
include h1 h2
end

end
def lbit (b : Nat → Bool) (l : Int) : Bool := if l % 2 = 1 then !b (l / 2).toNat else b (l / 2).toNat
theorem lb_lbit (v : List Int) (l : Int) : lb v l = lbit (fun k => bit0 (v.getD k 0)) l := lb_def v l
theorem lbit_congr {b b' : Nat → Bool} {n : Nat} (h : ∀ k, k < n → b k = b' k) (l : Int) (l0 : 0 ≤ l) (l1 : l < 2 * (n : Int)) : lbit b l = lbit b' l := by
 unfold lbit
 rw [h _ (by omega)]
structure Sat (g : LGraph) (r s : List Bool) (b : Nat → Bool) : Prop where
 zero : b 0 = false
 inn : ∀ i, i < g.inn.length → b (1 + i) = r.getD i false
 regs : ∀ k, k < g.regs.length → b (1 + g.inn.length + k) = s.getD k false
 ands : ∀ (j : Nat) (p : Int × Int), g.ands[j]? = some p → b (1 + g.inn.length + g.regs.length + j) = (lbit b p.1 && lbit b p.2)
theorem sat_uniq {g : LGraph} (hg : GraphOk g) {r s : List Bool} {b b' : Nat → Bool} (h : Sat g r s b) (h' : Sat g r s b') : ∀ k, k < 1 + g.inn.length + g.regs.length + g.ands.length → b k = b' k := by
 intro k
 induction k using Nat.strongRecOn with
 | _ k ih =>
  intro hk
  by_cases c0 : k = 0
  ·subst c0
   rw [h.zero, h'.zero]
  by_cases c1 : k < 1 + g.inn.length
  ·obtain ⟨i, rfl⟩ : ∃ i, k = 1 + i := ⟨k - 1, by omega⟩
   rw [h.inn i (by omega), h'.inn i (by omega)]
  by_cases c2 : k < 1 + g.inn.length + g.regs.length
  ·obtain ⟨i, rfl⟩ : ∃ i, k = 1 + g.inn.length + i := ⟨k - (1 + g.inn.length), by omega⟩
   rw [h.regs i (by omega), h'.regs i (by omega)]
  ·obtain ⟨j, rfl⟩ : ∃ j, k = 1 + g.inn.length + g.regs.length + j := ⟨k - (1 + g.inn.length + g.regs.length), by omega⟩
   obtain ⟨p, hp, _, _⟩ := node_at g.ands j (by omega)
   obtain ⟨⟨p0, p1⟩, p2, p3⟩ := hg.ands j p hp
   rw [h.ands j p hp, h'.ands j p hp, lbit_congr (n := 1 + g.inn.length + g.regs.length + j) (fun q hq => ih q hq (by omega)) p.1 p0 (by omega), lbit_congr (n := 1 + g.inn.length + g.regs.length + j) (fun q hq => ih q hq (by omega)) p.2 p2 (by omega)]
abbrev bitsG (g : LGraph) (r s : List Bool) : Nat → Bool := fun k => bit0 ((graphVals g (lanes0 r) (lanes0 s)).getD k 0)
theorem sat_bits {g : LGraph} (hg : GraphOk g) {r s : List Bool} (h1 : r.length = g.inn.length) (h2 : s.length = g.regs.length) : Sat g r s (bitsG g r s) := by
 have hb : ([0] ++ lanes0 r ++ lanes0 s).length = 1 + g.inn.length + g.regs.length := by simp; omega
 have pre : ∀ k, k < 1 + g.inn.length + g.regs.length → bitsG g r s k = bit0 (([0] ++ lanes0 r ++ lanes0 s).getD k 0) := fun k hk => by
  show bit0 ((graphVals g (lanes0 r) (lanes0 s)).getD k 0) = _
  rw [graphVals, valsA_pre _ _ _ (by omega)]
 have lane : ∀ (t : List Bool) i, bit0 ((lanes0 t).getD i 0) = t.getD i false := fun t i => by
  have h := (lane_same0 (lanes0 t)).2 i
  simp only [List.getD_eq_getElem?_getD, List.getElem?_map]
  cases t[i]? with
  | none => rfl
  | some x => cases x <;> rfl
 refine ⟨?_, fun i hi => ?_, fun k hk => ?_, fun j p hp => ?_⟩
 ·rw [pre 0 (by omega)]
  show bit0 0 = false
  decide
 ·rw [pre _ (by omega), ← lane r i]
  congr 1
  simp only [List.getD_eq_getElem?_getD]
  rw [List.append_assoc, List.getElem?_append_right (by simp), List.getElem?_append_left (by simp; omega)]
  simp
 ·rw [pre _ (by omega), ← lane s k]
  congr 1
  simp only [List.getD_eq_getElem?_getD]
  rw [List.getElem?_append_right (by simp; omega)]
  simp only [List.length_append, List.length_cons, List.length_nil, List.length_map]
  rw [show 1 + g.inn.length + k - (0 + 1 + r.length) = k by omega]
 ·have := node_lb hg (inn := lanes0 r) (st := lanes0 s) (by simp [h1]) (by simp [h2]) j p hp
  rw [← lb_lbit, ← lb_lbit]
  exact this

section
def atL (l : Int) : Nat := (if l < 0 then -2 * l + 1 else 2 * l).toNat
structure Sol where
 n : Nat
 cl : List (List Int)
 wl : List (List Nat)
 val : List Int
 lev : List Nat
 why : List Int
 tr : List Int
 st : List Nat
 head : Nat
 next : Nat
namespace Sol
def is (S : Sol) (l : Int) : Int := if l < 0 then -(S.val.getD l.natAbs 0) else S.val.getD l.natAbs 0
def sgn (l : Int) : Int := if l < 0 then -1 else 1
def set (S : Sol) (l w : Int) : Sol := { S with val := S.val.set l.natAbs (sgn l), lev := S.lev.set l.natAbs S.st.length, why := S.why.set l.natAbs w, tr := S.tr ++ [l] }
def push (wl : List (List Nat)) (i k : Nat) : List (List Nat) := wl.set i (wl.getD i [] ++ [k])
def add (S : Sol) (c : List Int) : Sol := { S with cl := S.cl ++ [c], wl := push (push S.wl (atL (c.getD 0 0)) S.cl.length) (atL (c.getD 1 0)) S.cl.length }
end Sol
def LitOk (n : Nat) (l : Int) : Prop := l ≠ 0 ∧ l.natAbs ≤ n
structure SLen (S : Sol) : Prop where
 n : S.n ≤ 20000
 val : S.val.length = S.n + 1
 lev : S.lev.length = S.n + 1
 why : S.why.length = S.n + 1
 wl : S.wl.length = 2 * S.n + 2
 tri : ∀ x ∈ S.val, -1 ≤ x ∧ x ≤ 1
 tr : ∀ l ∈ S.tr, LitOk S.n l
 trn : S.tr.length ≤ S.n
 stn : S.st.length ≤ S.n
theorem atL_lt {n : Nat} {l : Int} (h : LitOk n l) : atL l < 2 * n + 2 := by
 have := h.2
 unfold atL
 split <;> omega
theorem atL_cast {n : Nat} {l : Int} (h : LitOk n l) : ((atL l : Nat) : Int) = if l < 0 then -2 * l + 1 else 2 * l := by
 unfold atL
 have := h.2
 split <;> omega
theorem gtD_mem {α : Type} {l : List α} {i : Nat} {d : α} (h : i < l.length) : l.getD i d ∈ l := by
 rw [List.getD_eq_getElem?_getD, List.getElem?_eq_getElem h]
 exact List.getElem_mem h
theorem getD_some {α : Type} {l : List α} {i : Nat} (d : α) (h : i < l.length) : l[i]? = some (l.getD i d) := by
 rw [List.getD_eq_getElem?_getD, List.getElem?_eq_getElem h]
 rfl

end
section
namespace Sol
def swapAt (c : List Int) (i j : Nat) : List Int := (c.set i (c.getD j 0)).set j (c.getD i 0)
def scan (S : Sol) (c : List Int) (j : Nat) : Nat := if h : j < c.length ∧ S.is (c.getD j 0) = -1 then scan S c (j + 1) else j
termination_by c.length - j
def turn (l : Int) (c : List Int) : List Int := if c.getD 0 0 = l then swapAt c 0 1 else c
def putC (S : Sol) (k : Nat) (c : List Int) : Sol := { S with cl := S.cl.set k c }
def visit (l : Int) (S : Sol) (kept : List Nat) (k : Nat) : Sol × List Nat × Bool :=
 let c := turn l (S.cl.getD k [])
 if S.is (c.getD 0 0) = 1 then (putC S k c, kept ++ [k], false)
 else
  let j := scan S c 2
  if j < c.length then
   let c' := swapAt c 1 j
   ({ putC S k c' with wl := push S.wl (atL (c'.getD 1 0)) k }, kept, false)
  else if S.is (c.getD 0 0) = -1 then (putC S k c, kept ++ [k], true)
  else ((putC S k c).set (c.getD 0 0) k, kept ++ [k], false)
def putW (S : Sol) (i : Nat) (ks : List Nat) : Sol := { S with wl := S.wl.set i ks }
def inner (l : Int) : List Nat → Sol → List Nat → Sol × Option Nat
 | [], S, kept => (putW S (atL l) kept, none)
 | k :: ks, S, kept => match visit l S kept k with
  | (S', kept', true) => (putW S' (atL l) (kept' ++ ks), some k)
  | (S', kept', false) => inner l ks S' kept'
def spread : Nat → Sol → Sol × Option Nat
 | 0, S => (S, none)
 | f + 1, S => if S.head < S.tr.length then
   (match inner (-(S.tr.getD S.head 0)) (S.wl.getD (atL (-(S.tr.getD S.head 0))) []) { S with head := S.head + 1 } [] with
    | (S', some k) => (S', some k)
    | (S', none) => spread f S')
  else (S, none)
end Sol
theorem nodup_len : ∀ (n : Nat) (l : List Nat), l.Nodup → (∀ x ∈ l, 1 ≤ x ∧ x ≤ n) → l.length ≤ n
 | 0, l, _, h => by
  cases l with
  | nil => simp
  | cons x xs => have := h x (by simp); omega
 | n + 1, l, hn, h => by
  by_cases hm : n + 1 ∈ l
  ·have h1 := nodup_len n (l.erase (n + 1)) (hn.erase _) (fun x hx => by
    have hx2 := (List.Nodup.mem_erase_iff hn).1 hx
    have := h x hx2.2
    omega)
   rw [List.length_erase_of_mem hm] at h1
   omega
  ·have := nodup_len n l hn (fun x hx => by
    have h2 := h x hx
    have : x ≠ n + 1 := fun e => hm (e ▸ hx)
    omega)
   omega
structure SW (S : Sol) (B : Nat) : Prop where
 len : SLen S
 cls : ∀ c ∈ S.cl, 2 ≤ c.length ∧ c.length ≤ 100000 ∧ ∀ l ∈ c, LitOk S.n l
 csz : S.cl.length ≤ 1000000
 wls : ∀ ks ∈ S.wl, ∀ k ∈ ks, k < S.cl.length
 asg : ∀ l ∈ S.tr, S.is l = 1
 nd : (S.tr.map Int.natAbs).Nodup
 tot : (S.wl.map List.length).sum ≤ B
 hd : S.head ≤ S.tr.length
theorem sum_le_mem {l : List Nat} {x : Nat} (h : x ∈ l) : x ≤ l.sum := by
 induction l with
 | nil => simp at h
 | cons y ys ih =>
  rcases List.mem_cons.1 h with rfl | h
  ·simp
  ·have := ih h
   simp
   omega
theorem sum_set {l : List Nat} {i x : Nat} (h : i < l.length) : (l.set i x).sum + l[i] = l.sum + x := by
 induction l generalizing i with
 | nil => simp at h
 | cons y ys ih =>
  cases i with
  | zero => simp; omega
  | succ i =>
   have := ih (i := i) (by simpa using h)
   simp only [List.set_cons_succ, List.sum_cons, List.getElem_cons_succ]
   omega
theorem SW.list {S : Sol} {B : Nat} (h : SW S B) {i : Nat} (hi : i < 2 * S.n + 2) : (S.wl.getD i []).length ≤ B ∧ ∀ k ∈ S.wl.getD i [], k < S.cl.length := by
 have hm := gtD_mem (l := S.wl) (i := i) (d := []) (by rw [h.len.wl]; exact hi)
 exact ⟨Nat.le_trans (sum_le_mem (List.mem_map_of_mem hm)) h.tot, h.wls _ hm⟩
theorem SW.cl {S : Sol} {B : Nat} (h : SW S B) {k : Nat} (hk : k < S.cl.length) : 2 ≤ (S.cl.getD k []).length ∧ (S.cl.getD k []).length ≤ 100000 ∧ ∀ l ∈ S.cl.getD k [], LitOk S.n l := h.cls _ (gtD_mem hk)
theorem swapAt_len (c : List Int) (i j : Nat) : (Sol.swapAt c i j).length = c.length := by simp [Sol.swapAt]
theorem swapAt_mem {c : List Int} {i j : Nat} (hi : i < c.length) (hj : j < c.length) : ∀ l ∈ Sol.swapAt c i j, l ∈ c := fun l hl => by
 unfold Sol.swapAt at hl
 rcases List.mem_or_eq_of_mem_set hl with h | rfl
 ·rcases List.mem_or_eq_of_mem_set h with h | rfl
  ·exact h
  ·exact gtD_mem hj
 ·exact gtD_mem hi
theorem turn_len (l : Int) (c : List Int) : (Sol.turn l c).length = c.length := by unfold Sol.turn; split <;> simp [swapAt_len]
theorem turn_mem {l : Int} {c : List Int} (h : 2 ≤ c.length) : ∀ x ∈ Sol.turn l c, x ∈ c := fun x hx => by
 unfold Sol.turn at hx
 split at hx
 ·exact swapAt_mem (by omega) (by omega) x hx
 ·exact hx
theorem SW.putC {S : Sol} {B : Nat} (h : SW S B) {k : Nat} {c : List Int} (hc : 2 ≤ c.length ∧ c.length ≤ 100000 ∧ ∀ l ∈ c, LitOk S.n l) : SW (S.putC k c) B := by
 refine ⟨⟨h.len.n, h.len.val, h.len.lev, h.len.why, h.len.wl, h.len.tri, h.len.tr, h.len.trn, h.len.stn⟩, fun x hx => ?_, by simpa [Sol.putC] using h.csz, fun ks hks k' hk' => by simpa [Sol.putC] using h.wls ks hks k' hk', h.asg, h.nd, h.tot, h.hd⟩
 rcases List.mem_or_eq_of_mem_set (show x ∈ S.cl.set k c from hx) with h1 | rfl
 ·exact h.cls x h1
 ·exact hc
theorem sgn_ne (l : Int) : Sol.sgn l ≠ 0 := by unfold Sol.sgn; split <;> simp
theorem getD_set {α : Type} (l : List α) (i j : Nat) (x d : α) (h : i < l.length) : (l.set i x).getD j d = if j = i then x else l.getD j d := by
 simp only [List.getD_eq_getElem?_getD, List.getElem?_set]
 by_cases e : i = j
 ·subst e; simp [h]
 ·rw [if_neg e, if_neg (fun h => e h.symm)]
theorem is_set_same {S : Sol} {l w : Int} (h : l.natAbs < S.val.length) (h0 : l ≠ 0) : (S.set l w).is l = 1 := by
 simp only [Sol.is, Sol.set, getD_set _ _ _ _ _ h, if_true, Sol.sgn]
 split <;> omega
theorem is_set_ne {S : Sol} {l w x : Int} (h : l.natAbs < S.val.length) (h0 : x.natAbs ≠ l.natAbs) : (S.set l w).is x = S.is x := by
 simp only [Sol.is, Sol.set, getD_set _ _ _ _ _ h, if_neg h0]
theorem SW.set {S : Sol} {B : Nat} (h : SW S B) {l : Int} (w : Int) (hl : LitOk S.n l) (hu : S.val.getD l.natAbs 0 = 0) : SW (S.set l w) B := by
 have hn := h.len
 have hnew : l.natAbs ∉ S.tr.map Int.natAbs := fun hm => by
  obtain ⟨x, hx, e⟩ := List.mem_map.1 hm
  have := h.asg x hx
  unfold Sol.is at this
  rw [e, hu] at this
  split at this <;> omega
 have hlt : l.natAbs < S.val.length := by rw [hn.val]; have := hl.2; omega
 have hnd : ((S.tr ++ [l]).map Int.natAbs).Nodup := by
  rw [List.map_append, List.nodup_append]
  refine ⟨h.nd, by simp, fun a ha b hb e => hnew ?_⟩
  simp only [List.map_cons, List.map_nil, List.mem_singleton] at hb
  rw [← hb, ← e]
  exact ha
 have htr : ∀ x ∈ S.tr ++ [l], LitOk S.n x := fun x hx => by
  rcases List.mem_append.1 hx with h1 | h1
  ·exact hn.tr x h1
  ·rw [List.mem_singleton.1 h1]; exact hl
 have htl : (S.tr ++ [l]).length ≤ S.n := by
  have := nodup_len S.n _ hnd (fun x hx => by
   obtain ⟨y, hy, rfl⟩ := List.mem_map.1 hx
   have := htr y hy
   unfold LitOk at this
   omega)
  simpa using this
 refine ⟨⟨hn.n, by simpa [Sol.set] using hn.val, by simpa [Sol.set] using hn.lev, by simpa [Sol.set] using hn.why, hn.wl, fun x hx => ?_, htr, htl, hn.stn⟩, h.cls, h.csz, h.wls, fun x hx => ?_, hnd, h.tot, by have := h.hd; simp only [Sol.set, List.length_append]; omega⟩
 ·rcases List.mem_or_eq_of_mem_set (show x ∈ S.val.set l.natAbs (Sol.sgn l) from hx) with h1 | rfl
  ·exact hn.tri x h1
  ·unfold Sol.sgn; split <;> omega
 ·rcases List.mem_append.1 (show x ∈ S.tr ++ [l] from hx) with h1 | h1
  ·rw [is_set_ne hlt (fun e => hnew (List.mem_map.2 ⟨x, h1, e⟩))]
   exact h.asg x h1
  ·rw [List.mem_singleton.1 h1]
   exact is_set_same hlt hl.1
theorem SW.push {S : Sol} {B : Nat} (h : SW S B) {i k : Nat} (hi : i < 2 * S.n + 2) (hk : k < S.cl.length) : SW { S with wl := Sol.push S.wl i k } (B + 1) := by
 have hn := h.len
 have hlt : i < S.wl.length := by rw [hn.wl]; exact hi
 refine ⟨⟨hn.n, hn.val, hn.lev, hn.why, by simp [Sol.push]; exact hn.wl, hn.tri, hn.tr, hn.trn, hn.stn⟩, h.cls, h.csz, fun ks hks k' hk' => ?_, h.asg, h.nd, ?_, h.hd⟩
 ·rcases List.mem_or_eq_of_mem_set (show ks ∈ S.wl.set i _ from hks) with h1 | rfl
  ·exact h.wls ks h1 k' hk'
  ·rcases List.mem_append.1 hk' with h1 | h1
   ·exact (h.list hi).2 k' h1
   ·rw [List.mem_singleton.1 h1]; exact hk
 ·have := sum_set (l := S.wl.map List.length) (i := i) (x := (S.wl.getD i []).length + 1) (by simpa using hlt)
  simp only [List.getElem_map] at this
  have e : (Sol.push S.wl i k).map List.length = (S.wl.map List.length).set i ((S.wl.getD i []).length + 1) := by simp [Sol.push, List.map_set]
  have e2 : S.wl.getD i [] = S.wl[i] := by rw [List.getD_eq_getElem?_getD, List.getElem?_eq_getElem hlt]; rfl
  rw [e]
  rw [e2] at this ⊢
  have := h.tot
  omega
theorem is_zero {S : Sol} {l : Int} (h : S.is l = 0) : S.val.getD l.natAbs 0 = 0 := by
 unfold Sol.is at h
 split at h <;> omega
theorem is_cases {S : Sol} (h : SLen S) {l : Int} (hl : LitOk S.n l) : S.is l = 1 ∨ S.is l = -1 ∨ S.is l = 0 := by
 have := h.tri _ (gtD_mem (l := S.val) (i := l.natAbs) (d := 0) (by rw [h.val]; have := hl.2; omega))
 unfold Sol.is
 split <;> omega
theorem visit_sw {S : Sol} {B : Nat} (h : SW S B) {l : Int} {kept : List Nat} {k : Nat} (hk : k < S.cl.length) : SW (Sol.visit l S kept k).1 (B + 1) ∧ (Sol.visit l S kept k).1.n = S.n ∧ (Sol.visit l S kept k).1.cl.length = S.cl.length ∧ (Sol.visit l S kept k).1.st = S.st ∧ (Sol.visit l S kept k).1.head = S.head := by
 obtain ⟨c1, c2, c3⟩ := h.cl hk
 have t1 : 2 ≤ (Sol.turn l (S.cl.getD k [])).length ∧ (Sol.turn l (S.cl.getD k [])).length ≤ 100000 ∧ ∀ x ∈ Sol.turn l (S.cl.getD k []), LitOk S.n x := by
  rw [turn_len]
  exact ⟨c1, c2, fun x hx => c3 x (turn_mem c1 x hx)⟩
 have up : ∀ {S' : Sol}, SW S' B → SW S' (B + 1) := fun h => ⟨h.len, h.cls, h.csz, h.wls, h.asg, h.nd, Nat.le_trans h.tot (by omega), h.hd⟩
 unfold Sol.visit
 simp only
 generalize Sol.turn l (S.cl.getD k []) = c at t1
 have l0 : LitOk S.n (c.getD 0 0) := t1.2.2 _ (gtD_mem (by omega))
 split
 ·exact ⟨up (h.putC t1), rfl, by simp [Sol.putC], rfl, rfl⟩
 ·rename_i hn1
  split
  ·rename_i hj
   have s1 : 2 ≤ (Sol.swapAt c 1 (S.scan c 2)).length ∧ (Sol.swapAt c 1 (S.scan c 2)).length ≤ 100000 ∧ ∀ x ∈ Sol.swapAt c 1 (S.scan c 2), LitOk S.n x := by
    rw [swapAt_len]
    exact ⟨t1.1, t1.2.1, fun x hx => t1.2.2 x (swapAt_mem (by omega) hj x hx)⟩
   have hp := h.putC (k := k) s1
   exact ⟨SW.push (S := S.putC k (Sol.swapAt c 1 (S.scan c 2))) hp (atL_lt (s1.2.2 _ (gtD_mem (by omega)))) (by simp [Sol.putC]; exact hk), rfl, by simp [Sol.putC], rfl, rfl⟩
  ·split
   ·exact ⟨up (h.putC t1), rfl, by simp [Sol.putC], rfl, rfl⟩
   ·rename_i hn2
    have h0 : S.is (c.getD 0 0) = 0 := by
     rcases is_cases h.len l0 with e | e | e
     ·exact absurd e hn1
     ·exact absurd e hn2
     ·exact e
    exact ⟨up ((h.putC t1).set (S := S.putC k c) _ l0 (is_zero h0)), rfl, by simp [Sol.putC, Sol.set], rfl, rfl⟩
theorem drop_gtD {α : Type} {l : List α} {i : Nat} (d : α) (h : i < l.length) : l.drop i = l.getD i d :: l.drop (i + 1) := by
 rw [List.drop_eq_getElem_cons h, List.getD_eq_getElem?_getD, List.getElem?_eq_getElem h]
 rfl
theorem inner_ok {l : Int} {k : Nat} {ks kept kept' : List Nat} {S S' : Sol} (h : Sol.visit l S kept k = (S', kept', false)) : Sol.inner l (k :: ks) S kept = Sol.inner l ks S' kept' := by rw [Sol.inner, h]
theorem inner_bad {l : Int} {k : Nat} {ks kept kept' : List Nat} {S S' : Sol} (h : Sol.visit l S kept k = (S', kept', true)) : Sol.inner l (k :: ks) S kept = (Sol.putW S' (atL l) (kept' ++ ks), some k) := by rw [Sol.inner, h]
theorem scan_more {S : Sol} {c : List Int} {j : Nat} (h : j < c.length) (h1 : S.is (c.getD j 0) = -1) : S.scan c j = S.scan c (j + 1) := by rw [Sol.scan, dif_pos ⟨h, h1⟩]
theorem scan_stop {S : Sol} {c : List Int} {j : Nat} (h : ¬ (j < c.length ∧ S.is (c.getD j 0) = -1)) : S.scan c j = j := by rw [Sol.scan, dif_neg h]
theorem SW.putW {S : Sol} {B B' i : Nat} {ks : List Nat} (h : SW S B) (hi : i < 2 * S.n + 2) (hk : ∀ k ∈ ks, k < S.cl.length) (hl : B + ks.length ≤ B' + (S.wl.getD i []).length) : SW (S.putW i ks) B' := by
 have hn := h.len
 have hlt : i < S.wl.length := by rw [hn.wl]; exact hi
 refine ⟨⟨hn.n, hn.val, hn.lev, hn.why, by simp [Sol.putW]; exact hn.wl, hn.tri, hn.tr, hn.trn, hn.stn⟩, h.cls, h.csz, fun x hx k' hk' => ?_, h.asg, h.nd, ?_, h.hd⟩
 ·rcases List.mem_or_eq_of_mem_set (show x ∈ S.wl.set i ks from hx) with h1 | rfl
  ·exact h.wls x h1 k' hk'
  ·exact hk k' hk'
 ·have := sum_set (l := S.wl.map List.length) (i := i) (x := ks.length) (by simpa using hlt)
  simp only [List.getElem_map] at this
  have e : (S.putW i ks).wl.map List.length = (S.wl.map List.length).set i ks.length := by simp [Sol.putW, List.map_set]
  have e2 : S.wl.getD i [] = S.wl[i] := by rw [List.getD_eq_getElem?_getD, List.getElem?_eq_getElem hlt]; rfl
  rw [e]
  rw [e2] at hl
  have := h.tot
  omega

end
section
namespace Sol
def skip (v : List Int) (i : Nat) : Nat := if h : i < v.length ∧ v.getD i 0 ≠ 0 then skip v (i + 1) else i
termination_by v.length - i
def start (S : Sol) (p : Nat) : Sol := { S with next := p, st := S.st ++ [S.tr.length] }
def nextTo (S : Sol) (p : Nat) : Sol := { S with next := p }
def decide (S : Sol) : Sol × Bool :=
 if skip S.val S.next = S.n + 1 then (S.nextTo (S.n + 1), false)
 else ((S.start (skip S.val S.next)).set (-((skip S.val S.next : Nat) : Int)) (-1), true)
def zero (v : List Int) (ls : List Int) : List Int := ls.foldl (fun v l => v.set l.natAbs 0) v
def low (p : Nat) (ls : List Int) : Nat := ls.foldl (fun p l => min p l.natAbs) p
def back (S : Sol) (d : Nat) : Sol :=
 if d < S.st.length then { S with val := zero S.val (S.tr.drop (S.st.getD d 0)), next := low S.next (S.tr.drop (S.st.getD d 0)), tr := S.tr.take (S.st.getD d 0), st := S.st.take d, head := S.st.getD d 0 } else S
def undo (S : Sol) (ls : List Int) : Sol := { S with val := zero S.val ls, next := low S.next ls }
def cut (S : Sol) (t d : Nat) : Sol := { S with tr := S.tr.take t, st := S.st.take d, head := t }
def refuted (S : Sol) : List Int := (List.range S.st.length).reverse.map fun d => -(S.tr.getD (S.st.getD d 0) 0)
end Sol
theorem back_eq {S : Sol} {d : Nat} (h : d < S.st.length) : S.back d = (S.undo (S.tr.drop (S.st.getD d 0))).cut (S.st.getD d 0) d := by rw [Sol.back, if_pos h]; rfl
theorem zero_len (v ls : List Int) : (Sol.zero v ls).length = v.length := by
 unfold Sol.zero
 induction ls generalizing v with
 | nil => rfl
 | cons x xs ih => rw [List.foldl_cons, ih]; simp
theorem zero_snoc (v ls : List Int) (l : Int) : Sol.zero v (ls ++ [l]) = (Sol.zero v ls).set l.natAbs 0 := by simp [Sol.zero, List.foldl_append]
theorem low_snoc (p : Nat) (ls : List Int) (l : Int) : Sol.low p (ls ++ [l]) = min (Sol.low p ls) l.natAbs := by simp [Sol.low, List.foldl_append]
theorem take_next (l : List Int) (t i : Nat) (h : t + i < l.length) : (l.drop t).take (i + 1) = (l.drop t).take i ++ [l.getD (t + i) 0] := by
 rw [List.take_add_one, List.getElem?_drop, getD_some 0 h]
 rfl
def Sol.dec (S : Sol) (d : Nat) : Int := -(S.tr.getD (S.st.getD d 0) 0)
theorem refuted_len (S : Sol) : S.refuted.length = S.st.length := by simp [Sol.refuted]
theorem refuted_next (S : Sol) (m : Nat) (h : m < S.st.length) : S.refuted.take (m + 1) = S.refuted.take m ++ [S.dec (S.st.length - 1 - m)] := by
 rw [List.take_add_one]
 congr 1
 simp [Sol.refuted, Sol.dec, List.getElem?_map, List.getElem?_reverse, h]
theorem skip_more {v : List Int} {i : Nat} (h : i < v.length) (h1 : v.getD i 0 ≠ 0) : Sol.skip v i = Sol.skip v (i + 1) := by rw [Sol.skip, dif_pos ⟨h, h1⟩]
theorem skip_stop {v : List Int} {i : Nat} (h : ¬ (i < v.length ∧ v.getD i 0 ≠ 0)) : Sol.skip v i = i := by rw [Sol.skip, dif_neg h]
theorem SW.start {S : Sol} {B : Nat} (h : SW S B) {p : Nat} (hs : S.st.length + 1 ≤ S.n) : SW (S.start p) B :=
 ⟨⟨h.len.n, h.len.val, h.len.lev, h.len.why, h.len.wl, h.len.tri, h.len.tr, h.len.trn, by simpa [Sol.start] using hs⟩, h.cls, h.csz, h.wls, h.asg, h.nd, h.tot, h.hd⟩
theorem SW.nextTo {S : Sol} {B : Nat} (h : SW S B) (p : Nat) : SW (S.nextTo p) B :=
 ⟨⟨h.len.n, h.len.val, h.len.lev, h.len.why, h.len.wl, h.len.tri, h.len.tr, h.len.trn, h.len.stn⟩, h.cls, h.csz, h.wls, h.asg, h.nd, h.tot, h.hd⟩
theorem free_len {S : Sol} {B : Nat} (h : SW S B) {p : Nat} (h1 : 1 ≤ p) (h2 : p ≤ S.n) (h0 : S.val.getD p 0 = 0) : S.tr.length + 1 ≤ S.n := by
 have := (h.set (l := -(p : Int)) 0 ⟨by omega, by omega⟩ (by rw [show (-(p : Int)).natAbs = p by omega]; exact h0)).len.trn
 simpa [Sol.set] using this

end
section
theorem mem_getD {α : Type} {l : List α} {d x : α} (h : x ∈ l) : ∃ k, k < l.length ∧ l.getD k d = x := by
 obtain ⟨k, hk, e⟩ := List.getElem_of_mem h
 exact ⟨k, hk, by rw [List.getD_eq_getElem?_getD, List.getElem?_eq_getElem hk]; exact e⟩
def Dis (c : List Int) : Prop := ∀ i j, i < c.length → j < c.length → c.getD i 0 = c.getD j 0 → i = j
theorem swapAt_get {c : List Int} {i j : Nat} (hi : i < c.length) (hj : j < c.length) (k : Nat) : (Sol.swapAt c i j).getD k 0 = c.getD (if k = j then i else if k = i then j else k) 0 := by
 unfold Sol.swapAt
 rw [getD_set _ _ _ _ _ (by simp; exact hj), getD_set _ _ _ _ _ hi]
 split
 ·rfl
 ·split <;> rfl
theorem swapAt_dis {c : List Int} {i j : Nat} (h : Dis c) (hi : i < c.length) (hj : j < c.length) : Dis (Sol.swapAt c i j) := fun a b ha hb e => by
 rw [swapAt_len] at ha hb
 rw [swapAt_get hi hj, swapAt_get hi hj] at e
 have := h _ _ (by split; omega; split <;> omega) (by split; omega; split <;> omega) e
 repeat' split at this
 all_goals omega
theorem swapAt_iff {c : List Int} {i j : Nat} (hi : i < c.length) (hj : j < c.length) (x : Int) : x ∈ Sol.swapAt c i j ↔ x ∈ c := ⟨swapAt_mem hi hj x, fun hx => by
 obtain ⟨k, hk, e⟩ := mem_getD (d := 0) hx
 have h1 : (if k = j then i else if k = i then j else k) < (Sol.swapAt c i j).length := by rw [swapAt_len]; split; omega; split <;> omega
 have h2 := swapAt_get hi hj (if k = j then i else if k = i then j else k)
 rw [← e]
 have h3 : (Sol.swapAt c i j).getD (if k = j then i else if k = i then j else k) 0 = c.getD k 0 := by
  rw [h2]
  congr 1
  split <;> split <;> (try split) <;> omega
 rw [← h3]
 exact gtD_mem h1⟩
def lv (st : List Nat) (i : Nat) : Nat := (st.filter fun s => decide (s ≤ i)).length
theorem lv_le (st : List Nat) (i : Nat) : lv st i ≤ st.length := List.length_filter_le _ _
theorem lv_all {st : List Nat} {i : Nat} (h : ∀ x ∈ st, x ≤ i) : lv st i = st.length := by
 unfold lv
 rw [List.filter_eq_self.2 (fun x hx => decide_eq_true (h x hx))]
theorem lv_mono (st : List Nat) {i j : Nat} (h : i ≤ j) : lv st i ≤ lv st j := by
 unfold lv
 induction st with
 | nil => simp
 | cons x xs ih =>
  simp only [List.filter_cons]
  by_cases h1 : x ≤ i
  ·rw [if_pos (decide_eq_true h1), if_pos (decide_eq_true (by omega))]; simp; omega
  ·rw [if_neg (by simpa using h1)]
   split
   ·simp; omega
   ·omega
theorem lv_snoc {st : List Nat} {t i : Nat} (h : i < t) : lv (st ++ [t]) i = lv st i := by
 unfold lv
 rw [List.filter_append]
 simp [h]
theorem lv_pos {st : List Nat} {i : Nat} (h : i ∈ st) : 0 < lv st i := by
 unfold lv
 exact List.length_pos_of_mem (List.mem_filter.2 ⟨h, by simp⟩)
namespace Sol
def lvl (S : Sol) (l : Int) : Nat := S.lev.getD l.natAbs 0
def wy (S : Sol) (l : Int) : Int := S.why.getD l.natAbs 0
def lit (S : Sol) (i : Nat) : Int := S.tr.getD i 0
def cla (S : Sol) (k : Nat) : List Int := S.cl.getD k []
def Forced (S : Sol) (i k : Nat) (l : Int) : Prop := k < S.cl.length ∧ l ∈ S.cla k ∧ ∀ x ∈ S.cla k, x ≠ l → ∃ j, j < i ∧ S.lit j = -x
def Why (S : Sol) (i : Nat) : Prop := (S.wy (S.lit i) = -1 ∧ (i ∈ S.st ∨ lv S.st i = 0)) ∨ ∃ k : Nat, S.wy (S.lit i) = (k : Int) ∧ S.Forced i k (S.lit i)
def Wat (S : Sol) : Prop := ∀ i, i < 2 * S.n + 2 → (S.wl.getD i []).Nodup ∧ ∀ k, k ∈ S.wl.getD i [] ↔ k < S.cl.length ∧ (atL ((S.cla k).getD 0 0) = i ∨ atL ((S.cla k).getD 1 0) = i)
def Pro (S : Sol) (ex : Nat → Int → Prop) : Prop := ∀ k, k < S.cl.length → ∀ p q, (p = 0 ∧ q = 1 ∨ p = 1 ∧ q = 0) → ∀ j, j < S.head → S.lit j = -((S.cla k).getD p 0) → ¬ ex k ((S.cla k).getD p 0) → S.is ((S.cla k).getD q 0) = 1 ∧ S.lvl ((S.cla k).getD q 0) ≤ S.lvl ((S.cla k).getD p 0)
end Sol
structure Inv (S : Sol) : Prop where
 dis : ∀ k, k < S.cl.length → Dis (S.cla k)
 asd : ∀ v, 1 ≤ v → v ≤ S.n → S.val.getD v 0 ≠ 0 → ∃ i, i < S.tr.length ∧ (S.lit i).natAbs = v
 sts : ∀ i j, i < j → j < S.st.length → S.st.getD i 0 < S.st.getD j 0
 stl : ∀ x ∈ S.st, x ≤ S.tr.length
 lev : ∀ i, i < S.tr.length → S.lvl (S.lit i) = lv S.st i
 why : ∀ i, i < S.tr.length → S.Why i
 nxt : ∀ v, 1 ≤ v → v < S.next → S.val.getD v 0 ≠ 0
theorem slit_ok {S : Sol} {B : Nat} (h : SW S B) {i : Nat} (hi : i < S.tr.length) : LitOk S.n (S.lit i) := h.len.tr _ (gtD_mem hi)
theorem lit_is {S : Sol} {B : Nat} (h : SW S B) {i : Nat} (hi : i < S.tr.length) : S.is (S.lit i) = 1 := h.asg _ (gtD_mem hi)
theorem is_neg' (S : Sol) {x : Int} (h : x ≠ 0) : S.is (-x) = -(S.is x) := by
 unfold Sol.is
 rw [Int.natAbs_neg]
 split <;> split <;> omega
theorem lit_inj {S : Sol} {B : Nat} (h : SW S B) {i j : Nat} (hi : i < S.tr.length) (hj : j < S.tr.length) (e : (S.lit i).natAbs = (S.lit j).natAbs) : i = j := by
 have hn := h.nd
 have e1 : ∀ i, i < S.tr.length → (S.tr.map Int.natAbs)[i]? = some (S.lit i).natAbs := fun i hi => by rw [List.getElem?_map, getD_some 0 hi]; rfl
 exact (List.getElem?_inj (by simpa using hi) hn).1 (by rw [e1 i hi, e1 j hj, e])
theorem false_on {S : Sol} {B : Nat} (h : SW S B) (k : Inv S) {x : Int} (hx : LitOk S.n x) (hf : S.is x = -1) : ∃ i, i < S.tr.length ∧ S.lit i = -x := by
 have h0 := hx.1
 have h1 := hx.2
 obtain ⟨i, hi, e⟩ := k.asd x.natAbs (by omega) h1 (fun h0 => by
  unfold Sol.is at hf
  rw [h0] at hf
  split at hf <;> omega)
 refine ⟨i, hi, ?_⟩
 have := lit_is h hi
 by_cases e2 : S.lit i = x
 ·rw [e2, hf] at this; omega
 ·omega
theorem on_false {S : Sol} {B : Nat} (h : SW S B) {x : Int} {i : Nat} (hi : i < S.tr.length) (e : S.lit i = -x) : S.is x = -1 := by
 have h1 := lit_is h hi
 have h2 := (slit_ok h hi).1
 rw [e, is_neg' S (by omega)] at h1
 omega
theorem lit_set {S : Sol} {l w : Int} {i : Nat} : (S.set l w).lit i = if i < S.tr.length then S.lit i else if i = S.tr.length then l else 0 := by
 simp only [Sol.lit, Sol.set, List.getD_eq_getElem?_getD, List.getElem?_append]
 split
 ·rfl
 ·rename_i h
  by_cases e : i = S.tr.length
  ·subst e; simp
  ·rw [if_neg e, List.getElem?_eq_none (by simp; omega)]; rfl
theorem lvl_set {S : Sol} {l w x : Int} (h : l.natAbs < S.lev.length) : (S.set l w).lvl x = if x.natAbs = l.natAbs then S.st.length else S.lvl x := by
 simp only [Sol.lvl, Sol.set, getD_set _ _ _ _ _ h]
theorem wy_set {S : Sol} {l w x : Int} (h : l.natAbs < S.why.length) : (S.set l w).wy x = if x.natAbs = l.natAbs then w else S.wy x := by
 simp only [Sol.wy, Sol.set, getD_set _ _ _ _ _ h]
theorem off_trail {S : Sol} {B : Nat} (h : SW S B) {l : Int} (hu : S.val.getD l.natAbs 0 = 0) {i : Nat} (hi : i < S.tr.length) : (S.lit i).natAbs ≠ l.natAbs := fun e => by
 have h1 := lit_is h hi
 unfold Sol.is at h1
 rw [e, hu] at h1
 split at h1 <;> omega
theorem Inv.set {S : Sol} {B : Nat} (h : SW S B) (k : Inv S) {l w : Int} (hl : LitOk S.n l) (hu : S.val.getD l.natAbs 0 = 0) (hw : (w = -1 ∧ (S.tr.length ∈ S.st ∨ lv S.st S.tr.length = 0)) ∨ ∃ c : Nat, w = (c : Int) ∧ S.Forced S.tr.length c l) : Inv (S.set l w) := by
 have h2 := hl.2
 have hv : l.natAbs < S.val.length := by rw [h.len.val]; omega
 have hle : l.natAbs < S.lev.length := by rw [h.len.lev]; omega
 have hwy : l.natAbs < S.why.length := by rw [h.len.why]; omega
 have htl : (S.set l w).tr.length = S.tr.length + 1 := by simp [Sol.set]
 have hF : ∀ i c x, i ≤ S.tr.length → S.Forced i c x → (S.set l w).Forced i c x := fun i c x hi hf => ⟨hf.1, hf.2.1, fun y hy hne => by
  obtain ⟨j, hj, e⟩ := hf.2.2 y hy hne
  exact ⟨j, hj, by rw [lit_set, if_pos (by omega)]; exact e⟩⟩
 refine ⟨k.dis, fun v h1 h3 h4 => ?_, k.sts, fun x hx => ?_, fun i hi => ?_, fun i hi => ?_, fun v h1 h3 => ?_⟩
 ·by_cases e : v = l.natAbs
  ·exact ⟨S.tr.length, by omega, by rw [lit_set, if_neg (by omega), if_pos rfl]; exact e.symm⟩
  ·have : S.val.getD v 0 ≠ 0 := by
    have h5 : (S.val.set l.natAbs (Sol.sgn l)).getD v 0 ≠ 0 := h4
    rwa [getD_set _ _ _ _ _ hv, if_neg e] at h5
   obtain ⟨i, hi, e2⟩ := k.asd v h1 h3 this
   exact ⟨i, by omega, by rw [lit_set, if_pos hi]; exact e2⟩
 ·have := k.stl x hx
  omega
 ·rw [lit_set, lvl_set hle]
  show _ = lv S.st i
  by_cases e : i < S.tr.length
  ·rw [if_pos e, if_neg (off_trail h hu e)]
   exact k.lev i e
  ·have e2 : i = S.tr.length := by omega
   subst e2
   rw [if_neg e, if_pos rfl, if_pos rfl, lv_all k.stl]
 ·unfold Sol.Why
  rw [lit_set, wy_set hwy]
  by_cases e : i < S.tr.length
  ·rw [if_pos e, if_neg (off_trail h hu e)]
   rcases k.why i e with h1 | ⟨c, h1, h2⟩
   ·exact .inl h1
   ·exact .inr ⟨c, h1, hF _ _ _ (by omega) h2⟩
  ·have e2 : i = S.tr.length := by omega
   subst e2
   rw [if_neg e, if_pos rfl, if_pos rfl]
   rcases hw with h1 | ⟨c, h1, h2⟩
   ·exact .inl h1
   ·exact .inr ⟨c, h1, hF _ _ _ (by omega) h2⟩
 ·show (S.val.set l.natAbs (Sol.sgn l)).getD v 0 ≠ 0
  rw [getD_set _ _ _ _ _ hv]
  split
  ·exact sgn_ne l
  ·exact k.nxt v h1 h3
theorem putC_cla {S : Sol} {k : Nat} {c : List Int} (h : k < S.cl.length) (j : Nat) : (S.putC k c).cla j = if j = k then c else S.cla j := getD_set _ _ _ _ _ h
theorem putC_len (S : Sol) (k : Nat) (c : List Int) : (S.putC k c).cl.length = S.cl.length := by simp [Sol.putC]
theorem Inv.putC {S : Sol} (h : Inv S) {k : Nat} {c : List Int} (hk : k < S.cl.length) (hd : Dis c) (hm : ∀ x, x ∈ c ↔ x ∈ S.cla k) : Inv (S.putC k c) := by
 refine ⟨fun j hj => ?_, h.asd, h.sts, h.stl, h.lev, fun i hi => ?_, h.nxt⟩
 ·rw [putC_cla hk]
  split
  ·exact hd
  ·exact h.dis j (by rwa [putC_len] at hj)
 ·rcases h.why i hi with h1 | ⟨q, h1, h2, h3, h4⟩
  ·exact .inl h1
  ·refine .inr ⟨q, h1, by rw [putC_len]; exact h2, ?_, fun x hx => ?_⟩
   ·rw [putC_cla hk]
    split
    ·rename_i e; subst e; exact (hm _).2 h3
    ·exact h3
   ·rw [putC_cla hk] at hx
    refine h4 x ?_
    split at hx
    ·rename_i e; subst e; exact (hm _).1 hx
    ·exact hx
def Turned (c c' : List Int) : Prop := c'.length = c.length ∧ (c' = c ∨ (c'.getD 0 0 = c.getD 1 0 ∧ c'.getD 1 0 = c.getD 0 0))
theorem Wat.turned {S : Sol} {k : Nat} {c : List Int} (hk : k < S.cl.length) (h : S.Wat) (hc : Turned (S.cla k) c) : (S.putC k c).Wat := fun i hi => by
 obtain ⟨h1, h2⟩ := h i hi
 refine ⟨h1, fun j => (h2 j).trans ?_⟩
 rw [putC_cla hk, putC_len]
 by_cases e : j = k
 ·subst e
  rw [if_pos rfl]
  rcases hc.2 with e2 | ⟨e2, e3⟩
  ·rw [e2]
  ·rw [e2, e3]
   exact ⟨fun h => ⟨h.1, h.2.symm⟩, fun h => ⟨h.1, h.2.symm⟩⟩
 ·rw [if_neg e]
theorem Pro.turned {S : Sol} {ex : Nat → Int → Prop} {k : Nat} {c : List Int} (hk : k < S.cl.length) (h : S.Pro ex) (hc : Turned (S.cla k) c) : (S.putC k c).Pro ex := fun j hj p q hpq i hi e hex => by
 rw [putC_len] at hj
 rw [putC_cla hk] at e hex ⊢
 by_cases e1 : j = k
 ·subst e1
  rw [if_pos rfl] at e hex ⊢
  rcases hc.2 with e2 | ⟨e2, e3⟩
  ·subst e2; exact h _ hj p q hpq i hi e hex
  ·rcases hpq with ⟨rfl, rfl⟩ | ⟨rfl, rfl⟩
   ·rw [e2] at e hex ⊢; rw [e3]; exact h _ hj 1 0 (.inr ⟨rfl, rfl⟩) i hi e hex
   ·rw [e3] at e hex ⊢; rw [e2]; exact h _ hj 0 1 (.inl ⟨rfl, rfl⟩) i hi e hex
 ·rw [if_neg e1] at e hex ⊢
  exact h _ hj p q hpq i hi e hex
theorem Pro.set {S : Sol} {B : Nat} (hS : SW S B) {ex : Nat → Int → Prop} (h : S.Pro ex) {l w : Int} (hl : LitOk S.n l) (hu : S.val.getD l.natAbs 0 = 0) : (S.set l w).Pro ex := fun j hj p q hpq i hi e hex => by
 have h2 := hl.2
 have hv : l.natAbs < S.val.length := by rw [hS.len.val]; omega
 have hle : l.natAbs < S.lev.length := by rw [hS.len.lev]; omega
 have hi2 : i < S.tr.length := Nat.lt_of_lt_of_le hi hS.hd
 rw [lit_set, if_pos hi2] at e
 obtain ⟨h3, h4⟩ := h j hj p q hpq i hi e hex
 have n1 : ((S.cla j).getD p 0).natAbs ≠ l.natAbs := by
  have := off_trail hS hu hi2
  rw [e, Int.natAbs_neg] at this
  exact this
 have n2 : ((S.cla j).getD q 0).natAbs ≠ l.natAbs := fun e2 => by
  unfold Sol.is at h3
  rw [e2, hu] at h3
  split at h3 <;> omega
 show (S.set l w).is ((S.cla j).getD q 0) = 1 ∧ (S.set l w).lvl ((S.cla j).getD q 0) ≤ (S.set l w).lvl ((S.cla j).getD p 0)
 rw [is_set_ne hv n2, lvl_set hle, lvl_set hle, if_neg n1, if_neg n2]
 exact ⟨h3, h4⟩

end
set_option maxRecDepth 100000
set_option maxHeartbeats 4000000
abbrev PV.b8 (x : Int) : PV := .im (.int .i8 x)
abbrev i8s (l : List Int) : List PV := (l.map fun x => Im.int .i8 x).map PV.im
abbrev i64s (l : List Int) : List PV := (l.map fun x => Im.int .i64 x).map PV.im
abbrev n64s (l : List Nat) : List PV := (l.map fun (x : Nat) => Im.int .i64 (x : Int)).map PV.im
structure Ver where
 c : Nat
 t : Nat
 s : Nat
 wv : Nat → Nat
 tx : List Int
 sx : List Nat
 K : Nat
abbrev wcells (S : Sol) (V : Ver) : List PV := (List.range (2 * S.n + 2)).map fun i => PV.vs 0 (i + 11) 0 (S.wl.getD i []).length (V.wv i)
abbrev ccells (S : Sol) : List PV := (List.range S.cl.length).map fun k => PV.vs 0 (k + (2 * S.n + 2) + 11) 0 (S.cl.getD k []).length 0
abbrev sbox (S : Sol) (V : Ver) : AObj := .box [.vs 0 7 0 S.cl.length V.c, .vs 0 1 0 (2 * S.n + 2) 0, .vs 0 2 0 (S.n + 1) 0, .vs 0 3 0 (S.n + 1) 0, .vs 0 4 0 (S.n + 1) 0, .vs 0 8 0 S.tr.length V.t, .vs 0 9 0 S.st.length V.s, .i S.head, .i S.next]
structure SAt (up : Frs) (d : Nat) (S : Sol) (V : Ver) : Prop where
 box : fget up d 5 = some (sbox S V)
 wch : fget up d 1 = some (.vec 22 0 (wcells S V))
 val : fget up d 2 = some (.vec 138 0 (i8s S.val))
 lev : fget up d 3 = some (.vec 3 0 (n64s S.lev))
 why : fget up d 4 = some (.vec 3 0 (i64s S.why))
 clo : fget up d 7 = some (.vec 22 V.c (ccells S))
 trl : fget up d 8 = some (.vec 3 V.t (i64s S.tr ++ i64s V.tx))
 sts : fget up d 9 = some (.vec 3 V.s (n64s S.st ++ n64s V.sx))
 wli : ∀ i, i < 2 * S.n + 2 → fget up d (i + 11) = some (.vec 3 (V.wv i) (n64s (S.wl.getD i [])))
 cli : ∀ k, k < S.cl.length → fget up d (k + (2 * S.n + 2) + 11) = some (.vec 3 0 (i64s (S.cl.getD k [])))
def Spare (up : Frs) (d : Nat) (S : Sol) (K m : Nat) : Prop := ∀ k, m ≤ k → k < K → fget up d (k + (2 * S.n + 2) + 11) = some .dead
def SPl (S : Sol) (K j : Nat) : Prop := (1 ≤ j ∧ j ≤ 5) ∨ (7 ≤ j ∧ j ≤ 9) ∨ (11 ≤ j ∧ j < K + (2 * S.n + 2) + 11)
structure Else (up u : Frs) (d : Nat) (S : Sol) (K : Nat) : Prop where
 shape : u.map List.length = up.map List.length
 same : ∀ d' j, ¬ (d' = d ∧ SPl S K j) → fget u d' j = fget up d' j
theorem Else.refl (up : Frs) (d : Nat) (S : Sol) (K : Nat) : Else up up d S K := ⟨rfl, fun _ _ _ => rfl⟩
theorem Else.trans {up u v : Frs} {d : Nat} {S S' : Sol} {K : Nat} (h : Else up u d S K) (hn : S'.n = S.n) (k : Else u v d S' K) : Else up v d S K :=
 ⟨k.shape.trans h.shape, fun d' j hj => (k.same d' j (by unfold SPl at hj ⊢; rw [hn]; exact hj)).trans (h.same d' j hj)⟩
theorem Else.fset {up u : Frs} {d : Nat} {S : Sol} {K j : Nat} (h : Else up u d S K) (hj : SPl S K j) (o : AObj) : Else up (fset u d j o) d S K :=
 ⟨by rw [fset_shape]; exact h.shape, fun d' j' hn => by
  rw [fget_fset, if_neg (fun e => hn (by rw [e.1, e.2]; exact ⟨rfl, hj⟩))]
  exact h.same d' j' hn⟩
theorem i8s_get (l : List Int) (i : Nat) (h : i < l.length) : (i8s l)[i]? = some (.im (.int .i8 (l.getD i 0))) := by rw [i8s, List.getElem?_map, List.getElem?_map, getD_some 0 h]; rfl
theorem i64s_get (l : List Int) (i : Nat) (h : i < l.length) : (i64s l)[i]? = some (.im (.int .i64 (l.getD i 0))) := by rw [i64s, List.getElem?_map, List.getElem?_map, getD_some 0 h]; rfl
theorem n64s_get (l : List Nat) (i : Nat) (h : i < l.length) : (n64s l)[i]? = some (.im (.int .i64 ((l.getD i 0 : Nat) : Int))) := by rw [n64s, List.getElem?_map, List.getElem?_map, getD_some 0 h]; rfl
theorem wrapi8 {x : Int} (h1 : -128 ≤ x) (h2 : x ≤ 127) : IntKind.i8.wrap x = x := by
 simp [IntKind.wrap, IntKind.signed, IntKind.bits]
 omega
theorem at_ok (n : Nat) (l : Int) (h : LitOk n l) (hn : n ≤ 20000) (up : Frs) : ACalls Try.prog 96 [.i l] up fun v u => v = .i (atL l : Nat) ∧ u = up := by
 have h2 := h.2
 have e := atL_cast h
 have w1 : IntKind.i64.wrap (-2 * l) = -2 * l := wrap64 (by omega)
 have w2 : IntKind.i64.wrap (-2 * l + 1) = -2 * l + 1 := wrap64 (by omega)
 have w3 : IntKind.i64.wrap (2 * l) = 2 * l := wrap64 (by omega)
 refine ACalls.code Try.func96 rfl 10 rfl (by simp) [.tmp 2] rfl fun Q hQ => ?_
 simp only [ups, PV.up, argEnv]
 have ft := ai ty_3 (ai ty_4 trivial)
 refine Run.seq ?_
 have fx := ai w3 (ai w2 (ai w1 ft))
 refine Run.go ?_
 refine End.kp [0] ?_
 refine Run.seq ?_
 refine Run.seq ?_
 refine Run.go ?_
 refine End.kp [0, 4] ?_
 refine Run.cond _ rfl (fun hb => ?_) (fun hb => ?_)
 ·have hb2 := of_decide_eq_true hb
  refine Run.seq ?_
  refine Run.go ?_
  refine End.kp [2] ?_
  refine Run.ret (hQ _ _ ⟨.inr rfl, _, rfl, _, rfl, ?_⟩)
  exact ⟨by rw [e, if_pos hb2], rfl⟩
 ·have hb2 := of_decide_eq_false hb
  refine Run.skip ?_
  refine End.kp [0] ?_
  refine Run.seq ?_
  refine Run.go ?_
  refine End.kp [2] ?_
  refine Run.ret (hQ _ _ ⟨.inr rfl, _, rfl, _, rfl, ?_⟩)
  exact ⟨by rw [e, if_neg hb2], rfl⟩
theorem is_ok (S : Sol) (V : Ver) (d : Nat) (up : Frs) (hA : SAt up d S V) (hS : SLen S) (l : Int) (h : LitOk S.n l) : ACalls Try.prog 95 [.ptr d 5 0, .i l] up fun v u => v = .b8 (S.is l) ∧ u = up := by
 obtain ⟨h0, h2⟩ := h
 have hn := hS.n
 have hbx := hA.box
 have hvl := hA.val
 have hg := i8s_get S.val l.natAbs (by have := hS.val; omega)
 have ht := hS.tri _ (gtD_mem (l := S.val) (i := l.natAbs) (d := 0) (by have := hS.val; omega))
 have wn : IntKind.i64.wrap (0 - l) = -l := by rw [wrap64 (by omega)]; omega
 have w8 : IntKind.i8.wrap (0 - S.val.getD l.natAbs 0) = -(S.val.getD l.natAbs 0) := by rw [wrapi8 (by omega) (by omega)]; omega
 refine ACalls.code Try.func95 rfl 23 rfl (by simp) [.tmp 4] rfl fun Q hQ => ?_
 simp only [ups, PV.up, argEnv]
 have ft := ai ty_2 (ai ty_3 (ai ty_4 (ai ty_130 (ai ty_131 (ai ty_133 (ai ty_138 trivial))))))
 refine Run.seq ?_
 have fx := ai zZa (ai w8 (ai wn (ai hvl (ai hbx ft))))
 refine Run.go ?_
 refine End.kp [0, 1] ?_
 refine Run.seq ?_
 refine Run.seq ?_
 refine Run.go ?_
 refine End.kp [0, 1, 6] ?_
 refine Run.cond _ rfl (fun hb => ?_) (fun hb => ?_)
 ·have hb2 := of_decide_eq_true hb
  have q0 : 0 ≤ -l := by omega
  have q1 : -l < ((S.n + 1 : Nat) : Int) := by omega
  have q2 : (-l).toNat = l.natAbs := by omega
  refine Run.seq ?_
  have fx := ai hg (ai q2 (ai q1 (ai q0 fx)))
  refine Run.go ?_
  refine End.kp [4] ?_
  refine Run.ret (hQ _ _ ⟨.inr rfl, _, rfl, _, rfl, ?_⟩)
  exact ⟨by rw [Sol.is, if_pos hb2], rfl⟩
 ·have hb2 := of_decide_eq_false hb
  have q0 : 0 ≤ l := by omega
  have q1 : l < ((S.n + 1 : Nat) : Int) := by omega
  have q2 : l.toNat = l.natAbs := by omega
  refine Run.skip ?_
  refine End.kp [0, 1] ?_
  refine Run.seq ?_
  have fx := ai hg (ai q2 (ai q1 (ai q0 fx)))
  refine Run.go ?_
  refine End.kp [4] ?_
  refine Run.ret (hQ _ _ ⟨.inr rfl, _, rfl, _, rfl, ?_⟩)
  exact ⟨by rw [Sol.is, if_neg hb2], rfl⟩

set_option maxRecDepth 100000
set_option maxHeartbeats 4000000
def setV (V : Ver) : Ver := { V with t := V.t + 1, tx := [] }
def setU (up : Frs) (d : Nat) (S : Sol) (V : Ver) (l w : Int) : Frs :=
 fset (fset (fset (fset (fset up d 2 (.vec 138 0 (i8s (S.set l w).val))) d 3 (.vec 3 0 (n64s (S.set l w).lev))) d 4 (.vec 3 0 (i64s (S.set l w).why))) d 8 (.vec 3 (V.t + 1) (i64s (S.set l w).tr))) d 5 (sbox (S.set l w) (setV V))
theorem setU_at {up : Frs} {d : Nat} {S : Sol} {V : Ver} (h : SAt up d S V) (l w : Int) : SAt (setU up d S V l w) d (S.set l w) (setV V) := by
 have e : ∀ j, fget (setU up d S V l w) d j = if j = 5 then some (sbox (S.set l w) (setV V)) else if j = 8 then some (.vec 3 (V.t + 1) (i64s (S.set l w).tr)) else if j = 4 then some (.vec 3 0 (i64s (S.set l w).why)) else if j = 3 then some (.vec 3 0 (n64s (S.set l w).lev)) else if j = 2 then some (.vec 138 0 (i8s (S.set l w).val)) else fget up d j := fun j => by
  simp only [setU, fget_fset, true_and, h.box, h.val, h.lev, h.why, h.trl, Nat.reduceEqDiff, if_false, Option.map_some]
 refine ⟨by rw [e]; rfl, ?_, by rw [e]; rfl, by rw [e]; rfl, by rw [e]; rfl, ?_, ?_, ?_, fun i hi => ?_, fun k hk => ?_⟩
 ·rw [e]; exact h.wch
 ·rw [e]; exact h.clo
 ·rw [e, if_neg (by decide), if_pos rfl]; simp [setV]
 ·rw [e]; exact h.sts
 ·rw [e, if_neg (by omega), if_neg (by omega), if_neg (by omega), if_neg (by omega), if_neg (by omega)]; exact h.wli i hi
 ·rw [e, if_neg (by omega), if_neg (by omega), if_neg (by omega), if_neg (by omega), if_neg (by omega)]; exact h.cli k hk
theorem setU_spare {up : Frs} {d : Nat} {S : Sol} {V : Ver} {K m : Nat} (h : Spare up d S K m) (l w : Int) : Spare (setU up d S V l w) d (S.set l w) K m := fun k h1 h2 => by
 have := h k h1 h2
 simp only [setU, fget_fset, true_and]
 rw [if_neg (by omega), if_neg (by omega), if_neg (by omega), if_neg (by omega), if_neg (by omega)]
 exact this
theorem setU_else (up : Frs) (d : Nat) (S : Sol) (V : Ver) (l w : Int) : Else up (setU up d S V l w) d S V.K :=
 ((((((Else.refl up d S V.K).fset (by unfold SPl; omega) _).fset (by unfold SPl; omega) _).fset (by unfold SPl; omega) _).fset (by unfold SPl; omega) _).fset (by unfold SPl; omega) _)
theorem n64s_set (l : List Nat) (i x : Nat) : (n64s l).set i (.im (.int .i64 (x : Int))) = n64s (l.set i x) := by simp [n64s, List.map_set]
theorem i64s_set (l : List Int) (i : Nat) (x : Int) : (i64s l).set i (.im (.int .i64 x)) = i64s (l.set i x) := by simp [i64s, List.map_set]
theorem i8s_set (l : List Int) (i : Nat) (x : Int) : (i8s l).set i (.im (.int .i8 x)) = i8s (l.set i x) := by simp [i8s, List.map_set]
theorem take_tr (S : Sol) (V : Ver) : (i64s S.tr ++ i64s V.tx).take S.tr.length = i64s S.tr := by rw [List.take_left' (by simp)]
theorem set_ok (S : Sol) (V : Ver) (d : Nat) (up : Frs) (hA : SAt up d S V) (hS : SLen S) (l w : Int) (h : LitOk S.n l) : ACalls Try.prog 79 [.ptr d 5 0, .i l, .i w] up fun v u => v = .tup [] ∧ u = setU up d S V l w := by
 obtain ⟨h0, h2⟩ := h
 have hn := hS.n
 have hbx := hA.box
 have hvl := hA.val
 have hlv := hA.lev
 have hwy := hA.why
 have htr := hA.trl
 have lv := hS.val
 have ll := hS.lev
 have ly := hS.why
 have lt := hS.trn
 have wn : IntKind.i64.wrap (0 - l) = -l := by rw [wrap64 (by omega)]; omega
 have hmx : (if l < -l then -l else l) = (l.natAbs : Int) := by split <;> omega
 have q1 : ((l.natAbs : Nat) : Int) < ((S.n + 1 : Nat) : Int) := by omega
 have c1 : l.natAbs < S.n + 1 := by omega
 have e8 : (i8s S.val).length = S.n + 1 := by rw [i8s, List.length_map, List.length_map, lv]
 have e3 : (n64s S.lev).length = S.n + 1 := by rw [n64s, List.length_map, List.length_map, ll]
 have e4 : (i64s S.why).length = S.n + 1 := by rw [i64s, List.length_map, List.length_map, ly]
 have htk := take_tr S V
 have hap : (S.tr.length + 1) * 8 ≤ 140737488355328 := by omega
 refine ACalls.code Try.func79 rfl 53 rfl (by simp) [] rfl fun Q hQ => ?_
 simp only [ups, PV.up, argEnv]
 have ft := ai ty_2 (ai ty_3 (ai ty_4 (ai ty_5 (ai ty_6 (ai ty_22 (ai ty_130 (ai ty_131 (ai ty_133 (ai ty_138 trivial)))))))))
 refine Run.seq ?_
 have fx := ai (@List.length_set.{0}) (ai zTn (ai zNn (ai zZa (ai hap (ai htk (ai e4 (ai e3 (ai e8 (ai c1 (ai q1 (ai hmx (ai wn (ai htr (ai hwy (ai hlv (ai hvl (ai hbx (ai (@fget_fset) ft))))))))))))))))))
 refine Run.go ?_
 refine End.kp [0, 1, 2, 6] ?_
 refine Run.seq ?_
 refine Run.go ?_
 refine End.kp [0, 1, 2, 6] ?_
 refine Run.seq ?_
 refine Run.seq ?_
 refine Run.go ?_
 refine End.kp [0, 1, 2, 6, 18] ?_
 refine Run.cond _ rfl (fun hb => ?_) (fun hb => ?_)
 ·have hb2 := of_decide_eq_true hb
  refine Run.go ?_
  refine End.kp [0, 1, 2, 6] ?_
  refine Run.seq ?_
  refine Run.drawA fun K hK => ?_
  refine DOps.sim ?_
  refine DOps.nil (by rfl) (hK _ ?_); clear hK K
  refine End.kp [0, 1] ?_
  refine Run.go ?_
  refine End.all (hQ _ _ ⟨.inl rfl, _, rfl, _, rfl, ?_⟩)
  refine ⟨rfl, ?_⟩
  have x1 : ((i8s S.val).set l.natAbs (PV.im (Im.int IntKind.i8 1))).set l.natAbs (PV.im (Im.int IntKind.i8 (-1))) = i8s (S.set l w).val := by simp only [List.set_set, i8s_set, Sol.set, Sol.sgn, if_pos hb2]
  have x2 : (n64s S.lev).set l.natAbs (PV.im (Im.int IntKind.i64 (S.st.length : Nat))) = n64s (S.set l w).lev := n64s_set _ _ _
  have x3 : (i64s S.why).set l.natAbs (PV.im (Im.int IntKind.i64 w)) = i64s (S.set l w).why := i64s_set _ _ _
  have x4 : i64s S.tr ++ [PV.im (Im.int IntKind.i64 l)] = i64s (S.set l w).tr := by simp [Sol.set]
  have x5 : (S.set l w).tr.length = S.tr.length + 1 := by simp [Sol.set]
  rw [setU, sbox, x5, ← x1, ← x2, ← x3, ← x4]
  rfl
 ·have hb2 := of_decide_eq_false hb
  refine Run.skip ?_
  refine End.kp [0, 1, 2, 6] ?_
  refine Run.seq ?_
  refine Run.drawA fun K hK => ?_
  refine DOps.sim ?_
  refine DOps.nil (by rfl) (hK _ ?_); clear hK K
  refine End.kp [0, 1] ?_
  refine Run.go ?_
  refine End.all (hQ _ _ ⟨.inl rfl, _, rfl, _, rfl, ?_⟩)
  refine ⟨rfl, ?_⟩
  have x1 : (i8s S.val).set l.natAbs (PV.im (Im.int IntKind.i8 1)) = i8s (S.set l w).val := by simp only [List.set_set, i8s_set, Sol.set, Sol.sgn, if_neg hb2]
  have x2 : (n64s S.lev).set l.natAbs (PV.im (Im.int IntKind.i64 (S.st.length : Nat))) = n64s (S.set l w).lev := n64s_set _ _ _
  have x3 : (i64s S.why).set l.natAbs (PV.im (Im.int IntKind.i64 w)) = i64s (S.set l w).why := i64s_set _ _ _
  have x4 : i64s S.tr ++ [PV.im (Im.int IntKind.i64 l)] = i64s (S.set l w).tr := by simp [Sol.set]
  have x5 : (S.set l w).tr.length = S.tr.length + 1 := by simp [Sol.set]
  rw [setU, sbox, x5, ← x1, ← x2, ← x3, ← x4]
  rfl

set_option maxRecDepth 100000
set_option maxHeartbeats 4000000
def bump (V : Ver) (i : Nat) : Ver := { V with wv := fun j => if j = i then V.wv j + 1 else V.wv j }
theorem push_len (wl : List (List Nat)) (i k : Nat) : (Sol.push wl i k).length = wl.length := by simp [Sol.push]
theorem push_get (wl : List (List Nat)) (i k j : Nat) (h : i < wl.length) : (Sol.push wl i k).getD j [] = if j = i then wl.getD i [] ++ [k] else wl.getD j [] := by
 simp only [Sol.push, List.getD_eq_getElem?_getD, List.getElem?_set]
 by_cases e : i = j
 ·subst e; simp [h]
 ·rw [if_neg e, if_neg (fun h => e h.symm)]
def grewU (up : Frs) (d : Nat) (S : Sol) (V : Ver) (i k : Nat) : Frs :=
 fset (fset up d (i + 11) (.vec 3 (V.wv i + 1) (n64s (S.wl.getD i [] ++ [k])))) d 1 (.vec 22 0 (wcells { S with wl := Sol.push S.wl i k } (bump V i)))
theorem wcells_set (S : Sol) (V : Ver) (i k : Nat) (hi : i < 2 * S.n + 2) (hw : S.wl.length = 2 * S.n + 2) : (wcells S V).set i (.vs 0 (i + 11) 0 ((S.wl.getD i []).length + 1) (V.wv i + 1)) = wcells { S with wl := Sol.push S.wl i k } (bump V i) := by
 refine List.ext_getElem? fun j => ?_
 simp only [wcells, List.getElem?_set, List.length_map, List.length_range, List.getElem?_map]
 by_cases e : i = j
 ·subst e
  have := push_get S.wl i k i (by omega)
  rw [if_pos rfl, if_pos hi, List.getElem?_range hi]
  simp only [Option.map_some, this, bump, if_true, List.length_append, List.length_cons, List.length_nil, Nat.zero_add]
 ·rw [if_neg e]
  by_cases h2 : j < 2 * S.n + 2
  ·have := push_get S.wl i k j (by omega)
   rw [List.getElem?_range h2]
   simp only [Option.map_some, this, bump, if_neg (fun h : j = i => e h.symm)]
  ·rw [List.getElem?_eq_none (by simp; omega)]
   rfl
theorem wcells_get (S : Sol) (V : Ver) (i : Nat) (hi : i < 2 * S.n + 2) : (wcells S V)[i]? = some (.vs 0 (i + 11) 0 (S.wl.getD i []).length (V.wv i)) := by
 simp only [wcells, List.getElem?_map]
 rw [List.getElem?_range hi]
 rfl
theorem grewU_at {up : Frs} {d : Nat} {S : Sol} {V : Ver} (h : SAt up d S V) (i k : Nat) (hi : i < 2 * S.n + 2) (hw : S.wl.length = 2 * S.n + 2) : SAt (grewU up d S V i k) d { S with wl := Sol.push S.wl i k } (bump V i) := by
 have e : ∀ j, fget (grewU up d S V i k) d j = if j = 1 then some (.vec 22 0 (wcells { S with wl := Sol.push S.wl i k } (bump V i))) else if j = i + 11 then some (.vec 3 (V.wv i + 1) (n64s (S.wl.getD i [] ++ [k]))) else fget up d j := fun j => by
  have h1 : ¬ (1 = i + 11) := by omega
  simp only [grewU, fget_fset, true_and, h.wch, h.wli i hi, h1, if_false, Option.map_some]
 have o : ∀ j, j ≠ 1 → j ≠ i + 11 → fget (grewU up d S V i k) d j = fget up d j := fun j h1 h2 => by rw [e, if_neg h1, if_neg h2]
 refine ⟨(o 5 (by omega) (by omega)).trans h.box, by rw [e, if_pos rfl], (o 2 (by omega) (by omega)).trans h.val, (o 3 (by omega) (by omega)).trans h.lev, (o 4 (by omega) (by omega)).trans h.why, (o 7 (by omega) (by omega)).trans h.clo, (o 8 (by omega) (by omega)).trans h.trl, (o 9 (by omega) (by omega)).trans h.sts, fun j hj => ?_, fun j hj => (o _ (by omega) (by show ¬ (j + (2 * S.n + 2) + 11 = i + 11); omega)).trans (h.cli j hj)⟩
 rw [e, if_neg (by omega)]
 simp only [push_get _ _ _ _ (show i < S.wl.length by omega), bump]
 by_cases e2 : j = i
 ·subst e2
  rw [if_pos rfl, if_pos rfl, if_pos rfl]
 ·rw [if_neg (by omega), if_neg e2, if_neg e2]
  exact h.wli j hj
theorem grewU_else (up : Frs) (d : Nat) (S : Sol) (V : Ver) (i k : Nat) (hi : i < 2 * S.n + 2) : Else up (grewU up d S V i k) d S V.K :=
 (((Else.refl up d S V.K).fset (by unfold SPl; omega) _).fset (by unfold SPl; omega) _)
theorem grewU_other {up : Frs} {d : Nat} {S : Sol} {V : Ver} {i k d' j : Nat} (h : ¬ (d' = d ∧ (j = 1 ∨ j = i + 11))) : fget (grewU up d S V i k) d' j = fget up d' j := by
 simp only [grewU, fget_fset]
 rw [if_neg (fun e => h ⟨e.1, .inl e.2⟩), if_neg (fun e => h ⟨e.1, .inr e.2⟩)]
def clsU (up : Frs) (d : Nat) (S : Sol) (V : Ver) (c : List Int) : Frs :=
 fset (fset up d 7 (.vec 22 (V.c + 1) (ccells { S with cl := S.cl ++ [c] }))) d 5 (sbox { S with cl := S.cl ++ [c] } { V with c := V.c + 1 })
theorem ccells_snoc (S : Sol) (c : List Int) : ccells S ++ [.vs 0 (S.cl.length + (2 * S.n + 2) + 11) 0 c.length 0] = ccells { S with cl := S.cl ++ [c] } := by
 simp only [ccells, List.length_append, List.length_cons, List.length_nil, Nat.zero_add, List.range_succ, List.map_append, List.map_cons, List.map_nil]
 congr 1
 ·refine List.map_congr_left fun k hk => ?_
  have hk := List.mem_range.1 hk
  simp only [List.getD_eq_getElem?_getD, List.getElem?_append_left hk]
 ·simp
theorem clsU_at {up : Frs} {d : Nat} {S : Sol} {V : Ver} (h : SAt up d S V) (c : List Int) (hc : fget up d (S.cl.length + (2 * S.n + 2) + 11) = some (.vec 3 0 (i64s c))) : SAt (clsU up d S V c) d { S with cl := S.cl ++ [c] } { V with c := V.c + 1 } := by
 have e : ∀ j, fget (clsU up d S V c) d j = if j = 5 then some (sbox { S with cl := S.cl ++ [c] } { V with c := V.c + 1 }) else if j = 7 then some (.vec 22 (V.c + 1) (ccells { S with cl := S.cl ++ [c] })) else fget up d j := fun j => by
  simp only [clsU, fget_fset, true_and, h.box, h.clo, Nat.reduceEqDiff, if_false, Option.map_some]
 have o : ∀ j, j ≠ 5 → j ≠ 7 → fget (clsU up d S V c) d j = fget up d j := fun j h1 h2 => by rw [e, if_neg h1, if_neg h2]
 refine ⟨by rw [e, if_pos rfl], (o 1 (by omega) (by omega)).trans h.wch, (o 2 (by omega) (by omega)).trans h.val, (o 3 (by omega) (by omega)).trans h.lev, (o 4 (by omega) (by omega)).trans h.why, by rw [e, if_neg (by omega), if_pos rfl], (o 8 (by omega) (by omega)).trans h.trl, (o 9 (by omega) (by omega)).trans h.sts, fun j hj => (o _ (by omega) (by omega)).trans (h.wli j hj), fun j hj => ?_⟩
 rw [o _ (by omega) (by omega)]
 simp only [List.length_append, List.length_cons, List.length_nil] at hj
 by_cases e2 : j = S.cl.length
 ·subst e2
  rw [hc]
  simp
 ·have hj2 : j < S.cl.length := by omega
  rw [h.cli j hj2]
  simp only [List.getD_eq_getElem?_getD, List.getElem?_append_left hj2]
theorem clsU_else (up : Frs) (d : Nat) (S : Sol) (V : Ver) (c : List Int) : Else up (clsU up d S V c) d S V.K :=
 (((Else.refl up d S V.K).fset (by unfold SPl; omega) _).fset (by unfold SPl; omega) _)
theorem clsU_other {up : Frs} {d : Nat} {S : Sol} {V : Ver} {c : List Int} {d' j : Nat} (h : ¬ (d' = d ∧ (j = 5 ∨ j = 7))) : fget (clsU up d S V c) d' j = fget up d' j := by
 simp only [clsU, fget_fset]
 rw [if_neg (fun e => h ⟨e.1, .inl e.2⟩), if_neg (fun e => h ⟨e.1, .inr e.2⟩)]
theorem atL_inj {n : Nat} {a b : Int} (ha : LitOk n a) (hb : LitOk n b) (h : atL a = atL b) : a = b := by
 have h1 := atL_cast ha
 have h2 := atL_cast hb
 rw [h, h2] at h1
 split at h1 <;> split at h1 <;> omega
def addC (S : Sol) (c : List Int) : Sol := { S with cl := S.cl ++ [c] }
def add0 (S : Sol) (c : List Int) : Sol := { addC S c with wl := Sol.push S.wl (atL (c.getD 0 0)) S.cl.length }
def addU (up : Frs) (d : Nat) (S : Sol) (V : Ver) (c : List Int) : Frs :=
 grewU (grewU (clsU up d S V c) d (addC S c) { V with c := V.c + 1 } (atL (c.getD 0 0)) S.cl.length) d (add0 S c) (bump { V with c := V.c + 1 } (atL (c.getD 0 0))) (atL (c.getD 1 0)) S.cl.length
def addV (V : Ver) (c : List Int) : Ver := bump (bump { V with c := V.c + 1 } (atL (c.getD 0 0))) (atL (c.getD 1 0))
theorem addU_at {up : Frs} {d : Nat} {S : Sol} {V : Ver} (h : SAt up d S V) (c : List Int) (hc : fget up d (S.cl.length + (2 * S.n + 2) + 11) = some (.vec 3 0 (i64s c))) (hw : S.wl.length = 2 * S.n + 2) (h0 : atL (c.getD 0 0) < 2 * S.n + 2) (h1 : atL (c.getD 1 0) < 2 * S.n + 2) : SAt (addU up d S V c) d (S.add c) (addV V c) :=
 grewU_at (grewU_at (clsU_at h c hc) _ _ h0 hw) _ _ h1 (by show (Sol.push S.wl _ _).length = _; rw [push_len]; exact hw)
theorem addU_else (up : Frs) (d : Nat) (S : Sol) (V : Ver) (c : List Int) (h0 : atL (c.getD 0 0) < 2 * S.n + 2) (h1 : atL (c.getD 1 0) < 2 * S.n + 2) : Else up (addU up d S V c) d S V.K :=
 Else.trans (S' := add0 S c) (Else.trans (S' := addC S c) (clsU_else up d S V c) rfl (grewU_else _ d (addC S c) { V with c := V.c + 1 } _ _ h0)) rfl (grewU_else _ d (add0 S c) (bump { V with c := V.c + 1 } (atL (c.getD 0 0))) _ _ h1)
theorem addU_spare {up : Frs} {d : Nat} {S : Sol} {V : Ver} {c : List Int} {K m : Nat} (h : Spare up d S K m) (h0 : atL (c.getD 0 0) < 2 * S.n + 2) (h1 : atL (c.getD 1 0) < 2 * S.n + 2) : Spare (addU up d S V c) d (S.add c) K m := fun k q1 q2 => by
 rw [addU, grewU_other (by show ¬ _; simp only [Sol.add]; omega), grewU_other (by simp only [Sol.add]; omega), clsU_other (by omega)]
 exact h k q1 q2
theorem add_ok (S : Sol) (V : Ver) (d : Nat) (up : Frs) (hA : SAt up d S V) (hS : SLen S) (hd : d = 0 ∨ d = 1) (c : List Int) (hc : fget up d (S.cl.length + (2 * S.n + 2) + 11) = some (.vec 3 0 (i64s c))) (hl : 2 ≤ c.length) (l0 : LitOk S.n (c.getD 0 0)) (l1 : LitOk S.n (c.getD 1 0)) (hne : c.getD 0 0 ≠ c.getD 1 0) (hcl : S.cl.length ≤ 1000000) (hwl : ∀ i, i < 2 * S.n + 2 → (S.wl.getD i []).length ≤ 10000000) :
  ACalls Try.prog 78 [.ptr d 5 0, .vs d (S.cl.length + (2 * S.n + 2) + 11) 0 c.length 0] up fun v u => v = .i S.cl.length ∧ u = addU up d S V c := by
 have hn := hS.n
 have hbx := hA.box
 have hwc := hA.wch
 have hco := hA.clo
 have a0 := atL_lt l0
 have a1 := atL_lt l1
 have k0 := at_ok S.n (c.getD 0 0) l0 hS.n
 have k1 := at_ok S.n (c.getD 1 0) l1 hS.n
 have hna : atL (c.getD 1 0) ≠ atL (c.getD 0 0) := fun e => hne (atL_inj l0 l1 e.symm)
 have g0 := i64s_get c 0 (by omega)
 have g1 := i64s_get c 1 (by omega)
 have w0 := hA.wli _ a0
 have w1 := hA.wli _ a1
 have b0 := hwl _ a0
 have b1 := hwl _ a1
 generalize hx0 : c.getD 0 0 = x0 at *
 generalize hx1 : c.getD 1 0 = x1 at *
 generalize hA0 : atL x0 = A0 at *
 generalize hA1 : atL x1 = A1 at *
 have p0 : (0 : Int) < (c.length : Int) := by omega
 have p1 : (1 : Int) < (c.length : Int) := by omega
 have hap : (S.cl.length + 1) * 24 ≤ 140737488355328 := by omega
 have ap0 : ((S.wl.getD A0 []).length + 1) * 8 ≤ 140737488355328 := by omega
 have ap1 : ((S.wl.getD A1 []).length + 1) * 8 ≤ 140737488355328 := by omega
 have htk : (ccells S).take S.cl.length = ccells S := List.take_of_length_le (by simp)
 have tk0 : (n64s (S.wl.getD A0 [])).take (S.wl.getD A0 []).length = n64s (S.wl.getD A0 []) := List.take_of_length_le (by simp)
 have tk1 : (n64s (S.wl.getD A1 [])).take (S.wl.getD A1 []).length = n64s (S.wl.getD A1 []) := List.take_of_length_le (by simp)
 have c0 := wcells_get S V A0 a0
 have c1 := wcells_get S V A1 a1
 have lw : (wcells S V).length = 2 * S.n + 2 := by simp
 have cs1 : ∀ X : PV, ((wcells S V).set A0 X)[A1]? = some (.vs 0 (A1 + 11) 0 (S.wl.getD A1 []).length (V.wv A1)) := fun X => by rw [List.getElem?_set_ne hna.symm]; exact c1
 have na2 : ¬ (A1 = A0) := hna
 have ne1 : ¬ (S.cl.length + (2 * S.n + 2) = A0) := by omega
 have ne2 : ¬ (S.cl.length + (2 * S.n + 2) + 11 = A0 + 11) := by omega
 have ne3 : ¬ (A1 + 11 = A0 + 11) := by omega
 have i0 : ((A0 : Nat) : Int) < ((2 * S.n + 2 : Nat) : Int) := by omega
 have i1 : ((A1 : Nat) : Int) < ((2 * S.n + 2 : Nat) : Int) := by omega
 refine ACalls.code Try.func78 rfl 66 rfl (by simp) [.tmp 4] rfl fun Q hQ => ?_
 simp only [ups, PV.up, argEnv]
 have ft := ai ty_3 (ai ty_22 (ai ty_35 (ai ty_130 (ai ty_133 trivial))))
 refine Run.seq ?_
 have fx := ai (@List.length_set.{0}) (ai zTn (ai zNn (ai zZa (ai ne3 (ai ne2 (ai ne1 (ai na2 (ai cs1 (ai lw (ai a1 (ai a0 (ai i1 (ai i0 (ai c1 (ai c0 (ai tk1 (ai tk0 (ai htk (ai ap1 (ai ap0 (ai hap (ai p1 (ai p0 (ai w1 (ai w0 (ai g1 (ai g0 (ai hc (ai hco (ai hwc (ai hbx (ai (@fget_fset) ft))))))))))))))))))))))))))))))))
 refine Run.go ?_
 refine End.kp [0, 1] ?_
 refine Run.seq ?_
 refine Run.go ?_
 refine End.kp [0, 1, 5] ?_
 refine Run.seq ?_
 refine Run.region rfl fun K hK => GOps.sim ?_
 refine GOps.litVec rfl (by simp only [litW, fx] <;> rfl) ?_
 refine GOps.sim ?_
 refine GOps.done (hK _ ?_); clear hK K
 refine End.kp [0, 1, 5] ?_
 refine Run.seq ?_
 refine Run.ghost (.spares 1) ?_
 simp only [ASt.pushN, ASt.push, List.append_assoc, List.cons_append, List.nil_append]
 have fx := ai (@List.length_set.{0}) (ai zTn (ai zNn (ai zZa (ai ne3 (ai ne2 (ai ne1 (ai na2 (ai cs1 (ai lw (ai a1 (ai a0 (ai i1 (ai i0 (ai c1 (ai c0 (ai tk1 (ai tk0 (ai htk (ai ap1 (ai ap0 (ai hap (ai p1 (ai p0 (ai w1 (ai w0 (ai g1 (ai g0 (ai hc (ai hco (ai hwc (ai hbx (ai (@fget_fset) ft))))))))))))))))))))))))))))))))
 refine Run.drawA fun K hK => ?_
 refine DOps.sim ?_
 refine DOps.call (.i (A0 : Nat)) [] [] rfl rfl rfl rfl (by kernel_rfl) (by simp [Agree]) (fun u hu => k0 u) ?_
 refine DOps.sim ?_
 refine DOps.call (.i (A0 : Nat)) [] [] rfl rfl rfl rfl (by kernel_rfl) (by simp [Agree]) (fun u hu => k0 u) ?_
 refine DOps.sim ?_
 refine DOps.nil ?_ (hK _ ?_)
 ·rcases hd with rfl | rfl <;> rfl
 clear hK K
 refine End.kp [0, 1, 5] ?_
 refine Run.seq ?_
 refine Run.ghost (.spares 1) ?_
 simp only [ASt.pushN, ASt.push, List.append_assoc, List.cons_append, List.nil_append]
 refine Run.drawA fun K hK => ?_
 refine DOps.sim ?_
 refine DOps.call (.i (A1 : Nat)) [] [] rfl rfl rfl rfl (by kernel_rfl) (by simp [Agree]) (fun u hu => k1 u) ?_
 refine DOps.sim ?_
 refine DOps.call (.i (A1 : Nat)) [] [] rfl rfl rfl rfl (by kernel_rfl) (by simp [Agree]) (fun u hu => k1 u) ?_
 refine DOps.sim ?_
 refine DOps.nil ?_ (hK _ ?_)
 ·rcases hd with rfl | rfl <;> rfl
 clear hK K
 refine End.kp [5] ?_
 refine Run.seq ?_
 refine Run.go ?_
 refine End.kp [4] ?_
 refine Run.ret (hQ _ _ ⟨.inr rfl, _, rfl, _, rfl, ?_⟩)
 refine ⟨rfl, ?_⟩
 have e1 : (add0 S c).wl.getD A1 [] = S.wl.getD A1 [] := by
  have := push_get S.wl A0 S.cl.length A1 (by rw [hS.wl]; exact a0)
  rw [if_neg hna] at this
  simp only [add0, hx0, hA0]
  exact this
 have e2 : (bump { V with c := V.c + 1 } A0).wv A1 = V.wv A1 := if_neg hna
 have hadd0 : add0 S c = { addC S c with wl := Sol.push S.wl A0 S.cl.length } := by rw [add0, hx0, hA0]
 have y1 := ccells_snoc S c
 have y2 : n64s (S.wl.getD A0 [] ++ [S.cl.length]) = n64s (S.wl.getD A0 []) ++ [PV.im (Im.int IntKind.i64 (S.cl.length : Nat))] := by simp
 have y3 : n64s (S.wl.getD A1 [] ++ [S.cl.length]) = n64s (S.wl.getD A1 []) ++ [PV.im (Im.int IntKind.i64 (S.cl.length : Nat))] := by simp
 have y4 : (wcells S V).set A0 (.vs 0 (A0 + 11) 0 ((S.wl.getD A0 []).length + 1) (V.wv A0 + 1)) = wcells (add0 S c) (bump { V with c := V.c + 1 } A0) := by simp only [add0, hx0, hA0]; exact wcells_set S V A0 S.cl.length a0 hS.wl
 have y5 := wcells_set (add0 S c) (bump { V with c := V.c + 1 } A0) A1 S.cl.length a1 (by show (Sol.push S.wl _ _).length = _; rw [push_len]; exact hS.wl)
 rw [e1, e2, ← y4] at y5
 have y6 : wcells { add0 S c with wl := Sol.push (add0 S c).wl A1 S.cl.length } (bump (bump { V with c := V.c + 1 } A0) A1) = wcells (S.add c) (addV V c) := by simp only [Sol.add, addV, add0, addC, hx0, hx1, hA0, hA1]
 rw [y6] at y5
 have y7 : (S.cl ++ [c]).length = S.cl.length + 1 := by simp
 have z : addU up d S V c = fset (fset (fset (fset (fset (fset up d 7 (.vec 22 (V.c + 1) (ccells { S with cl := S.cl ++ [c] }))) d 5 (sbox { S with cl := S.cl ++ [c] } { V with c := V.c + 1 })) d (A0 + 11) (.vec 3 (V.wv A0 + 1) (n64s (S.wl.getD A0 [] ++ [S.cl.length])))) d 1 (.vec 22 0 (wcells (add0 S c) (bump { V with c := V.c + 1 } A0))))
   d (A1 + 11) (.vec 3 ((bump { V with c := V.c + 1 } A0).wv A1 + 1) (n64s ((add0 S c).wl.getD A1 [] ++ [S.cl.length])))) d 1 (.vec 22 0 (wcells (S.add c) (addV V c))) := by rw [addU, grewU, grewU, hx0, hx1, hA0, hA1, ← y6, hadd0]; rfl
 rw [z, e1, e2, ← y1, y2, y3, ← y4, ← y5, sbox, y7]
 rfl

set_option maxHeartbeats 40000000
theorem nsucc {i n : Nat} (h : i < n) (hn : n ≤ 1000000000) : IntKind.i64.wrap ((i : Int) + 1) = ((i + 1 : Nat) : Int) := by
 rw [wrap64 (by omega)]
 rfl
theorem SAt.cons {up : Frs} {d : Nat} {S : Sol} {V : Ver} (h : SAt up d S V) (f : List AObj) : SAt (f :: up) (d + 1) S V :=
 ⟨h.box, h.wch, h.val, h.lev, h.why, h.clo, h.trl, h.sts, h.wli, h.cli⟩
theorem Spare.fset {up : Frs} {d : Nat} {S : Sol} {K m j : Nat} (h : Spare up d S K m) (hj : j < m + (2 * S.n + 2) + 11) (o : AObj) : Spare (fset up d j o) d S K m := fun k h1 h2 => by
 rw [fget_fset, if_neg (by omega)]
 exact h k h1 h2
def verW (V : Ver) (i g : Nat) : Ver := { V with wv := fun j => if j = i then g else V.wv j }
def wU (up : Frs) (d : Nat) (S : Sol) (V : Ver) (i g : Nat) (ks : List Nat) : Frs :=
 fset (fset up d (i + 11) (.vec 3 g (n64s ks))) d 1 (.vec 22 0 (wcells (S.putW i ks) (verW V i g)))
theorem putW_get (S : Sol) (i : Nat) (ks : List Nat) (j : Nat) (h : i < S.wl.length) : (S.putW i ks).wl.getD j [] = if j = i then ks else S.wl.getD j [] := getD_set _ _ _ _ _ h
theorem wcells_put (S : Sol) (V : Ver) (i g : Nat) (ks : List Nat) (hi : i < 2 * S.n + 2) (hw : S.wl.length = 2 * S.n + 2) : (wcells S V).set i (.vs 0 (i + 11) 0 ks.length g) = wcells (S.putW i ks) (verW V i g) := by
 refine List.ext_getElem? fun j => ?_
 have hg := putW_get S i ks j (by omega)
 show _ = ((List.range (2 * S.n + 2)).map fun i' => PV.vs 0 (i' + 11) 0 ((S.putW i ks).wl.getD i' []).length ((verW V i g).wv i'))[j]?
 simp only [wcells, List.getElem?_set, List.length_map, List.length_range, List.getElem?_map]
 by_cases e : i = j
 ·subst e
  rw [if_pos rfl, if_pos hi, List.getElem?_range hi]
  simp only [Option.map_some, hg, verW, if_true]
 ·rw [if_neg e]
  by_cases h2 : j < 2 * S.n + 2
  ·rw [List.getElem?_range h2]
   simp only [Option.map_some, hg, verW, if_neg (fun h : j = i => e h.symm)]
  ·rw [List.getElem?_eq_none (by simp; omega)]
   rfl
theorem wU_at {up : Frs} {d : Nat} {S : Sol} {V : Ver} (h : SAt up d S V) (i g : Nat) (ks : List Nat) (hi : i < 2 * S.n + 2) (hw : S.wl.length = 2 * S.n + 2) : SAt (wU up d S V i g ks) d (S.putW i ks) (verW V i g) := by
 have e : ∀ j, fget (wU up d S V i g ks) d j = if j = 1 then some (.vec 22 0 (wcells (S.putW i ks) (verW V i g))) else if j = i + 11 then some (.vec 3 g (n64s ks)) else fget up d j := fun j => by
  have h1 : ¬ (1 = i + 11) := by omega
  simp only [wU, fget_fset, true_and, h.wch, h.wli i hi, h1, if_false, Option.map_some]
 have o : ∀ j, j ≠ 1 → j ≠ i + 11 → fget (wU up d S V i g ks) d j = fget up d j := fun j h1 h2 => by rw [e, if_neg h1, if_neg h2]
 refine ⟨(o 5 (by omega) (by omega)).trans h.box, by rw [e, if_pos rfl], (o 2 (by omega) (by omega)).trans h.val, (o 3 (by omega) (by omega)).trans h.lev, (o 4 (by omega) (by omega)).trans h.why, (o 7 (by omega) (by omega)).trans h.clo, (o 8 (by omega) (by omega)).trans h.trl, (o 9 (by omega) (by omega)).trans h.sts, fun j hj => ?_, fun j hj => (o _ (by omega) (by show ¬ (j + (2 * S.n + 2) + 11 = i + 11); omega)).trans (h.cli j hj)⟩
 rw [e, if_neg (by omega), putW_get _ _ _ _ (by omega)]
 by_cases e2 : j = i
 ·subst e2
  rw [if_pos rfl, if_pos rfl, verW]
  simp
 ·rw [if_neg (by omega), if_neg e2]
  simp only [verW, if_neg e2]
  exact h.wli j hj
theorem wU_else (up : Frs) (d : Nat) (S : Sol) (V : Ver) (i g : Nat) (ks : List Nat) (hi : i < 2 * S.n + 2) : Else up (wU up d S V i g ks) d S V.K :=
 (((Else.refl up d S V.K).fset (by unfold SPl; omega) _).fset (by unfold SPl; omega) _)
theorem wU_spare {up : Frs} {d : Nat} {S : Sol} {V : Ver} {i g K m : Nat} {ks : List Nat} (h : Spare up d S K m) (hi : i < 2 * S.n + 2) : Spare (wU up d S V i g ks) d (S.putW i ks) K m :=
 Spare.fset (S := S) (Spare.fset (S := S) h (by omega) _) (by omega) _
theorem putC_at {up : Frs} {d : Nat} {S : Sol} {V : Ver} (h : SAt up d S V) (k : Nat) (c : List Int) (hk : k < S.cl.length) (hl : c.length = (S.cl.getD k []).length) : SAt (fset up d (k + (2 * S.n + 2) + 11) (.vec 3 0 (i64s c))) d (S.putC k c) V := by
 have o : ∀ j, j ≠ k + (2 * S.n + 2) + 11 → fget (fset up d (k + (2 * S.n + 2) + 11) (.vec 3 0 (i64s c))) d j = fget up d j := fun j h1 => by rw [fget_fset, if_neg (fun e => h1 e.2)]
 have hcl : (S.putC k c).cl.length = S.cl.length := by simp [Sol.putC]
 have hg : ∀ j, (S.putC k c).cl.getD j [] = if j = k then c else S.cl.getD j [] := fun j => getD_set _ _ _ _ _ hk
 refine ⟨?_, (o 1 (by omega)).trans h.wch, (o 2 (by omega)).trans h.val, (o 3 (by omega)).trans h.lev, (o 4 (by omega)).trans h.why, ?_, (o 8 (by omega)).trans h.trl, (o 9 (by omega)).trans h.sts, fun j hj => (o _ (by have : j < 2 * S.n + 2 := hj; omega)).trans (h.wli j hj), fun j hj => ?_⟩
 ·rw [o 5 (by omega), h.box, sbox, sbox, hcl]; rfl
 ·rw [o 7 (by omega), h.clo]
  congr 2
  simp only [ccells, hcl]
  refine List.map_congr_left fun j _ => ?_
  rw [hg]
  split
  ·rename_i e; subst e; rw [hl]; rfl
  ·rfl
 ·rw [hcl] at hj
  rw [hg]
  show fget _ d (j + (2 * S.n + 2) + 11) = _
  by_cases e : j = k
  ·subst e
   rw [if_pos rfl, fget_fset, if_pos ⟨rfl, rfl⟩, h.cli j hj]
   rfl
  ·rw [if_neg e, o _ (by omega)]
   exact h.cli j hj
theorem swap_cells (c : List Int) (i j : Nat) : ((i64s c).set i (.im (.int .i64 (c.getD j 0)))).set j (.im (.int .i64 (c.getD i 0))) = i64s (Sol.swapAt c i j) := by
 rw [i64s_set, i64s_set]
 rfl
theorem ccells_get (S : Sol) (k : Nat) (hk : k < S.cl.length) : (ccells S)[k]? = some (.vs 0 (k + (2 * S.n + 2) + 11) 0 (S.cl.getD k []).length 0) := by
 simp only [ccells, List.getElem?_map]
 rw [List.getElem?_range hk]
 rfl
structure Kept (up u : Frs) (d : Nat) (S : Sol) (V : Ver) (S' : Sol) (V' : Ver) : Prop where
 at' : SAt u d S' V'
 els : Else up u d S V.K
 K : V'.K = V.K
 n : S'.n = S.n
 cl : S'.cl.length = S.cl.length
 st : S'.st = S.st
 spare : ∀ m, S.cl.length ≤ m → Spare up d S V.K m → Spare u d S V.K m
theorem Kept.refl {up : Frs} {d : Nat} {S : Sol} {V : Ver} (h : SAt up d S V) : Kept up up d S V S V := ⟨h, Else.refl _ _ _ _, rfl, rfl, rfl, rfl, fun _ _ h => h⟩
theorem Kept.trans {up u v : Frs} {d : Nat} {S S1 S2 : Sol} {V V1 V2 : Ver} (h : Kept up u d S V S1 V1) (k : Kept u v d S1 V1 S2 V2) : Kept up v d S V S2 V2 :=
 ⟨k.at', h.els.trans h.n (h.K ▸ k.els), k.K.trans h.K, k.n.trans h.n, k.cl.trans h.cl, k.st.trans h.st, fun m hm hs => by
  have h1 := h.spare m hm hs
  have h2 := k.spare m (by rw [h.cl]; exact hm) (by intro q a b; rw [h.n]; exact h1 q a (by rw [← h.K]; exact b))
  intro q a b
  have := h2 q a (by rw [h.K]; exact b)
  rwa [h.n] at this⟩
theorem putC_kept {up : Frs} {d : Nat} {S : Sol} {V : Ver} (h : SAt up d S V) {k : Nat} {c : List Int} (hk : k < S.cl.length) (hK : S.cl.length ≤ V.K) (hl : c.length = (S.cl.getD k []).length) : Kept up (fset up d (k + (2 * S.n + 2) + 11) (.vec 3 0 (i64s c))) d S V (S.putC k c) V :=
 ⟨putC_at h k c hk hl, (Else.refl _ _ _ _).fset (by unfold SPl; omega) _, rfl, rfl, by simp [Sol.putC], rfl, fun m hm hs => hs.fset (by omega) _⟩
theorem wU_kept {up : Frs} {d : Nat} {S : Sol} {V : Ver} (h : SAt up d S V) {i g : Nat} {ks : List Nat} (hi : i < 2 * S.n + 2) (hw : S.wl.length = 2 * S.n + 2) : Kept up (wU up d S V i g ks) d S V (S.putW i ks) (verW V i g) :=
 ⟨wU_at h i g ks hi hw, wU_else up d S V i g ks hi, rfl, rfl, rfl, rfl, fun m hm hs => wU_spare hs hi⟩
theorem grewU_kept {up : Frs} {d : Nat} {S : Sol} {V : Ver} (h : SAt up d S V) {i k : Nat} (hi : i < 2 * S.n + 2) (hw : S.wl.length = 2 * S.n + 2) : Kept up (grewU up d S V i k) d S V { S with wl := Sol.push S.wl i k } (bump V i) :=
 ⟨grewU_at h i k hi hw, grewU_else up d S V i k hi, rfl, rfl, rfl, rfl, fun m hm hs => Spare.fset (Spare.fset hs (by omega) _) (by omega) _⟩
theorem setU_kept {up : Frs} {d : Nat} {S : Sol} {V : Ver} (h : SAt up d S V) (l w : Int) : Kept up (setU up d S V l w) d S V (S.set l w) (setV V) :=
 ⟨setU_at h l w, setU_else up d S V l w, rfl, rfl, rfl, rfl, fun m hm hs => setU_spare hs l w⟩

set_option maxRecDepth 100000
set_option maxHeartbeats 40000000
abbrev clss (l : List (List Int)) : List (List Im) := l.map fun r => [.sl (ints r)]
theorem clss_get (l : List (List Int)) (i : Nat) (h : i < l.length) : (clss l)[i]? = some [.sl (ints (l.getD i []))] := by rw [List.getElem?_map, getD_some [] h]; rfl
theorem lits_get (l : List Int) (i : Nat) (h : i < l.length) : (ints l)[i]? = some [.int .i64 (l.getD i 0)] := by rw [List.getElem?_map, getD_some 0 h]; rfl
structure ClsOk (n : Nat) (cs : List (List Int)) : Prop where
 nn : n ≤ 20000
 len : cs.length ≤ 80000
 lit : ∀ c ∈ cs, c.length ≤ 1000000 ∧ ∀ l ∈ c, LitOk n l
theorem csucc {i n : Nat} (h : i < n) (hn : n ≤ 1000000000) : IntKind.i64.wrap ((i : Int) + 1) = ((i + 1 : Nat) : Int) := by
 rw [wrap64 (by omega)]
 rfl
theorem satCheck_ok (n : Nat) (cs : List (List Int)) (h : ClsOk n cs) (up : Frs) : ACalls Try.prog 45 [.im (.sl (clss cs)), .i (n : Nat)] up fun v u => v = .i 0 ∧ u = up := by
 have hn := h.nn
 have hcl := h.len
 have d1 : decide ((n : Int) < 0) = false := decide_eq_false (by omega)
 have d2 : decide ((20000 : Int) < (n : Int)) = false := decide_eq_false (by omega)
 have wn : IntKind.i64.wrap (0 - (n : Int)) = -(n : Int) := by rw [wrap64 (by omega)]; omega
 refine ACalls.code Try.func45 rfl 45 rfl (by simp) [.tmp 4] rfl fun Q hQ => ?_
 simp only [ups, PV.up, argEnv]
 have ft := ai ty_3 (ai ty_4 (ai ty_22 (ai ty_35 (ai ty_36 trivial))))
 refine Run.seq ?_
 have fx := ai zTn (ai zNn (ai (@List.length_map.{0, 0}) (ai wn (ai d2 (ai d1 ft)))))
 refine Run.go ?_
 refine End.kp [0, 1] ?_
 refine Run.seq ?_
 refine Run.seq ?_
 refine Run.go ?_
 refine End.kp [0, 1, 14] ?_
 refine Run.cond _ rfl (fun hb => ?_) (fun hb => ?_)
 ·have hb2 := hb
  simp at hb
 ·have hb2 := hb
  refine Run.skip ?_
  refine End.kp [0, 1] ?_
  refine Run.seq ?_
  refine Run.seq ?_
  refine Run.go ?_
  refine End.kp [0, 1, 17] ?_
  refine Run.cond _ rfl (fun hb => ?_) (fun hb => ?_)
  ·have hb3 := hb
   have := of_decide_eq_true hb; omega
  ·have hb3 := hb
   refine Run.skip ?_
   refine End.kp [0, 1] ?_
   refine Run.seq ?_
   refine Run.seq ?_
   refine Run.go ?_
   refine End.kp [1, 18, 19, 20] ?_
   refine Run.block ?_
   refine Run.ghost (Ghost.fm [(1, .i (n : Nat)), (18, .im (.sl (clss cs))), (19, .i cs.length), (20, .i 0)] 0) ?_
   refine Run.loop (fun m st => ∃ (i : Nat), m = cs.length - i ∧ i ≤ cs.length ∧ st = ⟨[(1, .i (n : Nat)), (18, .im (.sl (clss cs))), (19, .i cs.length), (20, .i (i : Nat))], [], up⟩) cs.length ⟨0, rfl, by omega, rfl⟩ fun m st hI => ?_
   obtain ⟨i, rfl, hi, rfl⟩ := hI
   refine Run.seq ?_
   refine Run.go ?_
   refine End.kp [1, 18, 19, 20, 21] ?_
   refine Run.seq ?_
   refine Run.cond _ rfl (fun hb => ?_) (fun hb => ?_)
   ·have hb4 := of_decide_eq_true hb
    have hil : i < cs.length := by omega
    have gi := clss_get cs i hil
    have hii : (i : Int) < (cs.length : Int) := by omega
    have wi := csucc hil (by omega)
    obtain ⟨hc1, hc2⟩ := h.lit _ (gtD_mem (d := []) hil)
    generalize cs.getD i [] = c at gi hc1 hc2
    refine Run.skip ?_
    refine End.kp [1, 18, 19, 20] ?_
    refine Run.seq ?_
    refine Run.block ?_
    refine Run.seq ?_
    have fx := ai wi (ai hii (ai gi (ai zTn (ai zNn (ai (@List.length_map.{0, 0}) (ai wn (ai d2 (ai d1 ft))))))))
    refine Run.go ?_
    refine End.kp [1, 6, 18, 19, 20] ?_
    refine Run.seq ?_
    refine Run.go ?_
    refine End.kp [1, 18, 19, 20, 24, 25, 26] ?_
    refine Run.block ?_
    refine Run.ghost (Ghost.fm [(1, .i (n : Nat)), (18, .im (.sl (clss cs))), (19, .i cs.length), (20, .i (i : Nat)), (24, .im (.sl (ints c))), (25, .i c.length), (26, .i 0)] 0) ?_
    refine Run.loop (fun m st => ∃ (j : Nat), m = c.length - j ∧ j ≤ c.length ∧ st = ⟨[(1, .i (n : Nat)), (18, .im (.sl (clss cs))), (19, .i cs.length), (20, .i (i : Nat)), (24, .im (.sl (ints c))), (25, .i c.length), (26, .i (j : Nat))], [], up⟩) c.length ⟨0, rfl, by omega, rfl⟩ fun m st hJ => ?_
    obtain ⟨j, rfl, hj, rfl⟩ := hJ
    refine Run.seq ?_
    refine Run.go ?_
    refine End.kp [1, 18, 19, 20, 24, 25, 26, 27] ?_
    refine Run.seq ?_
    refine Run.cond _ rfl (fun hb => ?_) (fun hb => ?_)
    ·have hb5 := of_decide_eq_true hb
     have hjl : j < c.length := by omega
     have gj := lits_get c j hjl
     have hjj : (j : Int) < (c.length : Int) := by omega
     have wj := csucc hjl (by omega)
     have hl := hc2 _ (gtD_mem (d := 0) hjl)
     generalize c.getD j 0 = l at gj hl
     obtain ⟨l0, l1⟩ := hl
     have e0 : (l == 0) = false := by simpa using l0
     have e0' : decide (l = 0) = false := decide_eq_false l0
     have e1 : decide (l < -(n : Int)) = false := decide_eq_false (by omega)
     have e2 : decide ((n : Int) < l) = false := decide_eq_false (by omega)
     refine Run.skip ?_
     refine End.kp [1, 18, 19, 20, 24, 25, 26] ?_
     refine Run.seq ?_
     refine Run.block ?_
     refine Run.seq ?_
     have fx := ai e2 (ai e1 (ai e0' (ai e0 (ai wj (ai hjj (ai gj (ai wi (ai hii (ai gi (ai zTn (ai zNn (ai (@List.length_map.{0, 0}) (ai wn (ai d2 (ai d1 ft)))))))))))))))
     refine Run.go ?_
     refine End.kp [1, 8, 18, 19, 20, 24, 25, 26] ?_
     refine Run.seq ?_
     refine Run.go ?_
     refine End.kp [1, 18, 19, 20, 24, 25, 26, 42] ?_
     refine Run.cond _ rfl (fun hb => ?_) (fun hb => ?_)
     ·have hb6 := hb
      simp at hb
     ·have hb6 := hb
      refine Run.skip ?_
      refine End.blk ?_
      refine End.kp [1, 18, 19, 20, 24, 25, 26] ?_
      refine Run.go ?_
      refine End.lp ?_
      refine ⟨c.length - (j + 1), _, by omega, Ghost.fm [(1, .i (n : Nat)), (18, .im (.sl (clss cs))), (19, .i cs.length), (20, .i (i : Nat)), (24, .im (.sl (ints c))), (25, .i c.length), (26, .i (j + 1 : Nat))] 0, j + 1, rfl, by omega, rfl⟩
    ·have hb5 := hb
     refine Run.exit rfl ?_
     refine End.blk ?_
     refine End.kp [1, 18, 19, 20] ?_
     refine Run.go ?_
     refine End.lp ?_
     refine ⟨cs.length - (i + 1), _, by omega, Ghost.fm [(1, .i (n : Nat)), (18, .im (.sl (clss cs))), (19, .i cs.length), (20, .i (i + 1 : Nat))] 0, i + 1, rfl, by omega, rfl⟩
   ·have hb4 := hb
    refine Run.exit rfl ?_
    refine End.kp [] ?_
    refine Run.seq ?_
    refine Run.go ?_
    refine End.kp [4] ?_
    refine Run.ret (hQ _ _ ⟨.inr rfl, _, rfl, _, rfl, ?_⟩)
    exact ⟨rfl, rfl⟩

set_option maxRecDepth 100000
set_option maxHeartbeats 40000000
def sink (c : List Int) : Nat → List Int
 | 0 => c
 | j + 1 => if c.getD (j + 1) 0 < c.getD j 0 then sink (Sol.swapAt c (j + 1) j) j else c
def sorts : Nat → List Int → Nat → List Int
 | 0, c, i => c
 | f + 1, c, i => if i < c.length then sorts f (sink c i) (i + 1) else c
theorem sink_len (c : List Int) (j : Nat) : (sink c j).length = c.length := by
 induction j generalizing c with
 | zero => rfl
 | succ j ih =>
  rw [sink]
  split
  ·rw [ih, swapAt_len]
  ·rfl
theorem isNaN_ok (x : Int) (up : Frs) : ACalls Try.prog 130 [.i x] up fun v u => v = .im (.bool false) ∧ u = up := by
 have e0 : (x != x) = false := by simp
 refine ACalls.code Try.func130 rfl 6 rfl (by simp) [.tmp 2] rfl fun Q hQ => ?_
 simp only [ups, PV.up, argEnv]
 have ft := ai ty_3 (ai ty_4 trivial)
 refine Run.seq ?_
 have fx := ai e0 ft
 refine Run.go ?_
 refine End.kp [0] ?_
 refine Run.seq ?_
 refine Run.go ?_
 refine End.kp [2] ?_
 refine Run.ret (hQ _ _ ⟨.inr rfl, _, rfl, _, rfl, ?_⟩)
 exact ⟨rfl, rfl⟩
theorem cmpLess_ok (x y : Int) (up : Frs) : ACalls Try.prog 109 [.i x, .i y] up fun v u => v = .im (.bool (decide (x < y))) ∧ u = up := by
 refine ACalls.code Try.func109 rfl 17 rfl (by simp) [.tmp 4] rfl fun Q hQ => ?_
 simp only [ups, PV.up, argEnv]
 have ft := ai ty_3 (ai ty_4 trivial)
 refine Run.seq ?_
 have fx := ft
 refine Run.go ?_
 refine End.kp [0, 1] ?_
 refine Run.seq ?_
 refine Run.region rfl fun K hK => GOps.sim ?_
 refine GOps.call rfl rfl rfl rfl (by kernel_rfl) (ACalls.sim ?_)
 refine (isNaN_ok x _).mono fun v u hv => ?_
 obtain ⟨rfl, rfl⟩ := hv
 refine ⟨_, _, rfl, GOps.sim ?_⟩
 refine GOps.done (hK _ ?_); clear hK K
 refine End.kp [4] ?_
 refine Run.ret (hQ _ _ ⟨.inr rfl, _, rfl, _, rfl, ?_⟩)
 exact ⟨rfl, rfl⟩
theorem insSort_ok (p g n : Nat) (c : List Int) (up : Frs) (hc : fget up 2 p = some (.vec 3 g (i64s c))) (hn : n = c.length) (hl : n ≤ 12) : ACalls Try.prog 122 [.vs 2 p 0 n g, .i 0, .i (n : Nat)] up fun v u => v = .tup [] ∧ u = fset up 2 p (.vec 3 g (i64s (sorts (n - 1) c 1))) := by
 refine ACalls.code Try.func122 rfl 49 rfl (by simp) [] rfl fun Q hQ => ?_
 simp only [ups, PV.up, argEnv]
 have ft := ai ty_3 (ai ty_4 (ai ty_22 trivial))
 refine Run.seq ?_
 have fx := ai (@List.length_set.{0}) (ai zTn (ai zNn (ai zZa ft)))
 refine Run.go ?_
 refine End.kp [0, 1, 2, 6] ?_
 refine Run.block ?_
 refine Run.ghost (Ghost.fm [(0, .vs 3 p 0 n g), (1, .i 0), (2, .i (n : Nat)), (6, .i 1)] 0) ?_
 refine Run.loop (fun m st => ∃ (i : Nat) (c1 : List Int), m = n - i ∧ 1 ≤ i ∧ c1.length = n ∧ sorts (n - 1) c 1 = sorts m c1 i ∧ st = ⟨[(0, .vs 3 p 0 n g), (1, .i 0), (2, .i (n : Nat)), (6, .i (i : Nat))], [], fset up 2 p (.vec 3 g (i64s c1))⟩) (n - 1) ⟨1, c, rfl, by omega, hn.symm, rfl, ?_⟩ fun m st hI => ?_
 case refine_1 => rw [fset_self _ _ _ _ hc]; rfl
 obtain ⟨i, c1, rfl, hi, hc1, hsr, rfl⟩ := hI
 refine Run.seq ?_
 refine Run.seq ?_
 refine Run.go ?_
 refine End.kp [0, 1, 2, 6, 12] ?_
 refine Run.cond _ rfl (fun hb => ?_) (fun hb => ?_)
 ·have hb2 := of_decide_eq_true hb
  have hin : i < n := by omega
  have wi := nsucc hin (by omega)
  refine Run.skip ?_
  refine End.kp [0, 1, 2, 6] ?_
  refine Run.seq ?_
  refine Run.block ?_
  refine Run.seq ?_
  have fx := ai wi fx
  refine Run.go ?_
  refine End.kp [0, 1, 2, 6, 7] ?_
  refine Run.block ?_
  refine Run.ghost (Ghost.fm [(0, .vs 3 p 0 n g), (1, .i 0), (2, .i (n : Nat)), (6, .i (i : Nat)), (7, .i (i : Nat))] 0) ?_
  refine Run.loop (fun m st => ∃ (j : Nat) (c2 : List Int), j = m ∧ j ≤ i ∧ c2.length = n ∧ sink c1 i = sink c2 j ∧ st = ⟨[(0, .vs 3 p 0 n g), (1, .i 0), (2, .i (n : Nat)), (6, .i (i : Nat)), (7, .i (j : Nat))], [], fset up 2 p (.vec 3 g (i64s c2))⟩) i ⟨i, c1, rfl, by omega, hc1, rfl, rfl⟩ fun m st hJ => ?_
  obtain ⟨j, c2, rfl, hj, hc2, hsk, rfl⟩ := hJ
  have hcc : fget (fset up 2 p (.vec 3 g (i64s c2))) 2 p = some (.vec 3 g (i64s c2)) := by rw [fget_fset, if_pos ⟨rfl, rfl⟩, hc]; rfl
  refine Run.seq ?_
  refine Run.seq ?_
  rcases Bool.eq_false_or_eq_true (decide (0 < j)) with hs4 | hs4
  ·skip
   have hjp := of_decide_eq_true hs4
   obtain ⟨q, hq⟩ : ∃ q, j = q + 1 := ⟨j - 1, by omega⟩
   have dj : decide ((0 : Int) < (j : Int)) = true := decide_eq_true (by omega)
   have gj := i64s_get c2 j (by omega)
   have gq := i64s_get c2 q (by omega)
   have wj : IntKind.i64.wrap ((j : Int) - 1) = (q : Int) := by rw [wrap64 (by omega)]; omega
   have j1 : (j : Int) < (n : Int) := by omega
   have q1 : (q : Int) < (n : Int) := by omega
   have jl : j < (i64s c2).length := by simp; omega
   have ql : q < (i64s c2).length := by simp; omega
   have fx := ai ql (ai jl (ai q1 (ai j1 (ai wj (ai gq (ai gj (ai dj (ai hs4 (ai hcc fx)))))))))
   refine Run.drawA fun K hK => ?_
   refine DOps.sim ?_
   refine DOps.call (.im (.bool (decide (c2.getD j 0 < c2.getD q 0)))) [] [] rfl rfl rfl rfl (by kernel_rfl) (by simp [Agree]) (fun u hu => cmpLess_ok (c2.getD j 0) (c2.getD q 0) u) ?_
   refine DOps.sim ?_
   refine DOps.nil (metAll_quiet rfl) (hK _ ?_); clear hK K
   refine End.kp [0, 1, 2, 6, 7, 30] ?_
   refine Run.cond _ rfl (fun hb => ?_) (fun hb => ?_)
   ·have hb3 := of_decide_eq_true hb
    have hsw := swap_cells c2 j q
    have hsn : sink c1 i = sink (Sol.swapAt c2 j q) q := by rw [hsk, hq, sink, if_pos (by rw [← hq]; exact hb3)]
    refine Run.skip ?_
    refine End.kp [0, 1, 2, 6, 7] ?_
    refine Run.seq ?_
    refine Run.block ?_
    have fx := ai hc (ai (@fget_fset) (ai ql (ai jl (ai q1 (ai j1 (ai wj (ai gq (ai gj (ai dj (ai hs4 (ai hcc (ai wi (ai (@List.length_set.{0}) (ai zTn (ai zNn (ai zZa ft))))))))))))))))
    refine Run.drawA fun K hK => ?_
    refine DOps.sim ?_
    refine DOps.nil ?_ (hK _ ?_)
    ·rfl
    clear hK K
    refine End.blk ?_
    refine End.kp [0, 1, 2, 6, 7] ?_
    refine Run.go ?_
    refine End.lp ?_
    refine ⟨q, _, by omega, Ghost.fm [(0, .vs 3 p 0 n g), (1, .i 0), (2, .i (n : Nat)), (6, .i (i : Nat)), (7, .i (q : Nat))] 0, q, Sol.swapAt c2 j q, rfl, by omega, by rw [swapAt_len]; exact hc2, hsn, ?_⟩
    rw [hsw]
    rfl
   ·have hb3 := of_decide_eq_false hb
    have hsn : sink c1 i = c2 := by rw [hsk, hq, sink, if_neg (by rw [← hq]; exact hb3)]
    refine Run.exit rfl ?_
    refine End.blk ?_
    refine End.kp [0, 1, 2, 6] ?_
    have fx := ai ql (ai jl (ai q1 (ai j1 (ai wj (ai gq (ai gj (ai dj (ai hs4 (ai hcc (ai wi (ai (@List.length_set.{0}) (ai zTn (ai zNn (ai zZa ft))))))))))))))
    refine Run.go ?_
    refine End.lp ?_
    refine ⟨n - (i + 1), _, by omega, Ghost.fm [(0, .vs 3 p 0 n g), (1, .i 0), (2, .i (n : Nat)), (6, .i (i + 1 : Nat))] 0, i + 1, c2, rfl, by omega, by omega, ?_, rfl⟩
    rw [hsr, show n - i = (n - (i + 1)) + 1 by omega, sorts, if_pos (by omega), hsn]
  ·skip
   have hjp := of_decide_eq_false hs4
   have dj : decide ((0 : Int) < (j : Int)) = false := decide_eq_false (by omega)
   have gj : True := trivial
   have gq : True := trivial
   have wj : True := trivial
   have j1 : True := trivial
   have q1 : True := trivial
   have jl : True := trivial
   have ql : True := trivial
   have fx := ai ql (ai jl (ai q1 (ai j1 (ai wj (ai gq (ai gj (ai dj (ai hs4 (ai hcc fx)))))))))
   refine Run.drawA fun K hK => ?_
   refine DOps.sim ?_
   refine DOps.nil (metAll_quiet rfl) (hK _ ?_); clear hK K
   refine End.kp [0, 1, 2, 6, 7, 30] ?_
   refine Run.cond _ rfl (fun hb => ?_) (fun hb => ?_)
   ·have hb3 := hb
    simp at hb
   ·have hb3 := hb
    have hsn : sink c1 i = c2 := by rw [hsk, show j = 0 by omega]; rfl
    refine Run.exit rfl ?_
    refine End.blk ?_
    refine End.kp [0, 1, 2, 6] ?_
    have fx := ai ql (ai jl (ai q1 (ai j1 (ai wj (ai gq (ai gj (ai dj (ai hs4 (ai hcc (ai wi (ai (@List.length_set.{0}) (ai zTn (ai zNn (ai zZa ft))))))))))))))
    refine Run.go ?_
    refine End.lp ?_
    refine ⟨n - (i + 1), _, by omega, Ghost.fm [(0, .vs 3 p 0 n g), (1, .i 0), (2, .i (n : Nat)), (6, .i (i + 1 : Nat))] 0, i + 1, c2, rfl, by omega, by omega, ?_, rfl⟩
    rw [hsr, show n - i = (n - (i + 1)) + 1 by omega, sorts, if_pos (by omega), hsn]
 ·have hb2 := of_decide_eq_false hb
  refine Run.exit rfl ?_
  refine End.all (hQ _ _ ⟨.inl rfl, _, rfl, _, rfl, ?_⟩)
  refine ⟨rfl, ?_⟩
  rw [hsr, show n - i = 0 by omega]
  rfl

end Go.Proofs.YtkjfdacjjogpcaaPi
