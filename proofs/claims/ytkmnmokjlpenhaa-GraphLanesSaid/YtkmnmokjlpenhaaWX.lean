/- The walks of makers of graphs: New, Nodes, fail, In, and, known, And. -/
import Derived.Test.YtkmnmokjlpenhaaWR
import Derived.Test.YtkmnmokjlpenhaaPNames
set_option linter.unusedVariables false
set_option linter.unusedSimpArgs false
set_option maxRecDepth 100000
namespace Go.Proofs.YtkmnmokjlpenhaaPi
set_option maxHeartbeats 4000000
def seenE : Int → List (Int × Int) → List (List Im × Im)
  | _, [] => []
  | b, p :: ps => ([.int .i64 p.1, .int .i64 p.2], .int .i64 (2 * b)) :: seenE (b + 1) ps
theorem seenE_snoc (p : Int × Int) : ∀ (ps : List (Int × Int)) (b : Int), seenE b (ps ++ [p]) = seenE b ps ++ [([.int .i64 p.1, .int .i64 p.2], .int .i64 (2 * (b + ps.length)))]
  | [], b => by simp [seenE]
  | x :: ps, b => by
    simp only [List.cons_append, seenE, seenE_snoc p ps (b + 1), List.length_cons]
    rw [show b + 1 + (ps.length : Int) = b + ((ps.length + 1 : Nat) : Int) by omega]
/-- Where a pair stands first. -/
def findA (p : Int × Int) : List (Int × Int) → Nat → Option Nat
  | [], _ => none
  | x :: ps, i => if x = p then some i else findA p ps (i + 1)
theorem findKs_seen (p : Int × Int) : ∀ (ps : List (Int × Int)) (b : Int) (i : Nat), findKs Try.prog [62, 62] [.int .i64 p.1, .int .i64 p.2] (seenE b ps) i = some ((findA p ps i).map fun k => (k, .int .i64 (2 * (b + (k : Int) - i))))
  | [], b, i => rfl
  | x :: ps, b, i => by
    have he : eqIms Try.prog [62, 62] ([Im.int .i64 p.1, .int .i64 p.2].map .im) ([Im.int .i64 x.1, .int .i64 x.2].map .im) = some (decide (x = p)) := by
      simp only [List.map_cons, List.map_nil, eqIms, ty_62, Option.isSome_some, and_self, if_true, Option.map_some, Option.some.injEq]
      by_cases h : x = p
      · subst h; simp
      · rw [decide_eq_false h]
        by_cases h1 : p.1 = x.1
        · have h2 : ¬ p.2 = x.2 := fun e => h (Prod.ext h1.symm e.symm)
          simp [h1, h2]
        · simp [h1]
    simp only [seenE, findKs, he]
    by_cases h : x = p
    · simp only [decide_eq_true h, findA, if_pos h, List.length_cons, List.length_nil, Option.map_some]
      simp
    · simp only [decide_eq_false h, findA, if_neg h, List.length_cons, List.length_nil]
      rw [if_pos (by omega), findKs_seen p ps (b + 1) (i + 1)]
      congr 1
      cases findA p ps (i + 1) with
      | none => rfl
      | some k => simp only [Option.map_some, Option.some.injEq, Prod.mk.injEq, true_and, Im.int.injEq]; omega
theorem findA_range (p : Int × Int) : ∀ (ps : List (Int × Int)) (i k : Nat), findA p ps i = some k → i ≤ k ∧ ps[k - i]? = some p
  | [], i, k, h => by simp [findA] at h
  | x :: ps, i, k, h => by
    simp only [findA] at h
    split at h
    · rename_i e
      simp only [Option.some.injEq] at h
      subst h
      simp [e]
    · obtain ⟨h1, h2⟩ := findA_range p ps (i + 1) k h
      refine ⟨by omega, ?_⟩
      rw [show k - i = (k - (i + 1)) + 1 by omega]
      simpa using h2
/-- A maker: its names, registers, ands, and the first error. -/
structure LMk where
  inn : List ByteArray
  regs : List LReg
  ands : List (Int × Int)
  bad : Int
abbrev LMk.first (m : LMk) : Int := 1 + m.inn.length + m.regs.length
abbrev mkBox (r q : Nat) (m : LMk) : AObj := .box [.im (.sl (strs m.inn)), .im (.sl (m.regs.map LReg.im)), .ms 0 r m.ands.length, .map 0 q, .i m.bad]
abbrev mkRow (m : LMk) : AObj := .row 137 2 (m.ands.map nd) 0
abbrev mkMap (m : LMk) : AObj := .map (seenE m.first m.ands)
structure MkAt (up : Frs) (d j r q : Nat) (m : LMk) : Prop where
  box : fget up d j = some (mkBox r q m)
  row : fget up d r = some (mkRow m)
  map : fget up d q = some (mkMap m)
structure MkSmall (m : LMk) : Prop where
  inn : m.inn.length ≤ 200
  regs : m.regs.length ≤ 300
  ands : m.ands.length ≤ 4000
def setMk (up : Frs) (d j r q : Nat) (m : LMk) : Frs := fset (fset (fset up d j (mkBox r q m)) d r (mkRow m)) d q (mkMap m)
theorem setMk_self {up : Frs} {d j r q : Nat} {m : LMk} (h : MkAt up d j r q m) : setMk up d j r q m = up := by
  rw [setMk, fset_self up d j _ h.box, fset_self up d r _ h.row, fset_self up d q _ h.map]
theorem setMk_at {up : Frs} {d j r q : Nat} {m m' : LMk} (h : MkAt up d j r q m) : MkAt (setMk up d j r q m') d j r q m' := by
  have h1 : ¬ (d = d ∧ j = r) := ref_ne h.row h.box (by simp)
  have h2 : ¬ (d = d ∧ j = q) := ref_ne h.map h.box (by simp)
  have h3 : ¬ (d = d ∧ r = q) := ref_ne h.map h.row (by simp)
  have hr2 : fget (fset up d j (mkBox r q m')) d r = some (mkRow m) := by rw [fget_fset_ne (ref_ne h.box h.row (by simp))]; exact h.row
  have hq2 : fget (fset up d j (mkBox r q m')) d q = some (mkMap m) := by rw [fget_fset_ne (ref_ne h.box h.map (by simp))]; exact h.map
  have hq3 : fget (fset (fset up d j (mkBox r q m')) d r (mkRow m')) d q = some (mkMap m) := by rw [fget_fset_ne (ref_ne h.row h.map (by simp))]; exact hq2
  refine ⟨?_, ?_, ?_⟩
  · rw [setMk, fget_fset_ne h2, fget_fset_ne h1, fget_fset_same _ _ _ _ _ h.box]
  · rw [setMk, fget_fset_ne h3, fget_fset_same _ _ _ _ _ hr2]
  · rw [setMk, fget_fset_same _ _ _ _ _ hq3]
theorem setMk_set {up : Frs} {d j r q : Nat} {m m' m2 : LMk} (h : MkAt up d j r q m) : setMk (setMk up d j r q m') d j r q m2 = setMk up d j r q m2 := by
  have h1 : ¬ (d = d ∧ j = r) := ref_ne h.row h.box (by simp)
  have h2 : ¬ (d = d ∧ j = q) := ref_ne h.map h.box (by simp)
  have h3 : ¬ (d = d ∧ r = q) := ref_ne h.map h.row (by simp)
  unfold setMk
  rw [fset_comm (fset (fset up d j (mkBox r q m')) d r (mkRow m')) d q d j _ _ (fun e => h2 ⟨rfl, e.2.symm⟩), fset_comm (fset up d j (mkBox r q m')) d r d j _ _ (fun e => h1 ⟨rfl, e.2.symm⟩), fset_fset]
  rw [fset_comm (fset (fset up d j (mkBox r q m2)) d r (mkRow m')) d q d r _ _ (fun e => h3 ⟨rfl, e.2.symm⟩), fset_fset, fset_fset]
/-- The and of two literals. -/
def mkAnd (m : LMk) (a b : Int) : Int × LMk :=
  if min a b = 0 ∨ min a b = flipL (max a b) then (0, m) else if min a b = 1 ∨ min a b = max a b then (max a b, m) else
  match findA (min a b, max a b) m.ands 0 with
  | some k => (2 * (m.first + k), m)
  | none => (2 * (m.first + m.ands.length), { m with ands := m.ands ++ [(min a b, max a b)] })
theorem mNodes_ok (m : LMk) (hm : MkSmall m) (up : Frs) (d j r q : Nat) (hk : MkAt up d j r q m) : ACalls Try.prog 146 [.ptr d j 0] up fun v u => v = .i (1 + m.inn.length + m.regs.length + m.ands.length) ∧ u = up := by
  obtain ⟨z1, z2, z3⟩ := hm
  have kb := hk.box
  have kr := hk.row
  have kq := hk.map
  have w1 : IntKind.i64.wrap (1 + (m.inn.length : Int)) = 1 + (m.inn.length : Int) := wrap64 (by omega)
  have w2 : IntKind.i64.wrap (1 + (m.inn.length : Int) + m.regs.length) = 1 + (m.inn.length : Int) + m.regs.length := wrap64 (by omega)
  have w3 : IntKind.i64.wrap (1 + (m.inn.length : Int) + m.regs.length + m.ands.length) = 1 + (m.inn.length : Int) + m.regs.length + m.ands.length := wrap64 (by omega)
  refine ACalls.code Try.func146 rfl 21 rfl (by simp) [.tmp 2] rfl fun Q hQ => ?_
  simp only [ups, PV.up, argEnv]
  have ft := And.intro ty_2 (And.intro ty_3 (And.intro ty_9 (And.intro ty_26 (And.intro ty_47 (And.intro ty_48 (And.intro ty_69 (And.intro ty_109 (And.intro ty_137 (And.intro ty_170 trivial)))))))))
  refine Run.seq ?_
  have fx := And.intro w3 (And.intro w2 (And.intro w1 (And.intro rim_len (And.intro strs_len (And.intro kb ft)))))
  refine Run.go ?_
  refine End.kp [0] ?_
  refine Run.seq ?_
  refine Run.drawA fun K hK => ?_
  refine DOps.sim ?_
  refine DOps.nil (metAll_quiet rfl) (hK _ ?_); clear hK K
  refine End.kp [2] ?_
  refine Run.ret (hQ _ _ ⟨.inr rfl, _, rfl, _, rfl, ?_⟩)
  exact ⟨rfl, rfl⟩
theorem mIn_ok (i : Nat) (m : LMk) (hm : MkSmall m) (up : Frs) (d j r q : Nat) (hk : MkAt up d j r q m) (hi : i < m.inn.length) : ACalls Try.prog 62 [.ptr d j 0, .i i] up fun v u => v = .i (2 * (1 + i)) ∧ u = up := by
  obtain ⟨z1, z2, z3⟩ := hm
  have kb := hk.box
  have kr := hk.row
  have kq := hk.map
  have w1 : IntKind.i64.wrap (1 + (m.inn.length : Int)) = 1 + (m.inn.length : Int) := wrap64 (by omega)
  have w2 : IntKind.i64.wrap (1 + (m.inn.length : Int) + m.regs.length) = 1 + (m.inn.length : Int) + m.regs.length := wrap64 (by omega)
  have w3 : IntKind.i64.wrap (1 + (m.inn.length : Int) + m.regs.length + m.ands.length) = 1 + (m.inn.length : Int) + m.regs.length + m.ands.length := wrap64 (by omega)
  
  have d1 : decide ((i : Int) < 0) = false := decide_eq_false (by omega)
  have d2 : decide ((m.inn.length : Int) ≤ i) = false := decide_eq_false (by omega)
  have w4 : IntKind.i64.wrap (1 + (i : Int)) = 1 + i := wrap64 (by omega)
  have w5 : IntKind.i64.wrap (2 * (1 + (i : Int))) = 2 * (1 + i) := wrap64 (by omega)
  refine ACalls.code Try.func62 rfl 21 rfl (by simp) [.tmp 4] rfl fun Q hQ => ?_
  simp only [ups, PV.up, argEnv]
  have ft := And.intro ty_3 (And.intro ty_4 (And.intro ty_9 (And.intro ty_26 (And.intro ty_34 (And.intro ty_62 (And.intro ty_109 (And.intro ty_170 trivial)))))))
  refine Run.seq ?_
  have fx := And.intro (@ge_iff_le Int _) (And.intro w5 (And.intro w4 (And.intro d2 (And.intro d1 (And.intro strs_len (And.intro kb ft))))))
  refine Run.go ?_
  refine End.kp [0, 1] ?_
  refine Run.seq ?_
  refine Run.seq ?_
  refine Run.go ?_
  refine End.kp [0, 1, 15] ?_
  refine Run.cond _ rfl (fun hb => ?_) (fun hb => ?_)
  · have hb2 := hb
    simp at hb
  · have hb2 := hb
    refine Run.skip ?_
    refine End.kp [1] ?_
    refine Run.seq ?_
    have fx := And.intro (@ge_iff_le Int _) (And.intro w5 (And.intro w4 (And.intro d2 (And.intro d1 (And.intro strs_len (And.intro kb ft))))))
    refine Run.go ?_
    refine End.kp [4] ?_
    refine Run.ret (hQ _ _ ⟨.inr rfl, _, rfl, _, rfl, ?_⟩)
    exact ⟨rfl, rfl⟩
theorem mand_zero (a b : Int) (h : min a b = 0 ∨ min a b = flipL (max a b)) (a0 : 0 ≤ a ∧ a ≤ 1000000) (b0 : 0 ≤ b ∧ b ≤ 1000000) (up : Frs) (d j : Nat) : ACalls Try.prog 142 [.ptr d j 0, .i a, .i b] up fun v u => v = .tup [.i 0, .im (.bool true)] ∧ u = up := by
  have hlo : (if b < a then b else a) = min a b := by split <;> omega
  have hhi : (if a < b then b else a) = max a b := by split <;> omega
  have fh := xor_one (max a b) (by omega) (by omega)
  refine ACalls.code Try.func142 rfl 78 rfl (by simp) [.tmp 6, .tmp 7] rfl fun Q hQ => ?_
  simp only [ups, PV.up, argEnv]
  have ft := And.intro ty_2 (And.intro ty_3 (And.intro ty_4 (And.intro ty_34 (And.intro ty_48 (And.intro ty_62 (And.intro ty_109 (And.intro ty_137 (And.intro ty_168 (And.intro ty_170 trivial)))))))))
  refine Run.seq ?_
  have fx := And.intro fh (And.intro hhi (And.intro hlo ft))
  refine Run.go ?_
  refine End.kp [0, 1, 2] ?_
  refine Run.seq ?_
  refine Run.go ?_
  refine End.kp [0, 1, 2] ?_
  refine Run.seq ?_
  refine Run.block ?_
  refine Run.seq ?_
  rcases Bool.eq_false_or_eq_true ((min a b == 0)) with hs2 | hs2
  · skip
    have fx := And.intro hs2 (And.intro fh (And.intro hhi (And.intro hlo ft)))
    refine Run.go ?_
    refine End.kp [0, 1, 2, 18] ?_
    refine Run.cond _ rfl (fun hb => ?_) (fun hb => ?_)
    · have hb2 := hb
      refine Run.seq ?_
      have fx := And.intro hs2 (And.intro fh (And.intro hhi (And.intro hlo ft)))
      refine Run.go ?_
      refine End.kp [6, 7] ?_
      refine Run.ret (hQ _ _ ⟨.inr rfl, _, rfl, _, rfl, ?_⟩)
      exact ⟨rfl, rfl⟩
    · have hb2 := hb
      simp at hb
  · skip
    have fx := And.intro hs2 (And.intro fh (And.intro hhi (And.intro hlo ft)))
    refine Run.go ?_
    refine End.kp [0, 1, 2, 18] ?_
    refine Run.cond _ rfl (fun hb => ?_) (fun hb => ?_)
    · have hb2 := hb
      refine Run.seq ?_
      have fx := And.intro hs2 (And.intro fh (And.intro hhi (And.intro hlo ft)))
      refine Run.go ?_
      refine End.kp [6, 7] ?_
      refine Run.ret (hQ _ _ ⟨.inr rfl, _, rfl, _, rfl, ?_⟩)
      exact ⟨rfl, rfl⟩
    · rcases h with h | h
      · simp [h] at hs2
      · simp [h] at hb
      skip
theorem mand_one (a b : Int) (h0 : ¬ (min a b = 0 ∨ min a b = flipL (max a b))) (h : min a b = 1 ∨ min a b = max a b) (a0 : 0 ≤ a ∧ a ≤ 1000000) (b0 : 0 ≤ b ∧ b ≤ 1000000) (up : Frs) (d j : Nat) : ACalls Try.prog 142 [.ptr d j 0, .i a, .i b] up fun v u => v = .tup [.i (max a b), .im (.bool true)] ∧ u = up := by
  have hlo : (if b < a then b else a) = min a b := by split <;> omega
  have hhi : (if a < b then b else a) = max a b := by split <;> omega
  have fh := xor_one (max a b) (by omega) (by omega)
  have e1 : (min a b == 0) = false := by simpa using fun e => h0 (.inl e)
  have e2 : (min a b == flipL (max a b)) = false := by simpa using fun e => h0 (.inr e)
  refine ACalls.code Try.func142 rfl 78 rfl (by simp) [.tmp 6, .tmp 7] rfl fun Q hQ => ?_
  simp only [ups, PV.up, argEnv]
  have ft := And.intro ty_2 (And.intro ty_3 (And.intro ty_4 (And.intro ty_34 (And.intro ty_48 (And.intro ty_62 (And.intro ty_109 (And.intro ty_137 (And.intro ty_168 (And.intro ty_170 trivial)))))))))
  refine Run.seq ?_
  have fx := And.intro e2 (And.intro e1 (And.intro fh (And.intro hhi (And.intro hlo ft))))
  refine Run.go ?_
  refine End.kp [0, 1, 2] ?_
  refine Run.seq ?_
  refine Run.go ?_
  refine End.kp [0, 1, 2] ?_
  refine Run.seq ?_
  refine Run.block ?_
  refine Run.seq ?_
  refine Run.go ?_
  refine End.kp [0, 1, 2, 18] ?_
  refine Run.cond _ rfl (fun hb => ?_) (fun hb => ?_)
  · have hb2 := hb
    simp at hb
  · have hb2 := hb
    refine Run.seq ?_
    rcases Bool.eq_false_or_eq_true ((min a b == 1)) with hs4 | hs4
    · skip
      have fx := And.intro hs4 (And.intro e2 (And.intro e1 (And.intro fh (And.intro hhi (And.intro hlo ft)))))
      refine Run.go ?_
      refine End.kp [0, 1, 2, 27] ?_
      refine Run.cond _ rfl (fun hb => ?_) (fun hb => ?_)
      · have hb2 := hb
        refine Run.seq ?_
        have fx := And.intro hs4 (And.intro e2 (And.intro e1 (And.intro fh (And.intro hhi (And.intro hlo ft)))))
        refine Run.go ?_
        refine End.kp [6, 7] ?_
        refine Run.ret (hQ _ _ ⟨.inr rfl, _, rfl, _, rfl, ?_⟩)
        exact ⟨rfl, rfl⟩
      · have hb2 := hb
        simp at hb
    · skip
      have fx := And.intro hs4 (And.intro e2 (And.intro e1 (And.intro fh (And.intro hhi (And.intro hlo ft)))))
      refine Run.go ?_
      refine End.kp [0, 1, 2, 27] ?_
      refine Run.cond _ rfl (fun hb => ?_) (fun hb => ?_)
      · have hb2 := hb
        refine Run.seq ?_
        have fx := And.intro hs4 (And.intro e2 (And.intro e1 (And.intro fh (And.intro hhi (And.intro hlo ft)))))
        refine Run.go ?_
        refine End.kp [6, 7] ?_
        refine Run.ret (hQ _ _ ⟨.inr rfl, _, rfl, _, rfl, ?_⟩)
        exact ⟨rfl, rfl⟩
      · rcases h with h | h
        · simp [h] at hs4
        · simp [h] at hb
        skip
theorem mand_old (a b : Int) (h0 : ¬ (min a b = 0 ∨ min a b = flipL (max a b))) (h1 : ¬ (min a b = 1 ∨ min a b = max a b)) (a0 : 0 ≤ a ∧ a ≤ 1000000) (b0 : 0 ≤ b ∧ b ≤ 1000000) (m : LMk) (hm : MkSmall m) (up : Frs) (d j r q : Nat) (hk : MkAt up d j r q m) (k : Nat) (hf : findA (min a b, max a b) m.ands 0 = some k) : ACalls Try.prog 142 [.ptr d j 0, .i a, .i b] up fun v u => v = .tup [.i (2 * (m.first + k)), .im (.bool true)] ∧ u = up := by
  obtain ⟨z1, z2, z3⟩ := hm
  have kb := hk.box
  have kr := hk.row
  have kq := hk.map
  have w1 : IntKind.i64.wrap (1 + (m.inn.length : Int)) = 1 + (m.inn.length : Int) := wrap64 (by omega)
  have w2 : IntKind.i64.wrap (1 + (m.inn.length : Int) + m.regs.length) = 1 + (m.inn.length : Int) + m.regs.length := wrap64 (by omega)
  have w3 : IntKind.i64.wrap (1 + (m.inn.length : Int) + m.regs.length + m.ands.length) = 1 + (m.inn.length : Int) + m.regs.length + m.ands.length := wrap64 (by omega)
  
  have hlo : (if b < a then b else a) = min a b := by split <;> omega
  have hhi : (if a < b then b else a) = max a b := by split <;> omega
  have fh := xor_one (max a b) (by omega) (by omega)
  have e1 : (min a b == 0) = false := by simpa using fun e => h0 (.inl e)
  have e2 : (min a b == flipL (max a b)) = false := by simpa using fun e => h0 (.inr e)
  have e3 : (min a b == 1) = false := by simpa using fun e => h1 (.inl e)
  have e4 : (min a b == max a b) = false := by simpa using fun e => h1 (.inr e)
  have hfind := findKs_seen (min a b, max a b) m.ands m.first 0
  rw [hf] at hfind
  
  simp only [Option.map_some] at hfind
  have ek : 2 * (m.first + (k : Int) - ((0 : Nat) : Int)) = 2 * (m.first + k) := by omega
  rw [ek] at hfind
  refine ACalls.code Try.func142 rfl 78 rfl (by simp) [.tmp 6, .tmp 7] rfl fun Q hQ => ?_
  simp only [ups, PV.up, argEnv]
  have ft := And.intro ty_2 (And.intro ty_3 (And.intro ty_4 (And.intro ty_34 (And.intro ty_48 (And.intro ty_62 (And.intro ty_109 (And.intro ty_137 (And.intro ty_168 (And.intro ty_170 trivial)))))))))
  refine Run.seq ?_
  have fx := And.intro e4 (And.intro e3 (And.intro e2 (And.intro e1 (And.intro fh (And.intro hhi (And.intro hlo (And.intro kq (And.intro kr (And.intro kb ft)))))))))
  refine Run.go ?_
  refine End.kp [0, 1, 2] ?_
  refine Run.seq ?_
  refine Run.go ?_
  refine End.kp [0, 1, 2] ?_
  refine Run.seq ?_
  refine Run.block ?_
  refine Run.seq ?_
  refine Run.go ?_
  refine End.kp [0, 1, 2, 18] ?_
  refine Run.cond _ rfl (fun hb => ?_) (fun hb => ?_)
  · have hb2 := hb
    simp at hb
  · have hb2 := hb
    refine Run.seq ?_
    have fx := And.intro e4 (And.intro e3 (And.intro e2 (And.intro e1 (And.intro fh (And.intro hhi (And.intro hlo (And.intro kq (And.intro kr (And.intro kb ft)))))))))
    refine Run.go ?_
    refine End.kp [0, 1, 2, 27] ?_
    refine Run.cond _ rfl (fun hb => ?_) (fun hb => ?_)
    · have hb2 := hb
      simp at hb
    · have hb2 := hb
      refine Run.skip ?_
      refine End.blk ?_
      refine End.kp [0, 1, 2] ?_
      refine Run.seq ?_
      have fx := And.intro e4 (And.intro e3 (And.intro e2 (And.intro e1 (And.intro fh (And.intro hhi (And.intro hlo (And.intro kq (And.intro kr (And.intro kb ft)))))))))
      refine Run.go ?_
      refine End.kp [0, 8] ?_
      refine Run.seq ?_
      refine Run.seq ?_
      refine Run.drawA fun K hK => ?_
      refine DOps.sim ?_
      refine DOps.lookK (d := d + 1) (j := q) [.int .i64 (min a b), .int .i64 (max a b)] (seenE m.first m.ands) _ hfind kq ?_
      simp only [hitPV, if_true]
      have fx := And.intro e4 (And.intro e3 (And.intro e2 (And.intro e1 (And.intro fh (And.intro hhi (And.intro hlo (And.intro kq (And.intro kr (And.intro kb ft)))))))))
      refine DOps.sim ?_
      refine DOps.nil (by rfl) (hK _ ?_); clear hK K
      refine End.kp [0, 8, 9, 10] ?_
      refine Run.seq ?_
      refine Run.go ?_
      refine End.kp [0, 8, 9, 48] ?_
      refine Run.cond _ rfl (fun hb => ?_) (fun hb => ?_)
      · have hb2 := hb
        refine Run.seq ?_
        have fx := And.intro e4 (And.intro e3 (And.intro e2 (And.intro e1 (And.intro fh (And.intro hhi (And.intro hlo (And.intro kq (And.intro kr (And.intro kb ft)))))))))
        refine Run.go ?_
        refine End.kp [6, 7] ?_
        refine Run.ret (hQ _ _ ⟨.inr rfl, _, rfl, _, rfl, ?_⟩)
        exact ⟨rfl, rfl⟩
      · have hb2 := hb
        simp at hb
theorem mand_new (a b : Int) (h0 : ¬ (min a b = 0 ∨ min a b = flipL (max a b))) (h1 : ¬ (min a b = 1 ∨ min a b = max a b)) (a0 : 0 ≤ a ∧ a ≤ 1000000) (b0 : 0 ≤ b ∧ b ≤ 1000000) (m : LMk) (hm : MkSmall m) (up : Frs) (d j r q : Nat) (hk : MkAt up d j r q m) (hf : findA (min a b, max a b) m.ands 0 = none) (hn : m.ands.length < 4000) : ACalls Try.prog 142 [.ptr d j 0, .i a, .i b] up fun v u => v = .tup [.i (2 * (m.first + m.ands.length)), .im (.bool true)] ∧ u = setMk up d j r q { m with ands := m.ands ++ [(min a b, max a b)] } := by
  obtain ⟨z1, z2, z3⟩ := hm
  have kb := hk.box
  have kr := hk.row
  have kq := hk.map
  have w1 : IntKind.i64.wrap (1 + (m.inn.length : Int)) = 1 + (m.inn.length : Int) := wrap64 (by omega)
  have w2 : IntKind.i64.wrap (1 + (m.inn.length : Int) + m.regs.length) = 1 + (m.inn.length : Int) + m.regs.length := wrap64 (by omega)
  have w3 : IntKind.i64.wrap (1 + (m.inn.length : Int) + m.regs.length + m.ands.length) = 1 + (m.inn.length : Int) + m.regs.length + m.ands.length := wrap64 (by omega)
  
  have hlo : (if b < a then b else a) = min a b := by split <;> omega
  have hhi : (if a < b then b else a) = max a b := by split <;> omega
  have fh := xor_one (max a b) (by omega) (by omega)
  have e1 : (min a b == 0) = false := by simpa using fun e => h0 (.inl e)
  have e2 : (min a b == flipL (max a b)) = false := by simpa using fun e => h0 (.inr e)
  have e3 : (min a b == 1) = false := by simpa using fun e => h1 (.inl e)
  have e4 : (min a b == max a b) = false := by simpa using fun e => h1 (.inr e)
  have hfind := findKs_seen (min a b, max a b) m.ands m.first 0
  rw [hf] at hfind
  
  simp only [Option.map_none] at hfind
  have e5 : ((m.ands.length : Int) == 4000) = false := by simp; omega
  have w4 : IntKind.i64.wrap (2 * (1 + (m.inn.length : Int) + m.regs.length + m.ands.length)) = 2 * (1 + (m.inn.length : Int) + m.regs.length + m.ands.length) := wrap64 (by omega)
  have n1 : ¬ (d = d ∧ j = r) := ref_ne kr kb (by simp)
  have n2 : ¬ (d = d ∧ j = q) := ref_ne kq kb (by simp)
  have n3 : ¬ (d = d ∧ r = q) := ref_ne kq kr (by simp)
  have hap : (m.ands.length + 1) * 16 ≤ 140737488355328 := by omega
  have kq2 : ∀ o o2, fget (fset (fset up d r o) d j o2) d q = some (mkMap m) := fun o o2 => by rw [fget_fset_ne (fun e => n2 ⟨rfl, e.2.symm⟩), fget_fset_ne (fun e => n3 ⟨rfl, e.2.symm⟩)]; exact kq
  have kb2 : ∀ o, fget (fset up d r o) d j = some (mkBox r q m) := fun o => by rw [fget_fset_ne n1]; exact kb
  have kb3 : ∀ o o2, fget (fset (fset up d r o) d j o2) d j = some o2 := fun o o2 => fget_fset_same _ _ _ _ _ (kb2 o)
  refine ACalls.code Try.func142 rfl 78 rfl (by simp) [.tmp 6, .tmp 7] rfl fun Q hQ => ?_
  simp only [ups, PV.up, argEnv]
  have ft := And.intro ty_2 (And.intro ty_3 (And.intro ty_4 (And.intro ty_34 (And.intro ty_48 (And.intro ty_62 (And.intro ty_109 (And.intro ty_137 (And.intro ty_168 (And.intro ty_170 trivial)))))))))
  refine Run.seq ?_
  have fx := And.intro hap (And.intro nd_len (And.intro w4 (And.intro e5 (And.intro e4 (And.intro e3 (And.intro e2 (And.intro e1 (And.intro fh (And.intro hhi (And.intro hlo (And.intro kb3 (And.intro kb2 (And.intro kq (And.intro kr (And.intro kb ft)))))))))))))))
  refine Run.go ?_
  refine End.kp [0, 1, 2] ?_
  refine Run.seq ?_
  refine Run.go ?_
  refine End.kp [0, 1, 2] ?_
  refine Run.seq ?_
  refine Run.block ?_
  refine Run.seq ?_
  refine Run.go ?_
  refine End.kp [0, 1, 2, 18] ?_
  refine Run.cond _ rfl (fun hb => ?_) (fun hb => ?_)
  · have hb2 := hb
    simp at hb
  · have hb2 := hb
    refine Run.seq ?_
    have fx := And.intro hap (And.intro nd_len (And.intro w4 (And.intro e5 (And.intro e4 (And.intro e3 (And.intro e2 (And.intro e1 (And.intro fh (And.intro hhi (And.intro hlo (And.intro kb3 (And.intro kb2 (And.intro kq (And.intro kr (And.intro kb ft)))))))))))))))
    refine Run.go ?_
    refine End.kp [0, 1, 2, 27] ?_
    refine Run.cond _ rfl (fun hb => ?_) (fun hb => ?_)
    · have hb2 := hb
      simp at hb
    · have hb2 := hb
      refine Run.skip ?_
      refine End.blk ?_
      refine End.kp [0, 1, 2] ?_
      refine Run.seq ?_
      have fx := And.intro hap (And.intro nd_len (And.intro w4 (And.intro e5 (And.intro e4 (And.intro e3 (And.intro e2 (And.intro e1 (And.intro fh (And.intro hhi (And.intro hlo (And.intro kb3 (And.intro kb2 (And.intro kq (And.intro kr (And.intro kb ft)))))))))))))))
      refine Run.go ?_
      refine End.kp [0, 8] ?_
      refine Run.seq ?_
      refine Run.seq ?_
      refine Run.drawA fun K hK => ?_
      refine DOps.sim ?_
      refine DOps.lookK (d := d + 1) (j := q) [.int .i64 (min a b), .int .i64 (max a b)] (seenE m.first m.ands) _ hfind kq ?_
      simp only [hitPV, if_true]
      have fx := And.intro hap (And.intro nd_len (And.intro w4 (And.intro e5 (And.intro e4 (And.intro e3 (And.intro e2 (And.intro e1 (And.intro fh (And.intro hhi (And.intro hlo (And.intro kb3 (And.intro kb2 (And.intro kq (And.intro kr (And.intro kb ft)))))))))))))))
      refine DOps.sim ?_
      refine DOps.nil (by rfl) (hK _ ?_); clear hK K
      refine End.kp [0, 8, 9, 10] ?_
      refine Run.seq ?_
      refine Run.go ?_
      refine End.kp [0, 8, 9, 48] ?_
      refine Run.cond _ rfl (fun hb => ?_) (fun hb => ?_)
      · have hb2 := hb
        simp at hb
      · have hb2 := hb
        refine Run.skip ?_
        refine End.kp [0, 8] ?_
        refine Run.seq ?_
        refine Run.seq ?_
        have fx := And.intro hap (And.intro nd_len (And.intro w4 (And.intro e5 (And.intro e4 (And.intro e3 (And.intro e2 (And.intro e1 (And.intro fh (And.intro hhi (And.intro hlo (And.intro kb3 (And.intro kb2 (And.intro kq (And.intro kr (And.intro kb ft)))))))))))))))
        refine Run.go ?_
        refine End.kp [0, 8, 55] ?_
        refine Run.cond _ rfl (fun hb => ?_) (fun hb => ?_)
        · have hb2 := hb
          simp at hb
        · have hb2 := hb
          refine Run.skip ?_
          refine End.kp [0, 8] ?_
          refine Run.seq ?_
          have fx := And.intro hap (And.intro nd_len (And.intro w4 (And.intro e5 (And.intro e4 (And.intro e3 (And.intro e2 (And.intro e1 (And.intro fh (And.intro hhi (And.intro hlo (And.intro kb3 (And.intro kb2 (And.intro kq (And.intro kr (And.intro kb ft)))))))))))))))
          refine Run.region rfl fun K hK => GOps.sim ?_
          refine GOps.call rfl rfl rfl rfl (by kernel_rfl) (ACalls.sim ?_)
          refine (mNodes_ok m ⟨z1, z2, z3⟩ _ (d + 1) j r q ⟨kb, kr, kq⟩).mono fun v u hv => ?_
          obtain ⟨rfl, rfl⟩ := hv
          refine ⟨_, _, rfl, GOps.sim ?_⟩
          refine GOps.done (hK _ ?_); clear hK K
          refine End.kp [0, 8, 11] ?_
          refine Run.seq ?_
          refine Run.ghost (.spares 1) ?_
          simp only [ASt.pushN, ASt.push, List.append_assoc, List.cons_append, List.nil_append]
          refine Run.drawA fun K hK => ?_
          refine DOps.sim ?_
          refine DOps.nil (by rfl) (hK _ ?_); clear hK K
          refine End.kp [0, 8, 11] ?_
          refine Run.seq ?_
          refine Run.drawA fun K hK => ?_
          refine DOps.sim ?_
          refine DOps.updK (d := d + 1) (j := q) [.int .i64 (min a b), .int .i64 (max a b)] (seenE m.first m.ands) hfind (by exact kq2 _ _) ?_
          refine DOps.sim ?_
          refine DOps.nil (by rfl) (hK _ ?_); clear hK K
          refine End.kp [11] ?_
          refine Run.seq ?_
          refine Run.go ?_
          refine End.kp [6, 7] ?_
          refine Run.ret (hQ _ _ ⟨.inr rfl, _, rfl, _, rfl, ?_⟩)
          refine ⟨rfl, ?_⟩
          have e1 : mkMap { m with ands := m.ands ++ [(min a b, max a b)] } = .map (seenE m.first m.ands ++ [([.int .i64 (min a b), .int .i64 (max a b)], .int .i64 (2 * (m.first + m.ands.length)))]) := by
            simp only [mkMap]
            rw [seenE_snoc]
          have e2 : mkRow { m with ands := m.ands ++ [(min a b, max a b)] } = .row 137 2 (m.ands.map nd ++ [[.int .i64 (min a b), .int .i64 (max a b)]]) 0 := by simp
          have e3 : mkBox r q { m with ands := m.ands ++ [(min a b, max a b)] } = .box [.im (.sl (strs m.inn)), .im (.sl (m.regs.map LReg.im)), .ms 0 r (m.ands.length + 1), .map 0 q, .i m.bad] := by simp
          rw [setMk, e1, e2, e3, fset_comm up d r d j _ _ (fun e => n1 ⟨rfl, e.2.symm⟩)]
end Go.Proofs.YtkmnmokjlpenhaaPi
