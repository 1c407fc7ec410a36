/- Part 3 of the proof: the texts WX, WY, WGA, WGB, WGC, WGD, WO, WUA, WGE, one behind the other. Each holds for every input that it names; no condition is hidden. -/
import Derived.Test.YtkmnmokjlpenhaaM2
/- The walks of makers of graphs: New, Nodes, fail, In, and, known, And. -/
set_option linter.unusedVariables false
set_option linter.unusedSimpArgs false
set_option maxRecDepth 100000
namespace Go.Proofs.YtkmnmokjlpenhaaPi
set_option maxHeartbeats 4000000
def seenE : Int → List (Int × Int) → List (List Im × Im)
  | _, [] => []
  | b, p :: ps => ([.int .i64 p.1, .int .i64 p.2], .int .i64 (2 * b)) :: seenE (b + 1) ps
theorem seenE_snoc (p : Int × Int) : ∀ (ps : List (Int × Int)) (b : Int), seenE b (ps ++ [p]) = seenE b ps ++ [([.int .i64 p.1, .int .i64 p.2], .int .i64 (2 * (b + ps.length)))]
  | [], b => by simp [seenE]
  | x :: ps, b => by
    simp only [List.cons_append, seenE, seenE_snoc p ps (b + 1), List.length_cons]
    rw [show b + 1 + (ps.length : Int) = b + ((ps.length + 1 : Nat) : Int) by omega]
/-- Where a pair stands first. -/
def findA (p : Int × Int) : List (Int × Int) → Nat → Option Nat
  | [], _ => none
  | x :: ps, i => if x = p then some i else findA p ps (i + 1)
theorem findKs_seen (p : Int × Int) : ∀ (ps : List (Int × Int)) (b : Int) (i : Nat), findKs Try.prog [62, 62] [.int .i64 p.1, .int .i64 p.2] (seenE b ps) i = some ((findA p ps i).map fun k => (k, .int .i64 (2 * (b + (k : Int) - i))))
  | [], b, i => rfl
  | x :: ps, b, i => by
    have he : eqIms Try.prog [62, 62] ([Im.int .i64 p.1, .int .i64 p.2].map .im) ([Im.int .i64 x.1, .int .i64 x.2].map .im) = some (decide (x = p)) := by
      simp only [List.map_cons, List.map_nil, eqIms, ty_62, Option.isSome_some, and_self, if_true, Option.map_some, Option.some.injEq]
      by_cases h : x = p
      · subst h; simp
      · rw [decide_eq_false h]
        by_cases h1 : p.1 = x.1
        · have h2 : ¬ p.2 = x.2 := fun e => h (Prod.ext h1.symm e.symm)
          simp [h1, h2]
        · simp [h1]
    simp only [seenE, findKs, he]
    by_cases h : x = p
    · simp only [decide_eq_true h, findA, if_pos h, List.length_cons, List.length_nil, Option.map_some]
      simp
    · simp only [decide_eq_false h, findA, if_neg h, List.length_cons, List.length_nil]
      rw [if_pos (by omega), findKs_seen p ps (b + 1) (i + 1)]
      congr 1
      cases findA p ps (i + 1) with
      | none => rfl
      | some k => simp only [Option.map_some, Option.some.injEq, Prod.mk.injEq, true_and, Im.int.injEq]; omega
theorem findA_range (p : Int × Int) : ∀ (ps : List (Int × Int)) (i k : Nat), findA p ps i = some k → i ≤ k ∧ ps[k - i]? = some p
  | [], i, k, h => by simp [findA] at h
  | x :: ps, i, k, h => by
    simp only [findA] at h
    split at h
    · rename_i e
      simp only [Option.some.injEq] at h
      subst h
      simp [e]
    · obtain ⟨h1, h2⟩ := findA_range p ps (i + 1) k h
      refine ⟨by omega, ?_⟩
      rw [show k - i = (k - (i + 1)) + 1 by omega]
      simpa using h2
/-- A maker: its names, registers, ands, and the first error. -/
structure LMk where
  inn : List ByteArray
  regs : List LReg
  ands : List (Int × Int)
  bad : Int
abbrev LMk.first (m : LMk) : Int := 1 + m.inn.length + m.regs.length
abbrev mkBox (r q : Nat) (m : LMk) : AObj := .box [.im (.sl (strs m.inn)), .im (.sl (m.regs.map LReg.im)), .ms 0 r m.ands.length, .map 0 q, .i m.bad]
abbrev mkRow (m : LMk) : AObj := .row 137 2 (m.ands.map nd) 0
abbrev mkMap (m : LMk) : AObj := .map (seenE m.first m.ands)
structure MkAt (up : Frs) (d j r q : Nat) (m : LMk) : Prop where
  box : fget up d j = some (mkBox r q m)
  row : fget up d r = some (mkRow m)
  map : fget up d q = some (mkMap m)
structure MkSmall (m : LMk) : Prop where
  inn : m.inn.length ≤ 200
  regs : m.regs.length ≤ 300
  ands : m.ands.length ≤ 4000
def setMk (up : Frs) (d j r q : Nat) (m : LMk) : Frs := fset (fset (fset up d j (mkBox r q m)) d r (mkRow m)) d q (mkMap m)
theorem setMk_self {up : Frs} {d j r q : Nat} {m : LMk} (h : MkAt up d j r q m) : setMk up d j r q m = up := by
  rw [setMk, fset_self up d j _ h.box, fset_self up d r _ h.row, fset_self up d q _ h.map]
theorem setMk_at {up : Frs} {d j r q : Nat} {m m' : LMk} (h : MkAt up d j r q m) : MkAt (setMk up d j r q m') d j r q m' := by
  have h1 : ¬ (d = d ∧ j = r) := ref_ne h.row h.box (by simp)
  have h2 : ¬ (d = d ∧ j = q) := ref_ne h.map h.box (by simp)
  have h3 : ¬ (d = d ∧ r = q) := ref_ne h.map h.row (by simp)
  have hr2 : fget (fset up d j (mkBox r q m')) d r = some (mkRow m) := by rw [fget_fset_ne (ref_ne h.box h.row (by simp))]; exact h.row
  have hq2 : fget (fset up d j (mkBox r q m')) d q = some (mkMap m) := by rw [fget_fset_ne (ref_ne h.box h.map (by simp))]; exact h.map
  have hq3 : fget (fset (fset up d j (mkBox r q m')) d r (mkRow m')) d q = some (mkMap m) := by rw [fget_fset_ne (ref_ne h.row h.map (by simp))]; exact hq2
  refine ⟨?_, ?_, ?_⟩
  · rw [setMk, fget_fset_ne h2, fget_fset_ne h1, fget_fset_same _ _ _ _ _ h.box]
  · rw [setMk, fget_fset_ne h3, fget_fset_same _ _ _ _ _ hr2]
  · rw [setMk, fget_fset_same _ _ _ _ _ hq3]
theorem setMk_set {up : Frs} {d j r q : Nat} {m m' m2 : LMk} (h : MkAt up d j r q m) : setMk (setMk up d j r q m') d j r q m2 = setMk up d j r q m2 := by
  have h1 : ¬ (d = d ∧ j = r) := ref_ne h.row h.box (by simp)
  have h2 : ¬ (d = d ∧ j = q) := ref_ne h.map h.box (by simp)
  have h3 : ¬ (d = d ∧ r = q) := ref_ne h.map h.row (by simp)
  unfold setMk
  rw [fset_comm (fset (fset up d j (mkBox r q m')) d r (mkRow m')) d q d j _ _ (fun e => h2 ⟨rfl, e.2.symm⟩), fset_comm (fset up d j (mkBox r q m')) d r d j _ _ (fun e => h1 ⟨rfl, e.2.symm⟩), fset_fset]
  rw [fset_comm (fset (fset up d j (mkBox r q m2)) d r (mkRow m')) d q d r _ _ (fun e => h3 ⟨rfl, e.2.symm⟩), fset_fset, fset_fset]
/-- The and of two literals. -/
def mkAnd (m : LMk) (a b : Int) : Int × LMk :=
  if min a b = 0 ∨ min a b = flipL (max a b) then (0, m) else if min a b = 1 ∨ min a b = max a b then (max a b, m) else
  match findA (min a b, max a b) m.ands 0 with
  | some k => (2 * (m.first + k), m)
  | none => (2 * (m.first + m.ands.length), { m with ands := m.ands ++ [(min a b, max a b)] })
theorem mNodes_ok (m : LMk) (hm : MkSmall m) (up : Frs) (d j r q : Nat) (hk : MkAt up d j r q m) : ACalls Try.prog 146 [.ptr d j 0] up fun v u => v = .i (1 + m.inn.length + m.regs.length + m.ands.length) ∧ u = up := by
  obtain ⟨z1, z2, z3⟩ := hm
  have kb := hk.box
  have kr := hk.row
  have kq := hk.map
  have w1 : IntKind.i64.wrap (1 + (m.inn.length : Int)) = 1 + (m.inn.length : Int) := wrap64 (by omega)
  have w2 : IntKind.i64.wrap (1 + (m.inn.length : Int) + m.regs.length) = 1 + (m.inn.length : Int) + m.regs.length := wrap64 (by omega)
  have w3 : IntKind.i64.wrap (1 + (m.inn.length : Int) + m.regs.length + m.ands.length) = 1 + (m.inn.length : Int) + m.regs.length + m.ands.length := wrap64 (by omega)
  refine ACalls.code Try.func146 rfl 21 rfl (by simp) [.tmp 2] rfl fun Q hQ => ?_
  simp only [ups, PV.up, argEnv]
  have ft := And.intro ty_2 (And.intro ty_3 (And.intro ty_9 (And.intro ty_26 (And.intro ty_47 (And.intro ty_48 (And.intro ty_69 (And.intro ty_109 (And.intro ty_137 (And.intro ty_170 trivial)))))))))
  refine Run.seq ?_
  have fx := And.intro w3 (And.intro w2 (And.intro w1 (And.intro rim_len (And.intro strs_len (And.intro kb ft)))))
  refine Run.go ?_
  refine End.kp [0] ?_
  refine Run.seq ?_
  refine Run.drawA fun K hK => ?_
  refine DOps.sim ?_
  refine DOps.nil (metAll_quiet rfl) (hK _ ?_); clear hK K
  refine End.kp [2] ?_
  refine Run.ret (hQ _ _ ⟨.inr rfl, _, rfl, _, rfl, ?_⟩)
  exact ⟨rfl, rfl⟩
theorem mand_zero (a b : Int) (h : min a b = 0 ∨ min a b = flipL (max a b)) (a0 : 0 ≤ a ∧ a ≤ 1000000) (b0 : 0 ≤ b ∧ b ≤ 1000000) (up : Frs) (d j : Nat) : ACalls Try.prog 142 [.ptr d j 0, .i a, .i b] up fun v u => v = .tup [.i 0, .im (.bool true)] ∧ u = up := by
  have hlo : (if b < a then b else a) = min a b := by split <;> omega
  have hhi : (if a < b then b else a) = max a b := by split <;> omega
  have fh := xor_one (max a b) (by omega) (by omega)
  refine ACalls.code Try.func142 rfl 78 rfl (by simp) [.tmp 6, .tmp 7] rfl fun Q hQ => ?_
  simp only [ups, PV.up, argEnv]
  have ft := And.intro ty_2 (And.intro ty_3 (And.intro ty_4 (And.intro ty_34 (And.intro ty_48 (And.intro ty_62 (And.intro ty_109 (And.intro ty_137 (And.intro ty_168 (And.intro ty_170 trivial)))))))))
  refine Run.seq ?_
  have fx := And.intro fh (And.intro hhi (And.intro hlo ft))
  refine Run.go ?_
  refine End.kp [0, 1, 2] ?_
  refine Run.seq ?_
  refine Run.go ?_
  refine End.kp [0, 1, 2] ?_
  refine Run.seq ?_
  refine Run.block ?_
  refine Run.seq ?_
  rcases Bool.eq_false_or_eq_true ((min a b == 0)) with hs2 | hs2
  · skip
    have fx := And.intro hs2 (And.intro fh (And.intro hhi (And.intro hlo ft)))
    refine Run.go ?_
    refine End.kp [0, 1, 2, 18] ?_
    refine Run.cond _ rfl (fun hb => ?_) (fun hb => ?_)
    · have hb2 := hb
      refine Run.seq ?_
      have fx := And.intro hs2 (And.intro fh (And.intro hhi (And.intro hlo ft)))
      refine Run.go ?_
      refine End.kp [6, 7] ?_
      refine Run.ret (hQ _ _ ⟨.inr rfl, _, rfl, _, rfl, ?_⟩)
      exact ⟨rfl, rfl⟩
    · have hb2 := hb
      simp at hb
  · skip
    have fx := And.intro hs2 (And.intro fh (And.intro hhi (And.intro hlo ft)))
    refine Run.go ?_
    refine End.kp [0, 1, 2, 18] ?_
    refine Run.cond _ rfl (fun hb => ?_) (fun hb => ?_)
    · have hb2 := hb
      refine Run.seq ?_
      have fx := And.intro hs2 (And.intro fh (And.intro hhi (And.intro hlo ft)))
      refine Run.go ?_
      refine End.kp [6, 7] ?_
      refine Run.ret (hQ _ _ ⟨.inr rfl, _, rfl, _, rfl, ?_⟩)
      exact ⟨rfl, rfl⟩
    · rcases h with h | h
      · simp [h] at hs2
      · simp [h] at hb
      skip
theorem mand_one (a b : Int) (h0 : ¬ (min a b = 0 ∨ min a b = flipL (max a b))) (h : min a b = 1 ∨ min a b = max a b) (a0 : 0 ≤ a ∧ a ≤ 1000000) (b0 : 0 ≤ b ∧ b ≤ 1000000) (up : Frs) (d j : Nat) : ACalls Try.prog 142 [.ptr d j 0, .i a, .i b] up fun v u => v = .tup [.i (max a b), .im (.bool true)] ∧ u = up := by
  have hlo : (if b < a then b else a) = min a b := by split <;> omega
  have hhi : (if a < b then b else a) = max a b := by split <;> omega
  have fh := xor_one (max a b) (by omega) (by omega)
  have e1 : (min a b == 0) = false := by simpa using fun e => h0 (.inl e)
  have e2 : (min a b == flipL (max a b)) = false := by simpa using fun e => h0 (.inr e)
  refine ACalls.code Try.func142 rfl 78 rfl (by simp) [.tmp 6, .tmp 7] rfl fun Q hQ => ?_
  simp only [ups, PV.up, argEnv]
  have ft := And.intro ty_2 (And.intro ty_3 (And.intro ty_4 (And.intro ty_34 (And.intro ty_48 (And.intro ty_62 (And.intro ty_109 (And.intro ty_137 (And.intro ty_168 (And.intro ty_170 trivial)))))))))
  refine Run.seq ?_
  have fx := And.intro e2 (And.intro e1 (And.intro fh (And.intro hhi (And.intro hlo ft))))
  refine Run.go ?_
  refine End.kp [0, 1, 2] ?_
  refine Run.seq ?_
  refine Run.go ?_
  refine End.kp [0, 1, 2] ?_
  refine Run.seq ?_
  refine Run.block ?_
  refine Run.seq ?_
  refine Run.go ?_
  refine End.kp [0, 1, 2, 18] ?_
  refine Run.cond _ rfl (fun hb => ?_) (fun hb => ?_)
  · have hb2 := hb
    simp at hb
  · have hb2 := hb
    refine Run.seq ?_
    rcases Bool.eq_false_or_eq_true ((min a b == 1)) with hs4 | hs4
    · skip
      have fx := And.intro hs4 (And.intro e2 (And.intro e1 (And.intro fh (And.intro hhi (And.intro hlo ft)))))
      refine Run.go ?_
      refine End.kp [0, 1, 2, 27] ?_
      refine Run.cond _ rfl (fun hb => ?_) (fun hb => ?_)
      · have hb2 := hb
        refine Run.seq ?_
        have fx := And.intro hs4 (And.intro e2 (And.intro e1 (And.intro fh (And.intro hhi (And.intro hlo ft)))))
        refine Run.go ?_
        refine End.kp [6, 7] ?_
        refine Run.ret (hQ _ _ ⟨.inr rfl, _, rfl, _, rfl, ?_⟩)
        exact ⟨rfl, rfl⟩
      · have hb2 := hb
        simp at hb
    · skip
      have fx := And.intro hs4 (And.intro e2 (And.intro e1 (And.intro fh (And.intro hhi (And.intro hlo ft)))))
      refine Run.go ?_
      refine End.kp [0, 1, 2, 27] ?_
      refine Run.cond _ rfl (fun hb => ?_) (fun hb => ?_)
      · have hb2 := hb
        refine Run.seq ?_
        have fx := And.intro hs4 (And.intro e2 (And.intro e1 (And.intro fh (And.intro hhi (And.intro hlo ft)))))
        refine Run.go ?_
        refine End.kp [6, 7] ?_
        refine Run.ret (hQ _ _ ⟨.inr rfl, _, rfl, _, rfl, ?_⟩)
        exact ⟨rfl, rfl⟩
      · rcases h with h | h
        · simp [h] at hs4
        · simp [h] at hb
        skip
theorem mand_old (a b : Int) (h0 : ¬ (min a b = 0 ∨ min a b = flipL (max a b))) (h1 : ¬ (min a b = 1 ∨ min a b = max a b)) (a0 : 0 ≤ a ∧ a ≤ 1000000) (b0 : 0 ≤ b ∧ b ≤ 1000000) (m : LMk) (hm : MkSmall m) (up : Frs) (d j r q : Nat) (hk : MkAt up d j r q m) (k : Nat) (hf : findA (min a b, max a b) m.ands 0 = some k) : ACalls Try.prog 142 [.ptr d j 0, .i a, .i b] up fun v u => v = .tup [.i (2 * (m.first + k)), .im (.bool true)] ∧ u = up := by
  obtain ⟨z1, z2, z3⟩ := hm
  have kb := hk.box
  have kr := hk.row
  have kq := hk.map
  have w1 : IntKind.i64.wrap (1 + (m.inn.length : Int)) = 1 + (m.inn.length : Int) := wrap64 (by omega)
  have w2 : IntKind.i64.wrap (1 + (m.inn.length : Int) + m.regs.length) = 1 + (m.inn.length : Int) + m.regs.length := wrap64 (by omega)
  have w3 : IntKind.i64.wrap (1 + (m.inn.length : Int) + m.regs.length + m.ands.length) = 1 + (m.inn.length : Int) + m.regs.length + m.ands.length := wrap64 (by omega)
  
  have hlo : (if b < a then b else a) = min a b := by split <;> omega
  have hhi : (if a < b then b else a) = max a b := by split <;> omega
  have fh := xor_one (max a b) (by omega) (by omega)
  have e1 : (min a b == 0) = false := by simpa using fun e => h0 (.inl e)
  have e2 : (min a b == flipL (max a b)) = false := by simpa using fun e => h0 (.inr e)
  have e3 : (min a b == 1) = false := by simpa using fun e => h1 (.inl e)
  have e4 : (min a b == max a b) = false := by simpa using fun e => h1 (.inr e)
  have hfind := findKs_seen (min a b, max a b) m.ands m.first 0
  rw [hf] at hfind
  
  simp only [Option.map_some] at hfind
  have ek : 2 * (m.first + (k : Int) - ((0 : Nat) : Int)) = 2 * (m.first + k) := by omega
  rw [ek] at hfind
  refine ACalls.code Try.func142 rfl 78 rfl (by simp) [.tmp 6, .tmp 7] rfl fun Q hQ => ?_
  simp only [ups, PV.up, argEnv]
  have ft := And.intro ty_2 (And.intro ty_3 (And.intro ty_4 (And.intro ty_34 (And.intro ty_48 (And.intro ty_62 (And.intro ty_109 (And.intro ty_137 (And.intro ty_168 (And.intro ty_170 trivial)))))))))
  refine Run.seq ?_
  have fx := And.intro e4 (And.intro e3 (And.intro e2 (And.intro e1 (And.intro fh (And.intro hhi (And.intro hlo (And.intro kq (And.intro kr (And.intro kb ft)))))))))
  refine Run.go ?_
  refine End.kp [0, 1, 2] ?_
  refine Run.seq ?_
  refine Run.go ?_
  refine End.kp [0, 1, 2] ?_
  refine Run.seq ?_
  refine Run.block ?_
  refine Run.seq ?_
  refine Run.go ?_
  refine End.kp [0, 1, 2, 18] ?_
  refine Run.cond _ rfl (fun hb => ?_) (fun hb => ?_)
  · have hb2 := hb
    simp at hb
  · have hb2 := hb
    refine Run.seq ?_
    have fx := And.intro e4 (And.intro e3 (And.intro e2 (And.intro e1 (And.intro fh (And.intro hhi (And.intro hlo (And.intro kq (And.intro kr (And.intro kb ft)))))))))
    refine Run.go ?_
    refine End.kp [0, 1, 2, 27] ?_
    refine Run.cond _ rfl (fun hb => ?_) (fun hb => ?_)
    · have hb2 := hb
      simp at hb
    · have hb2 := hb
      refine Run.skip ?_
      refine End.blk ?_
      refine End.kp [0, 1, 2] ?_
      refine Run.seq ?_
      have fx := And.intro e4 (And.intro e3 (And.intro e2 (And.intro e1 (And.intro fh (And.intro hhi (And.intro hlo (And.intro kq (And.intro kr (And.intro kb ft)))))))))
      refine Run.go ?_
      refine End.kp [0, 8] ?_
      refine Run.seq ?_
      refine Run.seq ?_
      refine Run.drawA fun K hK => ?_
      refine DOps.sim ?_
      refine DOps.lookK (d := d + 1) (j := q) [.int .i64 (min a b), .int .i64 (max a b)] (seenE m.first m.ands) _ hfind kq ?_
      simp only [hitPV, if_true]
      have fx := And.intro e4 (And.intro e3 (And.intro e2 (And.intro e1 (And.intro fh (And.intro hhi (And.intro hlo (And.intro kq (And.intro kr (And.intro kb ft)))))))))
      refine DOps.sim ?_
      refine DOps.nil (by rfl) (hK _ ?_); clear hK K
      refine End.kp [0, 8, 9, 10] ?_
      refine Run.seq ?_
      refine Run.go ?_
      refine End.kp [0, 8, 9, 48] ?_
      refine Run.cond _ rfl (fun hb => ?_) (fun hb => ?_)
      · have hb2 := hb
        refine Run.seq ?_
        have fx := And.intro e4 (And.intro e3 (And.intro e2 (And.intro e1 (And.intro fh (And.intro hhi (And.intro hlo (And.intro kq (And.intro kr (And.intro kb ft)))))))))
        refine Run.go ?_
        refine End.kp [6, 7] ?_
        refine Run.ret (hQ _ _ ⟨.inr rfl, _, rfl, _, rfl, ?_⟩)
        exact ⟨rfl, rfl⟩
      · have hb2 := hb
        simp at hb
theorem mand_new (a b : Int) (h0 : ¬ (min a b = 0 ∨ min a b = flipL (max a b))) (h1 : ¬ (min a b = 1 ∨ min a b = max a b)) (a0 : 0 ≤ a ∧ a ≤ 1000000) (b0 : 0 ≤ b ∧ b ≤ 1000000) (m : LMk) (hm : MkSmall m) (up : Frs) (d j r q : Nat) (hk : MkAt up d j r q m) (hf : findA (min a b, max a b) m.ands 0 = none) (hn : m.ands.length < 4000) : ACalls Try.prog 142 [.ptr d j 0, .i a, .i b] up fun v u => v = .tup [.i (2 * (m.first + m.ands.length)), .im (.bool true)] ∧ u = setMk up d j r q { m with ands := m.ands ++ [(min a b, max a b)] } := by
  obtain ⟨z1, z2, z3⟩ := hm
  have kb := hk.box
  have kr := hk.row
  have kq := hk.map
  have w1 : IntKind.i64.wrap (1 + (m.inn.length : Int)) = 1 + (m.inn.length : Int) := wrap64 (by omega)
  have w2 : IntKind.i64.wrap (1 + (m.inn.length : Int) + m.regs.length) = 1 + (m.inn.length : Int) + m.regs.length := wrap64 (by omega)
  have w3 : IntKind.i64.wrap (1 + (m.inn.length : Int) + m.regs.length + m.ands.length) = 1 + (m.inn.length : Int) + m.regs.length + m.ands.length := wrap64 (by omega)
  
  have hlo : (if b < a then b else a) = min a b := by split <;> omega
  have hhi : (if a < b then b else a) = max a b := by split <;> omega
  have fh := xor_one (max a b) (by omega) (by omega)
  have e1 : (min a b == 0) = false := by simpa using fun e => h0 (.inl e)
  have e2 : (min a b == flipL (max a b)) = false := by simpa using fun e => h0 (.inr e)
  have e3 : (min a b == 1) = false := by simpa using fun e => h1 (.inl e)
  have e4 : (min a b == max a b) = false := by simpa using fun e => h1 (.inr e)
  have hfind := findKs_seen (min a b, max a b) m.ands m.first 0
  rw [hf] at hfind
  
  simp only [Option.map_none] at hfind
  have e5 : ((m.ands.length : Int) == 4000) = false := by simp; omega
  have w4 : IntKind.i64.wrap (2 * (1 + (m.inn.length : Int) + m.regs.length + m.ands.length)) = 2 * (1 + (m.inn.length : Int) + m.regs.length + m.ands.length) := wrap64 (by omega)
  have n1 : ¬ (d = d ∧ j = r) := ref_ne kr kb (by simp)
  have n2 : ¬ (d = d ∧ j = q) := ref_ne kq kb (by simp)
  have n3 : ¬ (d = d ∧ r = q) := ref_ne kq kr (by simp)
  have hap : (m.ands.length + 1) * 16 ≤ 140737488355328 := by omega
  have kq2 : ∀ o o2, fget (fset (fset up d r o) d j o2) d q = some (mkMap m) := fun o o2 => by rw [fget_fset_ne (fun e => n2 ⟨rfl, e.2.symm⟩), fget_fset_ne (fun e => n3 ⟨rfl, e.2.symm⟩)]; exact kq
  have kb2 : ∀ o, fget (fset up d r o) d j = some (mkBox r q m) := fun o => by rw [fget_fset_ne n1]; exact kb
  have kb3 : ∀ o o2, fget (fset (fset up d r o) d j o2) d j = some o2 := fun o o2 => fget_fset_same _ _ _ _ _ (kb2 o)
  refine ACalls.code Try.func142 rfl 78 rfl (by simp) [.tmp 6, .tmp 7] rfl fun Q hQ => ?_
  simp only [ups, PV.up, argEnv]
  have ft := And.intro ty_2 (And.intro ty_3 (And.intro ty_4 (And.intro ty_34 (And.intro ty_48 (And.intro ty_62 (And.intro ty_109 (And.intro ty_137 (And.intro ty_168 (And.intro ty_170 trivial)))))))))
  refine Run.seq ?_
  have fx := And.intro hap (And.intro nd_len (And.intro w4 (And.intro e5 (And.intro e4 (And.intro e3 (And.intro e2 (And.intro e1 (And.intro fh (And.intro hhi (And.intro hlo (And.intro kb3 (And.intro kb2 (And.intro kq (And.intro kr (And.intro kb ft)))))))))))))))
  refine Run.go ?_
  refine End.kp [0, 1, 2] ?_
  refine Run.seq ?_
  refine Run.go ?_
  refine End.kp [0, 1, 2] ?_
  refine Run.seq ?_
  refine Run.block ?_
  refine Run.seq ?_
  refine Run.go ?_
  refine End.kp [0, 1, 2, 18] ?_
  refine Run.cond _ rfl (fun hb => ?_) (fun hb => ?_)
  · have hb2 := hb
    simp at hb
  · have hb2 := hb
    refine Run.seq ?_
    have fx := And.intro hap (And.intro nd_len (And.intro w4 (And.intro e5 (And.intro e4 (And.intro e3 (And.intro e2 (And.intro e1 (And.intro fh (And.intro hhi (And.intro hlo (And.intro kb3 (And.intro kb2 (And.intro kq (And.intro kr (And.intro kb ft)))))))))))))))
    refine Run.go ?_
    refine End.kp [0, 1, 2, 27] ?_
    refine Run.cond _ rfl (fun hb => ?_) (fun hb => ?_)
    · have hb2 := hb
      simp at hb
    · have hb2 := hb
      refine Run.skip ?_
      refine End.blk ?_
      refine End.kp [0, 1, 2] ?_
      refine Run.seq ?_
      have fx := And.intro hap (And.intro nd_len (And.intro w4 (And.intro e5 (And.intro e4 (And.intro e3 (And.intro e2 (And.intro e1 (And.intro fh (And.intro hhi (And.intro hlo (And.intro kb3 (And.intro kb2 (And.intro kq (And.intro kr (And.intro kb ft)))))))))))))))
      refine Run.go ?_
      refine End.kp [0, 8] ?_
      refine Run.seq ?_
      refine Run.seq ?_
      refine Run.drawA fun K hK => ?_
      refine DOps.sim ?_
      refine DOps.lookK (d := d + 1) (j := q) [.int .i64 (min a b), .int .i64 (max a b)] (seenE m.first m.ands) _ hfind kq ?_
      simp only [hitPV, if_true]
      have fx := And.intro hap (And.intro nd_len (And.intro w4 (And.intro e5 (And.intro e4 (And.intro e3 (And.intro e2 (And.intro e1 (And.intro fh (And.intro hhi (And.intro hlo (And.intro kb3 (And.intro kb2 (And.intro kq (And.intro kr (And.intro kb ft)))))))))))))))
      refine DOps.sim ?_
      refine DOps.nil (by rfl) (hK _ ?_); clear hK K
      refine End.kp [0, 8, 9, 10] ?_
      refine Run.seq ?_
      refine Run.go ?_
      refine End.kp [0, 8, 9, 48] ?_
      refine Run.cond _ rfl (fun hb => ?_) (fun hb => ?_)
      · have hb2 := hb
        simp at hb
      · have hb2 := hb
        refine Run.skip ?_
        refine End.kp [0, 8] ?_
        refine Run.seq ?_
        refine Run.seq ?_
        have fx := And.intro hap (And.intro nd_len (And.intro w4 (And.intro e5 (And.intro e4 (And.intro e3 (And.intro e2 (And.intro e1 (And.intro fh (And.intro hhi (And.intro hlo (And.intro kb3 (And.intro kb2 (And.intro kq (And.intro kr (And.intro kb ft)))))))))))))))
        refine Run.go ?_
        refine End.kp [0, 8, 55] ?_
        refine Run.cond _ rfl (fun hb => ?_) (fun hb => ?_)
        · have hb2 := hb
          simp at hb
        · have hb2 := hb
          refine Run.skip ?_
          refine End.kp [0, 8] ?_
          refine Run.seq ?_
          have fx := And.intro hap (And.intro nd_len (And.intro w4 (And.intro e5 (And.intro e4 (And.intro e3 (And.intro e2 (And.intro e1 (And.intro fh (And.intro hhi (And.intro hlo (And.intro kb3 (And.intro kb2 (And.intro kq (And.intro kr (And.intro kb ft)))))))))))))))
          refine Run.region rfl fun K hK => GOps.sim ?_
          refine GOps.call rfl rfl rfl rfl (by kernel_rfl) (ACalls.sim ?_)
          refine (mNodes_ok m ⟨z1, z2, z3⟩ _ (d + 1) j r q ⟨kb, kr, kq⟩).mono fun v u hv => ?_
          obtain ⟨rfl, rfl⟩ := hv
          refine ⟨_, _, rfl, GOps.sim ?_⟩
          refine GOps.done (hK _ ?_); clear hK K
          refine End.kp [0, 8, 11] ?_
          refine Run.seq ?_
          refine Run.ghost (.spares 1) ?_
          simp only [ASt.pushN, ASt.push, List.append_assoc, List.cons_append, List.nil_append]
          refine Run.drawA fun K hK => ?_
          refine DOps.sim ?_
          refine DOps.nil (by rfl) (hK _ ?_); clear hK K
          refine End.kp [0, 8, 11] ?_
          refine Run.seq ?_
          refine Run.drawA fun K hK => ?_
          refine DOps.sim ?_
          refine DOps.updK (d := d + 1) (j := q) [.int .i64 (min a b), .int .i64 (max a b)] (seenE m.first m.ands) hfind (by exact kq2 _ _) ?_
          refine DOps.sim ?_
          refine DOps.nil (by rfl) (hK _ ?_); clear hK K
          refine End.kp [11] ?_
          refine Run.seq ?_
          refine Run.go ?_
          refine End.kp [6, 7] ?_
          refine Run.ret (hQ _ _ ⟨.inr rfl, _, rfl, _, rfl, ?_⟩)
          refine ⟨rfl, ?_⟩
          have e1 : mkMap { m with ands := m.ands ++ [(min a b, max a b)] } = .map (seenE m.first m.ands ++ [([.int .i64 (min a b), .int .i64 (max a b)], .int .i64 (2 * (m.first + m.ands.length)))]) := by
            simp only [mkMap]
            rw [seenE_snoc]
          have e2 : mkRow { m with ands := m.ands ++ [(min a b, max a b)] } = .row 137 2 (m.ands.map nd ++ [[.int .i64 (min a b), .int .i64 (max a b)]]) 0 := by simp
          have e3 : mkBox r q { m with ands := m.ands ++ [(min a b, max a b)] } = .box [.im (.sl (strs m.inn)), .im (.sl (m.regs.map LReg.im)), .ms 0 r (m.ands.length + 1), .map 0 q, .i m.bad] := by simp
          rw [setMk, e1, e2, e3, fset_comm up d r d j _ _ (fun e => n1 ⟨rfl, e.2.symm⟩)]
end Go.Proofs.YtkmnmokjlpenhaaPi

/- The walks of New, known, And, graphs, slices.Equal. -/
set_option linter.unusedVariables false
set_option linter.unusedSimpArgs false
set_option maxRecDepth 100000
namespace Go.Proofs.YtkmnmokjlpenhaaPi
set_option maxHeartbeats 4000000
theorem CloneR_nil (up : Frs) : ACalls Try.prog 112 [.im (.sl (([] : List LReg).map LReg.im))] up fun v u => v = .im (.sl (([] : List LReg).map LReg.im)) ∧ u = up := by
  refine ACalls.code Try.func112 rfl 8 rfl (by simp) [.tmp 2] rfl fun Q hQ => ?_
  simp only [ups, PV.up, argEnv]
  have ft := And.intro ty_4 (And.intro ty_47 (And.intro ty_69 trivial))
  refine Run.seq ?_
  have fx := And.intro (@List.map_nil.{0, 0}) ft
  refine Run.go ?_
  refine End.kp [0] ?_
  refine Run.seq ?_
  refine Run.seq ?_
  refine Run.go ?_
  refine End.kp [0, 4] ?_
  refine Run.cond_any rfl ?_ ?_
  · skip
    refine Run.seq ?_
    have fx := And.intro (@List.map_nil.{0, 0}) ft
    refine Run.go ?_
    refine End.kp [2] ?_
    refine Run.resC hQ ?_
    exact ⟨rfl, rfl⟩
  · skip
    refine Run.skip ?_
    refine End.kp [0] ?_
    refine Run.seq ?_
    have fx := And.intro (@List.map_nil.{0, 0}) ft
    refine Run.go ?_
    refine End.kp [2] ?_
    refine Run.resC hQ ?_
    exact ⟨rfl, rfl⟩
theorem CloneR_cons (x : LReg) (xs : List LReg) (h : xs.length ≤ 1000000) (up : Frs) : ACalls Try.prog 112 [.im (.sl ((x :: xs).map LReg.im))] up fun v u => v = .im (.sl ((x :: xs).map LReg.im)) ∧ u = up := by
  have hall : (xs.map LReg.im).all (fun r => r.length == 3) = true := by simp
  have hlen : ((xs.map LReg.im).length + 1) * 32 ≤ 140737488355328 := by rw [List.length_map]; omega
  refine ACalls.code Try.func112 rfl 8 rfl (by simp) [.tmp 2] rfl fun Q hQ => ?_
  simp only [ups, PV.up, argEnv]
  have ft := And.intro ty_4 (And.intro ty_47 (And.intro ty_69 trivial))
  refine Run.seq ?_
  have fx := And.intro hlen (And.intro hall (And.intro (@List.map_cons.{0, 0}) ft))
  refine Run.go ?_
  refine End.kp [0] ?_
  refine Run.seq ?_
  refine Run.seq ?_
  refine Run.go ?_
  refine End.kp [0, 4] ?_
  refine Run.cond _ rfl (fun hb => ?_) (fun hb => ?_)
  · have hb := hb
    simp at hb
  · have hb := hb
    refine Run.skip ?_
    refine End.kp [0] ?_
    refine Run.seq ?_
    have fx := And.intro hlen (And.intro hall (And.intro (@List.map_cons.{0, 0}) ft))
    refine Run.go ?_
    refine End.move (Ghost.shut (t := 2) (j := 0) rfl rfl rfl) ?_
    simp only [eput, edel]
    refine End.kp [2] ?_
    refine Run.ret (hQ _ _ ⟨.inr rfl, _, rfl, _, rfl, ?_⟩)
    exact ⟨rfl, rfl⟩
theorem CloneR_ok (q : List LReg) (h : q.length ≤ 1000000) (up : Frs) : ACalls Try.prog 112 [.im (.sl (q.map LReg.im))] up fun v u => v = .im (.sl (q.map LReg.im)) ∧ u = up := by
  cases q with
  | nil => exact CloneR_nil up
  | cons x xs => exact CloneR_cons x xs (by simp at h; omega) up
theorem New_ok (inn : List ByteArray) (regs : List LReg) (h1 : inn.length ≤ 1000) (h2 : regs.length ≤ 1000) (f : List AObj) (rest : Frs) : ACalls Try.prog 61 [.im (.sl (strs inn)), .im (.sl (regs.map LReg.im))] (f :: rest) fun v u =>
    v = .ptr 0 (f.length + 1) 0 ∧ u = (f ++ [mkMap ⟨inn, regs, [], 0⟩, mkBox (f.length + 2) (f.length + 0) ⟨inn, regs, [], 0⟩, mkRow ⟨inn, regs, [], 0⟩]) :: rest := by
  refine ACalls.codeX Try.func61 rfl 12 rfl (by simp) [.tmp 4] rfl fun Q hQ => ?_
  simp only [ups, PV.up, argEnv]
  have ft := And.intro ty_3 (And.intro ty_9 (And.intro ty_26 (And.intro ty_47 (And.intro ty_69 (And.intro ty_109 (And.intro ty_168 (And.intro ty_170 trivial)))))))
  refine Run.seq ?_
  have fx := ft
  refine Run.go ?_
  refine End.kp [0, 1] ?_
  refine Run.seq ?_
  refine Run.region rfl fun K hK => GOps.sim ?_
  refine GOps.call rfl rfl rfl rfl (by kernel_rfl) (ACalls.sim ?_)
  refine (CloneS_ok inn (by omega) _).mono fun v u hv => ?_
  obtain ⟨rfl, rfl⟩ := hv
  refine ⟨_, _, rfl, GOps.sim ?_⟩
  refine GOps.call rfl rfl rfl rfl (by kernel_rfl) (ACalls.sim ?_)
  refine (CloneR_ok regs (by omega) _).mono fun v u hv => ?_
  obtain ⟨rfl, rfl⟩ := hv
  refine ⟨_, _, rfl, GOps.sim ?_⟩
  refine GOps.done (hK _ ?_); clear hK K
  refine End.move (Ghost.thawBox (j := 1) (i := 2) 137 2 (by decide) rfl rfl) ?_
  refine End.kp [4] ?_
  refine Run.ret (hQ _ _ ⟨.inr rfl, _, rfl, _, _, rfl, ?_⟩)
  exact ⟨rfl, rfl⟩
theorem mknown_ok (m : LMk) (hm : MkSmall m) (up : Frs) (d j r q : Nat) (hk : MkAt up d j r q m) (l : List Int) (hl : ∀ x ∈ l, 0 ≤ x ∧ x < 2 * (1 + (m.inn.length : Int) + m.regs.length + m.ands.length)) (hn : l.length ≤ 1000) : ACalls Try.prog 115 [.ptr d j 0, .im (.sl (ints l))] up fun v u => v = .im (.bool true) ∧ u = up := by
  have hm2 := hm
  obtain ⟨z1, z2, z3⟩ := hm
  refine ACalls.code Try.func115 rfl 21 rfl (by simp) [.tmp 4] rfl fun Q hQ => ?_
  simp only [ups, PV.up, argEnv]
  have ft := And.intro ty_3 (And.intro ty_4 (And.intro ty_34 (And.intro ty_49 (And.intro ty_62 (And.intro ty_109 trivial)))))
  refine Run.seq ?_
  have fx := And.intro ints_len ft
  refine Run.go ?_
  refine End.kp [0, 1] ?_
  refine Run.seq ?_
  refine Run.seq ?_
  refine Run.go ?_
  refine End.kp [0, 7, 8, 9] ?_
  refine Run.block ?_
  refine Run.ghost (Ghost.form [(0, .ptr (d + 1) j 0), (7, .im (.sl (ints l))), (8, .i l.length), (9, .i (0 : Nat))] 0 ⟨rfl, rfl, rfl, rfl, trivial⟩ rfl rfl) ?_
  refine Run.loop (fun m' st => ∃ i : Nat, m' = l.length - i ∧ i ≤ l.length ∧ st = ⟨[(0, .ptr (d + 1) j 0), (7, .im (.sl (ints l))), (8, .i l.length), (9, .i (i : Nat))], [], up⟩) l.length ⟨0, rfl, by omega, rfl⟩ fun m' st hI => ?_
  obtain ⟨i, rfl, hi, rfl⟩ := hI
  refine Run.seq ?_
  have fx := And.intro ints_len ft
  refine Run.go ?_
  refine End.kp [0, 7, 8, 9, 10] ?_
  refine Run.seq ?_
  refine Run.cond _ rfl (fun hb => ?_) (fun hb => ?_)
  · have hb2 := of_decide_eq_true hb
    have hin : i < l.length := by omega
    have wi := wsucc hin (by omega)
    obtain ⟨x, hxi, hxm, hx⟩ := int_at l i hin
    obtain ⟨x1, x2⟩ := hl x hxm
    refine Run.skip ?_
    refine End.kp [0, 7, 8, 9] ?_
    refine Run.seq ?_
    refine Run.block ?_
    refine Run.seq ?_
    have fx := And.intro (@Int.toNat_natCast) (And.intro (@Int.natCast_nonneg) (And.intro hx (And.intro wi (And.intro ints_len ft))))
    refine Run.go ?_
    refine End.kp [0, 6, 7, 8, 9] ?_
    refine Run.seq ?_
    refine Run.region rfl fun K hK => GOps.sim ?_
    refine GOps.call rfl rfl rfl rfl (by kernel_rfl) (ACalls.sim ?_)
    refine (mNodes_ok m hm2 _ (d + 1) j r q ⟨hk.box, hk.row, hk.map⟩).mono fun v u hv => ?_
    obtain ⟨rfl, rfl⟩ := hv
    refine ⟨_, _, rfl, GOps.sim ?_⟩
    refine GOps.call rfl rfl rfl rfl (by kernel_rfl) (ACalls.sim ?_)
    refine (before_ok x (1 + (m.inn.length : Int) + m.regs.length + m.ands.length) x1 x2 (by omega) _).mono fun v u hv => ?_
    obtain ⟨rfl, rfl⟩ := hv
    refine ⟨_, _, rfl, GOps.sim ?_⟩
    refine GOps.done (hK _ ?_); clear hK K
    refine End.kp [0, 7, 8, 9, 17] ?_
    refine Run.cond _ rfl (fun hb => ?_) (fun hb => ?_)
    · have hb2 := hb
      simp at hb
    · have hb2 := hb
      refine Run.skip ?_
      refine End.blk ?_
      refine End.kp [0, 7, 8, 9] ?_
      have fx := And.intro (@Int.toNat_natCast) (And.intro (@Int.natCast_nonneg) (And.intro hx (And.intro wi (And.intro ints_len ft))))
      refine Run.go ?_
      refine End.lp ?_
      refine ⟨l.length - (i + 1), _, by omega, Ghost.form [(0, .ptr (d + 1) j 0), (7, .im (.sl (ints l))), (8, .i l.length), (9, .i (i + 1 : Nat))] 0 ⟨rfl, rfl, rfl, rfl, trivial⟩ rfl rfl, i + 1, rfl, by omega, rfl⟩
  · have hb2 := of_decide_eq_false hb
    refine Run.exit rfl ?_
    refine End.kp [] ?_
    refine Run.seq ?_
    have fx := And.intro ints_len ft
    refine Run.go ?_
    refine End.kp [4] ?_
    refine Run.ret (hQ _ _ ⟨.inr rfl, _, rfl, _, rfl, ?_⟩)
    exact ⟨rfl, rfl⟩
theorem mand_ok (a b : Int) (m : LMk) (hm : MkSmall m) (up : Frs) (d j r q : Nat) (hk : MkAt up d j r q m) (hn : m.ands.length < 4000) (a0 : 0 ≤ a ∧ a ≤ 1000000) (b0 : 0 ≤ b ∧ b ≤ 1000000) : ACalls Try.prog 142 [.ptr d j 0, .i a, .i b] up fun v u => v = .tup [.i (mkAnd m a b).1, .im (.bool true)] ∧ u = setMk up d j r q (mkAnd m a b).2 := by
  unfold mkAnd
  by_cases h0 : min a b = 0 ∨ min a b = flipL (max a b)
  · rw [if_pos h0]
    refine (mand_zero a b h0 a0 b0 up d j).mono fun v u ⟨h1, h2⟩ => ⟨h1, by rw [h2]; exact (setMk_self hk).symm⟩
  rw [if_neg h0]
  by_cases h1 : min a b = 1 ∨ min a b = max a b
  · rw [if_pos h1]
    refine (mand_one a b h0 h1 a0 b0 up d j).mono fun v u ⟨h1, h2⟩ => ⟨h1, by rw [h2]; exact (setMk_self hk).symm⟩
  rw [if_neg h1]
  cases hf : findA (min a b, max a b) m.ands 0 with
  | some k => exact (mand_old a b h0 h1 a0 b0 m hm up d j r q hk k hf).mono fun v u ⟨h1, h2⟩ => ⟨h1, by rw [h2]; exact (setMk_self hk).symm⟩
  | none => exact mand_new a b h0 h1 a0 b0 m hm up d j r q hk hf hn
theorem EqB_same (p q : List Bool) (h : p = q) (hn : p.length ≤ 1000000) (up : Frs) : ACalls Try.prog 55 [.im (.sl (bools p)), .im (.sl (bools q))] up fun v u => v = .im (.bool true) ∧ u = up := by
  have d1 : ((p.length : Int) != q.length) = false := by rw [h]; simp
  refine ACalls.code Try.func55 rfl 26 rfl (by simp) [.tmp 4] rfl fun Q hQ => ?_
  simp only [ups, PV.up, argEnv]
  have ft := And.intro ty_3 (And.intro ty_4 (And.intro ty_71 trivial))
  refine Run.seq ?_
  have fx := And.intro d1 (And.intro bools_len ft)
  refine Run.go ?_
  refine End.kp [0, 1] ?_
  refine Run.seq ?_
  refine Run.seq ?_
  refine Run.go ?_
  refine End.kp [0, 1, 10] ?_
  refine Run.cond _ rfl (fun hb => ?_) (fun hb => ?_)
  · have hb2 := hb
    simp at hb
  · have hb2 := hb
    refine Run.skip ?_
    refine End.kp [0, 1] ?_
    refine Run.seq ?_
    refine Run.seq ?_
    have fx := And.intro d1 (And.intro bools_len ft)
    refine Run.go ?_
    refine End.kp [0, 1, 12, 13] ?_
    refine Run.block ?_
    refine Run.ghost (Ghost.form [(0, .im (.sl (bools p))), (1, .im (.sl (bools q))), (12, .i p.length), (13, .i (0 : Nat))] 0 ⟨rfl, rfl, rfl, rfl, trivial⟩ rfl rfl) ?_
    refine Run.loop (fun m' st => ∃ i : Nat, m' = p.length - i ∧ i ≤ p.length ∧ st = ⟨[(0, .im (.sl (bools p))), (1, .im (.sl (bools q))), (12, .i p.length), (13, .i (i : Nat))], [], up⟩) p.length ⟨0, rfl, by omega, rfl⟩ fun m' st hI => ?_
    obtain ⟨i, rfl, hi, rfl⟩ := hI
    refine Run.seq ?_
    have fx := And.intro d1 (And.intro bools_len ft)
    refine Run.go ?_
    refine End.kp [0, 1, 12, 13, 14] ?_
    refine Run.seq ?_
    refine Run.cond _ rfl (fun hb => ?_) (fun hb => ?_)
    · have hb2 := of_decide_eq_true hb
      have hin : i < p.length := by omega
      have hiq : i < q.length := by rw [← h]; exact hin
      have wi := wsucc hin (by omega)
      have hp := bools_get p i hin
      have hq := bools_get q i hiq
      have hlp : (i : Int) < (p.length : Int) := by omega
      have hlq : (i : Int) < (q.length : Int) := by omega
      refine Run.skip ?_
      refine End.kp [0, 1, 12, 13] ?_
      refine Run.seq ?_
      refine Run.block ?_
      refine Run.seq ?_
      have fx := And.intro (@Int.toNat_natCast) (And.intro (@Int.natCast_nonneg) (And.intro hlq (And.intro hlp (And.intro hq (And.intro hp (And.intro wi (And.intro d1 (And.intro bools_len ft))))))))
      refine Run.go ?_
      refine End.kp [0, 1, 5, 12, 13] ?_
      refine Run.seq ?_
      refine Run.drawA fun K hK => ?_
      refine DOps.sim ?_
      refine DOps.nil (metAll_quiet rfl) (hK _ ?_); clear hK K
      refine End.kp [0, 1, 12, 13, 24] ?_
      refine Run.cond _ rfl (fun hb => ?_) (fun hb => ?_)
      · have hb2 := hb
        simp [h] at hb
      · have hb2 := hb
        refine Run.skip ?_
        refine End.blk ?_
        refine End.kp [0, 1, 12, 13] ?_
        have fx := And.intro (@Int.toNat_natCast) (And.intro (@Int.natCast_nonneg) (And.intro hlq (And.intro hlp (And.intro hq (And.intro hp (And.intro wi (And.intro d1 (And.intro bools_len ft))))))))
        refine Run.go ?_
        refine End.lp ?_
        refine ⟨p.length - (i + 1), _, by omega, Ghost.form [(0, .im (.sl (bools p))), (1, .im (.sl (bools q))), (12, .i p.length), (13, .i (i + 1 : Nat))] 0 ⟨rfl, rfl, rfl, rfl, trivial⟩ rfl rfl, i + 1, rfl, by omega, rfl⟩
    · have hb2 := of_decide_eq_false hb
      refine Run.exit rfl ?_
      refine End.kp [] ?_
      refine Run.seq ?_
      have fx := And.intro d1 (And.intro bools_len ft)
      refine Run.go ?_
      refine End.kp [4] ?_
      refine Run.ret (hQ _ _ ⟨.inr rfl, _, rfl, _, rfl, ?_⟩)
      exact ⟨rfl, rfl⟩
end Go.Proofs.YtkmnmokjlpenhaaPi

/- The walks of Roots, cone, moved, Clean of graphs. -/
set_option linter.unusedVariables false
set_option linter.unusedSimpArgs false
set_option maxRecDepth 100000
namespace Go.Proofs.YtkmnmokjlpenhaaPi
set_option maxHeartbeats 4000000
abbrev iI (x : Int) : List Im := [.int .i64 x]
theorem CloneLX_nil (f : List AObj) (rest : Frs) : ACalls Try.prog 149 [.im (.sl (([] : List Int).map iI))] (f :: rest) fun v u => v = .ms 0 (f.length + 0) 0 ∧ u = (f ++ [.row 62 1 (([] : List Int).map iI) 0]) :: rest := by
  refine ACalls.codeX Try.func149 rfl 8 rfl (by simp) [.tmp 2] rfl fun Q hQ => ?_
  simp only [ups, PV.up, argEnv]
  have ft := And.intro ty_4 (And.intro ty_49 (And.intro ty_62 trivial))
  refine Run.seq ?_
  have fx := And.intro (@List.map_nil.{0, 0}) ft
  refine Run.go ?_
  refine End.kp [0] ?_
  refine Run.seq ?_
  refine Run.seq ?_
  refine Run.go ?_
  refine End.kp [0, 4] ?_
  refine Run.cond_any rfl ?_ ?_
  · skip
    refine Run.seq ?_
    have fx := And.intro (@List.map_nil.{0, 0}) ft
    refine Run.go ?_
    refine End.move (Ghost.thaw (u := 2) 62 1 (by decide) rfl) ?_
    refine End.kp [2] ?_
    refine Run.ret (hQ _ _ ⟨.inr rfl, _, rfl, _, _, rfl, ?_⟩)
    exact ⟨rfl, rfl⟩
  · skip
    refine Run.skip ?_
    refine End.kp [0] ?_
    refine Run.seq ?_
    have fx := And.intro (@List.map_nil.{0, 0}) ft
    refine Run.go ?_
    refine End.kp [2] ?_
    refine Run.ret (hQ _ _ ⟨.inr rfl, _, rfl, _, _, rfl, ?_⟩)
    exact ⟨rfl, rfl⟩
theorem CloneLX_cons (x : Int) (xs : List Int) (h : xs.length ≤ 1000000) (f : List AObj) (rest : Frs) : ACalls Try.prog 149 [.im (.sl ((x :: xs).map iI))] (f :: rest) fun v u => v = .ms 0 (f.length + 0) (x :: xs).length ∧ u = (f ++ [.row 62 1 ((x :: xs).map iI) 0]) :: rest := by
  have hall : (xs.map iI).all (fun r => r.length == 1) = true := by simp
  have hlen : (xs.length + 1) * 8 ≤ 140737488355328 := by omega
  refine ACalls.codeX Try.func149 rfl 8 rfl (by simp) [.tmp 2] rfl fun Q hQ => ?_
  simp only [ups, PV.up, argEnv]
  have ft := And.intro ty_4 (And.intro ty_49 (And.intro ty_62 trivial))
  refine Run.seq ?_
  have fx := And.intro (@List.length_map.{0, 0}) (And.intro hlen (And.intro hall (And.intro (@List.map_cons.{0, 0}) ft)))
  refine Run.go ?_
  refine End.kp [0] ?_
  refine Run.seq ?_
  refine Run.seq ?_
  refine Run.go ?_
  refine End.kp [0, 4] ?_
  refine Run.cond _ rfl (fun hb => ?_) (fun hb => ?_)
  · have hb := hb
    simp at hb
  · have hb := hb
    refine Run.skip ?_
    refine End.kp [0] ?_
    refine Run.seq ?_
    have fx := And.intro (@List.length_map.{0, 0}) (And.intro hlen (And.intro hall (And.intro (@List.map_cons.{0, 0}) ft)))
    refine Run.go ?_
    refine End.kp [2] ?_
    refine Run.ret (hQ _ _ ⟨.inr rfl, _, rfl, _, _, rfl, ?_⟩)
    exact ⟨rfl, rfl⟩
theorem CloneLX_ok (q : List Int) (h : q.length ≤ 1000000) (f : List AObj) (rest : Frs) : ACalls Try.prog 149 [.im (.sl (q.map iI))] (f :: rest) fun v u => v = .ms 0 (f.length + 0) q.length ∧ u = (f ++ [.row 62 1 (q.map iI) 0]) :: rest := by
  cases q with
  | nil => exact CloneLX_nil f rest
  | cons x xs => exact CloneLX_cons x xs (by simp at h; omega) f rest
theorem CloneRI_nil (k : Nat) (up : Frs) (hk : fget up 0 k = some .dead) : ACalls Try.prog 112 [.im (.sl (([] : List LReg).map LReg.im))] up fun v u => v = .ms 0 k 0 ∧ u = fset up 0 k (.row 69 3 (([] : List LReg).map LReg.im) 0) := by
  refine ACalls.codeI Try.func112 rfl 8 rfl (by simp) [.tmp 2] rfl k fun Q hQ => ?_
  simp only [ups, PV.up, argEnv]
  have ft := And.intro ty_4 (And.intro ty_47 (And.intro ty_69 trivial))
  refine Run.seq ?_
  have fx := And.intro (@List.map_nil.{0, 0}) ft
  refine Run.go ?_
  refine End.kp [0] ?_
  refine Run.seq ?_
  refine Run.seq ?_
  refine Run.go ?_
  refine End.kp [0, 4] ?_
  refine Run.cond_any rfl ?_ ?_
  · skip
    refine Run.seq ?_
    have fx := And.intro (@List.map_nil.{0, 0}) ft
    refine Run.go ?_
    refine End.move (Ghost.thaw (u := 2) 69 3 (by decide) rfl) ?_
    refine End.kp [2] ?_
    have fx := And.intro (@List.map_nil.{0, 0}) ft
    refine Run.resI 0 hQ hk ?_
    exact ⟨rfl, rfl⟩
  · skip
    refine Run.skip ?_
    refine End.kp [0] ?_
    refine Run.seq ?_
    have fx := And.intro (@List.map_nil.{0, 0}) ft
    refine Run.go ?_
    refine End.kp [2] ?_
    refine Run.resI 0 hQ hk ?_
    exact ⟨rfl, rfl⟩
theorem CloneRI_cons (k : Nat) (x : LReg) (xs : List LReg) (h : xs.length ≤ 1000000) (up : Frs) (hk : fget up 0 k = some .dead) : ACalls Try.prog 112 [.im (.sl ((x :: xs).map LReg.im))] up fun v u => v = .ms 0 k (x :: xs).length ∧ u = fset up 0 k (.row 69 3 ((x :: xs).map LReg.im) 0) := by
  have hall : (xs.map LReg.im).all (fun r => r.length == 3) = true := by simp
  have hlen : (xs.length + 1) * 32 ≤ 140737488355328 := by omega
  refine ACalls.codeI Try.func112 rfl 8 rfl (by simp) [.tmp 2] rfl k fun Q hQ => ?_
  simp only [ups, PV.up, argEnv]
  have ft := And.intro ty_4 (And.intro ty_47 (And.intro ty_69 trivial))
  refine Run.seq ?_
  have fx := And.intro (@List.length_map.{0, 0}) (And.intro hlen (And.intro hall (And.intro (@List.map_cons.{0, 0}) ft)))
  refine Run.go ?_
  refine End.kp [0] ?_
  refine Run.seq ?_
  refine Run.seq ?_
  refine Run.go ?_
  refine End.kp [0, 4] ?_
  refine Run.cond _ rfl (fun hb => ?_) (fun hb => ?_)
  · have hb := hb
    simp at hb
  · have hb := hb
    refine Run.skip ?_
    refine End.kp [0] ?_
    refine Run.seq ?_
    have fx := And.intro (@List.length_map.{0, 0}) (And.intro hlen (And.intro hall (And.intro (@List.map_cons.{0, 0}) ft)))
    refine Run.go ?_
    refine End.kp [2] ?_
    refine Run.resI 0 hQ hk ?_
    exact ⟨rfl, rfl⟩
theorem CloneRI_ok (q : List LReg) (h : q.length ≤ 1000000) (k : Nat) (up : Frs) (hk : fget up 0 k = some .dead) : ACalls Try.prog 112 [.im (.sl (q.map LReg.im))] up fun v u => v = .ms 0 k q.length ∧ u = fset up 0 k (.row 69 3 (q.map LReg.im) 0) := by
  cases q with
  | nil => exact CloneRI_nil k up hk
  | cons x xs => exact CloneRI_cons k x xs (by simp at h; omega) up hk
theorem CloneN_nil (up : Frs) : ACalls Try.prog 122 [.im (.sl (([] : List (Int × Int)).map nd))] up fun v u => v = .im (.sl (([] : List (Int × Int)).map nd)) ∧ u = up := by
  refine ACalls.code Try.func122 rfl 8 rfl (by simp) [.tmp 2] rfl fun Q hQ => ?_
  simp only [ups, PV.up, argEnv]
  have ft := And.intro ty_4 (And.intro ty_48 (And.intro ty_137 trivial))
  refine Run.seq ?_
  have fx := And.intro (@List.map_nil.{0, 0}) ft
  refine Run.go ?_
  refine End.kp [0] ?_
  refine Run.seq ?_
  refine Run.seq ?_
  refine Run.go ?_
  refine End.kp [0, 4] ?_
  refine Run.cond_any rfl ?_ ?_
  · skip
    refine Run.seq ?_
    have fx := And.intro (@List.map_nil.{0, 0}) ft
    refine Run.go ?_
    refine End.kp [2] ?_
    refine Run.resC hQ ?_
    exact ⟨rfl, rfl⟩
  · skip
    refine Run.skip ?_
    refine End.kp [0] ?_
    refine Run.seq ?_
    have fx := And.intro (@List.map_nil.{0, 0}) ft
    refine Run.go ?_
    refine End.kp [2] ?_
    refine Run.resC hQ ?_
    exact ⟨rfl, rfl⟩
theorem CloneN_cons (x : (Int × Int)) (xs : List (Int × Int)) (h : xs.length ≤ 1000000) (up : Frs) : ACalls Try.prog 122 [.im (.sl ((x :: xs).map nd))] up fun v u => v = .im (.sl ((x :: xs).map nd)) ∧ u = up := by
  have hall : (xs.map nd).all (fun r => r.length == 2) = true := by simp
  have hlen : ((xs.map nd).length + 1) * 16 ≤ 140737488355328 := by rw [List.length_map]; omega
  refine ACalls.code Try.func122 rfl 8 rfl (by simp) [.tmp 2] rfl fun Q hQ => ?_
  simp only [ups, PV.up, argEnv]
  have ft := And.intro ty_4 (And.intro ty_48 (And.intro ty_137 trivial))
  refine Run.seq ?_
  have fx := And.intro hlen (And.intro hall (And.intro (@List.map_cons.{0, 0}) ft))
  refine Run.go ?_
  refine End.kp [0] ?_
  refine Run.seq ?_
  refine Run.seq ?_
  refine Run.go ?_
  refine End.kp [0, 4] ?_
  refine Run.cond _ rfl (fun hb => ?_) (fun hb => ?_)
  · have hb := hb
    simp at hb
  · have hb := hb
    refine Run.skip ?_
    refine End.kp [0] ?_
    refine Run.seq ?_
    have fx := And.intro hlen (And.intro hall (And.intro (@List.map_cons.{0, 0}) ft))
    refine Run.go ?_
    refine End.move (Ghost.shut (t := 2) (j := 0) rfl rfl rfl) ?_
    simp only [eput, edel]
    refine End.kp [2] ?_
    refine Run.ret (hQ _ _ ⟨.inr rfl, _, rfl, _, rfl, ?_⟩)
    exact ⟨rfl, rfl⟩
theorem CloneN_ok (q : List (Int × Int)) (h : q.length ≤ 1000000) (up : Frs) : ACalls Try.prog 122 [.im (.sl (q.map nd))] up fun v u => v = .im (.sl (q.map nd)) ∧ u = up := by
  cases q with
  | nil => exact CloneN_nil up
  | cons x xs => exact CloneN_cons x xs (by simp at h; omega) up
def rootsG (g : LGraph) : List Int := g.outs ++ g.regs.map LReg.next
theorem bools_set (q : List Bool) (i : Nat) (b : Bool) : (bools q).set i [.bool b] = bools (q.set i b) := by simp [List.map_set]
def coneRoots (v : List Bool) (roots : List Int) : List Bool := roots.foldl (fun v l => v.set (l / 2).toNat true) v
def coneStep (g : LGraph) (v : List Bool) (i : Nat) : List Bool :=
  if v.getD (1 + g.inn.length + g.regs.length + i) false then (v.set ((g.ands.getD i (0, 0)).1 / 2).toNat true).set ((g.ands.getD i (0, 0)).2 / 2).toNat true else v
def coneDown (g : LGraph) : Nat → List Bool → List Bool
  | 0, v => v
  | i + 1, v => coneDown g i (coneStep g v i)
def nodesN (g : LGraph) : Nat := 1 + g.inn.length + g.regs.length + g.ands.length
def coneV (g : LGraph) (roots : List Int) : List Bool := coneDown g g.ands.length (coneRoots (List.replicate (nodesN g) false) roots)
theorem coneRoots_len : ∀ (roots : List Int) (v : List Bool), (coneRoots v roots).length = v.length
  | [], v => rfl
  | l :: t, v => by
    have := coneRoots_len t (v.set (l / 2).toNat true)
    simp only [coneRoots, List.foldl_cons] at this ⊢
    rw [this]
    simp
theorem coneStep_len (g : LGraph) (v : List Bool) (i : Nat) : (coneStep g v i).length = v.length := by
  unfold coneStep
  split <;> simp
theorem coneDown_len (g : LGraph) : ∀ (i : Nat) (v : List Bool), (coneDown g i v).length = v.length
  | 0, v => rfl
  | i + 1, v => by rw [coneDown, coneDown_len g i, coneStep_len]
theorem coneV_len (g : LGraph) (roots : List Int) : (coneV g roots).length = nodesN g := by rw [coneV, coneDown_len, coneRoots_len]; simp
/-- A literal over new literals of the nodes. -/
def atV (to : List Int) (l : Int) : Int := if l % 2 = 1 then flipL (to.getD (l / 2).toNat 0) else to.getD (l / 2).toNat 0
theorem xor_zero (l : Int) (h0 : 0 ≤ l) (h1 : l ≤ 1000000000) : bits .xor .i64 l 0 = l := by
  obtain ⟨n, rfl⟩ : ∃ n : Nat, l = n := ⟨l.toNat, by omega⟩
  have e : bits .xor .i64 (n : Int) 0 = IntKind.i64.wrap ((n ^^^ 0 : Nat) : Int) := by
    show IntKind.i64.wrap ((BitVec.ofInt 64 (n : Int) ^^^ BitVec.ofInt 64 0).toNat : Int) = _
    rw [BitVec.toNat_xor]
    have a1 : (BitVec.ofInt 64 (n : Int)).toNat = n := by
      rw [BitVec.toNat_ofInt]
      omega
    have a2 : (BitVec.ofInt 64 0).toNat = 0 := by decide
    rw [a1, a2]
  rw [e, Nat.xor_zero]
  exact wrap64 (by omega)
theorem xor_at (to : List Int) (l : Int) (h : 0 ≤ to.getD (l / 2).toNat 0 ∧ to.getD (l / 2).toNat 0 ≤ 1000000000) : bits .xor .i64 (to.getD (l / 2).toNat 0) (l % 2) = atV to l := by
  unfold atV
  by_cases h2 : l % 2 = 1
  · rw [if_pos h2, h2, xor_one _ h.1 h.2]
  · rw [if_neg h2, show l % 2 = 0 by omega, xor_zero _ h.1 h.2]
def movedG (g : LGraph) (ands : List (Int × Int)) (to : List Int) : LGraph := ⟨g.inn, g.out, g.regs.map (fun r => { r with next := atV to r.next }), ands, g.outs.map (atV to)⟩
/-- Literals that may stand for nodes. -/
def ToOk (to : List Int) : Prop := ∀ x ∈ to, 0 ≤ x ∧ x ≤ 1000000
theorem ToOk.get {to : List Int} (h : ToOk to) (k : Nat) : 0 ≤ to.getD k 0 ∧ to.getD k 0 ≤ 1000000 := by
  rw [List.getD_eq_getElem?_getD]
  cases hk : to[k]? with
  | none => simp
  | some x => exact h x (List.mem_of_getElem? hk)
theorem Roots_ok (g : LGraph) (hg : GSmall g) (up : Frs) : ACalls Try.prog 119 [g.pv] up fun v u => v = .im (.sl (ints (rootsG g))) ∧ u = up := by
  obtain ⟨z1, z2, z3, z4, z5⟩ := hg
  refine ACalls.code Try.func119 rfl 23 rfl (by simp) [.tmp 2] rfl fun Q hQ => ?_
  simp only [ups, PV.up, argEnv]
  have ft := And.intro ty_2 (And.intro ty_3 (And.intro ty_4 (And.intro ty_47 (And.intro ty_49 (And.intro ty_51 (And.intro ty_62 (And.intro ty_69 trivial)))))))
  refine Run.seq ?_
  have fx := And.intro rim_len ft
  refine Run.go ?_
  refine End.kp [1] ?_
  refine Run.seq ?_
  refine Run.region rfl fun K hK => GOps.sim ?_
  refine GOps.call rfl rfl rfl rfl (by kernel_rfl) (ACalls.sim ?_)
  refine (CloneLX_ok g.outs (by omega) _ _).mono fun v u hv => ?_
  obtain ⟨rfl, rfl⟩ := hv
  refine ⟨_, _, rfl, GOps.sim ?_⟩
  refine GOps.done (hK _ ?_); clear hK K
  refine End.kp [1, 3] ?_
  refine Run.seq ?_
  refine Run.seq ?_
  refine Run.go ?_
  refine End.kp [3, 10, 11, 12] ?_
  refine Run.block ?_
  refine Run.ghost (Ghost.form [(3, .ms 0 1 (g.outs.length + 0)), (10, .im (.sl (g.regs.map LReg.im))), (11, .i g.regs.length), (12, .i (0 : Nat))] 2 ⟨rfl, rfl, rfl, rfl, trivial⟩ rfl rfl) ?_
  refine Run.loop (fun m st => ∃ (i : Nat), m = g.regs.length - i ∧ i ≤ g.regs.length ∧ st = ⟨[(3, .ms 0 1 (g.outs.length + i)), (10, .im (.sl (g.regs.map LReg.im))), (11, .i g.regs.length), (12, .i (i : Nat))], [.box [.im (.sl (strs g.inn)), .im (.sl (strs g.out)), .im (.sl (g.regs.map LReg.im)), .im (.sl (g.ands.map nd)), .im (.sl (ints g.outs))], .row 62 1 (ints (g.outs ++ (g.regs.take i).map LReg.next)) 0], up⟩) g.regs.length ⟨0, rfl, by omega, by simp⟩ fun m st hI => ?_
  obtain ⟨i, rfl, hi, rfl⟩ := hI
  have hsl : (ints (g.outs ++ (g.regs.take i).map LReg.next)).length = g.outs.length + i := by simp; omega
  have hap : (g.outs.length + i + 1) * 8 ≤ 140737488355328 := by omega
  refine Run.seq ?_
  have fx := And.intro hap (And.intro hsl (And.intro rim_len ft))
  refine Run.go ?_
  refine End.kp [3, 10, 11, 12, 13] ?_
  refine Run.seq ?_
  refine Run.cond _ rfl (fun hb => ?_) (fun hb => ?_)
  · have hb2 := of_decide_eq_true hb
    have hin : i < g.regs.length := by omega
    have wi := wsucc hin (by omega)
    obtain ⟨f, hf, hfm, hgt⟩ := reg_at g.regs i hin
    have htk := reg_snoc g.regs i f hf
    refine Run.skip ?_
    refine End.kp [3, 10, 11, 12] ?_
    refine Run.seq ?_
    refine Run.block ?_
    refine Run.seq ?_
    have fx := And.intro (@Int.toNat_natCast) (And.intro (@Int.natCast_nonneg) (And.intro hgt (And.intro wi (And.intro hap (And.intro hsl (And.intro rim_len ft))))))
    refine Run.go ?_
    refine End.kp [3, 5, 10, 11, 12] ?_
    refine Run.go ?_
    refine End.blk ?_
    refine End.kp [3, 10, 11, 12] ?_
    refine Run.go ?_
    refine End.lp ?_
    refine ⟨g.regs.length - (i + 1), _, by omega, Ghost.form [(3, .ms 0 1 (g.outs.length + (i + 1))), (10, .im (.sl (g.regs.map LReg.im))), (11, .i g.regs.length), (12, .i (i + 1 : Nat))] 2 ⟨rfl, rfl, rfl, rfl, trivial⟩ rfl rfl, i + 1, rfl, by omega, ?_⟩
    rw [htk]
    simp
  · have hb2 := of_decide_eq_false hb
    have hiN : i = g.regs.length := by omega
    subst hiN
    rw [List.take_length] at hsl ⊢
    refine Run.exit rfl ?_
    refine End.kp [3] ?_
    refine Run.seq ?_
    refine Run.ghost (Ghost.shut (t := 3) (j := 1) rfl rfl hsl) ?_
    simp only [eput, edel]
    have fx := And.intro hap (And.intro hsl (And.intro rim_len ft))
    refine Run.go ?_
    refine End.kp [2] ?_
    refine Run.ret (hQ _ _ ⟨.inr rfl, _, rfl, _, rfl, ?_⟩)
    exact ⟨rfl, rfl⟩
theorem GNodes_ok (g : LGraph) (hg : GSmall g) (up : Frs) : ACalls Try.prog 150 [g.pv] up fun v u => v = .i (1 + g.inn.length + g.regs.length + g.ands.length) ∧ u = up := by
  have hg2 := hg
  obtain ⟨z1, z2, z3, z4, z5⟩ := hg
  have w1 : IntKind.i64.wrap (1 + (g.inn.length : Int) + g.regs.length + g.ands.length) = 1 + (g.inn.length : Int) + g.regs.length + g.ands.length := wrap64 (by omega)
  refine ACalls.code Try.func150 rfl 9 rfl (by simp) [.tmp 2] rfl fun Q hQ => ?_
  simp only [ups, PV.up, argEnv]
  have ft := And.intro ty_3 (And.intro ty_48 (And.intro ty_51 (And.intro ty_137 trivial)))
  refine Run.seq ?_
  have fx := And.intro w1 (And.intro nd_len ft)
  refine Run.go ?_
  refine End.kp [1] ?_
  refine Run.seq ?_
  refine Run.drawA fun K hK => ?_
  refine DOps.sim ?_
  refine DOps.call (.i (1 + (g.inn.length : Int) + g.regs.length)) [] [] rfl rfl rfl rfl (by kernel_rfl) (by simp [Agree]) (fun u hu => GFirst_ok g hg2 u) ?_
  refine DOps.sim ?_
  refine DOps.nil (metAll_quiet rfl) (hK _ ?_); clear hK K
  refine End.kp [2] ?_
  refine Run.ret (hQ _ _ ⟨.inr rfl, _, rfl, _, rfl, ?_⟩)
  exact ⟨rfl, rfl⟩
theorem cone_ok (g : LGraph) (hg : GraphOk g) (roots : List Int) (hr : ∀ x ∈ roots, 0 ≤ x ∧ x < 2 * (1 + (g.inn.length : Int) + g.regs.length + g.ands.length)) (hrn : roots.length ≤ 100000) (up : Frs) : ACalls Try.prog 118 [g.pv, .im (.sl (ints roots))] up fun v u => v = .im (.sl (bools (coneV g roots))) ∧ u = up := by
  obtain ⟨z1, z2, z3, z4, z5⟩ := hg.small
  obtain ⟨N, hN⟩ : ∃ N, N = nodesN g := ⟨_, rfl⟩
  have hNi : 1 + (g.inn.length : Int) + g.regs.length + g.ands.length = (N : Int) := by rw [hN, nodesN]; omega
  have hc : (0 : Int) ≤ (N : Int) := by omega
  have hm1 : ((1 : Nat) : Int) * (N : Int) ≤ 281474976710656 := by omega
  have hm2 : (N : Int) ≤ 9223372036854775807 := by omega
  have wa : IntKind.i64.wrap ((g.ands.length : Int) - 1) = (g.ands.length : Int) - 1 := wrap64 (by omega)
  refine ACalls.code Try.func118 rfl 59 rfl (by simp) [.tmp 4] rfl fun Q hQ => ?_
  simp only [ups, PV.up, argEnv]
  have ft := And.intro ty_3 (And.intro ty_4 (And.intro ty_48 (And.intro ty_49 (And.intro ty_51 (And.intro ty_62 (And.intro ty_71 (And.intro ty_137 trivial)))))))
  refine Run.seq ?_
  have fx := And.intro wa (And.intro hm2 (And.intro hm1 (And.intro hc (And.intro hNi (And.intro nd_len (And.intro ints_len ft))))))
  refine Run.go ?_
  refine End.kp [1, 2] ?_
  refine Run.seq ?_
  refine Run.region rfl fun K hK => GOps.sim ?_
  refine GOps.call rfl rfl rfl rfl (by kernel_rfl) (ACalls.sim ?_)
  refine (GNodes_ok g hg.small _).mono fun v u hv => ?_
  obtain ⟨rfl, rfl⟩ := hv
  refine ⟨_, _, rfl, GOps.sim ?_⟩
  refine GOps.done (hK _ ?_); clear hK K
  refine End.kp [1, 2, 5] ?_
  refine Run.seq ?_
  refine Run.seq ?_
  refine Run.go ?_
  refine End.kp [2, 5, 13, 14, 15] ?_
  refine Run.block ?_
  refine Run.ghost (Ghost.form [(2, .ptr 0 0 0), (5, .ms 0 1 N), (13, .im (.sl (ints roots))), (14, .i roots.length), (15, .i (0 : Nat))] 2 ⟨rfl, rfl, rfl, rfl, rfl, trivial⟩ rfl rfl) ?_
  refine Run.loop (fun m st => ∃ (i : Nat), m = roots.length - i ∧ i ≤ roots.length ∧ st = ⟨[(2, .ptr 0 0 0), (5, .ms 0 1 N), (13, .im (.sl (ints roots))), (14, .i roots.length), (15, .i (i : Nat))], [.box [.im (.sl (strs g.inn)), .im (.sl (strs g.out)), .im (.sl (g.regs.map LReg.im)), .im (.sl (g.ands.map nd)), .im (.sl (ints g.outs))], .row 4 1 (bools (coneRoots (List.replicate N false) (roots.take i))) 0], up⟩) roots.length ⟨0, rfl, by omega, by simp [coneRoots]⟩ fun m st hI => ?_
  obtain ⟨i, rfl, hi, rfl⟩ := hI
  have hvl : (coneRoots (List.replicate N false) (roots.take i)).length = N := by rw [coneRoots_len]; simp
  refine Run.seq ?_
  have fx := And.intro wa (And.intro hm2 (And.intro hm1 (And.intro hc (And.intro hNi (And.intro nd_len (And.intro ints_len ft))))))
  refine Run.go ?_
  refine End.kp [2, 5, 13, 14, 15, 16] ?_
  refine Run.seq ?_
  refine Run.cond _ rfl (fun hb => ?_) (fun hb => ?_)
  · have hb2 := of_decide_eq_true hb
    have hin : i < roots.length := by omega
    have wi := wsucc hin (by omega)
    obtain ⟨x, hxi, hxm, hx⟩ := int_at roots i hin
    obtain ⟨x1, x2⟩ := hr x hxm
    have hd := tdiv2 x x1 (by omega)
    have hx0 : 0 ≤ x / 2 := by omega
    have hxl : x / 2 < (N : Int) := by omega
    have htk : roots.take (i + 1) = roots.take i ++ [x] := int_snoc roots i x hxi
    have hstep : coneRoots (List.replicate N false) (roots.take (i + 1)) = (coneRoots (List.replicate N false) (roots.take i)).set (x / 2).toNat true := by rw [htk]; simp [coneRoots]
    generalize coneRoots (List.replicate N false) (roots.take i) = v at hvl hstep
    have hvb : (bools v).length = N := by rw [bools_len, hvl]
    have hvx := bools_get v (x / 2).toNat (by omega)
    have hst := bools_set v
    refine Run.skip ?_
    refine End.kp [2, 5, 13, 14, 15] ?_
    refine Run.seq ?_
    refine Run.block ?_
    refine Run.seq ?_
    have fx := And.intro (@Int.toNat_natCast) (And.intro (@Int.natCast_nonneg) (And.intro hst (And.intro hvx (And.intro hvb (And.intro hxl (And.intro hx0 (And.intro hd (And.intro hx (And.intro wi (And.intro wa (And.intro hm2 (And.intro hm1 (And.intro hc (And.intro hNi (And.intro nd_len (And.intro ints_len ft))))))))))))))))
    refine Run.go ?_
    refine End.kp [2, 5, 7, 13, 14, 15] ?_
    refine Run.go ?_
    refine End.blk ?_
    refine End.kp [2, 5, 13, 14, 15] ?_
    refine Run.go ?_
    refine End.lp ?_
    refine ⟨roots.length - (i + 1), _, by omega, Ghost.form [(2, .ptr 0 0 0), (5, .ms 0 1 N), (13, .im (.sl (ints roots))), (14, .i roots.length), (15, .i (i + 1 : Nat))] 2 ⟨rfl, rfl, rfl, rfl, rfl, trivial⟩ rfl rfl, i + 1, rfl, by omega, ?_⟩
    rw [hstep]
    rfl
  · have hb2 := of_decide_eq_false hb
    have hiN : i = roots.length := by omega
    subst hiN
    rw [List.take_length] at hvl ⊢
    have hV : coneDown g g.ands.length (coneRoots (List.replicate N false) roots) = coneV g roots := by rw [coneV, hN]
    generalize coneRoots (List.replicate N false) roots = v0 at hvl hV
    refine Run.exit rfl ?_
    refine End.kp [2, 5] ?_
    refine Run.seq ?_
    have fx := And.intro wa (And.intro hm2 (And.intro hm1 (And.intro hc (And.intro hNi (And.intro nd_len (And.intro ints_len ft))))))
    refine Run.region rfl fun K hK => GOps.sim ?_
    refine GOps.call rfl rfl rfl rfl (by kernel_rfl) (ACalls.sim ?_)
    refine (GFirst_ok g hg.small _).mono fun v u hv => ?_
    obtain ⟨rfl, rfl⟩ := hv
    refine ⟨_, _, rfl, GOps.sim ?_⟩
    refine GOps.done (hK _ ?_); clear hK K
    refine End.kp [2, 5, 8] ?_
    refine Run.seq ?_
    refine Run.seq ?_
    refine Run.go ?_
    refine End.kp [2, 5, 8, 9] ?_
    refine Run.block ?_
    refine Run.ghost (Ghost.form [(2, .ptr 0 0 0), (5, .ms 0 1 N), (8, .i (1 + g.inn.length + g.regs.length)), (9, .i ((g.ands.length : Int) - 1))] 2 ⟨rfl, rfl, rfl, rfl, trivial⟩ rfl rfl) ?_
    refine Run.loop (fun m st => ∃ (k : Nat) (v : List Bool), k = m ∧ k ≤ g.ands.length ∧ v.length = N ∧ coneDown g k v = coneV g roots ∧ st = ⟨[(2, .ptr 0 0 0), (5, .ms 0 1 N), (8, .i (1 + g.inn.length + g.regs.length)), (9, .i ((k : Int) - 1))], [.box [.im (.sl (strs g.inn)), .im (.sl (strs g.out)), .im (.sl (g.regs.map LReg.im)), .im (.sl (g.ands.map nd)), .im (.sl (ints g.outs))], .row 4 1 (bools v) 0], up⟩) g.ands.length ⟨_, _, rfl, Nat.le_refl _, hvl, hV, rfl⟩ fun m st hI => ?_
    obtain ⟨k, v, rfl, hk, hvl2, hV2, rfl⟩ := hI
    have hvb : (bools v).length = N := by rw [bools_len, hvl2]
    refine Run.seq ?_
    refine Run.seq ?_
    have fx := And.intro hvb (And.intro wa (And.intro hm2 (And.intro hm1 (And.intro hc (And.intro hNi (And.intro nd_len (And.intro ints_len ft)))))))
    refine Run.go ?_
    refine End.kp [2, 5, 8, 9, 31] ?_
    refine Run.cond _ rfl (fun hb => ?_) (fun hb => ?_)
    · have hb2 := of_decide_eq_true hb
      obtain ⟨i, rfl⟩ : ∃ i, k = i + 1 := ⟨k - 1, by omega⟩
      have ei : ((i + 1 : Nat) : Int) - 1 = (i : Int) := by omega
      have wf : IntKind.i64.wrap (1 + (g.inn.length : Int) + g.regs.length + i) = ((1 + g.inn.length + g.regs.length + i : Nat) : Int) := by rw [wrap64 (by omega)]; omega
      have wd : IntKind.i64.wrap ((i : Int) - 1) = (i : Int) - 1 := wrap64 (by omega)
      have hfl : ((1 + g.inn.length + g.regs.length + i : Nat) : Int) < (N : Int) := by omega
      have hvf := bools_get v (1 + g.inn.length + g.regs.length + i) (by omega)
      obtain ⟨p, hpi, hpm, hp⟩ := node_at g.ands i (by omega)
      obtain ⟨⟨p1, p2⟩, p3, p4⟩ := hg.ands i p hpi
      have hd1 := tdiv2 p.1 p1 (by omega)
      have hd2 := tdiv2 p.2 p3 (by omega)
      have q1 : 0 ≤ p.1 / 2 := by omega
      have q2 : 0 ≤ p.2 / 2 := by omega
      have q3 : p.1 / 2 < (N : Int) := by omega
      have q4 : p.2 / 2 < (N : Int) := by omega
      have hgd : g.ands.getD i (0, 0) = p := by simp [hpi]
      have hv1 := bools_get v (p.1 / 2).toNat (by omega)
      have hv2 := bools_get (v.set (p.1 / 2).toNat true) (p.2 / 2).toNat (by rw [List.length_set]; omega)
      have hst := bools_set v
      have hst2 := bools_set (v.set (p.1 / 2).toNat true)
      have hl2 : (bools (v.set (p.1 / 2).toNat true)).length = N := by rw [bools_len, List.length_set, hvl2]
      have hil : (i : Int) < (g.ands.length : Int) := by omega
      rw [coneDown, coneStep, hgd] at hV2
      refine Run.skip ?_
      refine End.kp [2, 5, 8, 9] ?_
      refine Run.seq ?_
      refine Run.block ?_
      refine Run.seq ?_
      have fx := And.intro (@Int.toNat_natCast) (And.intro (@Int.natCast_nonneg) (And.intro hil (And.intro hl2 (And.intro hst2 (And.intro hst (And.intro hv2 (And.intro hv1 (And.intro q4 (And.intro q3 (And.intro q2 (And.intro q1 (And.intro hd2 (And.intro hd1 (And.intro hp (And.intro hvf (And.intro hfl (And.intro wd (And.intro wf (And.intro ei (And.intro hvb (And.intro wa (And.intro hm2 (And.intro hm1 (And.intro hc (And.intro hNi (And.intro nd_len (And.intro ints_len ft)))))))))))))))))))))))))))
      refine Run.go ?_
      refine End.kp [2, 5, 8, 9, 39] ?_
      refine Run.cond _ rfl (fun hb => ?_) (fun hb => ?_)
      · have hb2 := hb
        rw [if_pos hb2] at hV2
        have fx := And.intro (@Int.toNat_natCast) (And.intro (@Int.natCast_nonneg) (And.intro hil (And.intro hl2 (And.intro hst2 (And.intro hst (And.intro hv2 (And.intro hv1 (And.intro q4 (And.intro q3 (And.intro q2 (And.intro q1 (And.intro hd2 (And.intro hd1 (And.intro hp (And.intro hvf (And.intro hfl (And.intro wd (And.intro wf (And.intro ei (And.intro hvb (And.intro wa (And.intro hm2 (And.intro hm1 (And.intro hc (And.intro hNi (And.intro nd_len (And.intro ints_len ft)))))))))))))))))))))))))))
        refine Run.drawA fun K hK => ?_
        refine DOps.sim ?_
        refine DOps.nil (by rfl) (hK _ ?_); clear hK K
        refine End.blk ?_
        refine End.kp [2, 5, 8, 9] ?_
        refine Run.go ?_
        refine End.lp ?_
        refine ⟨i, _, by omega, Ghost.form [(2, .ptr 0 0 0), (5, .ms 0 1 N), (8, .i (1 + g.inn.length + g.regs.length)), (9, .i ((i : Int) - 1))] 2 ⟨rfl, rfl, rfl, rfl, trivial⟩ rfl rfl, i, _, rfl, by omega, by simp [hvl2], hV2, rfl⟩
      · have hb2 := hb
        rw [if_neg (by rw [hb2]; simp)] at hV2
        refine Run.skip ?_
        refine End.blk ?_
        refine End.kp [2, 5, 8, 9] ?_
        have fx := And.intro (@Int.toNat_natCast) (And.intro (@Int.natCast_nonneg) (And.intro hil (And.intro hl2 (And.intro hst2 (And.intro hst (And.intro hv2 (And.intro hv1 (And.intro q4 (And.intro q3 (And.intro q2 (And.intro q1 (And.intro hd2 (And.intro hd1 (And.intro hp (And.intro hvf (And.intro hfl (And.intro wd (And.intro wf (And.intro ei (And.intro hvb (And.intro wa (And.intro hm2 (And.intro hm1 (And.intro hc (And.intro hNi (And.intro nd_len (And.intro ints_len ft)))))))))))))))))))))))))))
        refine Run.go ?_
        refine End.lp ?_
        refine ⟨i, _, by omega, Ghost.form [(2, .ptr 0 0 0), (5, .ms 0 1 N), (8, .i (1 + g.inn.length + g.regs.length)), (9, .i ((i : Int) - 1))] 2 ⟨rfl, rfl, rfl, rfl, trivial⟩ rfl rfl, i, _, rfl, by omega, hvl2, hV2, rfl⟩
    · have hb2 := of_decide_eq_false hb
      have hk0 : k = 0 := by omega
      subst hk0
      rw [coneDown] at hV2
      refine Run.exit rfl ?_
      refine End.kp [5] ?_
      refine Run.seq ?_
      refine Run.ghost (Ghost.shut (t := 5) (j := 1) rfl rfl hvb) ?_
      simp only [eput, edel]
      have fx := And.intro hvb (And.intro wa (And.intro hm2 (And.intro hm1 (And.intro hc (And.intro hNi (And.intro nd_len (And.intro ints_len ft)))))))
      refine Run.go ?_
      refine End.kp [4] ?_
      refine Run.ret (hQ _ _ ⟨.inr rfl, _, rfl, _, rfl, ?_⟩)
      exact ⟨by rw [hV2], rfl⟩
end Go.Proofs.YtkmnmokjlpenhaaPi

/- The walks of moved$1, moved of graphs. -/
set_option linter.unusedVariables false
set_option linter.unusedSimpArgs false
set_option maxRecDepth 100000
namespace Go.Proofs.YtkmnmokjlpenhaaPi
set_option maxHeartbeats 4000000
abbrev mvR (to : List Int) (r : LReg) : LReg := { r with next := atV to r.next }
def mvRegs (g : LGraph) (to : List Int) (i : Nat) : List LReg := (g.regs.take i).map (mvR to) ++ g.regs.drop i
theorem mvRegs_len (g : LGraph) (to : List Int) (i : Nat) (h : i ≤ g.regs.length) : (mvRegs g to i).length = g.regs.length := by simp [mvRegs]; omega
theorem mvRegs_get (g : LGraph) (to : List Int) (i : Nat) (r : LReg) (h : g.regs[i]? = some r) : (mvRegs g to i)[i]? = some r := by
  have hi : i < g.regs.length := (List.getElem?_eq_some_iff.1 h).1
  have hl : ((g.regs.take i).map (mvR to)).length = i := by simp; omega
  rw [mvRegs, List.getElem?_append_right (by omega), hl, Nat.sub_self, List.getElem?_drop, Nat.add_zero, h]
theorem mvRegs_set (g : LGraph) (to : List Int) (i : Nat) (r : LReg) (h : g.regs[i]? = some r) : (mvRegs g to i).set i (mvR to r) = mvRegs g to (i + 1) := by
  obtain ⟨hi, hr⟩ := List.getElem?_eq_some_iff.1 h
  have hl : ((g.regs.take i).map (mvR to)).length = i := by simp; omega
  rw [mvRegs, List.set_append_right _ _ (by omega), hl, Nat.sub_self, List.drop_eq_getElem_cons hi, List.set_cons_zero, mvRegs, reg_snoc g.regs i r h]
  simp
theorem mvRegs_all (g : LGraph) (to : List Int) : mvRegs g to g.regs.length = g.regs.map (mvR to) := by simp [mvRegs]
theorem mvd_ok (to : List Int) (ht : ToOk to) (l : Int) (h0 : 0 ≤ l) (h1 : l < 2 * (to.length : Int)) (hn : to.length ≤ 100000) (up : Frs) (k : Nat) (hk : fget up 0 k = some (.box [.im (.sl (ints to))])) : ACalls Try.prog 151 [.i l, .ptr 0 k 0] up fun v u => v = .i (atV to l) ∧ u = up := by
  have hd := tdiv2 l h0 (by omega)
  have hm : l.tmod 2 = l % 2 := tmod2 l h0
  have hd0 : 0 ≤ l / 2 := by omega
  have hdl : l / 2 < (to.length : Int) := by omega
  have hv := ints_get to (l / 2).toNat (by omega)
  have hx := ht.get (l / 2).toNat
  have hxo := xor_at to l (by omega)
  have wm : IntKind.i64.wrap (l % 2) = l % 2 := wrap64 (by omega)
  refine ACalls.code Try.func151 rfl 12 rfl (by simp) [.tmp 3] rfl fun Q hQ => ?_
  simp only [ups, PV.up, argEnv]
  have ft := And.intro ty_49 (And.intro ty_62 trivial)
  refine Run.seq ?_
  have fx := And.intro hxo (And.intro wm (And.intro hv (And.intro hdl (And.intro hd0 (And.intro hm (And.intro hd (And.intro hk (And.intro ints_len ft))))))))
  refine Run.go ?_
  refine End.kp [0, 1] ?_
  refine Run.seq ?_
  refine Run.go ?_
  refine End.kp [3] ?_
  refine Run.ret (hQ _ _ ⟨.inr rfl, _, rfl, _, rfl, ?_⟩)
  exact ⟨rfl, rfl⟩
theorem moved_ok (g : LGraph) (hg : GraphOk g) (ands : List (Int × Int)) (hna : ands.length ≤ 100000) (to : List Int) (ht : ToOk to) (hn : to.length ≤ 100000) (hl : (to.length : Int) = 1 + (g.inn.length : Int) + g.regs.length + g.ands.length) (up : Frs) : ACalls Try.prog 121 [g.pv, .im (.sl (ands.map nd)), .im (.sl (ints to))] up fun v u => v = (movedG g ands to).pv ∧ u = up := by
  obtain ⟨z1, z2, z3, z4, z5⟩ := hg.small
  refine ACalls.code Try.func121 rfl 61 rfl (by simp) [.cell 6 51] rfl fun Q hQ => ?_
  simp only [ups, PV.up, argEnv]
  have ft := And.intro ty_2 (And.intro ty_3 (And.intro ty_4 (And.intro ty_9 (And.intro ty_26 (And.intro ty_47 (And.intro ty_48 (And.intro ty_49 (And.intro ty_51 (And.intro ty_62 (And.intro ty_69 (And.intro ty_137 trivial)))))))))))
  refine Run.seq ?_
  have fx := And.intro rim_len (And.intro strs_len (And.intro ints_len ft))
  refine Run.go ?_
  refine End.kp [1, 3, 5, 6] ?_
  refine Run.seq ?_
  refine Run.go ?_
  refine End.kp [1, 3, 6, 7] ?_
  refine Run.seq ?_
  refine Run.ghost (Ghost.spares 1) ?_
  simp only [ASt.pushN, ASt.push, List.append_assoc, List.cons_append, List.nil_append]
  refine Run.ghost (.spares 1) ?_
  simp only [ASt.pushN, ASt.push, List.append_assoc, List.cons_append, List.nil_append]
  have fx := And.intro rim_len (And.intro strs_len (And.intro ints_len ft))
  refine Run.drawA fun K hK => ?_
  refine DOps.sim ?_
  refine DOps.call (.im (.sl (strs g.inn))) [] [] rfl rfl rfl rfl (by kernel_rfl) (by simp [Agree]) (fun u hu => CloneS_ok g.inn (by omega) u) ?_
  refine DOps.sim ?_
  refine DOps.call (.im (.sl (strs g.out))) [] [] rfl rfl rfl rfl (by kernel_rfl) (by simp [Agree]) (fun u hu => CloneS_ok g.out (by omega) u) ?_
  refine DOps.sim ?_
  refine DOps.call (.ms 0 3 g.regs.length) [((0, 3), .dead)] [((0, 3), .row 69 3 (g.regs.map LReg.im) 0)] rfl rfl rfl rfl (by kernel_rfl) (by simp [Agree, ASt.fr]) (fun u hu => CloneRI_ok g.regs (by omega) 3 u (hu ((0, 3), .dead) (by simp))) ?_
  refine DOps.sim ?_
  refine DOps.nil (by rfl) (hK _ ?_); clear hK K
  refine End.kp [3, 6, 7, 8] ?_
  refine Run.seq ?_
  refine Run.seq ?_
  refine Run.go ?_
  refine End.kp [3, 6, 7, 8, 26, 27] ?_
  refine Run.block ?_
  refine Run.ghost (Ghost.form [(3, .ptr 0 0 0), (6, .ptr 0 2 0), (7, .fn 151 [.ptr 0 1 0]), (8, .ptr 0 4 0), (26, .i g.regs.length), (27, .i (0 : Nat))] 5 ⟨rfl, rfl, rfl, rfl, rfl, rfl, trivial⟩ rfl rfl) ?_
  refine Run.loop (fun m st => ∃ (i : Nat), m = g.regs.length - i ∧ i ≤ g.regs.length ∧ st = ⟨[(3, .ptr 0 0 0), (6, .ptr 0 2 0), (7, .fn 151 [.ptr 0 1 0]), (8, .ptr 0 4 0), (26, .i g.regs.length), (27, .i (i : Nat))], [.box [.im (.sl (strs g.inn)), .im (.sl (strs g.out)), .im (.sl (g.regs.map LReg.im)), .im (.sl (g.ands.map nd)), .im (.sl (ints g.outs))], .box [.im (.sl (ints to))], .box [.nils, .nils, .nils, .nils, .nils], .row 69 3 ((mvRegs g to (i)).map LReg.im) 0, .box [.im (.sl (strs g.inn)), .im (.sl (strs g.out)), .ms 0 3 g.regs.length, .im (.sl (ands.map nd)), .nils]], up⟩) g.regs.length ⟨0, rfl, by omega, by simp [mvRegs]⟩ fun m st hI => ?_
  obtain ⟨i, rfl, hi, rfl⟩ := hI
  have hrl := mvRegs_len g to i hi
  have hrm : ((mvRegs g to i).map LReg.im).length = g.regs.length := by rw [rim_len, hrl]
  refine Run.seq ?_
  have fx := And.intro hrm (And.intro rim_len (And.intro strs_len (And.intro ints_len ft)))
  refine Run.go ?_
  refine End.kp [3, 6, 7, 8, 26, 27, 28] ?_
  refine Run.seq ?_
  refine Run.cond _ rfl (fun hb => ?_) (fun hb => ?_)
  · have hb2 := of_decide_eq_true hb
    have hin : i < g.regs.length := by omega
    have hil : (i : Int) < (g.regs.length : Int) := by omega
    have wi := wsucc hin (by omega)
    obtain ⟨r, hr, hrm2, hgt⟩ := reg_at g.regs i hin
    obtain ⟨x1, x2⟩ := hg.regs r hrm2
    have hri := mvRegs_get g to i r hr
    have hrs := mvRegs_set g to i r hr
    have hgi : ((mvRegs g to i).map LReg.im)[i]? = some [.str r.name, .int .i64 r.next, .bool r.init] := by rw [List.getElem?_map, hri]; rfl
    refine Run.skip ?_
    refine End.kp [3, 6, 7, 8, 26, 27] ?_
    refine Run.seq ?_
    refine Run.block ?_
    refine Run.seq ?_
    have fx := And.intro (@Int.toNat_natCast) (And.intro (@Int.natCast_nonneg) (And.intro hil (And.intro hgi (And.intro wi (And.intro hrm (And.intro rim_len (And.intro strs_len (And.intro ints_len ft))))))))
    refine Run.go ?_
    refine End.kp [3, 6, 7, 8, 9, 26, 27] ?_
    refine Run.drawA fun K hK => ?_
    refine DOps.sim ?_
    refine DOps.call (.i (atV to r.next)) [((0, 1), .box [.im (.sl (ints to))])] [] rfl rfl rfl rfl (by kernel_rfl) (by simp [Agree, ASt.fr]) (fun u hu => mvd_ok to ht r.next x1 (by omega) hn u 1 (hu (((0, 1), .box [.im (.sl (ints to))])) (by simp))) ?_
    refine DOps.sim ?_
    refine DOps.nil (by rfl) (hK _ ?_); clear hK K
    refine End.blk ?_
    refine End.kp [3, 6, 7, 8, 26, 27] ?_
    refine Run.go ?_
    refine End.lp ?_
    refine ⟨g.regs.length - (i + 1), _, by omega, Ghost.form [(3, .ptr 0 0 0), (6, .ptr 0 2 0), (7, .fn 151 [.ptr 0 1 0]), (8, .ptr 0 4 0), (26, .i g.regs.length), (27, .i (i + 1 : Nat))] 5 ⟨rfl, rfl, rfl, rfl, rfl, rfl, trivial⟩ rfl rfl, i + 1, rfl, by omega, ?_⟩
    rw [← hrs, List.map_set]
    rfl
  · have hb2 := of_decide_eq_false hb
    have hiN : i = g.regs.length := by omega
    subst hiN
    refine Run.exit rfl ?_
    refine End.kp [3, 6, 7, 8] ?_
    refine Run.seq ?_
    refine Run.seq ?_
    have fx := And.intro hrm (And.intro rim_len (And.intro strs_len (And.intro ints_len ft)))
    refine Run.go ?_
    refine End.kp [6, 7, 8, 45, 46, 47] ?_
    refine Run.block ?_
    refine Run.ghost (.thawBox (j := 4) (i := 4) 62 1 (by decide) rfl rfl) ?_
    refine Run.ghost (Ghost.form [(6, .ptr 0 2 0), (7, .fn 151 [.ptr 0 1 0]), (8, .ptr 0 4 0), (45, .im (.sl (ints g.outs))), (46, .i g.outs.length), (47, .i (0 : Nat))] 6 ⟨rfl, rfl, rfl, rfl, rfl, rfl, trivial⟩ rfl rfl) ?_
    refine Run.loop (fun m st => ∃ (i : Nat), m = g.outs.length - i ∧ i ≤ g.outs.length ∧ st = ⟨[(6, .ptr 0 2 0), (7, .fn 151 [.ptr 0 1 0]), (8, .ptr 0 4 0), (45, .im (.sl (ints g.outs))), (46, .i g.outs.length), (47, .i (i : Nat))], [.box [.im (.sl (strs g.inn)), .im (.sl (strs g.out)), .im (.sl (g.regs.map LReg.im)), .im (.sl (g.ands.map nd)), .im (.sl (ints g.outs))], .box [.im (.sl (ints to))], .box [.nils, .nils, .nils, .nils, .nils], .row 69 3 ((mvRegs g to (g.regs.length)).map LReg.im) 0, .box [.im (.sl (strs g.inn)), .im (.sl (strs g.out)), .ms 0 3 g.regs.length, .im (.sl (ands.map nd)), .ms 0 5 i], .row 62 1 (ints ((g.outs.take (i)).map (atV to))) 0], up⟩) g.outs.length ⟨0, rfl, by omega, rfl⟩ fun m st hI => ?_
    obtain ⟨i, rfl, hi, rfl⟩ := hI
    have hol : (ints ((g.outs.take i).map (atV to))).length = i := by simp; omega
    have hap : (i + 1) * 8 ≤ 140737488355328 := by omega
    refine Run.seq ?_
    have fx := And.intro hap (And.intro hol (And.intro hrm (And.intro rim_len (And.intro strs_len (And.intro ints_len ft)))))
    refine Run.go ?_
    refine End.kp [6, 7, 8, 45, 46, 47, 48] ?_
    refine Run.seq ?_
    refine Run.cond _ rfl (fun hb => ?_) (fun hb => ?_)
    · have hb2 := of_decide_eq_true hb
      have hin : i < g.outs.length := by omega
      have hil : (i : Int) < (g.outs.length : Int) := by omega
      have wi := wsucc hin (by omega)
      obtain ⟨x, hxi, hxm, hx⟩ := int_at g.outs i hin
      obtain ⟨x1, x2⟩ := hg.outs x hxm
      have htk := int_snoc g.outs i x hxi
      refine Run.skip ?_
      refine End.kp [6, 7, 8, 45, 46, 47] ?_
      refine Run.seq ?_
      refine Run.block ?_
      refine Run.seq ?_
      have fx := And.intro (@Int.toNat_natCast) (And.intro (@Int.natCast_nonneg) (And.intro hil (And.intro hx (And.intro wi (And.intro hap (And.intro hol (And.intro hrm (And.intro rim_len (And.intro strs_len (And.intro ints_len ft))))))))))
      refine Run.go ?_
      refine End.kp [6, 7, 8, 11, 45, 46, 47] ?_
      refine Run.ghost (.spares 1) ?_
      simp only [ASt.pushN, ASt.push, List.append_assoc, List.cons_append, List.nil_append]
      refine Run.drawA fun K hK => ?_
      refine DOps.sim ?_
      refine DOps.call (.i (atV to x)) [((0, 1), .box [.im (.sl (ints to))])] [] rfl rfl rfl rfl (by kernel_rfl) (by simp [Agree, ASt.fr]) (fun u hu => mvd_ok to ht x x1 (by omega) hn u 1 (hu (((0, 1), .box [.im (.sl (ints to))])) (by simp))) ?_
      refine DOps.sim ?_
      refine DOps.nil (by rfl) (hK _ ?_); clear hK K
      refine End.blk ?_
      refine End.kp [6, 7, 8, 45, 46, 47] ?_
      refine Run.go ?_
      refine End.lp ?_
      refine ⟨g.outs.length - (i + 1), _, by omega, Ghost.form [(6, .ptr 0 2 0), (7, .fn 151 [.ptr 0 1 0]), (8, .ptr 0 4 0), (45, .im (.sl (ints g.outs))), (46, .i g.outs.length), (47, .i (i + 1 : Nat))] 6 ⟨rfl, rfl, rfl, rfl, rfl, rfl, trivial⟩ rfl rfl, i + 1, rfl, by omega, ?_⟩
      rw [htk]
      simp
    · have hb2 := of_decide_eq_false hb
      have hiN : i = g.outs.length := by omega
      subst hiN
      rw [List.take_length] at hol ⊢
      refine Run.exit rfl ?_
      refine End.kp [6, 8] ?_
      refine Run.seq ?_
      rw [mvRegs_all]
      refine Run.ghost (Ghost.boxShut (j := 4) (i := 2) (r := 3) rfl rfl rfl (by simp)) ?_
      refine Run.ghost (Ghost.boxShut (j := 4) (i := 4) (r := 5) rfl rfl rfl hol) ?_
      simp only [List.set_cons_zero, List.set_cons_succ]
      have fx := And.intro hap (And.intro hol (And.intro hrm (And.intro rim_len (And.intro strs_len (And.intro ints_len ft)))))
      refine Run.go ?_
      refine End.kp [6] ?_
      refine Run.resC hQ ?_
      exact ⟨rfl, rfl⟩
end Go.Proofs.YtkmnmokjlpenhaaPi

/- The walk of Clean of graphs. -/
set_option linter.unusedVariables false
set_option linter.unusedSimpArgs false
set_option maxRecDepth 100000
namespace Go.Proofs.YtkmnmokjlpenhaaPi
set_option maxHeartbeats 4000000
def cleanStep (g : LGraph) (need : List Bool) (i : Nat) (s : List (Int × Int) × List Int × List Int) : List (Int × Int) × List Int × List Int :=
  if i < 1 + g.inn.length + g.regs.length then (s.1, s.2.1 ++ [2 * (i : Int)], s.2.2 ++ [(i : Int)])
  else if need.getD i false = true then (s.1 ++ [(atV s.2.1 (g.ands.getD (i - (1 + g.inn.length + g.regs.length)) (0, 0)).1, atV s.2.1 (g.ands.getD (i - (1 + g.inn.length + g.regs.length)) (0, 0)).2)], s.2.1 ++ [2 * (1 + (g.inn.length : Int) + g.regs.length + s.1.length)], s.2.2 ++ [1 + (g.inn.length : Int) + g.regs.length + s.1.length])
  else (s.1, s.2.1 ++ [0], s.2.2 ++ [-1])
def cleanN (g : LGraph) (need : List Bool) : Nat → List (Int × Int) × List Int × List Int
  | 0 => ([], [], [])
  | i + 1 => cleanStep g need i (cleanN g need i)
def cleanG (g : LGraph) : List (Int × Int) × List Int × List Int := cleanN g (coneV g (rootsG g)) (nodesN g)
theorem cleanN_len (g : LGraph) (need : List Bool) : ∀ i : Nat, (cleanN g need i).1.length ≤ i ∧ (cleanN g need i).2.1.length = i ∧ (cleanN g need i).2.2.length = i
  | 0 => ⟨Nat.le_refl _, rfl, rfl⟩
  | i + 1 => by
    obtain ⟨h1, h2, h3⟩ := cleanN_len g need i
    rw [cleanN, cleanStep]
    split
    · simp [h2, h3]; omega
    · split
      · simp [h2, h3]; omega
      · simp [h2, h3]; omega
theorem ToOk.snoc {to : List Int} (h : ToOk to) {x : Int} (hx : 0 ≤ x ∧ x ≤ 1000000) : ToOk (to ++ [x]) := fun y hy => by
  simp only [List.mem_append, List.mem_singleton] at hy
  rcases hy with hy | rfl
  · exact h y hy
  · exact hx
theorem cleanN_to (g : LGraph) (hg : GSmall g) (need : List Bool) : ∀ i : Nat, i ≤ 10000 → ToOk (cleanN g need i).2.1
  | 0, _ => fun x hx => by simp [cleanN] at hx
  | i + 1, h => by
    have ih := cleanN_to g hg need i (by omega)
    have hl := (cleanN_len g need i).1
    obtain ⟨z1, z2, z3, z4, z5⟩ := hg
    rw [cleanN, cleanStep]
    split
    · exact ih.snoc (by omega)
    · split
      · exact ih.snoc (by omega)
      · exact ih.snoc (by omega)
theorem atV_app (to : List Int) (y l : Int) (h0 : 0 ≤ l) (h : l < 2 * (to.length : Int)) : atV (to ++ [y]) l = atV to l := by
  have e : (to ++ [y]).getD (l / 2).toNat 0 = to.getD (l / 2).toNat 0 := by
    simp only [List.getD_eq_getElem?_getD]
    rw [List.getElem?_append_left (by omega)]
  unfold atV
  rw [e]
theorem roots_in {g : LGraph} (hg : GraphOk g) : ∀ x ∈ rootsG g, 0 ≤ x ∧ x < 2 * (1 + (g.inn.length : Int) + g.regs.length + g.ands.length) := fun x hx => by
  simp only [rootsG, List.mem_append, List.mem_map] at hx
  rcases hx with hx | ⟨r, hr, rfl⟩
  · exact hg.outs x hx
  · exact hg.regs r hr
theorem nd_snoc (a : List (Int × Int)) (p : Int × Int) : (a ++ [p]).map nd = a.map nd ++ [nd p] := by simp
theorem ints_snoc (a : List Int) (x : Int) : ints (a ++ [x]) = ints a ++ [[.int .i64 x]] := by simp
theorem Clean_ok (g : LGraph) (hg : GraphOk g) (up : Frs) : ACalls Try.prog 65 [g.pv] up fun v u => v = .tup [(movedG g (cleanG g).1 (cleanG g).2.1).pv, .im (.sl (ints (cleanG g).2.2)), .i 0] ∧ u = up := by
  have hsm := hg.small
  obtain ⟨z1, z2, z3, z4, z5⟩ := hg.small
  have hRi := roots_in hg
  have hRl : (rootsG g).length ≤ 1000 := by simp [rootsG]; omega
  obtain ⟨V, hV⟩ : ∃ V, V = coneV g (rootsG g) := ⟨_, rfl⟩
  have hcone := cone_ok g hg (rootsG g) hRi (by omega)
  have hVl0 := coneV_len g (rootsG g)
  obtain ⟨N, hN⟩ : ∃ N, N = nodesN g := ⟨_, rfl⟩
  have hNi : (N : Int) = 1 + (g.inn.length : Int) + g.regs.length + g.ands.length := by rw [hN, nodesN]; omega
  have hNn : N = 1 + g.inn.length + g.regs.length + g.ands.length := by rw [hN, nodesN]
  have hCG : cleanN g V N = cleanG g := by rw [cleanG, hV, hN]
  rw [← hV] at hcone hVl0
  rw [← hN] at hVl0
  have hVl : (bools V).length = N := by rw [bools_len, hVl0]
  refine ACalls.code Try.func65 rfl 106 rfl (by simp) [.cell 2 51, .tmp 3, .tmp 4] rfl fun Q hQ => ?_
  simp only [ups, PV.up, argEnv]
  have ft := And.intro ty_3 (And.intro ty_4 (And.intro ty_22 (And.intro ty_34 (And.intro ty_48 (And.intro ty_49 (And.intro ty_51 (And.intro ty_62 (And.intro ty_71 (And.intro ty_137 trivial)))))))))
  refine Run.seq ?_
  have fx := And.intro hVl (And.intro ints_len (And.intro nd_len (And.intro rim_len (And.intro strs_len ft))))
  refine Run.go ?_
  refine End.kp [1, 2] ?_
  refine Run.seq ?_
  refine Run.seq ?_
  refine Run.region rfl fun K hK => GOps.sim ?_
  refine GOps.call rfl rfl rfl rfl (by kernel_rfl) (ACalls.sim ?_)
  refine (Check_ok g hg _).mono fun v u hv => ?_
  obtain ⟨rfl, rfl⟩ := hv
  refine ⟨_, _, rfl, GOps.sim ?_⟩
  refine GOps.done (hK _ ?_); clear hK K
  refine End.kp [1, 2, 5] ?_
  refine Run.seq ?_
  refine Run.go ?_
  refine End.kp [1, 2, 5, 16] ?_
  refine Run.cond _ rfl (fun hb => ?_) (fun hb => ?_)
  · have hb2 := hb
    simp at hb
  · have hb2 := hb
    refine Run.skip ?_
    refine End.kp [1, 2] ?_
    refine Run.seq ?_
    have fx := And.intro hVl (And.intro ints_len (And.intro nd_len (And.intro rim_len (And.intro strs_len ft))))
    refine Run.drawA fun K hK => ?_
    refine DOps.sim ?_
    refine DOps.call (.im (.sl (ints (rootsG g)))) [] [] rfl rfl rfl rfl (by kernel_rfl) (by simp [Agree]) (fun u hu => Roots_ok g hsm u) ?_
    refine DOps.sim ?_
    refine DOps.call (.im (.sl (bools V))) [] [] rfl rfl rfl rfl (by kernel_rfl) (by simp [Agree]) (fun u hu => hcone u) ?_
    refine DOps.sim ?_
    refine DOps.nil (metAll_quiet rfl) (hK _ ?_); clear hK K
    refine End.kp [1, 2, 6] ?_
    refine Run.seq ?_
    refine Run.region rfl fun K hK => GOps.sim ?_
    refine GOps.call rfl rfl rfl rfl (by kernel_rfl) (ACalls.sim ?_)
    refine (GFirst_ok g hsm _).mono fun v u hv => ?_
    obtain ⟨rfl, rfl⟩ := hv
    refine ⟨_, _, rfl, GOps.sim ?_⟩
    refine GOps.done (hK _ ?_); clear hK K
    refine End.kp [1, 2, 6, 7] ?_
    refine Run.seq ?_
    refine Run.go ?_
    refine End.kp [1, 2, 6, 7, 8] ?_
    refine Run.seq ?_
    refine Run.go ?_
    refine End.kp [1, 2, 6, 7, 8, 9] ?_
    refine Run.seq ?_
    refine Run.go ?_
    refine End.kp [1, 2, 6, 7, 8, 9, 10] ?_
    refine Run.seq ?_
    refine Run.seq ?_
    refine Run.go ?_
    refine End.kp [1, 2, 6, 7, 8, 9, 10, 26, 27] ?_
    refine Run.block ?_
    refine Run.ghost (Ghost.thaw (u := 8) 137 2 (by decide) rfl) ?_
    refine Run.ghost (Ghost.thaw (u := 9) 62 1 (by decide) rfl) ?_
    refine Run.ghost (Ghost.thaw (u := 10) 3 1 (by decide) rfl) ?_
    refine Run.ghost (Ghost.form [(1, .ptr 0 0 0), (2, .ptr 0 1 0), (6, .im (.sl (bools V))), (7, .i (1 + g.inn.length + g.regs.length)), (8, .ms 0 2 (0)), (9, .ms 0 3 (0)), (10, .ms 0 4 (0)), (26, .i N), (27, .i (0 : Nat))] 5 ⟨rfl, rfl, rfl, rfl, rfl, rfl, rfl, rfl, rfl, trivial⟩ rfl rfl) ?_
    refine Run.loop (fun m st => ∃ (i : Nat), m = N - i ∧ i ≤ N ∧ st = ⟨[(1, .ptr 0 0 0), (2, .ptr 0 1 0), (6, .im (.sl (bools V))), (7, .i (1 + g.inn.length + g.regs.length)), (8, .ms 0 2 ((cleanN g V i).1.length)), (9, .ms 0 3 (i)), (10, .ms 0 4 (i)), (26, .i N), (27, .i (i : Nat))], [.box [.im (.sl (strs g.inn)), .im (.sl (strs g.out)), .im (.sl (g.regs.map LReg.im)), .im (.sl (g.ands.map nd)), .im (.sl (ints g.outs))], .box [.nils, .nils, .nils, .nils, .nils], .row 137 2 (((cleanN g V i).1).map nd) 0, .row 62 1 (ints ((cleanN g V i).2.1)) 0, .row 3 1 (ints ((cleanN g V i).2.2)) 0], up⟩) N ⟨0, rfl, by omega, rfl⟩ fun m st hI => ?_
    obtain ⟨i, rfl, hi, rfl⟩ := hI
    obtain ⟨hAl, hTl, hPl⟩ := cleanN_len g V i
    have hTo := cleanN_to g hsm V i (by omega)
    generalize hC : cleanN g V i = C at hAl hTl hPl hTo
    obtain ⟨A, TT, P⟩ := C
    simp only at hAl hTl hPl hTo
    have hap : (i + 1) * 8 ≤ 140737488355328 := by omega
    have hap2 : (A.length + 1) * 16 ≤ 140737488355328 := by omega
    have hti : (ints TT).length = i := by rw [ints_len, hTl]
    have hpi : (ints P).length = i := by rw [ints_len, hPl]
    refine Run.seq ?_
    have fx := And.intro hpi (And.intro hti (And.intro hap2 (And.intro hap (And.intro hVl (And.intro ints_len (And.intro nd_len (And.intro rim_len (And.intro strs_len ft))))))))
    refine Run.go ?_
    refine End.kp [1, 2, 6, 7, 8, 9, 10, 26, 27, 28] ?_
    refine Run.seq ?_
    refine Run.cond _ rfl (fun hb => ?_) (fun hb => ?_)
    · have hb2 := of_decide_eq_true hb
      have hin : i < N := by omega
      have wi := wsucc hin (by omega)
      have w2 : IntKind.i64.wrap (2 * (i : Int)) = 2 * (i : Int) := wrap64 (by omega)
      refine Run.skip ?_
      refine End.kp [1, 2, 6, 7, 8, 9, 10, 26, 27] ?_
      refine Run.seq ?_
      refine Run.block ?_
      refine Run.seq ?_
      have fx := And.intro (@Int.toNat_natCast) (And.intro (@Int.natCast_nonneg) (And.intro w2 (And.intro wi (And.intro hpi (And.intro hti (And.intro hap2 (And.intro hap (And.intro hVl (And.intro ints_len (And.intro nd_len (And.intro rim_len (And.intro strs_len ft))))))))))))
      refine Run.go ?_
      refine End.kp [1, 2, 6, 7, 8, 9, 10, 11, 26, 27] ?_
      refine Run.block ?_
      refine Run.seq ?_
      refine Run.go ?_
      refine End.kp [1, 2, 6, 7, 8, 9, 10, 11, 26, 27, 36] ?_
      refine Run.cond _ rfl (fun hb => ?_) (fun hb => ?_)
      · have hbt := of_decide_eq_true hb
        have hstep : cleanN g V (i + 1) = (A, TT ++ [2 * (i : Int)], P ++ [(i : Int)]) := by rw [cleanN, hC, cleanStep, if_pos (by omega)]
        have fx := And.intro (@Int.toNat_natCast) (And.intro (@Int.natCast_nonneg) (And.intro w2 (And.intro wi (And.intro hpi (And.intro hti (And.intro hap2 (And.intro hap (And.intro hVl (And.intro ints_len (And.intro nd_len (And.intro rim_len (And.intro strs_len ft))))))))))))
        refine Run.go ?_
        refine End.blk ?_
        refine End.blk ?_
        refine End.kp [1, 2, 6, 7, 8, 9, 10, 26, 27] ?_
        refine Run.go ?_
        refine End.lp ?_
        refine ⟨N - (i + 1), _, by omega, Ghost.form [(1, .ptr 0 0 0), (2, .ptr 0 1 0), (6, .im (.sl (bools V))), (7, .i (1 + g.inn.length + g.regs.length)), (8, .ms 0 2 (A.length)), (9, .ms 0 3 (i + 1)), (10, .ms 0 4 (i + 1)), (26, .i N), (27, .i (i + 1 : Nat))] 5 ⟨rfl, rfl, rfl, rfl, rfl, rfl, rfl, rfl, rfl, trivial⟩ rfl rfl, i + 1, rfl, by omega, ?_⟩
        rw [hstep]
        simp only [nd_snoc, ints_snoc, List.length_append, List.length_cons, List.length_nil, hTl, hPl]
        rfl
      · have hbt := of_decide_eq_false hb
        have hil : (i : Int) < (N : Int) := by omega
        have hvb := bools_get V i (by omega)
        refine Run.seq ?_
        have fx := And.intro hvb (And.intro hil (And.intro (@Int.toNat_natCast) (And.intro (@Int.natCast_nonneg) (And.intro w2 (And.intro wi (And.intro hpi (And.intro hti (And.intro hap2 (And.intro hap (And.intro hVl (And.intro ints_len (And.intro nd_len (And.intro rim_len (And.intro strs_len ft))))))))))))))
        refine Run.go ?_
        refine End.kp [1, 2, 6, 7, 8, 9, 10, 11, 26, 27, 49] ?_
        refine Run.cond _ rfl (fun hb => ?_) (fun hb => ?_)
        · have hb3 := hb
          obtain ⟨k, hk⟩ : ∃ k, i = 1 + g.inn.length + g.regs.length + k := ⟨i - (1 + g.inn.length + g.regs.length), by omega⟩
          have wsub : IntKind.i64.wrap ((i : Int) - (1 + (g.inn.length : Int) + g.regs.length)) = (k : Int) := by rw [wrap64 (by omega)]; omega
          have hkl : (k : Int) < (g.ands.length : Int) := by omega
          obtain ⟨p, hpi2, hpm, hp⟩ := node_at g.ands k (by omega)
          obtain ⟨⟨p1, p2⟩, p3, p4⟩ := hg.ands k p hpi2
          have wA : IntKind.i64.wrap (1 + (g.inn.length : Int) + g.regs.length + A.length) = 1 + (g.inn.length : Int) + g.regs.length + A.length := wrap64 (by omega)
          have wA2 : IntKind.i64.wrap (2 * (1 + (g.inn.length : Int) + g.regs.length + A.length)) = 2 * (1 + (g.inn.length : Int) + g.regs.length + A.length) := wrap64 (by omega)
          obtain ⟨T2, hT2⟩ : ∃ T2, T2 = TT ++ [2 * (1 + (g.inn.length : Int) + g.regs.length + A.length)] := ⟨_, rfl⟩
          have hTo2 : ToOk T2 := by rw [hT2]; exact hTo.snoc (by omega)
          have hT2l : T2.length = i + 1 := by rw [hT2]; simp [hTl]
          have e2 : ints TT ++ [[.int .i64 (2 * (1 + (g.inn.length : Int) + g.regs.length + A.length))]] = ints T2 := by rw [hT2, ints_snoc]
          have hd1 := tdiv2 p.1 p1 (by omega)
          have hd2 := tdiv2 p.2 p3 (by omega)
          have m1 := tmod2 p.1 p1
          have m2 := tmod2 p.2 p3
          have wm1 : IntKind.i64.wrap (p.1 % 2) = p.1 % 2 := wrap64 (by omega)
          have wm2 : IntKind.i64.wrap (p.2 % 2) = p.2 % 2 := wrap64 (by omega)
          have q1 : 0 ≤ p.1 / 2 := by omega
          have q2 : 0 ≤ p.2 / 2 := by omega
          have q3 : p.1 / 2 < ((i + 1 : Nat) : Int) := by omega
          have q4 : p.2 / 2 < ((i + 1 : Nat) : Int) := by omega
          have hv1 := ints_get T2 (p.1 / 2).toNat (by omega)
          have hv2 := ints_get T2 (p.2 / 2).toNat (by omega)
          have g1 := hTo2.get (p.1 / 2).toNat
          have g2 := hTo2.get (p.2 / 2).toNat
          have hx1 := xor_at T2 p.1 (by omega)
          have hx2 := xor_at T2 p.2 (by omega)
          have hT2i : (ints T2).length = i + 1 := by rw [ints_len, hT2l]
          have a1 : atV T2 p.1 = atV TT p.1 := by rw [hT2]; exact atV_app _ _ _ p1 (by omega)
          have a2 : atV T2 p.2 = atV TT p.2 := by rw [hT2]; exact atV_app _ _ _ p3 (by omega)
          have hstep : cleanN g V (i + 1) = (A ++ [(atV TT p.1, atV TT p.2)], T2, P ++ [1 + (g.inn.length : Int) + g.regs.length + A.length]) := by
            have hgd : g.ands.getD (i - (1 + g.inn.length + g.regs.length)) (0, 0) = p := by rw [show i - (1 + g.inn.length + g.regs.length) = k by omega]; simp [hpi2]
            rw [cleanN, hC, cleanStep, if_neg (by omega), if_pos hb3, hgd, hT2]
          refine Run.seq ?_
          have fx := And.intro a2 (And.intro a1 (And.intro hx2 (And.intro hx1 (And.intro hv2 (And.intro hv1 (And.intro q4 (And.intro q3 (And.intro q2 (And.intro q1 (And.intro wm2 (And.intro wm1 (And.intro m2 (And.intro m1 (And.intro hd2 (And.intro hd1 (And.intro hT2i (And.intro e2 (And.intro wA2 (And.intro wA (And.intro hp (And.intro hkl (And.intro wsub (And.intro hvb (And.intro hil (And.intro (@Int.toNat_natCast) (And.intro (@Int.natCast_nonneg) (And.intro w2 (And.intro wi (And.intro hpi (And.intro hti (And.intro hap2 (And.intro hap (And.intro hVl (And.intro ints_len (And.intro nd_len (And.intro rim_len (And.intro strs_len ft)))))))))))))))))))))))))))))))))))))
          refine Run.go ?_
          refine End.kp [1, 2, 6, 7, 8, 9, 10, 12, 26, 27] ?_
          refine Run.seq ?_
          refine Run.go ?_
          refine End.kp [1, 2, 6, 7, 8, 9, 10, 12, 26, 27] ?_
          refine Run.ghost (.spares 1) ?_
          simp only [ASt.pushN, ASt.push, List.append_assoc, List.cons_append, List.nil_append]
          refine Run.drawA fun K hK => ?_
          refine DOps.sim ?_
          refine DOps.nil (by rfl) (hK _ ?_); clear hK K
          refine End.blk ?_
          refine End.blk ?_
          refine End.kp [1, 2, 6, 7, 8, 9, 10, 26, 27] ?_
          refine Run.go ?_
          refine End.lp ?_
          refine ⟨N - (i + 1), _, by omega, Ghost.form [(1, .ptr 0 0 0), (2, .ptr 0 1 0), (6, .im (.sl (bools V))), (7, .i (1 + g.inn.length + g.regs.length)), (8, .ms 0 2 (A.length + 1)), (9, .ms 0 3 (i + 1)), (10, .ms 0 4 (i + 1)), (26, .i N), (27, .i (i + 1 : Nat))] 5 ⟨rfl, rfl, rfl, rfl, rfl, rfl, rfl, rfl, rfl, trivial⟩ rfl rfl, i + 1, rfl, by omega, ?_⟩
          rw [hstep]
          simp only [nd_snoc, ints_snoc, List.length_append, List.length_cons, List.length_nil, hTl, hPl]
          rfl
        · have hb3 := hb
          have hstep : cleanN g V (i + 1) = (A, TT ++ [0], P ++ [-1]) := by rw [cleanN, hC, cleanStep, if_neg (by omega), if_neg (by rw [hb3]; simp)]
          have fx := And.intro hvb (And.intro hil (And.intro (@Int.toNat_natCast) (And.intro (@Int.natCast_nonneg) (And.intro w2 (And.intro wi (And.intro hpi (And.intro hti (And.intro hap2 (And.intro hap (And.intro hVl (And.intro ints_len (And.intro nd_len (And.intro rim_len (And.intro strs_len ft))))))))))))))
          refine Run.go ?_
          refine End.blk ?_
          refine End.blk ?_
          refine End.kp [1, 2, 6, 7, 8, 9, 10, 26, 27] ?_
          refine Run.go ?_
          refine End.lp ?_
          refine ⟨N - (i + 1), _, by omega, Ghost.form [(1, .ptr 0 0 0), (2, .ptr 0 1 0), (6, .im (.sl (bools V))), (7, .i (1 + g.inn.length + g.regs.length)), (8, .ms 0 2 (A.length)), (9, .ms 0 3 (i + 1)), (10, .ms 0 4 (i + 1)), (26, .i N), (27, .i (i + 1 : Nat))] 5 ⟨rfl, rfl, rfl, rfl, rfl, rfl, rfl, rfl, rfl, trivial⟩ rfl rfl, i + 1, rfl, by omega, ?_⟩
          rw [hstep]
          simp only [nd_snoc, ints_snoc, List.length_append, List.length_cons, List.length_nil, hTl, hPl]
          rfl
    · have hb2 := of_decide_eq_false hb
      have hiN : i = N := by omega
      subst hiN
      have hgA : (cleanG g).1 = A := by rw [← hCG, hC]
      have hgT : (cleanG g).2.1 = TT := by rw [← hCG, hC]
      have hgP : (cleanG g).2.2 = P := by rw [← hCG, hC]
      refine Run.exit rfl ?_
      refine End.kp [1, 2, 8, 9, 10] ?_
      refine Run.seq ?_
      refine Run.ghost (Ghost.shut (t := 8) (j := 2) rfl rfl (nd_len _)) ?_
      refine Run.ghost (Ghost.shut (t := 9) (j := 3) rfl rfl hti) ?_
      refine Run.ghost (Ghost.shut (t := 10) (j := 4) rfl rfl hpi) ?_
      simp only [eput, edel]
      have fx := And.intro hpi (And.intro hti (And.intro hap2 (And.intro hap (And.intro hVl (And.intro ints_len (And.intro nd_len (And.intro rim_len (And.intro strs_len ft))))))))
      refine Run.region rfl fun K hK => GOps.sim ?_
      refine GOps.call rfl rfl rfl rfl (by kernel_rfl) (ACalls.sim ?_)
      refine (moved_ok g hg A (by omega) TT hTo (by omega) (by omega) _).mono fun v u hv => ?_
      obtain ⟨rfl, rfl⟩ := hv
      refine ⟨_, _, rfl, GOps.sim ?_⟩
      refine GOps.done (hK _ ?_); clear hK K
      refine End.kp [2, 3, 4] ?_
      refine Run.resC hQ ?_
      exact ⟨by rw [hgA, hgT, hgP], rfl⟩
end Go.Proofs.YtkmnmokjlpenhaaPi

/- The walk of Strash of graphs. -/
set_option linter.unusedVariables false
set_option linter.unusedSimpArgs false
set_option maxRecDepth 100000
namespace Go.Proofs.YtkmnmokjlpenhaaPi
set_option maxHeartbeats 4000000
theorem mkAnd_range (m : LMk) (a b : Int) (a0 : 0 ≤ a ∧ a < 2 * (m.first + m.ands.length)) (b0 : 0 ≤ b ∧ b < 2 * (m.first + m.ands.length)) :
    (0 ≤ (mkAnd m a b).1 ∧ (mkAnd m a b).1 < 2 * (m.first + (mkAnd m a b).2.ands.length)) ∧ (mkAnd m a b).2.inn = m.inn ∧ (mkAnd m a b).2.regs = m.regs ∧ m.ands.length ≤ (mkAnd m a b).2.ands.length ∧ (mkAnd m a b).2.ands.length ≤ m.ands.length + 1 := by
  unfold mkAnd
  split
  · refine ⟨⟨by simp, ?_⟩, rfl, rfl, Nat.le_refl _, by simp⟩
    simp only
    omega
  · split
    · refine ⟨⟨?_, ?_⟩, rfl, rfl, Nat.le_refl _, by simp⟩ <;> simp only <;> omega
    · split
      · rename_i k hk
        obtain ⟨h1, h2⟩ := findA_range _ _ _ _ hk
        have h3 := (List.getElem?_eq_some_iff.1 h2).1
        refine ⟨⟨?_, ?_⟩, rfl, rfl, Nat.le_refl _, by simp⟩ <;> simp only [LMk.first] at * <;> omega
      · refine ⟨⟨?_, ?_⟩, rfl, rfl, by simp, by simp⟩
        · simp only [LMk.first] at *; omega
        · simp only [LMk.first, List.length_append, List.length_cons, List.length_nil] at *; omega
theorem atV_range {to : List Int} {K : Int} (h : ∀ x ∈ to, 0 ≤ x ∧ x < 2 * K) (hK : 0 < K) (l : Int) : 0 ≤ atV to l ∧ atV to l < 2 * K := by
  have hg : 0 ≤ to.getD (l / 2).toNat 0 ∧ to.getD (l / 2).toNat 0 < 2 * K := by
    rw [List.getD_eq_getElem?_getD]
    cases hk : to[(l / 2).toNat]? with
    | none => simp; omega
    | some x => exact h x (List.mem_of_getElem? hk)
  unfold atV flipL
  split
  · split <;> omega
  · exact hg
end Go.Proofs.YtkmnmokjlpenhaaPi

/- The walk of Moving, and that drawn graphs are in order. -/
set_option linter.unusedVariables false
set_option linter.unusedSimpArgs false
set_option maxRecDepth 100000
namespace Go.Proofs.YtkmnmokjlpenhaaPi
set_option maxHeartbeats 4000000
end Go.Proofs.YtkmnmokjlpenhaaPi

/- Plain law: drawn graphs are in order. -/
set_option linter.unusedVariables false
set_option linter.unusedSimpArgs false
namespace Go.Proofs.YtkmnmokjlpenhaaPi
set_option maxHeartbeats 4000000
theorem words_mem (l : List Int) (k i : Nat) (a : Int) : ∀ s ∈ (wordsV l k i a).1, NameOk s := (words_ok l k i a).1
theorem drawnG_ok (l : List Int) (a : Int) (ins regs ands outs : Nat) (h1 : ins + regs ≤ 26) (h2 : ands ≤ 100) (h3 : outs ≤ 26) : GraphOk (graphV l a ins regs ands outs).1 := by
  obtain ⟨p1, p2, p3, p4, p5, p6, p7⟩ := graphV_pos l a ins regs ands outs
  have hw := (wordsV_pos l (ins + regs) 0 a).2.2
  have hnames : ((graphV l a ins regs ands outs).1.inn ++ (graphV l a ins regs ands outs).1.regs.map LReg.name) = (wordsV l (ins + regs) 0 a).1 := by
    have hr : (graphV l a ins regs ands outs).1.regs.map LReg.name = (wordsV l (ins + regs) 0 a).1.drop ins := by
      refine List.ext_getElem? fun i => ?_
      rw [List.getElem?_map]
      by_cases hi : i < regs
      · have hg : (graphV l a ins regs ands outs).1.regs[i]? = some (graphV l a ins regs ands outs).1.regs[i] := List.getElem?_eq_getElem (by omega)
        have := drawN_mem (regX l (((1 + ins + regs : Nat) : Int) + ands) ((wordsV l (ins + regs) 0 a).1.drop ins)) (drawN (andX l ((1 + ins + regs : Nat) : Int)) (wordsV l outs 0 (wordsV l (ins + regs) 0 a).2).2 ands).2 (fun i r => r.name = ((wordsV l (ins + regs) 0 a).1.drop ins).getD i ByteArray.empty) (fun i b => rfl) regs i _ hg
        rw [hg, Option.map_some, this, List.getD_eq_getElem?_getD]
        have hlt : i < ((wordsV l (ins + regs) 0 a).1.drop ins).length := by rw [List.length_drop, hw]; omega
        rw [List.getElem?_eq_getElem hlt]
        rfl
      · rw [List.getElem?_eq_none (by omega), List.getElem?_eq_none (by rw [List.length_drop, hw]; omega)]
        rfl
    rw [hr]
    exact List.take_append_drop ins _
  refine ⟨⟨by omega, by omega, by omega, by omega, by omega⟩, ?_, ?_, ?_, ?_, by omega, ?_, ?_, ?_⟩
  · rw [hnames]
    exact words_mem l _ _ _
  · rw [hnames]
    exact words_nodup l _ _ (by omega)
  · exact words_mem l _ _ _
  · exact words_nodup l _ _ (by omega)
  · intro i p hp
    rw [p3, p5]
    have := drawN_mem (andX l ((1 + ins + regs : Nat) : Int)) (wordsV l outs 0 (wordsV l (ins + regs) 0 a).2).2 (fun i p => (0 ≤ p.1 ∧ p.1 < 2 * (((1 + ins + regs : Nat) : Int) + i)) ∧ 0 ≤ p.2 ∧ p.2 < 2 * (((1 + ins + regs : Nat) : Int) + i))
      (fun i b => ⟨litX_range l b _ (by omega), litX_range l _ _ (by omega)⟩) ands i p hp
    omega
  · intro r hr
    rw [p3, p5, p6]
    obtain ⟨i, hi⟩ := List.mem_iff_getElem?.1 hr
    have := drawN_mem (regX l (((1 + ins + regs : Nat) : Int) + ands) ((wordsV l (ins + regs) 0 a).1.drop ins)) (drawN (andX l ((1 + ins + regs : Nat) : Int)) (wordsV l outs 0 (wordsV l (ins + regs) 0 a).2).2 ands).2 (fun i r => 0 ≤ r.next ∧ r.next < 2 * (((1 + ins + regs : Nat) : Int) + ands)) (fun i b => litX_range l b _ (by omega)) regs i r hi
    omega
  · intro x hx
    rw [p3, p5, p6]
    obtain ⟨i, hi⟩ := List.mem_iff_getElem?.1 hx
    have := drawN_mem (fun _ b => litX l b (((1 + ins + regs : Nat) : Int) + ands)) (drawN (regX l (((1 + ins + regs : Nat) : Int) + ands) ((wordsV l (ins + regs) 0 a).1.drop ins)) (drawN (andX l ((1 + ins + regs : Nat) : Int)) (wordsV l outs 0 (wordsV l (ins + regs) 0 a).2).2 ands).2 regs).2 (fun i x => 0 ≤ x ∧ x < 2 * (((1 + ins + regs : Nat) : Int) + ands)) (fun i b => litX_range l b _ (by omega)) outs i x hi
    omega
theorem small_ok (l : List Int) (a : Int) (ands : Nat) (h : ands ≤ 99) : GraphOk (smallV l a ands).1 ∧ a ≤ (smallV l a ands).2 ∧ (smallV l a ands).2 ≤ a + 1000 := by
  obtain ⟨r1, s1⟩ := nextV_range l a 5 (by omega)
  obtain ⟨r2, s2⟩ := nextV_range l (a + 1) 4 (by omega)
  obtain ⟨r3, s3⟩ := nextV_range l (a + 1 + 1) (ands + 1) (by omega)
  obtain ⟨r4, s4⟩ := nextV_range l (a + 1 + 1 + 1) (4 - 1 + 1) (by omega)
  have h2 := graphV_pos l (a + 1 + 1 + 1 + 1) (nextV l a 5).toNat (nextV l (a + 1) 4).toNat (nextV l (a + 1 + 1) (ands + 1)).toNat (1 + nextV l (a + 1 + 1 + 1) (4 - 1 + 1)).toNat
  refine ⟨drawnG_ok l _ _ _ _ _ (by omega) (by omega) (by omega), ?_, ?_⟩
  · simp only [smallV]; omega
  · simp only [smallV]; omega
theorem small_len (l : List Int) (a : Int) (ands : Nat) : (smallV l a ands).1.inn.length ≤ 4 ∧ (smallV l a ands).1.regs.length ≤ 3 := by
  obtain ⟨r1, s1⟩ := nextV_range l a 5 (by omega)
  obtain ⟨r2, s2⟩ := nextV_range l (a + 1) 4 (by omega)
  have h2 := graphV_pos l (a + 1 + 1 + 1 + 1) (nextV l a 5).toNat (nextV l (a + 1) 4).toNat (nextV l (a + 1 + 1) (ands + 1)).toNat (1 + nextV l (a + 1 + 1 + 1) (4 - 1 + 1)).toNat
  simp only [smallV]
  omega
end Go.Proofs.YtkmnmokjlpenhaaPi

/- The walks of runs, GraphTidies. -/
set_option linter.unusedVariables false
set_option linter.unusedSimpArgs false
set_option maxRecDepth 100000
namespace Go.Proofs.YtkmnmokjlpenhaaPi
set_option maxHeartbeats 4000000
theorem runG_row (g : LGraph) : ∀ (t : List (List Bool)) (st : List Int), ∀ r ∈ runG g st t, r.length = g.outs.length
  | [], st, r, h => by simp [runG] at h
  | x :: t, st, r, h => by
    simp only [runG, List.mem_cons] at h
    rcases h with rfl | h
    · simp [outsG]
    · exact runG_row g t _ r h
abbrev runI (g : LGraph) (tr : List (List Bool)) : List (List Bool) := runG g (lanes0 (initG g)) tr
def cleanL (g : LGraph) : LGraph := movedG g (cleanG g).1 (cleanG g).2.1
theorem EqF_same (p : List (List Bool)) (hn : p.length ≤ 1000000) (hr : ∀ r ∈ p, r.length ≤ 1000000) (up : Frs) : ACalls Try.prog 59 [.im (.sl (boolss p)), .im (.sl (boolss p)), .fn 55 []] up fun v u => v = .im (.bool true) ∧ u = up := by
  have d1 : ((p.length : Int) != p.length) = false := by simp
  refine ACalls.code Try.func59 rfl 32 rfl (by simp) [.tmp 6] rfl fun Q hQ => ?_
  simp only [ups, PV.up, argEnv]
  have ft := And.intro ty_3 (And.intro ty_4 (And.intro ty_58 (And.intro ty_71 trivial)))
  refine Run.seq ?_
  have fx := And.intro d1 (And.intro boolss_len ft)
  refine Run.go ?_
  refine End.kp [0, 1, 2] ?_
  refine Run.seq ?_
  refine Run.seq ?_
  refine Run.go ?_
  refine End.kp [0, 1, 2, 14] ?_
  refine Run.cond _ rfl (fun hb => ?_) (fun hb => ?_)
  · have hb2 := hb
    simp at hb
  · have hb2 := hb
    refine Run.skip ?_
    refine End.kp [0, 1, 2] ?_
    refine Run.seq ?_
    refine Run.seq ?_
    have fx := And.intro d1 (And.intro boolss_len ft)
    refine Run.go ?_
    refine End.kp [1, 2, 15, 16, 17] ?_
    refine Run.block ?_
    refine Run.ghost (Ghost.form [(1, .im (.sl (boolss p))), (2, .fn 55 []), (15, .im (.sl (boolss p))), (16, .i p.length), (17, .i (0 : Nat))] 0 ⟨rfl, rfl, rfl, rfl, rfl, trivial⟩ rfl rfl) ?_
    refine Run.loop (fun m' st => ∃ i : Nat, m' = p.length - i ∧ i ≤ p.length ∧ st = ⟨[(1, .im (.sl (boolss p))), (2, .fn 55 []), (15, .im (.sl (boolss p))), (16, .i p.length), (17, .i (i : Nat))], [], up⟩) p.length ⟨0, rfl, by omega, rfl⟩ fun m' st hI => ?_
    obtain ⟨i, rfl, hi, rfl⟩ := hI
    refine Run.seq ?_
    have fx := And.intro d1 (And.intro boolss_len ft)
    refine Run.go ?_
    refine End.kp [1, 2, 15, 16, 17, 18] ?_
    refine Run.seq ?_
    refine Run.cond _ rfl (fun hb => ?_) (fun hb => ?_)
    · have hb2 := of_decide_eq_true hb
      have hin : i < p.length := by omega
      have wi := wsucc hin (by omega)
      obtain ⟨r, hri, hrm, _, hrr⟩ := boolss_at p i hin
      have hrl := hr r hrm
      have hil : (i : Int) < (p.length : Int) := by omega
      refine Run.skip ?_
      refine End.kp [1, 2, 15, 16, 17] ?_
      refine Run.seq ?_
      refine Run.block ?_
      refine Run.seq ?_
      have fx := And.intro (@Int.toNat_natCast) (And.intro (@Int.natCast_nonneg) (And.intro hil (And.intro hrr (And.intro wi (And.intro d1 (And.intro boolss_len ft))))))
      refine Run.go ?_
      refine End.kp [1, 2, 7, 8, 15, 16, 17] ?_
      refine Run.seq ?_
      refine Run.go ?_
      refine End.kp [1, 2, 8, 9, 15, 16, 17] ?_
      refine Run.seq ?_
      refine Run.region rfl fun K hK => GOps.sim ?_
      refine GOps.call rfl rfl rfl rfl (by kernel_rfl) (ACalls.sim ?_)
      refine (EqB_same r r rfl (by omega) _).mono fun v u hv => ?_
      obtain ⟨rfl, rfl⟩ := hv
      refine ⟨_, _, rfl, GOps.sim ?_⟩
      refine GOps.done (hK _ ?_); clear hK K
      refine End.kp [1, 2, 15, 16, 17, 30] ?_
      refine Run.cond _ rfl (fun hb => ?_) (fun hb => ?_)
      · have hb2 := hb
        simp at hb
      · have hb2 := hb
        refine Run.skip ?_
        refine End.blk ?_
        refine End.kp [1, 2, 15, 16, 17] ?_
        have fx := And.intro (@Int.toNat_natCast) (And.intro (@Int.natCast_nonneg) (And.intro hil (And.intro hrr (And.intro wi (And.intro d1 (And.intro boolss_len ft))))))
        refine Run.go ?_
        refine End.lp ?_
        refine ⟨p.length - (i + 1), _, by omega, Ghost.form [(1, .im (.sl (boolss p))), (2, .fn 55 []), (15, .im (.sl (boolss p))), (16, .i p.length), (17, .i (i + 1 : Nat))] 0 ⟨rfl, rfl, rfl, rfl, rfl, trivial⟩ rfl rfl, i + 1, rfl, by omega, rfl⟩
    · have hb2 := of_decide_eq_false hb
      refine Run.exit rfl ?_
      refine End.kp [] ?_
      refine Run.seq ?_
      have fx := And.intro d1 (And.intro boolss_len ft)
      refine Run.go ?_
      refine End.kp [6] ?_
      refine Run.ret (hQ _ _ ⟨.inr rfl, _, rfl, _, rfl, ?_⟩)
      exact ⟨rfl, rfl⟩
theorem runs_ok (a b : LGraph) (ha : GraphOk a) (hb : GraphOk b) (tr : List (List Bool)) (hn : tr.length ≤ 64) (hta : ∀ r ∈ tr, r.length = a.inn.length) (htb : ∀ r ∈ tr, r.length = b.inn.length) (hs : runI b tr = runI a tr) (up : Frs) : ACalls Try.prog 67 [a.pv, b.pv, .im (.sl (boolss tr))] up fun v u => v = .im (.bool true) ∧ u = up := by
  have h1 := GRun_ok a ha tr hn hta
  have h2 := GRun_ok b hb tr hn htb
  rw [show runG b (lanes0 (initG b)) tr = runI a tr from hs] at h2
  have hl := runG_len a tr (lanes0 (initG a))
  have hr := runG_row a tr (lanes0 (initG a))
  have ho := ha.small.outs
  unfold runI at h2
  generalize runG a (lanes0 (initG a)) tr = O at h1 h2 hl hr
  refine ACalls.code Try.func67 rfl 41 rfl (by simp) [.tmp 6] rfl fun Q hQ => ?_
  simp only [ups, PV.up, argEnv]
  have ft := And.intro ty_3 (And.intro ty_4 (And.intro ty_34 (And.intro ty_51 (And.intro ty_58 (And.intro ty_71 trivial)))))
  refine Run.seq ?_
  have fx := And.intro hl (And.intro boolss_len ft)
  refine Run.go ?_
  refine End.kp [2, 3, 4] ?_
  refine Run.seq ?_
  refine Run.region rfl fun K hK => GOps.sim ?_
  refine GOps.call rfl rfl rfl rfl (by kernel_rfl) (ACalls.sim ?_)
  refine (h1 _).mono fun v u hv => ?_
  obtain ⟨rfl, rfl⟩ := hv
  refine ⟨_, _, rfl, GOps.sim ?_⟩
  refine GOps.done (hK _ ?_); clear hK K
  refine End.kp [2, 4, 7, 8] ?_
  refine Run.seq ?_
  refine Run.region rfl fun K hK => GOps.sim ?_
  refine GOps.call rfl rfl rfl rfl (by kernel_rfl) (ACalls.sim ?_)
  refine (h2 _).mono fun v u hv => ?_
  obtain ⟨rfl, rfl⟩ := hv
  refine ⟨_, _, rfl, GOps.sim ?_⟩
  refine GOps.done (hK _ ?_); clear hK K
  refine End.kp [2, 7, 8, 9, 10] ?_
  refine Run.seq ?_
  refine Run.region rfl fun K hK => GOps.sim ?_
  refine GOps.call rfl rfl rfl rfl (by kernel_rfl) (ACalls.sim ?_)
  refine (EqF_same O (by omega) (fun r h => by rw [hr r h]; omega) _).mono fun v u hv => ?_
  obtain ⟨rfl, rfl⟩ := hv
  refine ⟨_, _, rfl, GOps.sim ?_⟩
  refine GOps.done (hK _ ?_); clear hK K
  refine End.kp [6] ?_
  refine Run.ret (hQ _ _ ⟨.inr rfl, _, rfl, _, rfl, ?_⟩)
  exact ⟨rfl, rfl⟩
end Go.Proofs.YtkmnmokjlpenhaaPi

