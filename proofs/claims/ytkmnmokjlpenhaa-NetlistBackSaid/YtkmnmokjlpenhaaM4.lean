/- Part 4 of the proof: the texts WTA, WTB, PTB, WGM, WKA, WKB, one behind the other. Each holds for every input that it names; no condition is hidden. -/
import Derived.Test.YtkmnmokjlpenhaaM3
import Derived.Test.YtkmnmokjlpenhaaM2
import Derived.Test.YtkmnmokjlpenhaaPiGrowB
import Derived.Test.YtkmnmokjlpenhaaPiGrowL
import Derived.Test.YtkmnmokjlpenhaaPiLit
import Derived.Test.YtkmnmokjlpenhaaM1
/- Merged: WGF WGG WGH. -/
/- The walks of Copy of graphs, and of pair, depends of makers. -/
set_option linter.unusedVariables false
set_option linter.unusedSimpArgs false
set_option maxRecDepth 100000
namespace Go.Proofs.YtkmnmokjlpenhaaPi
set_option maxHeartbeats 4000000
theorem CloneL_nil (up : Frs) : ACalls Try.prog 149 [.im (.sl (([] : List Int).map iI))] up fun v u => v = .im (.sl (([] : List Int).map iI)) ∧ u = up := by
  refine ACalls.code Try.func149 rfl 8 rfl (by simp) [.tmp 2] rfl fun Q hQ => ?_
  simp only [ups, PV.up, argEnv]
  have ft := And.intro ty_4 (And.intro ty_49 (And.intro ty_62 trivial))
  refine Run.seq ?_
  have fx := And.intro (@List.map_nil.{0, 0}) ft
  refine Run.go ?_
  refine End.kp [0] ?_
  refine Run.seq ?_
  refine Run.seq ?_
  refine Run.go ?_
  refine End.kp [0, 4] ?_
  refine Run.cond_any rfl ?_ ?_
  · skip
    refine Run.seq ?_
    have fx := And.intro (@List.map_nil.{0, 0}) ft
    refine Run.go ?_
    refine End.kp [2] ?_
    refine Run.resC hQ ?_
    exact ⟨rfl, rfl⟩
  · skip
    refine Run.skip ?_
    refine End.kp [0] ?_
    refine Run.seq ?_
    have fx := And.intro (@List.map_nil.{0, 0}) ft
    refine Run.go ?_
    refine End.kp [2] ?_
    refine Run.resC hQ ?_
    exact ⟨rfl, rfl⟩
theorem CloneL_cons (x : Int) (xs : List Int) (h : xs.length ≤ 1000000) (up : Frs) : ACalls Try.prog 149 [.im (.sl ((x :: xs).map iI))] up fun v u => v = .im (.sl ((x :: xs).map iI)) ∧ u = up := by
  have hall : (xs.map iI).all (fun r => r.length == 1) = true := by simp
  have hlen : ((xs.map iI).length + 1) * 8 ≤ 140737488355328 := by rw [List.length_map]; omega
  refine ACalls.code Try.func149 rfl 8 rfl (by simp) [.tmp 2] rfl fun Q hQ => ?_
  simp only [ups, PV.up, argEnv]
  have ft := And.intro ty_4 (And.intro ty_49 (And.intro ty_62 trivial))
  refine Run.seq ?_
  have fx := And.intro hlen (And.intro hall (And.intro (@List.map_cons.{0, 0}) ft))
  refine Run.go ?_
  refine End.kp [0] ?_
  refine Run.seq ?_
  refine Run.seq ?_
  refine Run.go ?_
  refine End.kp [0, 4] ?_
  refine Run.cond _ rfl (fun hb => ?_) (fun hb => ?_)
  · have hb := hb
    simp at hb
  · have hb := hb
    refine Run.skip ?_
    refine End.kp [0] ?_
    refine Run.seq ?_
    have fx := And.intro hlen (And.intro hall (And.intro (@List.map_cons.{0, 0}) ft))
    refine Run.go ?_
    refine End.move (Ghost.shut (t := 2) (j := 0) rfl rfl rfl) ?_
    simp only [eput, edel]
    refine End.kp [2] ?_
    refine Run.ret (hQ _ _ ⟨.inr rfl, _, rfl, _, rfl, ?_⟩)
    exact ⟨rfl, rfl⟩
theorem CloneL_ok (q : List Int) (h : q.length ≤ 1000000) (up : Frs) : ACalls Try.prog 149 [.im (.sl (q.map iI))] up fun v u => v = .im (.sl (q.map iI)) ∧ u = up := by
  cases q with
  | nil => exact CloneL_nil up
  | cons x xs => exact CloneL_cons x xs (by simp at h; omega) up
/-- Two ands, and what is one of them. -/
def mkPair (m : LMk) (a b c d : Int) : Int × LMk :=
  (flipL (mkAnd (mkAnd (mkAnd m a b).2 c d).2 (flipL (mkAnd m a b).1) (flipL (mkAnd (mkAnd m a b).2 c d).1)).1, (mkAnd (mkAnd (mkAnd m a b).2 c d).2 (flipL (mkAnd m a b).1) (flipL (mkAnd (mkAnd m a b).2 c d).1)).2)
abbrev LMk.top (m : LMk) : Int := 2 * (m.first + m.ands.length)
abbrev InM (m : LMk) (a : Int) : Prop := 0 ≤ a ∧ a < m.top
structure AfterM (m m' : LMk) (n : Nat) : Prop where
  inn : m'.inn = m.inn
  regs : m'.regs = m.regs
  less : m.ands.length ≤ m'.ands.length
  most : m'.ands.length ≤ m.ands.length + n
theorem AfterM.first {m m' : LMk} {n : Nat} (h : AfterM m m' n) : m'.first = m.first := by rw [LMk.first, LMk.first, h.inn, h.regs]
theorem AfterM.small {m m' : LMk} {n : Nat} (h : AfterM m m' n) (hm : MkSmall m) (hn : m.ands.length + n ≤ 4000) : MkSmall m' := ⟨by rw [h.inn]; exact hm.inn, by rw [h.regs]; exact hm.regs, by have := h.most; omega⟩
theorem AfterM.up {m m' : LMk} {n : Nat} (h : AfterM m m' n) {a : Int} (ha : InM m a) : InM m' a := by
  have := h.first
  have := h.less
  unfold InM LMk.top at *
  omega
theorem AfterM.trans {m m' m2 : LMk} {n k : Nat} (h : AfterM m m' n) (h' : AfterM m' m2 k) : AfterM m m2 (n + k) := ⟨by rw [h'.inn, h.inn], by rw [h'.regs, h.regs], by have := h.less; have := h'.less; omega, by have := h.most; have := h'.most; omega⟩
theorem AfterM.refl (m : LMk) (n : Nat) : AfterM m m n := ⟨rfl, rfl, Nat.le_refl _, by omega⟩
theorem mkAnd_after (m : LMk) {a b : Int} (ha : InM m a) (hb : InM m b) : AfterM m (mkAnd m a b).2 1 ∧ InM (mkAnd m a b).2 (mkAnd m a b).1 := by
  obtain ⟨h1, h2, h3, h4, h5⟩ := mkAnd_range m a b ha hb
  refine ⟨⟨h2, h3, h4, h5⟩, ?_⟩
  have e : (mkAnd m a b).2.first = m.first := by rw [LMk.first, LMk.first, h2, h3]
  unfold InM LMk.top
  rw [e]
  exact h1
theorem flip_in {m : LMk} {a : Int} (h : InM m a) : InM m (flipL a) := by
  have h1 := flipL_lt a (m.first + m.ands.length) h.1 h.2
  exact h1
theorem mkPair_after (m : LMk) {a b c d : Int} (ha : InM m a) (hb : InM m b) (hc : InM m c) (hd : InM m d) : AfterM m (mkPair m a b c d).2 3 ∧ InM (mkPair m a b c d).2 (mkPair m a b c d).1 := by
  obtain ⟨p1, p2⟩ := mkAnd_after m ha hb
  obtain ⟨q1, q2⟩ := mkAnd_after (mkAnd m a b).2 (p1.up hc) (p1.up hd)
  obtain ⟨r1, r2⟩ := mkAnd_after (mkAnd (mkAnd m a b).2 c d).2 (flip_in (q1.up p2)) (flip_in q2)
  exact ⟨(p1.trans q1).trans r1, flip_in r2⟩
theorem Not_ok (l : Int) (h0 : 0 ≤ l) (h1 : l ≤ 1000000000) (up : Frs) : ACalls Try.prog 148 [.i l] up fun v u => v = .i (flipL l) ∧ u = up := by
  have d1 : decide (l < 0) = false := decide_eq_false (by omega)
  have hx := xor_one l h0 h1
  refine ACalls.code Try.func148 rfl 8 rfl (by simp) [.tmp 2] rfl fun Q hQ => ?_
  simp only [ups, PV.up, argEnv]
  have ft := And.intro ty_4 (And.intro ty_62 trivial)
  refine Run.seq ?_
  have fx := And.intro hx (And.intro d1 ft)
  refine Run.go ?_
  refine End.kp [0] ?_
  refine Run.seq ?_
  refine Run.seq ?_
  refine Run.go ?_
  refine End.kp [0, 4] ?_
  refine Run.cond _ rfl (fun hb => ?_) (fun hb => ?_)
  · have hb2 := hb
    simp at hb
  · have hb2 := hb
    refine Run.skip ?_
    refine End.kp [0] ?_
    refine Run.seq ?_
    have fx := And.intro hx (And.intro d1 ft)
    refine Run.go ?_
    refine End.kp [2] ?_
    refine Run.ret (hQ _ _ ⟨.inr rfl, _, rfl, _, rfl, ?_⟩)
    exact ⟨rfl, rfl⟩
theorem mpair_ok (a b c e : Int) (m : LMk) (hm : MkSmall m) (up : Frs) (d j r q : Nat) (hk : MkAt up d j r q m) (hn : m.ands.length + 3 ≤ 4000) (ha : InM m a) (hb : InM m b) (hc : InM m c) (he : InM m e) : ACalls Try.prog 147 [.ptr d j 0, .i a, .i b, .i c, .i e] up fun v u => v = .tup [.i (mkPair m a b c e).1, .im (.bool true)] ∧ u = setMk up d j r q (mkPair m a b c e).2 := by
  have hm2 := hm
  obtain ⟨z1, z2, z3⟩ := hm
  obtain ⟨p1, p2⟩ := mkAnd_after m ha hb
  obtain ⟨q1, q2⟩ := mkAnd_after (mkAnd m a b).2 (p1.up hc) (p1.up he)
  obtain ⟨r1, r2⟩ := mkAnd_after (mkAnd (mkAnd m a b).2 c e).2 (flip_in (q1.up p2)) (flip_in q2)
  have s1 := p1.small hm2 (by omega)
  have l1 := p1.most
  have s2 := q1.small s1 (by omega)
  have l2 := q1.most
  have f1 := p1.first
  have f2 := q1.first
  have f3 := r1.first
  have l3 := r1.most
  have hP : mkPair m a b c e = (flipL (mkAnd (mkAnd (mkAnd m a b).2 c e).2 (flipL (mkAnd m a b).1) (flipL (mkAnd (mkAnd m a b).2 c e).1)).1, (mkAnd (mkAnd (mkAnd m a b).2 c e).2 (flipL (mkAnd m a b).1) (flipL (mkAnd (mkAnd m a b).2 c e).1)).2) := rfl
  have hb' := p1.up hc
  have he' := p1.up he
  have hx' := flip_in (q1.up p2)
  have hy' := flip_in q2
  unfold InM LMk.top LMk.first at *
  have k1 := fun u (hu : MkAt u (d + 1) j r q m) => mand_ok a b m hm2 u (d + 1) j r q hu (by omega) (by omega) (by omega)
  generalize mkAnd m a b = X at *
  obtain ⟨x, m1⟩ := X
  simp only at *
  have k2 := fun u (hu : MkAt u (d + 1) j r q m1) => mand_ok c e m1 s1 u (d + 1) j r q hu (by omega) (by omega) (by omega)
  generalize mkAnd m1 c e = Y at *
  obtain ⟨y, m2⟩ := Y
  simp only at *
  have k3 := fun u (hu : MkAt u (d + 1) j r q m2) => mand_ok (flipL x) (flipL y) m2 s2 u (d + 1) j r q hu (by omega) (by omega) (by omega)
  generalize mkAnd m2 (flipL x) (flipL y) = Z at *
  obtain ⟨z, m3⟩ := Z
  simp only at *
  refine ACalls.code Try.func147 rfl 50 rfl (by simp) [.tmp 10, .tmp 11] rfl fun Q hQ => ?_
  simp only [ups, PV.up, argEnv]
  have ft := And.intro ty_4 (And.intro ty_62 (And.intro ty_109 trivial))
  refine Run.seq ?_
  have fx := ft
  refine Run.go ?_
  refine End.kp [0, 1, 2, 3, 4] ?_
  refine Run.seq ?_
  refine Run.region rfl fun K hK => GOps.sim ?_
  refine GOps.call rfl rfl rfl rfl (by kernel_rfl) (ACalls.sim ?_)
  refine (k1 _ ⟨hk.box, hk.row, hk.map⟩).mono fun v u hv => ?_
  obtain ⟨rfl, rfl⟩ := hv
  refine ⟨_, _, rfl, GOps.sim ?_⟩
  refine GOps.done (hK _ ?_); clear hK K
  refine End.kp [0, 3, 4, 12, 13] ?_
  refine Run.seq ?_
  refine Run.region rfl fun K hK => GOps.sim ?_
  refine GOps.call rfl rfl rfl rfl (by kernel_rfl) (ACalls.sim ?_)
  refine (k2 _ (by have hh := setMk_at (m' := m1) hk; exact ⟨hh.box, hh.row, hh.map⟩)).mono fun v u hv => ?_
  obtain ⟨rfl, rfl⟩ := hv
  refine ⟨_, _, rfl, GOps.sim ?_⟩
  refine GOps.done (hK _ ?_); clear hK K
  refine End.kp [0, 12, 13, 14, 15] ?_
  refine Run.seq ?_
  refine Run.seq ?_
  refine Run.go ?_
  refine End.kp [0, 12, 14, 36] ?_
  refine Run.cond _ rfl (fun hb => ?_) (fun hb => ?_)
  · have hb2 := hb
    simp at hb
  · have hb2 := hb
    refine Run.skip ?_
    refine End.kp [0, 12, 14] ?_
    refine Run.seq ?_
    have fx := ft
    refine Run.region rfl fun K hK => GOps.sim ?_
    refine GOps.call rfl rfl rfl rfl (by kernel_rfl) (ACalls.sim ?_)
    refine (Not_ok x (by omega) (by omega) _).mono fun v u hv => ?_
    obtain ⟨rfl, rfl⟩ := hv
    refine ⟨_, _, rfl, GOps.sim ?_⟩
    refine GOps.call rfl rfl rfl rfl (by kernel_rfl) (ACalls.sim ?_)
    refine (Not_ok y (by omega) (by omega) _).mono fun v u hv => ?_
    obtain ⟨rfl, rfl⟩ := hv
    refine ⟨_, _, rfl, GOps.sim ?_⟩
    refine GOps.call rfl rfl rfl rfl (by kernel_rfl) (ACalls.sim ?_)
    refine (k3 _ (by have hh := setMk_at (m' := m2) (setMk_at (m' := m1) hk); exact ⟨hh.box, hh.row, hh.map⟩)).mono fun v u hv => ?_
    obtain ⟨rfl, rfl⟩ := hv
    refine ⟨_, _, rfl, GOps.sim ?_⟩
    refine GOps.done (hK _ ?_); clear hK K
    refine End.kp [13, 16] ?_
    refine Run.seq ?_
    refine Run.seq ?_
    refine Run.go ?_
    refine End.kp [16, 47] ?_
    refine Run.cond _ rfl (fun hb => ?_) (fun hb => ?_)
    · have hb2 := hb
      simp at hb
    · have hb2 := hb
      refine Run.skip ?_
      refine End.kp [16] ?_
      refine Run.seq ?_
      have fx := ft
      refine Run.region rfl fun K hK => GOps.sim ?_
      refine GOps.call rfl rfl rfl rfl (by kernel_rfl) (ACalls.sim ?_)
      refine (Not_ok z (by omega) (by omega) _).mono fun v u hv => ?_
      obtain ⟨rfl, rfl⟩ := hv
      refine ⟨_, _, rfl, GOps.sim ?_⟩
      refine GOps.done (hK _ ?_); clear hK K
      refine End.kp [10, 11] ?_
      refine Run.ret (hQ _ _ ⟨.inr rfl, _, rfl, _, rfl, ?_⟩)
      rw [hP]
      exact ⟨rfl, by have h1 := setMk_at (m' := m1) hk; show setMk (setMk (setMk up d j r q m1) d j r q m2) d j r q m3 = _; rw [setMk_set h1, setMk_set hk]⟩
end Go.Proofs.YtkmnmokjlpenhaaPi

/- The walks of depends, table, Table of makers. -/
set_option linter.unusedVariables false
set_option linter.unusedSimpArgs false
namespace Go.Proofs.YtkmnmokjlpenhaaPi
set_option maxHeartbeats 4000000
theorem shl1 (n : Nat) (h : n ≤ 6) : IntKind.i64.wrap (1 * 2 ^ min n IntKind.i64.bits) = ((2 ^ n : Nat) : Int) := by
  have h64 : min n IntKind.i64.bits = n := by show min n 64 = n; omega
  rw [h64, Int.one_mul]
  have : n = 0 ∨ n = 1 ∨ n = 2 ∨ n = 3 ∨ n = 4 ∨ n = 5 ∨ n = 6 := by omega
  rcases this with rfl | rfl | rfl | rfl | rfl | rfl | rfl <;> decide
theorem or_small (a b : Nat) (ha : a < 128) (hb : b < 128) : ∃ c : Nat, bits .or .i64 (a : Int) (b : Int) = (c : Int) ∧ c < 128 := by
  refine ⟨a ||| b, ?_, Nat.or_lt_two_pow (n := 7) ha hb⟩
  have hc : a ||| b < 128 := Nat.or_lt_two_pow (n := 7) ha hb
  show IntKind.i64.wrap ((BitVec.ofInt 64 (a : Int) ||| BitVec.ofInt 64 (b : Int)).toNat : Int) = _
  rw [BitVec.toNat_or]
  have a1 : (BitVec.ofInt 64 (a : Int)).toNat = a := by rw [BitVec.toNat_ofInt]; omega
  have b1 : (BitVec.ofInt 64 (b : Int)).toNat = b := by rw [BitVec.toNat_ofInt]; omega
  rw [a1, b1]
  exact wrap64 (by omega)
def depAt (t : Int) (i k : Nat) : Bool := (bits .and .i64 ((k : Int).fdiv (2 ^ min i IntKind.i64.bits)) 1 == 0) && (bits .and .u64 (t.fdiv (2 ^ min k IntKind.u64.bits)) 1 != bits .and .u64 (t.fdiv (2 ^ min (bits .or .i64 (k : Int) ((2 ^ i : Nat) : Int)).toNat IntKind.u64.bits)) 1)
/-- Whether a table depends on an input. -/
def depV (t : Int) (n i : Nat) : Bool := (List.range (2 ^ n)).any (depAt t i)
theorem depends_ok (t : Int) (n : Nat) (hn : n ≤ 6) (i : Nat) (hi : i < n) (up : Frs) : ACalls Try.prog 114 [.u t, .i n, .i i] up fun v u => v = .im (.bool (depV t n i)) ∧ u = up := by
  obtain ⟨W, hW⟩ : ∃ W, W = 2 ^ n := ⟨_, rfl⟩
  have wn := shl1 n hn
  rw [← hW] at wn
  have wi := shl1 i (by omega)
  have hp : W ≤ 64 := hW ▸ Nat.le_trans (Nat.pow_le_pow_right (by omega) hn) (by decide)
  have hn0 : ¬ ((n : Int) < 0) := by omega
  have hi0 : ¬ ((i : Int) < 0) := by omega
  refine ACalls.code Try.func114 rfl 33 rfl (by simp) [.tmp 6] rfl fun Q hQ => ?_
  simp only [ups, PV.up, argEnv]
  have ft := And.intro ty_3 (And.intro ty_4 (And.intro ty_37 trivial))
  refine Run.seq ?_
  have fx := And.intro hi0 (And.intro hn0 (And.intro wi (And.intro wn ft)))
  refine Run.go ?_
  refine End.kp [0, 1, 2] ?_
  refine Run.seq ?_
  refine Run.seq ?_
  refine Run.go ?_
  refine End.kp [0, 2, 9, 10] ?_
  refine Run.block ?_
  refine Run.ghost (Ghost.form [(0, .u t), (2, .i i), (9, .i (W : Nat)), (10, .i (0 : Nat))] 0 ⟨rfl, rfl, rfl, rfl, trivial⟩ rfl rfl) ?_
  refine Run.loop (fun m' st => ∃ k : Nat, m' = W - k ∧ k ≤ W ∧ (List.range k).any (depAt t i) = false ∧ st = ⟨[(0, .u t), (2, .i i), (9, .i (W : Nat)), (10, .i (k : Nat))], [], up⟩) W ⟨0, rfl, by omega, rfl, rfl⟩ fun m' st hI => ?_
  obtain ⟨k, rfl, hk, hno, rfl⟩ := hI
  refine Run.seq ?_
  have fx := And.intro hi0 (And.intro hn0 (And.intro wi (And.intro wn ft)))
  refine Run.go ?_
  refine End.kp [0, 2, 9, 10, 11] ?_
  refine Run.seq ?_
  refine Run.cond _ rfl (fun hb => ?_) (fun hb => ?_)
  · have hb2 := of_decide_eq_true hb
    have hin : k < W := by omega
    have wk := wsucc hin (by omega)
    have hk0 : ¬ ((k : Int) < 0) := by omega
    have hp2 : 2 ^ i ≤ 64 := Nat.le_trans (Nat.pow_le_pow_right (by omega) (show i ≤ 6 by omega)) (by decide)
    obtain ⟨c, hX, hcl⟩ := or_small k (2 ^ i) (by omega) (by omega)
    have hc0 : ¬ ((c : Int) < 0) := by omega
    have hD : depAt t i k = ((bits .and .i64 ((k : Int).fdiv (2 ^ min i IntKind.i64.bits)) 1 == 0) && (bits .and .u64 (t.fdiv (2 ^ min k IntKind.u64.bits)) 1 != bits .and .u64 (t.fdiv (2 ^ min c IntKind.u64.bits)) 1)) := by rw [depAt, hX]; rfl
    generalize hy : bits .and .i64 ((k : Int).fdiv (2 ^ min i IntKind.i64.bits)) 1 = y at hD
    generalize hz : bits .and .u64 (t.fdiv (2 ^ min k IntKind.u64.bits)) 1 = z at hD
    generalize hx : bits .and .u64 (t.fdiv (2 ^ min c IntKind.u64.bits)) 1 = x at hD
    refine Run.skip ?_
    refine End.kp [0, 2, 9, 10] ?_
    refine Run.seq ?_
    refine Run.block ?_
    refine Run.seq ?_
    have fx := And.intro hx (And.intro hz (And.intro hy (And.intro hX (And.intro hc0 (And.intro hk0 (And.intro wk (And.intro hi0 (And.intro hn0 (And.intro wi (And.intro wn ft))))))))))
    refine Run.go ?_
    refine End.kp [0, 2, 7, 9, 10] ?_
    refine Run.seq ?_
    rcases Bool.eq_false_or_eq_true ((y == 0)) with hs4 | hs4
    · skip
      have fx := And.intro hs4 (And.intro hx (And.intro hz (And.intro hy (And.intro hX (And.intro hc0 (And.intro hk0 (And.intro wk (And.intro hi0 (And.intro hn0 (And.intro wi (And.intro wn ft)))))))))))
      refine Run.drawA fun K hK => ?_
      refine DOps.sim ?_
      refine DOps.nil (metAll_quiet rfl) (hK _ ?_); clear hK K
      refine End.kp [0, 2, 9, 10, 31] ?_
      refine Run.cond _ rfl (fun hb => ?_) (fun hb => ?_)
      · have hb2 := hb
        have hDt : depAt t i k = true := by rw [hD, hs4, hb2]; rfl
        refine Run.seq ?_
        have fx := And.intro hs4 (And.intro hx (And.intro hz (And.intro hy (And.intro hX (And.intro hc0 (And.intro hk0 (And.intro wk (And.intro hi0 (And.intro hn0 (And.intro wi (And.intro wn ft)))))))))))
        refine Run.go ?_
        refine End.kp [6] ?_
        refine Run.ret (hQ _ _ ⟨.inr rfl, _, rfl, _, rfl, ?_⟩)
        exact ⟨by rw [depV, ← hW, List.any_eq_true.2 ⟨k, by simpa using hin, hDt⟩], rfl⟩
      · have hb2 := hb
        have hDf : depAt t i k = false := by rw [hD, hb2, Bool.and_false]
        refine Run.skip ?_
        refine End.blk ?_
        refine End.kp [0, 2, 9, 10] ?_
        have fx := And.intro hs4 (And.intro hx (And.intro hz (And.intro hy (And.intro hX (And.intro hc0 (And.intro hk0 (And.intro wk (And.intro hi0 (And.intro hn0 (And.intro wi (And.intro wn ft)))))))))))
        refine Run.go ?_
        refine End.lp ?_
        refine ⟨W - (k + 1), _, by omega, Ghost.form [(0, .u t), (2, .i i), (9, .i (W : Nat)), (10, .i (k + 1 : Nat))] 0 ⟨rfl, rfl, rfl, rfl, trivial⟩ rfl rfl, k + 1, rfl, by omega, by rw [List.range_succ, List.any_append, hno]; simp [hDf], rfl⟩
    · skip
      have fx := And.intro hs4 (And.intro hx (And.intro hz (And.intro hy (And.intro hX (And.intro hc0 (And.intro hk0 (And.intro wk (And.intro hi0 (And.intro hn0 (And.intro wi (And.intro wn ft)))))))))))
      refine Run.drawA fun K hK => ?_
      refine DOps.sim ?_
      refine DOps.nil (metAll_quiet rfl) (hK _ ?_); clear hK K
      refine End.kp [0, 2, 9, 10, 31] ?_
      refine Run.cond _ rfl (fun hb => ?_) (fun hb => ?_)
      · have hb2 := hb
        simp at hb
      · have hDf : depAt t i k = false := by rw [hD, hs4, Bool.false_and]
        refine Run.skip ?_
        refine End.blk ?_
        refine End.kp [0, 2, 9, 10] ?_
        have fx := And.intro hs4 (And.intro hx (And.intro hz (And.intro hy (And.intro hX (And.intro hc0 (And.intro hk0 (And.intro wk (And.intro hi0 (And.intro hn0 (And.intro wi (And.intro wn ft)))))))))))
        refine Run.go ?_
        refine End.lp ?_
        refine ⟨W - (k + 1), _, by omega, Ghost.form [(0, .u t), (2, .i i), (9, .i (W : Nat)), (10, .i (k + 1 : Nat))] 0 ⟨rfl, rfl, rfl, rfl, trivial⟩ rfl rfl, k + 1, rfl, by omega, by rw [List.range_succ, List.any_append, hno]; simp [hDf], rfl⟩
  · have hb2 := of_decide_eq_false hb
    have hkW : k = W := by omega
    refine Run.exit rfl ?_
    refine End.kp [] ?_
    refine Run.seq ?_
    have fx := And.intro hi0 (And.intro hn0 (And.intro wi (And.intro wn ft)))
    refine Run.go ?_
    refine End.kp [6] ?_
    refine Run.ret (hQ _ _ ⟨.inr rfl, _, rfl, _, rfl, ?_⟩)
    exact ⟨by rw [depV, ← hW, ← hkW, hno], rfl⟩
end Go.Proofs.YtkmnmokjlpenhaaPi

/- The walk of table of makers. -/
set_option linter.unusedVariables false
set_option linter.unusedSimpArgs false
namespace Go.Proofs.YtkmnmokjlpenhaaPi
set_option maxHeartbeats 4000000
/-- The bits of a table of n inputs. -/
def onesT (n : Nat) : Int := 2 ^ (2 ^ n) - 1
def mkTable : Nat → LMk → Int → List Int → Int × LMk
  | 0, m, t, _ => if bits .and .u64 t 1 = 0 then (0, m) else (1, m)
  | n + 1, m, t, l =>
    if bits .and .u64 t (onesT (n + 1)) = 0 then (0, m) else if bits .and .u64 t (onesT (n + 1)) = onesT (n + 1) then (1, m) else
    if bits .and .u64 (t.fdiv (2 ^ 2 ^ n)) (onesT n) = bits .and .u64 t (onesT n) then mkTable n m (bits .and .u64 t (onesT n)) (l.take n) else
    mkPair (mkTable n (mkTable n m (bits .and .u64 (t.fdiv (2 ^ 2 ^ n)) (onesT n)) (l.take n)).2 (bits .and .u64 t (onesT n)) (l.take n)).2 (l.getD n 0) (mkTable n m (bits .and .u64 (t.fdiv (2 ^ 2 ^ n)) (onesT n)) (l.take n)).1 (flipL (l.getD n 0)) (mkTable n (mkTable n m (bits .and .u64 (t.fdiv (2 ^ 2 ^ n)) (onesT n)) (l.take n)).2 (bits .and .u64 t (onesT n)) (l.take n)).1
def capT (n : Nat) : Nat := 3 * (2 ^ n - 1)
theorem capT_succ (n : Nat) : capT (n + 1) = capT n + capT n + 3 := by
  unfold capT
  have : 0 < 2 ^ n := Nat.pow_pos (by omega)
  rw [Nat.pow_succ]
  omega
theorem AfterM.more {m m' : LMk} {n k : Nat} (h : AfterM m m' n) (hk : n ≤ k) : AfterM m m' k := ⟨h.inn, h.regs, h.less, by have := h.most; omega⟩
theorem zero_in (m : LMk) : InM m 0 := by unfold InM LMk.top LMk.first; omega
theorem one_in (m : LMk) : InM m 1 := by unfold InM LMk.top LMk.first; omega
theorem getD_in {m : LMk} {l : List Int} (h : ∀ x ∈ l, InM m x) (n : Nat) : InM m (l.getD n 0) := by
  rw [List.getD_eq_getElem?_getD]
  cases hk : l[n]? with
  | none => exact zero_in m
  | some x => exact h x (List.mem_of_getElem? hk)
theorem mkTable_after : ∀ (n : Nat) (m : LMk) (t : Int) (l : List Int), (∀ x ∈ l, InM m x) → AfterM m (mkTable n m t l).2 (capT n) ∧ InM (mkTable n m t l).2 (mkTable n m t l).1
  | 0, m, t, l, h => by
    unfold mkTable
    split
    · exact ⟨AfterM.refl _ _, zero_in m⟩
    · exact ⟨AfterM.refl _ _, one_in m⟩
  | n + 1, m, t, l, h => by
    rw [mkTable]
    have ht : ∀ x ∈ l.take n, InM m x := fun x hx => h x (List.mem_of_mem_take hx)
    split
    · exact ⟨AfterM.refl _ _, zero_in m⟩
    split
    · exact ⟨AfterM.refl _ _, one_in m⟩
    split
    · obtain ⟨h1, h2⟩ := mkTable_after n m (bits .and .u64 t (onesT n)) (l.take n) ht
      exact ⟨h1.more (by rw [capT_succ]; omega), h2⟩
    · obtain ⟨h1, h2⟩ := mkTable_after n m (bits .and .u64 (t.fdiv (2 ^ 2 ^ n)) (onesT n)) (l.take n) ht
      obtain ⟨h3, h4⟩ := mkTable_after n (mkTable n m (bits .and .u64 (t.fdiv (2 ^ 2 ^ n)) (onesT n)) (l.take n)).2 (bits .and .u64 t (onesT n)) (l.take n) (fun x hx => h1.up (ht x hx))
      obtain ⟨h5, h6⟩ := mkPair_after (mkTable n (mkTable n m (bits .and .u64 (t.fdiv (2 ^ 2 ^ n)) (onesT n)) (l.take n)).2 (bits .and .u64 t (onesT n)) (l.take n)).2 (h3.up (h1.up (getD_in h n))) (h3.up h2) (flip_in (h3.up (h1.up (getD_in h n)))) h4
      refine ⟨((h1.trans h3).trans h5).more (by rw [capT_succ]; omega), h6⟩
def TableIH (n : Nat) : Prop := ∀ (t : Int) (l : List Int), l.length = n → ∀ (m : LMk), MkSmall m → ∀ (up : Frs) (d j r q : Nat), MkAt up d j r q m → m.ands.length + capT n ≤ 4000 → (∀ x ∈ l, InM m x) →
  ACalls Try.prog 116 [.ptr d j 0, .u t, .im (.sl (ints l))] up fun v u => v = .tup [.i (mkTable n m t l).1, .im (.bool true)] ∧ u = setMk up d j r q (mkTable n m t l).2
theorem shlU (n : Nat) (h : n ≤ 6) : IntKind.u64.wrap (1 * 2 ^ min n IntKind.u64.bits) = ((2 ^ n : Nat) : Int) := by
  have : n = 0 ∨ n = 1 ∨ n = 2 ∨ n = 3 ∨ n = 4 ∨ n = 5 ∨ n = 6 := by omega
  rcases this with rfl | rfl | rfl | rfl | rfl | rfl | rfl <;> decide +kernel
theorem shlU2 (n : Nat) (h : n ≤ 5) : IntKind.u64.wrap (1 * 2 ^ min (2 ^ n) IntKind.u64.bits) = ((2 ^ 2 ^ n : Nat) : Int) := by
  have : n = 0 ∨ n = 1 ∨ n = 2 ∨ n = 3 ∨ n = 4 ∨ n = 5 := by omega
  rcases this with rfl | rfl | rfl | rfl | rfl | rfl <;> decide +kernel
theorem onesT_wrap (n : Nat) (h : n ≤ 5) : IntKind.u64.wrap (((2 ^ 2 ^ n : Nat) : Int) - 1) = onesT n := by
  have : n = 0 ∨ n = 1 ∨ n = 2 ∨ n = 3 ∨ n = 4 ∨ n = 5 := by omega
  rcases this with rfl | rfl | rfl | rfl | rfl | rfl <;> decide +kernel
theorem half_min (n : Nat) (h : n ≤ 5) : min (2 ^ n) IntKind.u64.bits = 2 ^ n := by
  have : n = 0 ∨ n = 1 ∨ n = 2 ∨ n = 3 ∨ n = 4 ∨ n = 5 := by omega
  rcases this with rfl | rfl | rfl | rfl | rfl | rfl <;> decide +kernel
theorem bit_and_one (t : Int) : bits .and .u64 t 1 = 0 ∨ bits .and .u64 t 1 = 1 := by
  have h : bits .and .u64 t 1 = ((bv t &&& 1#64).toNat : Int) := by
    show IntKind.u64.wrap (BitVec.ofInt 64 t &&& BitVec.ofInt 64 1).toNat = _
    rw [wrapU (by have := (BitVec.ofInt 64 t &&& BitVec.ofInt 64 1).isLt; omega)]
    rfl
  rw [h]
  have h2 : (bv t &&& 1#64).toNat = (bv t).toNat % 2 := by
    rw [BitVec.toNat_and]
    exact Nat.and_one_is_mod _
  rw [h2]
  omega
theorem mtable_zero (t : Int) (l : List Int) (hl : l.length = 0) (m : LMk) (hm : MkSmall m) (up : Frs) (d j r q : Nat) (hk : MkAt up d j r q m) : ACalls Try.prog 116 [.ptr d j 0, .u t, .im (.sl (ints l))] up fun v u => v = .tup [.i (mkTable 0 m t l).1, .im (.bool true)] ∧ u = setMk up d j r q (mkTable 0 m t l).2 := by
  have hkk := setMk_self hk
  obtain ⟨N, hN⟩ : ∃ N, N = 0 := ⟨_, rfl⟩
  have hll : (ints l).length = N := by rw [ints_len, hl, hN]
  have h1 : onesT N = 1 := by rw [hN]; rfl
  have h01 := bit_and_one t
  
  have hn0 : ¬ ((N : Int) < 0) := by omega
  obtain ⟨H, hH⟩ : ∃ H, H = 2 ^ N := ⟨_, rfl⟩
  have w1 := shlU N (by omega)
  rw [← hH] at w1
  have hH0 : ¬ ((H : Int) < 0) := by omega
  
  have w2 := shlU2 N (by omega)
  rw [← hH] at w2
  obtain ⟨O, hO⟩ : ∃ O, O = 2 ^ H := ⟨_, rfl⟩
  rw [← hO] at w2
  have w3 := onesT_wrap N (by omega)
  rw [← hH, ← hO] at w3
  
  rw [h1] at w3
  generalize hT : bits .and .u64 t 1 = T at h01
  refine ACalls.code Try.func116 rfl 103 rfl (by simp) [.tmp 6, .tmp 7] rfl fun Q hQ => ?_
  simp only [ups, PV.up, argEnv]
  have ft := And.intro ty_3 (And.intro ty_4 (And.intro ty_37 (And.intro ty_49 (And.intro ty_62 (And.intro ty_109 (And.intro ty_188 trivial))))))
  refine Run.seq ?_
  have fx := And.intro hT (And.intro w3 (And.intro w2 (And.intro hH0 (And.intro w1 (And.intro hn0 (And.intro hll ft))))))
  refine Run.go ?_
  refine End.kp [0, 1, 2] ?_
  refine Run.seq ?_
  refine Run.go ?_
  refine End.kp [0, 1, 2, 8] ?_
  refine Run.seq ?_
  refine Run.go ?_
  refine End.kp [0, 1, 2, 8, 9] ?_
  refine Run.seq ?_
  refine Run.seq ?_
  refine Run.go ?_
  refine End.kp [0, 1, 2, 8, 9, 21] ?_
  refine Run.cond _ rfl (fun hb => ?_) (fun hb => ?_)
  · have hb0 := hb
    have fx := And.intro hT (And.intro w3 (And.intro w2 (And.intro hH0 (And.intro w1 (And.intro hn0 (And.intro hll ft))))))
    refine Run.go ?_
    refine End.kp [0, 1, 2, 8, 9] ?_
    refine Run.seq ?_
    refine Run.seq ?_
    refine Run.go ?_
    refine End.kp [0, 1, 2, 8, 9, 28] ?_
    refine Run.block ?_
    refine Run.seq ?_
    refine Run.go ?_
    refine End.kp [0, 1, 2, 8, 9, 28, 29] ?_
    refine Run.cond _ rfl (fun hb => ?_) (fun hb => ?_)
    · have hb1 := eq_of_beq hb
      refine Run.seq ?_
      have fx := And.intro hT (And.intro w3 (And.intro w2 (And.intro hH0 (And.intro w1 (And.intro hn0 (And.intro hll ft))))))
      refine Run.go ?_
      refine End.kp [6, 7] ?_
      refine Run.ret (hQ _ _ ⟨.inr rfl, _, rfl, _, rfl, ?_⟩)
      rw [mkTable, hT, if_pos hb1]
      exact ⟨rfl, hkk.symm⟩
    · have hb1 : ¬ T = 0 := fun h => by simp [h] at hb
      refine Run.seq ?_
      have fx := And.intro hT (And.intro w3 (And.intro w2 (And.intro hH0 (And.intro w1 (And.intro hn0 (And.intro hll ft))))))
      refine Run.go ?_
      refine End.kp [0, 1, 2, 8, 31] ?_
      refine Run.cond _ rfl (fun hb => ?_) (fun hb => ?_)
      · have hb2 := eq_of_beq hb
        refine Run.seq ?_
        have fx := And.intro hT (And.intro w3 (And.intro w2 (And.intro hH0 (And.intro w1 (And.intro hn0 (And.intro hll ft))))))
        refine Run.go ?_
        refine End.kp [6, 7] ?_
        refine Run.ret (hQ _ _ ⟨.inr rfl, _, rfl, _, rfl, ?_⟩)
        rw [mkTable, hT, if_neg hb1]
        exact ⟨rfl, hkk.symm⟩
      · have hb2 : ¬ T = 1 := fun h => by simp [h] at hb
        omega
  · have hb0 := of_decide_eq_false hb
    omega
theorem mtable_succ (n : Nat) (hn : n < 6) (ih : TableIH n) (t : Int) (l : List Int) (hl : l.length = n + 1) (m : LMk) (hm : MkSmall m) (up : Frs) (d j r q : Nat) (hk : MkAt up d j r q m) (hc : m.ands.length + capT (n + 1) ≤ 4000) (hin : ∀ x ∈ l, InM m x) : ACalls Try.prog 116 [.ptr d j 0, .u t, .im (.sl (ints l))] up fun v u => v = .tup [.i (mkTable (n + 1) m t l).1, .im (.bool true)] ∧ u = setMk up d j r q (mkTable (n + 1) m t l).2 := by
  have hkk := setMk_self hk
  have hm2 := hm
  rw [capT_succ] at hc
  obtain ⟨N, hN⟩ : ∃ N, N = n + 1 := ⟨_, rfl⟩
  have hll : (ints l).length = N := by rw [ints_len, hl, hN]
  have ht : ∀ x ∈ l.take n, InM m x := fun x hx => hin x (List.mem_of_mem_take hx)
  have hslice : 0 ≤ n ∧ n = n ∧ n ≤ N ∧ szOk 1 0 (ints l) := ⟨by omega, rfl, by omega, .inl rfl⟩
  have htake : (ints l).take n = ints (l.take n) := by simp [List.map_take]
  have hn1 : ¬ ((n : Int) < 0) := by omega
  have hn2 : 0 ≤ (n : Int) := by omega
  have hnl : (n : Int) < (N : Int) := by omega
  have wsub : IntKind.i64.wrap ((N : Int) - 1) = (n : Int) := by rw [wrap64 (by omega)]; omega
  obtain ⟨h, hh⟩ : ∃ h, h = 2 ^ n := ⟨_, rfl⟩
  have u1 := shl1 n (by omega)
  have u2 := shlU2 n (by omega)
  have u4 := half_min n (by omega)
  have u3 := onesT_wrap n (by omega)
  have hA2 : bits .and .u64 (t.fdiv (2 ^ 2 ^ n)) (onesT n) = bits .and .u64 (t.fdiv (2 ^ h)) (onesT n) := by rw [hh]
  rw [← hh] at u1 u2 u3 u4
  rw [u4] at u2
  obtain ⟨L, hL⟩ : ∃ L, L = 2 ^ h := ⟨_, rfl⟩
  rw [← hL] at u2 u3
  have hh0 : ¬ ((h : Int) < 0) := by omega
  generalize hA : bits .and .u64 (t.fdiv (2 ^ h)) (onesT n) = a at hA2
  generalize hB : bits .and .u64 t (onesT n) = b
  generalize hT : bits .and .u64 t (onesT N) = T
  
  have hn0 : ¬ ((N : Int) < 0) := by omega
  obtain ⟨H, hH⟩ : ∃ H, H = 2 ^ N := ⟨_, rfl⟩
  have w1 := shlU N (by omega)
  rw [← hH] at w1
  have hH0 : ¬ ((H : Int) < 0) := by omega
  refine ACalls.code Try.func116 rfl 103 rfl (by simp) [.tmp 6, .tmp 7] rfl fun Q hQ => ?_
  simp only [ups, PV.up, argEnv]
  have ft := And.intro ty_3 (And.intro ty_4 (And.intro ty_37 (And.intro ty_49 (And.intro ty_62 (And.intro ty_109 (And.intro ty_188 trivial))))))
  refine Run.seq ?_
  have fx := And.intro (@Int.toNat_natCast) (And.intro (@Int.natCast_nonneg) (And.intro hB (And.intro hA (And.intro hh0 (And.intro u4 (And.intro u3 (And.intro u2 (And.intro u1 (And.intro wsub (And.intro hn2 (And.intro hn1 (And.intro htake (And.intro hslice (And.intro hH0 (And.intro w1 (And.intro hn0 (And.intro hll ft)))))))))))))))))
  refine Run.go ?_
  refine End.kp [0, 1, 2] ?_
  refine Run.seq ?_
  refine Run.go ?_
  refine End.kp [0, 1, 2, 8] ?_
  refine Run.seq ?_
  refine Run.go ?_
  refine End.kp [0, 1, 2, 8, 9] ?_
  refine Run.seq ?_
  refine Run.seq ?_
  refine Run.go ?_
  refine End.kp [0, 1, 2, 8, 9, 21] ?_
  refine Run.cond _ rfl (fun hb => ?_) (fun hb => ?_)
  · have hb0 := of_decide_eq_true hb
    
    have w2 := shlU2 N (by omega)
    rw [← hH] at w2
    obtain ⟨O, hO⟩ : ∃ O, O = 2 ^ H := ⟨_, rfl⟩
    rw [← hO] at w2
    have w3 := onesT_wrap N (by omega)
    rw [← hH, ← hO] at w3
    have hZ : onesT N = onesT N := rfl
    have fx := And.intro hT (And.intro w3 (And.intro w2 (And.intro (@Int.toNat_natCast) (And.intro (@Int.natCast_nonneg) (And.intro hB (And.intro hA (And.intro hh0 (And.intro u4 (And.intro u3 (And.intro u2 (And.intro u1 (And.intro wsub (And.intro hn2 (And.intro hn1 (And.intro htake (And.intro hslice (And.intro hH0 (And.intro w1 (And.intro hn0 (And.intro hll ft))))))))))))))))))))
    refine Run.go ?_
    refine End.kp [0, 1, 2, 8, 9] ?_
    refine Run.seq ?_
    refine Run.seq ?_
    refine Run.go ?_
    refine End.kp [0, 1, 2, 8, 9, 28] ?_
    refine Run.block ?_
    refine Run.seq ?_
    refine Run.go ?_
    refine End.kp [0, 1, 2, 8, 9, 28, 29] ?_
    refine Run.cond _ rfl (fun hb => ?_) (fun hb => ?_)
    · have hb1 := eq_of_beq hb
      refine Run.seq ?_
      have fx := And.intro hT (And.intro w3 (And.intro w2 (And.intro (@Int.toNat_natCast) (And.intro (@Int.natCast_nonneg) (And.intro hB (And.intro hA (And.intro hh0 (And.intro u4 (And.intro u3 (And.intro u2 (And.intro u1 (And.intro wsub (And.intro hn2 (And.intro hn1 (And.intro htake (And.intro hslice (And.intro hH0 (And.intro w1 (And.intro hn0 (And.intro hll ft))))))))))))))))))))
      refine Run.go ?_
      refine End.kp [6, 7] ?_
      refine Run.ret (hQ _ _ ⟨.inr rfl, _, rfl, _, rfl, ?_⟩)
      rw [mkTable, ← hN, hT, if_pos hb1]
      exact ⟨rfl, hkk.symm⟩
    · have hb1 : ¬ T = 0 := fun h => by simp [h] at hb
      refine Run.seq ?_
      have fx := And.intro hT (And.intro w3 (And.intro w2 (And.intro (@Int.toNat_natCast) (And.intro (@Int.natCast_nonneg) (And.intro hB (And.intro hA (And.intro hh0 (And.intro u4 (And.intro u3 (And.intro u2 (And.intro u1 (And.intro wsub (And.intro hn2 (And.intro hn1 (And.intro htake (And.intro hslice (And.intro hH0 (And.intro w1 (And.intro hn0 (And.intro hll ft))))))))))))))))))))
      refine Run.go ?_
      refine End.kp [0, 1, 2, 8, 31] ?_
      refine Run.cond _ rfl (fun hb => ?_) (fun hb => ?_)
      · have hb2 := eq_of_beq hb
        refine Run.seq ?_
        have fx := And.intro hT (And.intro w3 (And.intro w2 (And.intro (@Int.toNat_natCast) (And.intro (@Int.natCast_nonneg) (And.intro hB (And.intro hA (And.intro hh0 (And.intro u4 (And.intro u3 (And.intro u2 (And.intro u1 (And.intro wsub (And.intro hn2 (And.intro hn1 (And.intro htake (And.intro hslice (And.intro hH0 (And.intro w1 (And.intro hn0 (And.intro hll ft))))))))))))))))))))
        refine Run.go ?_
        refine End.kp [6, 7] ?_
        refine Run.ret (hQ _ _ ⟨.inr rfl, _, rfl, _, rfl, ?_⟩)
        rw [mkTable, ← hN, hT, if_neg hb1, if_pos (by rw [hZ]; exact hb2)]
        exact ⟨rfl, hkk.symm⟩
      · have hb2 : ¬ T = onesT N := fun h => by first | (rw [h] at hb; simp at hb; done) | (rw [h, hZ] at hb; simp at hb; done)
        have hE : mkTable (n + 1) m t l = if a = b then mkTable n m b (l.take n) else mkPair (mkTable n (mkTable n m a (l.take n)).2 b (l.take n)).2 (l.getD n 0) (mkTable n m a (l.take n)).1 (flipL (l.getD n 0)) (mkTable n (mkTable n m a (l.take n)).2 b (l.take n)).1 := by
          rw [mkTable, ← hN, hT, if_neg hb1, if_neg hb2, hA2, hB]
        refine Run.skip ?_
        refine End.blk ?_
        refine End.kp [0, 1, 2, 8] ?_
        refine Run.seq ?_
        have fx := And.intro hT (And.intro w3 (And.intro w2 (And.intro (@Int.toNat_natCast) (And.intro (@Int.natCast_nonneg) (And.intro hB (And.intro hA (And.intro hh0 (And.intro u4 (And.intro u3 (And.intro u2 (And.intro u1 (And.intro wsub (And.intro hn2 (And.intro hn1 (And.intro htake (And.intro hslice (And.intro hH0 (And.intro w1 (And.intro hn0 (And.intro hll ft))))))))))))))))))))
        refine Run.go ?_
        refine End.kp [0, 1, 2, 8, 10] ?_
        refine Run.seq ?_
        refine Run.go ?_
        refine End.kp [0, 1, 2, 8, 10, 11] ?_
        refine Run.seq ?_
        refine Run.go ?_
        refine End.kp [0, 2, 8, 12, 13] ?_
        refine Run.seq ?_
        refine Run.seq ?_
        refine Run.go ?_
        refine End.kp [0, 2, 8, 12, 13, 50] ?_
        refine Run.cond _ rfl (fun hb => ?_) (fun hb => ?_)
        · have hb3 := eq_of_beq hb
          rw [hb3, if_pos rfl] at hE
          refine Run.seq ?_
          have fx := And.intro hT (And.intro w3 (And.intro w2 (And.intro (@Int.toNat_natCast) (And.intro (@Int.natCast_nonneg) (And.intro hB (And.intro hA (And.intro hh0 (And.intro u4 (And.intro u3 (And.intro u2 (And.intro u1 (And.intro wsub (And.intro hn2 (And.intro hn1 (And.intro htake (And.intro hslice (And.intro hH0 (And.intro w1 (And.intro hn0 (And.intro hll ft))))))))))))))))))))
          refine Run.region rfl fun K hK => GOps.sim ?_
          refine GOps.call rfl rfl rfl rfl (by kernel_rfl) (ACalls.sim ?_)
          refine (ih b (l.take n) (by rw [List.length_take]; omega) m hm2 _ (d + 1) j r q (by exact ⟨hk.box, hk.row, hk.map⟩) (by omega) ht).mono fun v u hv => ?_
          obtain ⟨rfl, rfl⟩ := hv
          refine ⟨_, _, rfl, GOps.sim ?_⟩
          refine GOps.done (hK _ ?_); clear hK K
          refine End.kp [6, 7] ?_
          refine Run.ret (hQ _ _ ⟨.inr rfl, _, rfl, _, rfl, ?_⟩)
          rw [hE]
          exact ⟨rfl, rfl⟩
        · have hb3 : ¬ a = b := fun h => by simp [h] at hb
          rw [if_neg hb3] at hE
          obtain ⟨h1, h1i⟩ := mkTable_after n m a (l.take n) ht
          have s1 := h1.small hm2 (by omega)
          have h1m := h1.most
          obtain ⟨h2, h2i⟩ := mkTable_after n (mkTable n m a (l.take n)).2 b (l.take n) (fun x hx => h1.up (ht x hx))
          have s2 := h2.small s1 (by omega)
          have h2m := h2.most
          have hyi := h2.up (h1.up (getD_in hin n))
          have hxi := h2.up h1i
          generalize h1e : mkTable n m a (l.take n) = X1 at *
          obtain ⟨x1, m1⟩ := X1
          simp only at *
          generalize h2e : mkTable n m1 b (l.take n) = X2 at *
          obtain ⟨x2, m2⟩ := X2
          simp only at *
          have hgy := ints_get l n (by omega)
          generalize l.getD n 0 = y at *
          have hP3 := fun (u : Frs) (hu : MkAt u (d + 1) j r q m2) => mpair_ok y x1 (flipL y) x2 m2 s2 u (d + 1) j r q hu (by omega) hyi hxi (flip_in hyi) h2i
          have hsm2 := s2.ands
          have hsm3 := s2.inn
          have hsm4 := s2.regs
          unfold InM LMk.top LMk.first at hyi
          generalize mkPair m2 y x1 (flipL y) x2 = X3 at *
          obtain ⟨p, m3⟩ := X3
          simp only at *
          refine Run.skip ?_
          refine End.kp [0, 2, 8, 12, 13] ?_
          refine Run.seq ?_
          have fx := And.intro hnl (And.intro hgy (And.intro hT (And.intro w3 (And.intro w2 (And.intro (@Int.toNat_natCast) (And.intro (@Int.natCast_nonneg) (And.intro hB (And.intro hA (And.intro hh0 (And.intro u4 (And.intro u3 (And.intro u2 (And.intro u1 (And.intro wsub (And.intro hn2 (And.intro hn1 (And.intro htake (And.intro hslice (And.intro hH0 (And.intro w1 (And.intro hn0 (And.intro hll ft))))))))))))))))))))))
          refine Run.region rfl fun K hK => GOps.sim ?_
          refine GOps.call rfl rfl rfl rfl (by kernel_rfl) (ACalls.sim ?_)
          refine (ih a (l.take n) (by rw [List.length_take]; omega) m hm2 _ (d + 1) j r q (by exact ⟨hk.box, hk.row, hk.map⟩) (by omega) ht).mono fun v u hv => ?_
          obtain ⟨rfl, rfl⟩ := hv
          rw [h1e]
          have fx := And.intro hnl (And.intro hgy (And.intro hT (And.intro w3 (And.intro w2 (And.intro (@Int.toNat_natCast) (And.intro (@Int.natCast_nonneg) (And.intro hB (And.intro hA (And.intro hh0 (And.intro u4 (And.intro u3 (And.intro u2 (And.intro u1 (And.intro wsub (And.intro hn2 (And.intro hn1 (And.intro htake (And.intro hslice (And.intro hH0 (And.intro w1 (And.intro hn0 (And.intro hll ft))))))))))))))))))))))
          refine ⟨_, _, rfl, GOps.sim ?_⟩
          refine GOps.done (hK _ ?_); clear hK K
          refine End.kp [0, 2, 8, 13, 14, 15] ?_
          refine Run.seq ?_
          refine Run.region rfl fun K hK => GOps.sim ?_
          refine GOps.call rfl rfl rfl rfl (by kernel_rfl) (ACalls.sim ?_)
          refine (ih b (l.take n) (by rw [List.length_take]; omega) m1 s1 _ (d + 1) j r q (by have hh := setMk_at (m' := m1) hk; exact ⟨hh.box, hh.row, hh.map⟩) (by omega) (fun x hx => h1.up (ht x hx))).mono fun v u hv => ?_
          obtain ⟨rfl, rfl⟩ := hv
          rw [h2e]
          have fx := And.intro hnl (And.intro hgy (And.intro hT (And.intro w3 (And.intro w2 (And.intro (@Int.toNat_natCast) (And.intro (@Int.natCast_nonneg) (And.intro hB (And.intro hA (And.intro hh0 (And.intro u4 (And.intro u3 (And.intro u2 (And.intro u1 (And.intro wsub (And.intro hn2 (And.intro hn1 (And.intro htake (And.intro hslice (And.intro hH0 (And.intro w1 (And.intro hn0 (And.intro hll ft))))))))))))))))))))))
          refine ⟨_, _, rfl, GOps.sim ?_⟩
          refine GOps.done (hK _ ?_); clear hK K
          refine End.kp [0, 2, 8, 14, 15, 16, 17] ?_
          refine Run.seq ?_
          refine Run.seq ?_
          refine Run.go ?_
          refine End.kp [0, 2, 8, 14, 16, 85] ?_
          refine Run.cond _ rfl (fun hb => ?_) (fun hb => ?_)
          · have hb4 := hb
            simp at hb
          · have hb4 := hb
            refine Run.skip ?_
            refine End.kp [0, 2, 8, 14, 16] ?_
            refine Run.seq ?_
            have fx := And.intro hnl (And.intro hgy (And.intro hT (And.intro w3 (And.intro w2 (And.intro (@Int.toNat_natCast) (And.intro (@Int.natCast_nonneg) (And.intro hB (And.intro hA (And.intro hh0 (And.intro u4 (And.intro u3 (And.intro u2 (And.intro u1 (And.intro wsub (And.intro hn2 (And.intro hn1 (And.intro htake (And.intro hslice (And.intro hH0 (And.intro w1 (And.intro hn0 (And.intro hll ft))))))))))))))))))))))
            refine Run.drawA fun K hK => ?_
            refine DOps.sim ?_
            refine DOps.call (.i (flipL y)) [] [] rfl rfl rfl rfl (by kernel_rfl) (by simp [Agree]) (fun u hu => Not_ok y (by omega) (by omega) u) ?_
            refine DOps.sim ?_
            refine DOps.call (.tup [.i p, .im (.bool true)]) [((d + 1, j), mkBox r q m2), ((d + 1, r), mkRow m2), ((d + 1, q), mkMap m2)] [((d + 1, j), mkBox r q m3), ((d + 1, r), mkRow m3), ((d + 1, q), mkMap m3)] rfl rfl rfl rfl (by kernel_rfl) (by have hh := setMk_at (m' := m2) (setMk_at (m' := m1) hk); intro x hx; simp only [List.mem_cons, List.not_mem_nil, or_false] at hx; rcases hx with rfl | rfl | rfl; exact hh.box; exact hh.row; exact hh.map) (fun u hu => hP3 u ⟨hu ((d + 1, j), mkBox r q m2) (by simp), hu ((d + 1, r), mkRow m2) (by simp), hu ((d + 1, q), mkMap m2) (by simp)⟩) ?_
            refine DOps.sim ?_
            refine DOps.nil (by rfl) (hK _ ?_); clear hK K
            refine End.kp [6, 7] ?_
            refine Run.ret (hQ _ _ ⟨.inr rfl, _, rfl, _, rfl, ?_⟩)
            rw [hE]
            exact ⟨rfl, by have h1 := setMk_at (m' := m1) hk; show setMk (setMk (setMk up d j r q m1) d j r q m2) d j r q m3 = _; rw [setMk_set h1, setMk_set hk]⟩
  · have hb0 := of_decide_eq_false hb
    have hZ : onesT N = 18446744073709551615 := by rw [show N = 6 by omega]; decide +kernel
    have hT6 : bits .and .u64 t 18446744073709551615 = T := by rw [← hZ]; exact hT
    refine Run.skip ?_
    refine End.kp [0, 1, 2, 8, 9] ?_
    refine Run.seq ?_
    refine Run.seq ?_
    have fx := And.intro hT6 (And.intro (@Int.toNat_natCast) (And.intro (@Int.natCast_nonneg) (And.intro hB (And.intro hA (And.intro hh0 (And.intro u4 (And.intro u3 (And.intro u2 (And.intro u1 (And.intro wsub (And.intro hn2 (And.intro hn1 (And.intro htake (And.intro hslice (And.intro hH0 (And.intro w1 (And.intro hn0 (And.intro hll ft))))))))))))))))))
    refine Run.go ?_
    refine End.kp [0, 1, 2, 8, 9, 28] ?_
    refine Run.block ?_
    refine Run.seq ?_
    refine Run.go ?_
    refine End.kp [0, 1, 2, 8, 9, 28, 29] ?_
    refine Run.cond _ rfl (fun hb => ?_) (fun hb => ?_)
    · have hb1 := eq_of_beq hb
      refine Run.seq ?_
      have fx := And.intro hT6 (And.intro (@Int.toNat_natCast) (And.intro (@Int.natCast_nonneg) (And.intro hB (And.intro hA (And.intro hh0 (And.intro u4 (And.intro u3 (And.intro u2 (And.intro u1 (And.intro wsub (And.intro hn2 (And.intro hn1 (And.intro htake (And.intro hslice (And.intro hH0 (And.intro w1 (And.intro hn0 (And.intro hll ft))))))))))))))))))
      refine Run.go ?_
      refine End.kp [6, 7] ?_
      refine Run.ret (hQ _ _ ⟨.inr rfl, _, rfl, _, rfl, ?_⟩)
      rw [mkTable, ← hN, hT, if_pos hb1]
      exact ⟨rfl, hkk.symm⟩
    · have hb1 : ¬ T = 0 := fun h => by simp [h] at hb
      refine Run.seq ?_
      have fx := And.intro hT6 (And.intro (@Int.toNat_natCast) (And.intro (@Int.natCast_nonneg) (And.intro hB (And.intro hA (And.intro hh0 (And.intro u4 (And.intro u3 (And.intro u2 (And.intro u1 (And.intro wsub (And.intro hn2 (And.intro hn1 (And.intro htake (And.intro hslice (And.intro hH0 (And.intro w1 (And.intro hn0 (And.intro hll ft))))))))))))))))))
      refine Run.go ?_
      refine End.kp [0, 1, 2, 8, 31] ?_
      refine Run.cond _ rfl (fun hb => ?_) (fun hb => ?_)
      · have hb2 := eq_of_beq hb
        refine Run.seq ?_
        have fx := And.intro hT6 (And.intro (@Int.toNat_natCast) (And.intro (@Int.natCast_nonneg) (And.intro hB (And.intro hA (And.intro hh0 (And.intro u4 (And.intro u3 (And.intro u2 (And.intro u1 (And.intro wsub (And.intro hn2 (And.intro hn1 (And.intro htake (And.intro hslice (And.intro hH0 (And.intro w1 (And.intro hn0 (And.intro hll ft))))))))))))))))))
        refine Run.go ?_
        refine End.kp [6, 7] ?_
        refine Run.ret (hQ _ _ ⟨.inr rfl, _, rfl, _, rfl, ?_⟩)
        rw [mkTable, ← hN, hT, if_neg hb1, if_pos (by rw [hZ]; exact hb2)]
        exact ⟨rfl, hkk.symm⟩
      · have hb2 : ¬ T = onesT N := fun h => by first | (rw [h] at hb; simp at hb; done) | (rw [h, hZ] at hb; simp at hb; done)
        have hE : mkTable (n + 1) m t l = if a = b then mkTable n m b (l.take n) else mkPair (mkTable n (mkTable n m a (l.take n)).2 b (l.take n)).2 (l.getD n 0) (mkTable n m a (l.take n)).1 (flipL (l.getD n 0)) (mkTable n (mkTable n m a (l.take n)).2 b (l.take n)).1 := by
          rw [mkTable, ← hN, hT, if_neg hb1, if_neg hb2, hA2, hB]
        refine Run.skip ?_
        refine End.blk ?_
        refine End.kp [0, 1, 2, 8] ?_
        refine Run.seq ?_
        have fx := And.intro hT6 (And.intro (@Int.toNat_natCast) (And.intro (@Int.natCast_nonneg) (And.intro hB (And.intro hA (And.intro hh0 (And.intro u4 (And.intro u3 (And.intro u2 (And.intro u1 (And.intro wsub (And.intro hn2 (And.intro hn1 (And.intro htake (And.intro hslice (And.intro hH0 (And.intro w1 (And.intro hn0 (And.intro hll ft))))))))))))))))))
        refine Run.go ?_
        refine End.kp [0, 1, 2, 8, 10] ?_
        refine Run.seq ?_
        refine Run.go ?_
        refine End.kp [0, 1, 2, 8, 10, 11] ?_
        refine Run.seq ?_
        refine Run.go ?_
        refine End.kp [0, 2, 8, 12, 13] ?_
        refine Run.seq ?_
        refine Run.seq ?_
        refine Run.go ?_
        refine End.kp [0, 2, 8, 12, 13, 50] ?_
        refine Run.cond _ rfl (fun hb => ?_) (fun hb => ?_)
        · have hb3 := eq_of_beq hb
          rw [hb3, if_pos rfl] at hE
          refine Run.seq ?_
          have fx := And.intro hT6 (And.intro (@Int.toNat_natCast) (And.intro (@Int.natCast_nonneg) (And.intro hB (And.intro hA (And.intro hh0 (And.intro u4 (And.intro u3 (And.intro u2 (And.intro u1 (And.intro wsub (And.intro hn2 (And.intro hn1 (And.intro htake (And.intro hslice (And.intro hH0 (And.intro w1 (And.intro hn0 (And.intro hll ft))))))))))))))))))
          refine Run.region rfl fun K hK => GOps.sim ?_
          refine GOps.call rfl rfl rfl rfl (by kernel_rfl) (ACalls.sim ?_)
          refine (ih b (l.take n) (by rw [List.length_take]; omega) m hm2 _ (d + 1) j r q (by exact ⟨hk.box, hk.row, hk.map⟩) (by omega) ht).mono fun v u hv => ?_
          obtain ⟨rfl, rfl⟩ := hv
          refine ⟨_, _, rfl, GOps.sim ?_⟩
          refine GOps.done (hK _ ?_); clear hK K
          refine End.kp [6, 7] ?_
          refine Run.ret (hQ _ _ ⟨.inr rfl, _, rfl, _, rfl, ?_⟩)
          rw [hE]
          exact ⟨rfl, rfl⟩
        · have hb3 : ¬ a = b := fun h => by simp [h] at hb
          rw [if_neg hb3] at hE
          obtain ⟨h1, h1i⟩ := mkTable_after n m a (l.take n) ht
          have s1 := h1.small hm2 (by omega)
          have h1m := h1.most
          obtain ⟨h2, h2i⟩ := mkTable_after n (mkTable n m a (l.take n)).2 b (l.take n) (fun x hx => h1.up (ht x hx))
          have s2 := h2.small s1 (by omega)
          have h2m := h2.most
          have hyi := h2.up (h1.up (getD_in hin n))
          have hxi := h2.up h1i
          generalize h1e : mkTable n m a (l.take n) = X1 at *
          obtain ⟨x1, m1⟩ := X1
          simp only at *
          generalize h2e : mkTable n m1 b (l.take n) = X2 at *
          obtain ⟨x2, m2⟩ := X2
          simp only at *
          have hgy := ints_get l n (by omega)
          generalize l.getD n 0 = y at *
          have hP3 := fun (u : Frs) (hu : MkAt u (d + 1) j r q m2) => mpair_ok y x1 (flipL y) x2 m2 s2 u (d + 1) j r q hu (by omega) hyi hxi (flip_in hyi) h2i
          have hsm2 := s2.ands
          have hsm3 := s2.inn
          have hsm4 := s2.regs
          unfold InM LMk.top LMk.first at hyi
          generalize mkPair m2 y x1 (flipL y) x2 = X3 at *
          obtain ⟨p, m3⟩ := X3
          simp only at *
          refine Run.skip ?_
          refine End.kp [0, 2, 8, 12, 13] ?_
          refine Run.seq ?_
          have fx := And.intro hnl (And.intro hgy (And.intro hT6 (And.intro (@Int.toNat_natCast) (And.intro (@Int.natCast_nonneg) (And.intro hB (And.intro hA (And.intro hh0 (And.intro u4 (And.intro u3 (And.intro u2 (And.intro u1 (And.intro wsub (And.intro hn2 (And.intro hn1 (And.intro htake (And.intro hslice (And.intro hH0 (And.intro w1 (And.intro hn0 (And.intro hll ft))))))))))))))))))))
          refine Run.region rfl fun K hK => GOps.sim ?_
          refine GOps.call rfl rfl rfl rfl (by kernel_rfl) (ACalls.sim ?_)
          refine (ih a (l.take n) (by rw [List.length_take]; omega) m hm2 _ (d + 1) j r q (by exact ⟨hk.box, hk.row, hk.map⟩) (by omega) ht).mono fun v u hv => ?_
          obtain ⟨rfl, rfl⟩ := hv
          rw [h1e]
          have fx := And.intro hnl (And.intro hgy (And.intro hT6 (And.intro (@Int.toNat_natCast) (And.intro (@Int.natCast_nonneg) (And.intro hB (And.intro hA (And.intro hh0 (And.intro u4 (And.intro u3 (And.intro u2 (And.intro u1 (And.intro wsub (And.intro hn2 (And.intro hn1 (And.intro htake (And.intro hslice (And.intro hH0 (And.intro w1 (And.intro hn0 (And.intro hll ft))))))))))))))))))))
          refine ⟨_, _, rfl, GOps.sim ?_⟩
          refine GOps.done (hK _ ?_); clear hK K
          refine End.kp [0, 2, 8, 13, 14, 15] ?_
          refine Run.seq ?_
          refine Run.region rfl fun K hK => GOps.sim ?_
          refine GOps.call rfl rfl rfl rfl (by kernel_rfl) (ACalls.sim ?_)
          refine (ih b (l.take n) (by rw [List.length_take]; omega) m1 s1 _ (d + 1) j r q (by have hh := setMk_at (m' := m1) hk; exact ⟨hh.box, hh.row, hh.map⟩) (by omega) (fun x hx => h1.up (ht x hx))).mono fun v u hv => ?_
          obtain ⟨rfl, rfl⟩ := hv
          rw [h2e]
          have fx := And.intro hnl (And.intro hgy (And.intro hT6 (And.intro (@Int.toNat_natCast) (And.intro (@Int.natCast_nonneg) (And.intro hB (And.intro hA (And.intro hh0 (And.intro u4 (And.intro u3 (And.intro u2 (And.intro u1 (And.intro wsub (And.intro hn2 (And.intro hn1 (And.intro htake (And.intro hslice (And.intro hH0 (And.intro w1 (And.intro hn0 (And.intro hll ft))))))))))))))))))))
          refine ⟨_, _, rfl, GOps.sim ?_⟩
          refine GOps.done (hK _ ?_); clear hK K
          refine End.kp [0, 2, 8, 14, 15, 16, 17] ?_
          refine Run.seq ?_
          refine Run.seq ?_
          refine Run.go ?_
          refine End.kp [0, 2, 8, 14, 16, 85] ?_
          refine Run.cond _ rfl (fun hb => ?_) (fun hb => ?_)
          · have hb4 := hb
            simp at hb
          · have hb4 := hb
            refine Run.skip ?_
            refine End.kp [0, 2, 8, 14, 16] ?_
            refine Run.seq ?_
            have fx := And.intro hnl (And.intro hgy (And.intro hT6 (And.intro (@Int.toNat_natCast) (And.intro (@Int.natCast_nonneg) (And.intro hB (And.intro hA (And.intro hh0 (And.intro u4 (And.intro u3 (And.intro u2 (And.intro u1 (And.intro wsub (And.intro hn2 (And.intro hn1 (And.intro htake (And.intro hslice (And.intro hH0 (And.intro w1 (And.intro hn0 (And.intro hll ft))))))))))))))))))))
            refine Run.drawA fun K hK => ?_
            refine DOps.sim ?_
            refine DOps.call (.i (flipL y)) [] [] rfl rfl rfl rfl (by kernel_rfl) (by simp [Agree]) (fun u hu => Not_ok y (by omega) (by omega) u) ?_
            refine DOps.sim ?_
            refine DOps.call (.tup [.i p, .im (.bool true)]) [((d + 1, j), mkBox r q m2), ((d + 1, r), mkRow m2), ((d + 1, q), mkMap m2)] [((d + 1, j), mkBox r q m3), ((d + 1, r), mkRow m3), ((d + 1, q), mkMap m3)] rfl rfl rfl rfl (by kernel_rfl) (by have hh := setMk_at (m' := m2) (setMk_at (m' := m1) hk); intro x hx; simp only [List.mem_cons, List.not_mem_nil, or_false] at hx; rcases hx with rfl | rfl | rfl; exact hh.box; exact hh.row; exact hh.map) (fun u hu => hP3 u ⟨hu ((d + 1, j), mkBox r q m2) (by simp), hu ((d + 1, r), mkRow m2) (by simp), hu ((d + 1, q), mkMap m2) (by simp)⟩) ?_
            refine DOps.sim ?_
            refine DOps.nil (by rfl) (hK _ ?_); clear hK K
            refine End.kp [6, 7] ?_
            refine Run.ret (hQ _ _ ⟨.inr rfl, _, rfl, _, rfl, ?_⟩)
            rw [hE]
            exact ⟨rfl, by have h1 := setMk_at (m' := m1) hk; show setMk (setMk (setMk up d j r q m1) d j r q m2) d j r q m3 = _; rw [setMk_set h1, setMk_set hk]⟩
end Go.Proofs.YtkmnmokjlpenhaaPi

/- Merged: WGI WGJ WGK. -/
/- The walks of Table, Graph of makers. -/
set_option linter.unusedVariables false
set_option linter.unusedSimpArgs false
set_option maxRecDepth 100000
namespace Go.Proofs.YtkmnmokjlpenhaaPi
set_option maxHeartbeats 4000000
theorem mtable_all : ∀ n : Nat, n ≤ 6 → TableIH n
  | 0, _ => fun t l hl m hm up d j r q hk _ _ => mtable_zero t l hl m hm up d j r q hk
  | n + 1, h => fun t l hl m hm up d j r q hk hc hin => mtable_succ n (by omega) (mtable_all n (by omega)) t l hl m hm up d j r q hk hc hin
theorem mTable_ok (n : Nat) (hn : n ≤ 6) (t : Int) (l : List Int) (hl : l.length = n) (m : LMk) (hm : MkSmall m) (up : Frs) (d j r q : Nat) (hk : MkAt up d j r q m) (hc : m.ands.length + capT n ≤ 4000) (hin : ∀ x ∈ l, InM m x) : ACalls Try.prog 63 [.ptr d j 0, .u t, .im (.sl (ints l))] up fun v u => v = .i (mkTable n m t l).1 ∧ u = setMk up d j r q (mkTable n m t l).2 := by
  have hm2 := hm
  have hll : (ints l).length = n := by rw [ints_len, hl]
  have d1 : decide ((n : Int) > 6) = false := decide_eq_false (by omega)
  refine ACalls.code Try.func63 rfl 44 rfl (by simp) [.tmp 6] rfl fun Q hQ => ?_
  simp only [ups, PV.up, argEnv]
  have ft := And.intro ty_3 (And.intro ty_4 (And.intro ty_34 (And.intro ty_37 (And.intro ty_49 (And.intro ty_62 (And.intro ty_109 trivial))))))
  refine Run.seq ?_
  have fx := And.intro d1 (And.intro hll ft)
  refine Run.go ?_
  refine End.kp [0, 1, 2] ?_
  refine Run.seq ?_
  refine Run.seq ?_
  refine Run.go ?_
  refine End.kp [0, 1, 2, 13] ?_
  refine Run.cond _ rfl (fun hb => ?_) (fun hb => ?_)
  · have hb0 := hb
    simp at hb
  · have hb0 := hb
    refine Run.skip ?_
    refine End.kp [0, 1, 2] ?_
    refine Run.seq ?_
    refine Run.seq ?_
    have fx := And.intro d1 (And.intro hll ft)
    refine Run.go ?_
    refine End.kp [0, 1, 2, 16, 17, 18] ?_
    refine Run.block ?_
    refine Run.ghost (Ghost.form [(0, .ptr (d + 1) j 0), (1, .u t), (2, .im (.sl (ints l))), (16, .im (.sl (ints l))), (17, .i n), (18, .i (0 : Nat))] 0 ⟨rfl, rfl, rfl, rfl, rfl, rfl, trivial⟩ rfl rfl) ?_
    refine Run.loop (fun m' st => ∃ k : Nat, m' = n - k ∧ k ≤ n ∧ st = ⟨[(0, .ptr (d + 1) j 0), (1, .u t), (2, .im (.sl (ints l))), (16, .im (.sl (ints l))), (17, .i n), (18, .i (k : Nat))], [], up⟩) n ⟨0, rfl, by omega, rfl⟩ fun m' st hI => ?_
    obtain ⟨k, rfl, hk', rfl⟩ := hI
    refine Run.seq ?_
    have fx := And.intro d1 (And.intro hll ft)
    refine Run.go ?_
    refine End.kp [0, 1, 2, 16, 17, 18, 19] ?_
    refine Run.seq ?_
    refine Run.cond _ rfl (fun hb => ?_) (fun hb => ?_)
    · have hb2 := of_decide_eq_true hb
      have hin' : k < n := by omega
      have wk := wsucc hin' (by omega)
      obtain ⟨x, hxi, hxm, hx⟩ := int_at l k (by omega)
      have hxin := hin x hxm
      unfold InM LMk.top LMk.first at hxin
      have hkl : (k : Int) < (n : Int) := by omega
      refine Run.skip ?_
      refine End.kp [0, 1, 2, 16, 17, 18] ?_
      refine Run.seq ?_
      refine Run.block ?_
      refine Run.seq ?_
      have fx := And.intro (@Int.toNat_natCast) (And.intro (@Int.natCast_nonneg) (And.intro hkl (And.intro hx (And.intro wk (And.intro d1 (And.intro hll ft))))))
      refine Run.go ?_
      refine End.kp [0, 1, 2, 7, 8, 16, 17, 18] ?_
      refine Run.seq ?_
      rcases Bool.eq_false_or_eq_true (depV t n k) with hs6 | hs6
      · skip
        have fx := And.intro hs6 (And.intro (@Int.toNat_natCast) (And.intro (@Int.natCast_nonneg) (And.intro hkl (And.intro hx (And.intro wk (And.intro d1 (And.intro hll ft)))))))
        refine Run.region rfl fun K hK => GOps.sim ?_
        refine GOps.call rfl rfl rfl rfl (by kernel_rfl) (ACalls.sim ?_)
        refine (depends_ok t n hn k (by omega) _).mono fun v u hv => ?_
        obtain ⟨rfl, rfl⟩ := hv
        refine ⟨_, _, rfl, GOps.sim ?_⟩
        refine GOps.call rfl rfl rfl rfl (by kernel_rfl) (ACalls.sim ?_)
        refine (mknown_ok m hm2 _ (d + 1) j r q (by exact ⟨hk.box, hk.row, hk.map⟩) [x] (fun y hy => by simp at hy; subst hy; omega) (by simp)).mono fun v u hv => ?_
        obtain ⟨rfl, rfl⟩ := hv
        refine ⟨_, _, rfl, GOps.sim ?_⟩
        refine GOps.done (hK _ ?_); clear hK K
        refine End.kp [0, 1, 2, 16, 17, 18, 34] ?_
        refine Run.cond _ rfl (fun hb => ?_) (fun hb => ?_)
        · have hb2 := hb
          simp at hb
        · have hb2 := hb
          refine Run.skip ?_
          refine End.blk ?_
          refine End.kp [0, 1, 2, 16, 17, 18] ?_
          have fx := And.intro hs6 (And.intro (@Int.toNat_natCast) (And.intro (@Int.natCast_nonneg) (And.intro hkl (And.intro hx (And.intro wk (And.intro d1 (And.intro hll ft)))))))
          refine Run.go ?_
          refine End.lp ?_
          refine ⟨n - (k + 1), _, by omega, Ghost.form [(0, .ptr (d + 1) j 0), (1, .u t), (2, .im (.sl (ints l))), (16, .im (.sl (ints l))), (17, .i n), (18, .i (k + 1 : Nat))] 0 ⟨rfl, rfl, rfl, rfl, rfl, rfl, trivial⟩ rfl rfl, k + 1, rfl, by omega, rfl⟩
      · skip
        have fx := And.intro hs6 (And.intro (@Int.toNat_natCast) (And.intro (@Int.natCast_nonneg) (And.intro hkl (And.intro hx (And.intro wk (And.intro d1 (And.intro hll ft)))))))
        refine Run.region rfl fun K hK => GOps.sim ?_
        refine GOps.call rfl rfl rfl rfl (by kernel_rfl) (ACalls.sim ?_)
        refine (depends_ok t n hn k (by omega) _).mono fun v u hv => ?_
        obtain ⟨rfl, rfl⟩ := hv
        refine ⟨_, _, rfl, GOps.sim ?_⟩
        refine GOps.done (hK _ ?_); clear hK K
        refine End.kp [0, 1, 2, 16, 17, 18, 34] ?_
        refine Run.cond _ rfl (fun hb => ?_) (fun hb => ?_)
        · have hb2 := hb
          simp at hb
        · have hb2 := hb
          refine Run.skip ?_
          refine End.blk ?_
          refine End.kp [0, 1, 2, 16, 17, 18] ?_
          have fx := And.intro hs6 (And.intro (@Int.toNat_natCast) (And.intro (@Int.natCast_nonneg) (And.intro hkl (And.intro hx (And.intro wk (And.intro d1 (And.intro hll ft)))))))
          refine Run.go ?_
          refine End.lp ?_
          refine ⟨n - (k + 1), _, by omega, Ghost.form [(0, .ptr (d + 1) j 0), (1, .u t), (2, .im (.sl (ints l))), (16, .im (.sl (ints l))), (17, .i n), (18, .i (k + 1 : Nat))] 0 ⟨rfl, rfl, rfl, rfl, rfl, rfl, trivial⟩ rfl rfl, k + 1, rfl, by omega, rfl⟩
    · have hb2 := of_decide_eq_false hb
      refine Run.exit rfl ?_
      refine End.kp [0, 1, 2] ?_
      refine Run.seq ?_
      have fx := And.intro d1 (And.intro hll ft)
      refine Run.region rfl fun K hK => GOps.sim ?_
      refine GOps.call rfl rfl rfl rfl (by kernel_rfl) (ACalls.sim ?_)
      refine (mtable_all n hn t l hl m hm2 _ (d + 1) j r q (by exact ⟨hk.box, hk.row, hk.map⟩) hc hin).mono fun v u hv => ?_
      obtain ⟨rfl, rfl⟩ := hv
      refine ⟨_, _, rfl, GOps.sim ?_⟩
      refine GOps.done (hK _ ?_); clear hK K
      refine End.kp [9] ?_
      refine Run.seq ?_
      refine Run.go ?_
      refine End.kp [6] ?_
      refine Run.ret (hQ _ _ ⟨.inr rfl, _, rfl, _, rfl, ?_⟩)
      exact ⟨rfl, rfl⟩
end Go.Proofs.YtkmnmokjlpenhaaPi

/- The walks of Next, Words of a stream without numbers. -/
set_option linter.unusedVariables false
set_option linter.unusedSimpArgs false
namespace Go.Proofs.YtkmnmokjlpenhaaPi
set_option maxHeartbeats 4000000
end Go.Proofs.YtkmnmokjlpenhaaPi

/- The walk of GraphTables. -/
set_option linter.unusedVariables false
set_option linter.unusedSimpArgs false
namespace Go.Proofs.YtkmnmokjlpenhaaPi
set_option maxHeartbeats 4000000
theorem mkAnd_bad (m : LMk) (a b : Int) : (mkAnd m a b).2.bad = m.bad := by
  unfold mkAnd
  split
  · rfl
  · split
    · rfl
    · split <;> rfl
theorem mkTable_bad : ∀ (n : Nat) (m : LMk) (t : Int) (l : List Int), (mkTable n m t l).2.bad = m.bad
  | 0, m, t, l => by unfold mkTable; split <;> rfl
  | n + 1, m, t, l => by
    rw [mkTable]
    split
    · rfl
    split
    · rfl
    split
    · exact mkTable_bad n _ _ _
    · simp only [mkPair, mkAnd_bad, mkTable_bad n]
end Go.Proofs.YtkmnmokjlpenhaaPi

/- Merged: PTidyA PTidyB PTab. -/
/- Plain law: Clean and Strash of graphs keep what a graph shows. -/
set_option linter.unusedVariables false
set_option linter.unusedSimpArgs false
namespace Go.Proofs.YtkmnmokjlpenhaaPi

/-- Lane 0 of a literal. -/
def lb (v : List Int) (l : Int) : Bool := bit0 (ofV v l)
theorem lb_litB (v : List Int) (l : Int) : lb v l = (litB v l).getLsbD 0 := by
  rw [← bv_of]; rfl
theorem lb_flip (v : List Int) (l : Int) (h : 0 ≤ l) : lb v (flipL l) = !lb v l := by
  rw [lb_litB, lb_litB, litB_flip v l h]
  simp
theorem lb_def (v : List Int) (l : Int) : lb v l = if l % 2 = 1 then !bit0 (v.getD (l / 2).toNat 0) else bit0 (v.getD (l / 2).toNat 0) := by
  unfold lb ofV
  split
  · rw [vnot, bit0_not]
  · rfl
theorem lb_even (v : List Int) (k : Nat) : lb v (2 * (k : Int)) = bit0 (v.getD k 0) := by
  rw [lb_def, if_neg (by omega), show (2 * (k : Int) / 2).toNat = k by omega]
theorem lb_app (v w : List Int) (l : Int) (h0 : 0 ≤ l) (h : l < 2 * (v.length : Int)) : lb (v ++ w) l = lb v l := by
  have e : (v ++ w).getD (l / 2).toNat 0 = v.getD (l / 2).toNat 0 := by
    simp only [List.getD_eq_getElem?_getD]
    rw [List.getElem?_append_left (by omega)]
  rw [lb_def, lb_def, e]
theorem lb_at {v v' to : List Int} (l : Int) (h0 : 0 ≤ to.getD (l / 2).toNat 0) (h : lb v' (to.getD (l / 2).toNat 0) = bit0 (v.getD (l / 2).toNat 0)) : lb v' (atV to l) = lb v l := by
  rw [lb_def v l]
  unfold atV
  split
  · rw [lb_flip _ _ h0, h]
  · exact h
theorem valsA_snoc (p : Int × Int) : ∀ (ps : List (Int × Int)) (v : List Int), valsA (ps ++ [p]) v = valsA ps v ++ [bits .and .u64 (ofV (valsA ps v) p.1) (ofV (valsA ps v) p.2)]
  | [], v => rfl
  | q :: ps, v => by
    rw [List.cons_append, valsA, valsA_snoc p ps, valsA]
theorem lb_last (w : List Int) (a b : Int) : lb (w ++ [bits .and .u64 (ofV w a) (ofV w b)]) (2 * (w.length : Int)) = (lb w a && lb w b) := by
  rw [lb_even]
  simp [bit0_and, lb]
theorem same0_mapM {α : Type} (l : List α) (f f' : α → Int) (h : ∀ x ∈ l, bit0 (f x) = bit0 (f' x)) : same0 (l.map f) (l.map f') := by
  refine ⟨by simp, fun k => ?_⟩
  simp only [List.getD_eq_getElem?_getD, List.getElem?_map]
  cases hk : l[k]? with
  | none => rfl
  | some x => exact h x (List.mem_of_getElem? hk)
theorem runG_moved (g : LGraph) (ands : List (Int × Int)) (to : List Int)
    (H : ∀ inn st : List Int, inn.length = g.inn.length → st.length = g.regs.length → ∀ l, (l ∈ g.outs ∨ ∃ r ∈ g.regs, l = r.next) → lb (graphVals (movedG g ands to) inn st) (atV to l) = lb (graphVals g inn st) l) :
    ∀ (t : List (List Bool)) (st : List Int), (∀ r ∈ t, r.length = g.inn.length) → st.length = g.regs.length → runG (movedG g ands to) st t = runG g st t
  | [], st, _, _ => rfl
  | r :: t, st, hr, hst => by
    have h1 := H (lanes0 r) st (by simpa using hr r (by simp)) hst
    generalize hv' : graphVals (movedG g ands to) (lanes0 r) st = v' at h1
    generalize hv : graphVals g (lanes0 r) st = v at h1
    simp only [runG, hv, hv']
    have e1 : laneB (outsG (movedG g ands to) v') = laneB (outsG g v) := by
      rw [laneB_bit0, laneB_bit0]
      simp only [outsG, movedG, List.map_map]
      exact List.map_congr_left fun x hx => h1 x (.inl hx)
    have e2 : same0 (nextsG (movedG g ands to) v') (nextsG g v) := by
      simp only [nextsG, movedG, List.map_map]
      exact same0_mapM g.regs _ _ fun x hx => h1 x.next (.inr ⟨x, hx, rfl⟩)
    rw [e1, runG_same _ t e2, runG_moved g ands to H t (nextsG g v) (fun x hx => hr x (by simp [hx])) (by simp [nextsG])]
theorem runI_moved (g : LGraph) (ands : List (Int × Int)) (to : List Int)
    (H : ∀ inn st : List Int, inn.length = g.inn.length → st.length = g.regs.length → ∀ l, (l ∈ g.outs ∨ ∃ r ∈ g.regs, l = r.next) → lb (graphVals (movedG g ands to) inn st) (atV to l) = lb (graphVals g inn st) l)
    (t : List (List Bool)) (hr : ∀ r ∈ t, r.length = g.inn.length) : runI (movedG g ands to) t = runI g t := by
  have e : initG (movedG g ands to) = initG g := by simp [initG, movedG]
  rw [runI, runI, e]
  exact runG_moved g ands to H t _ hr (by simp)
/-- The node's value. -/
theorem node_lb {g : LGraph} (hg : GraphOk g) {inn st : List Int} (h1 : inn.length = g.inn.length) (h2 : st.length = g.regs.length) (i : Nat) (p : Int × Int) (hp : g.ands[i]? = some p) : bit0 ((graphVals g inn st).getD (1 + g.inn.length + g.regs.length + i) 0) = (lb (graphVals g inn st) p.1 && lb (graphVals g inn st) p.2) := by
  have h := g_and hg h1 h2 i p hp
  rw [← lb_even, show (2 * ((1 + g.inn.length + g.regs.length + i : Nat) : Int)) = 2 * (1 + (g.inn.length : Int) + g.regs.length + i) by omega, lb_litB, h, lb_litB, lb_litB]
  simp
theorem movedG_ok {g : LGraph} (hg : GraphOk g) (ands : List (Int × Int)) (to : List Int) (h1 : ands.length ≤ 4000)
    (h2 : ∀ (i : Nat) (p : Int × Int), ands[i]? = some p → (0 ≤ p.1 ∧ p.1 < 2 * (1 + (g.inn.length : Int) + g.regs.length + i)) ∧ 0 ≤ p.2 ∧ p.2 < 2 * (1 + (g.inn.length : Int) + g.regs.length + i))
    (h3 : ∀ x ∈ to, 0 ≤ x ∧ x < 2 * (1 + (g.inn.length : Int) + g.regs.length + ands.length)) : GraphOk (movedG g ands to) := by
  have hn : (movedG g ands to).regs.map LReg.name = g.regs.map LReg.name := by simp [movedG]
  have hl : (movedG g ands to).regs.length = g.regs.length := by simp [movedG]
  have hr := fun l => atV_range h3 (by omega) l
  refine ⟨⟨hg.small.inn, hg.small.out, by rw [hl]; exact hg.small.regs, h1, by simp [movedG, hg.small.outs]⟩, ?_, ?_, hg.onames, hg.onodup, by simp [movedG, hg.olen], ?_, ?_, ?_⟩
  · rw [hn]; exact hg.names
  · rw [hn]; exact hg.nodup
  · rw [hl]; exact h2
  · rw [hl]
    intro r hr'
    simp only [movedG, List.mem_map] at hr'
    obtain ⟨r0, _, rfl⟩ := hr'
    exact hr _
  · rw [hl]
    intro x hx
    simp only [movedG, List.mem_map] at hx
    obtain ⟨l, _, rfl⟩ := hx
    exact hr l

/- The cone. -/
theorem set_getD (v : List Bool) (i k : Nat) : (v.set i true).getD k false = if i = k ∧ k < v.length then true else v.getD k false := by
  simp only [List.getD_eq_getElem?_getD, List.getElem?_set]
  by_cases h : i = k
  · subst h
    by_cases h2 : i < v.length
    · simp [h2]
    · simp [h2]
  · simp [h]
theorem set_mono {v : List Bool} {i k : Nat} (h : v.getD k false = true) : (v.set i true).getD k false = true := by
  rw [set_getD]
  split
  · rfl
  · exact h
theorem coneStep_mono (g : LGraph) {v : List Bool} (i : Nat) {k : Nat} (h : v.getD k false = true) : (coneStep g v i).getD k false = true := by
  unfold coneStep
  split
  · exact set_mono (set_mono h)
  · exact h
theorem coneDown_mono (g : LGraph) : ∀ (i : Nat) {v : List Bool} {k : Nat}, v.getD k false = true → (coneDown g i v).getD k false = true
  | 0, _, _, h => h
  | i + 1, _, _, h => coneDown_mono g i (coneStep_mono g i h)
theorem coneRoots_mono : ∀ (roots : List Int) {v : List Bool} {k : Nat}, v.getD k false = true → (coneRoots v roots).getD k false = true
  | [], _, _, h => h
  | l :: t, v, k, h => coneRoots_mono t (v := v.set (l / 2).toNat true) (set_mono h)
theorem coneRoots_in : ∀ (roots : List Int) {v : List Bool} (l : Int), l ∈ roots → (l / 2).toNat < v.length → (coneRoots v roots).getD (l / 2).toNat false = true
  | x :: t, v, l, h, hv => by
    rcases List.mem_cons.1 h with rfl | h
    · exact coneRoots_mono t (v := v.set (l / 2).toNat true) (by rw [set_getD, if_pos ⟨rfl, hv⟩])
    · exact coneRoots_in t (v := v.set (x / 2).toNat true) l h (by simpa using hv)
section
variable {g : LGraph} (hg : GraphOk g)
include hg
theorem coneStep_high (v : List Bool) (i : Nat) (hi : i < g.ands.length) (k : Nat) (hk : 1 + g.inn.length + g.regs.length + i ≤ k) : (coneStep g v i).getD k false = v.getD k false := by
  unfold coneStep
  obtain ⟨p, hp, _, _⟩ := node_at g.ands i hi
  obtain ⟨⟨p1, p2⟩, p3, p4⟩ := hg.ands i p hp
  have e : g.ands.getD i (0, 0) = p := by simp [hp]
  rw [e]
  split
  · rw [set_getD, if_neg (by omega), set_getD, if_neg (by omega)]
  · rfl
theorem coneDown_high : ∀ (i : Nat), i ≤ g.ands.length → ∀ (v : List Bool) (k : Nat), 1 + g.inn.length + g.regs.length + i ≤ k + 1 → (coneDown g i v).getD k false = v.getD k false
  | 0, _, _, _, _ => rfl
  | i + 1, hi, v, k, hk => by
    rw [coneDown, coneDown_high i (by omega) _ k (by omega), coneStep_high hg v i (by omega) k (by omega)]
theorem coneDown_closed : ∀ (i : Nat), i ≤ g.ands.length → ∀ (v : List Bool), v.length = nodesN g → ∀ (j : Nat) (p : Int × Int), j < i → g.ands[j]? = some p → (coneDown g i v).getD (1 + g.inn.length + g.regs.length + j) false = true →
    (coneDown g i v).getD (p.1 / 2).toNat false = true ∧ (coneDown g i v).getD (p.2 / 2).toNat false = true
  | 0, _, _, _, j, _, h, _, _ => absurd h (by omega)
  | i + 1, hi, v, hv, j, p, hj, hp, hn => by
    rw [coneDown] at hn ⊢
    by_cases hji : j < i
    · exact coneDown_closed i (by omega) _ (by rw [coneStep_len, hv]) j p hji hp hn
    have : j = i := by omega
    subst this
    rw [coneDown_high hg j (by omega) _ _ (by omega), coneStep_high hg v j (by omega) _ (by omega)] at hn
    have hlt := (List.getElem?_eq_some_iff.1 hp).1
    obtain ⟨⟨p1, p2⟩, p3, p4⟩ := hg.ands j p hp
    have e : g.ands.getD j (0, 0) = p := by simp [hp]
    have hs : coneStep g v j = (v.set (p.1 / 2).toNat true).set (p.2 / 2).toNat true := by rw [coneStep, if_pos hn, e]
    unfold nodesN at hv
    refine ⟨coneDown_mono g j ?_, coneDown_mono g j ?_⟩
    · rw [hs]
      exact set_mono (by rw [set_getD, if_pos ⟨rfl, by omega⟩])
    · rw [hs, set_getD, if_pos ⟨rfl, by rw [List.length_set]; omega⟩]
/-- What the graph shows needs. -/
theorem cone_closed (j : Nat) (p : Int × Int) (hp : g.ands[j]? = some p) (hn : (coneV g (rootsG g)).getD (1 + g.inn.length + g.regs.length + j) false = true) :
    (coneV g (rootsG g)).getD (p.1 / 2).toNat false = true ∧ (coneV g (rootsG g)).getD (p.2 / 2).toNat false = true :=
  coneDown_closed hg _ (Nat.le_refl _) _ (by rw [coneRoots_len]; simp) j p (List.getElem?_eq_some_iff.1 hp).1 hp hn
theorem cone_root (l : Int) (h : l ∈ rootsG g) : (coneV g (rootsG g)).getD (l / 2).toNat false = true := by
  have := roots_in hg l h
  exact coneDown_mono g _ (coneRoots_in _ l h (by simp [nodesN]; omega))
end

/- Clean. -/
abbrev keptN (g : LGraph) (k : Nat) : Prop := k < 1 + g.inn.length + g.regs.length ∨ (coneV g (rootsG g)).getD k false = true
theorem getD_left {v w : List Int} {k : Nat} (h : k < v.length) : (v ++ w).getD k 0 = v.getD k 0 := by
  simp only [List.getD_eq_getElem?_getD]
  rw [List.getElem?_append_left h]
theorem getD_end (v : List Int) (x : Int) : (v ++ [x]).getD v.length 0 = x := by simp
theorem cleanN_range (g : LGraph) (need : List Bool) : ∀ i : Nat, ((cleanN g need i).1.length ≤ i - (1 + g.inn.length + g.regs.length)) ∧ (∀ x ∈ (cleanN g need i).2.1, 0 ≤ x ∧ x < 2 * (1 + (g.inn.length : Int) + g.regs.length + (cleanN g need i).1.length)) ∧
    ∀ (j : Nat) (p : Int × Int), (cleanN g need i).1[j]? = some p → (0 ≤ p.1 ∧ p.1 < 2 * (1 + (g.inn.length : Int) + g.regs.length + j)) ∧ 0 ≤ p.2 ∧ p.2 < 2 * (1 + (g.inn.length : Int) + g.regs.length + j)
  | 0 => ⟨by simp [cleanN], fun x hx => by simp [cleanN] at hx, fun j p h => by simp [cleanN] at h⟩
  | i + 1 => by
    obtain ⟨h1, h2, h3⟩ := cleanN_range g need i
    rw [cleanN]
    generalize cleanN g need i = C at h1 h2 h3
    obtain ⟨A, T, P⟩ := C
    simp only at h1 h2 h3
    unfold cleanStep
    split
    · refine ⟨by simp only; omega, fun x hx => ?_, h3⟩
      simp only [List.mem_append, List.mem_singleton] at hx ⊢
      rcases hx with hx | rfl
      · exact h2 x hx
      · omega
    · split
      · have hr := fun l => atV_range h2 (by omega) l
        refine ⟨by simp only [List.length_append, List.length_cons, List.length_nil]; omega, fun x hx => ?_, fun j p hp => ?_⟩
        · simp only [List.mem_append, List.mem_singleton, List.length_append, List.length_cons, List.length_nil] at hx ⊢
          rcases hx with hx | rfl
          · have := h2 x hx
            omega
          · omega
        · simp only [List.getElem?_append] at hp
          split at hp
          · exact h3 j p hp
          · rename_i hj
            have hj0 : j - A.length = 0 := by
              have := (List.getElem?_eq_some_iff.1 hp).1
              simp at this
              omega
            rw [hj0] at hp
            simp only [List.getElem?_cons_zero, Option.some.injEq] at hp
            subst hp
            have e1 := hr (g.ands.getD (i - (1 + g.inn.length + g.regs.length)) (0, 0)).1
            have e2 := hr (g.ands.getD (i - (1 + g.inn.length + g.regs.length)) (0, 0)).2
            simp only
            omega
      · refine ⟨by simp only; omega, fun x hx => ?_, h3⟩
        simp only [List.mem_append, List.mem_singleton] at hx ⊢
        rcases hx with hx | rfl
        · exact h2 x hx
        · omega
theorem cleanL_ok {g : LGraph} (hg : GraphOk g) : GraphOk (cleanL g) := by
  obtain ⟨h1, h2, h3⟩ := cleanN_range g (coneV g (rootsG g)) (nodesN g)
  have := hg.small.ands
  exact movedG_ok hg _ _ (by unfold cleanG; unfold nodesN at h1 ⊢; omega) h3 h2
section
variable {g : LGraph} (hg : GraphOk g) {inn st : List Int} (h1 : inn.length = g.inn.length) (h2 : st.length = g.regs.length)
include hg h1 h2
theorem clean_sim : ∀ i : Nat, i ≤ nodesN g → ∀ k, k < i → keptN g k → lb (valsA (cleanN g (coneV g (rootsG g)) i).1 ([0] ++ inn ++ st)) ((cleanN g (coneV g (rootsG g)) i).2.1.getD k 0) = bit0 ((graphVals g inn st).getD k 0)
  | 0, _, k, h, _ => absurd h (by omega)
  | i + 1, hi, k, hk, hkept => by
    have ih := clean_sim i (by omega)
    obtain ⟨a1, a2, a3⟩ := cleanN_range g (coneV g (rootsG g)) i
    obtain ⟨b1, b2, b3⟩ := cleanN_len g (coneV g (rootsG g)) i
    rw [cleanN]
    generalize cleanN g (coneV g (rootsG g)) i = C at ih a1 a2 a3 b1 b2 b3
    obtain ⟨A, T, P⟩ := C
    simp only at ih a1 a2 a3 b1 b2 b3
    have hbl : ([0] ++ inn ++ st).length = 1 + g.inn.length + g.regs.length := by simp; omega
    have hw : (valsA A ([0] ++ inn ++ st)).length = 1 + g.inn.length + g.regs.length + A.length := by rw [valsA_len, hbl]
    unfold nodesN at hi
    unfold cleanStep
    split
    · rename_i hF
      simp only
      by_cases hki : k < i
      · rw [getD_left (by omega)]
        exact ih k hki hkept
      · have : k = i := by omega
        subst this
        have e : (T ++ [2 * (k : Int)]).getD k 0 = 2 * (k : Int) := by rw [← b2]; exact getD_end T _
        rw [e, lb_even, valsA_pre _ _ _ (by omega), graphVals, valsA_pre _ _ _ (by omega)]
    · rename_i hF
      split
      · rename_i hnd
        simp only
        rw [valsA_snoc]
        by_cases hki : k < i
        · rw [getD_left (by omega)]
          have hx : T.getD k 0 ∈ T := by
            rw [List.getD_eq_getElem?_getD, List.getElem?_eq_getElem (by omega)]
            exact List.getElem_mem _
          have := a2 _ hx
          rw [lb_app _ _ _ this.1 (by rw [hw]; omega)]
          exact ih k hki hkept
        · have hk2 : k = i := by omega
          subst hk2
          have e : (T ++ [2 * (1 + (g.inn.length : Int) + g.regs.length + A.length)]).getD k 0 = 2 * ((valsA A ([0] ++ inn ++ st)).length : Int) := by
            rw [← b2, getD_end, hw]
            omega
          rw [e, lb_last]
          obtain ⟨j, hj⟩ : ∃ j, k = 1 + g.inn.length + g.regs.length + j := ⟨k - (1 + g.inn.length + g.regs.length), by omega⟩
          obtain ⟨p, hp, _, _⟩ := node_at g.ands j (by omega)
          obtain ⟨⟨p1, p2⟩, p3, p4⟩ := hg.ands j p hp
          have hgd : g.ands.getD (k - (1 + g.inn.length + g.regs.length)) (0, 0) = p := by rw [show k - (1 + g.inn.length + g.regs.length) = j by omega]; simp [hp]
          rw [hgd]
          have hcl := cone_closed hg j p hp (by rw [← hj]; exact hnd)
          have hT : ∀ q : Nat, 0 ≤ T.getD q 0 := fun q => by
            rw [List.getD_eq_getElem?_getD]
            cases hq : T[q]? with
            | none => simp
            | some x => exact (a2 x (List.mem_of_getElem? hq)).1
          rw [lb_at p.1 (hT _) (ih _ (by omega) (.inr hcl.1)), lb_at p.2 (hT _) (ih _ (by omega) (.inr hcl.2)), hj]
          exact (node_lb hg h1 h2 j p hp).symm
      · rename_i hnd
        simp only
        by_cases hki : k < i
        · rw [getD_left (by omega)]
          exact ih k hki hkept
        · have : k = i := by omega
          subst this
          rcases hkept with h | h
          · exact absurd h hF
          · exact absurd h hnd
end
theorem cleanL_run {g : LGraph} (hg : GraphOk g) (tr : List (List Bool)) (hr : ∀ r ∈ tr, r.length = g.inn.length) : runI (cleanL g) tr = runI g tr := by
  refine runI_moved g _ _ (fun inn st h1 h2 l hl => ?_) tr hr
  have hroot : l ∈ rootsG g := by
    simp only [rootsG, List.mem_append, List.mem_map]
    rcases hl with h | ⟨r, h, rfl⟩
    · exact .inl h
    · exact .inr ⟨r, h, rfl⟩
  obtain ⟨r1, r2⟩ := roots_in hg l hroot
  have hs := clean_sim hg h1 h2 (nodesN g) (Nat.le_refl _) (l / 2).toNat (by unfold nodesN; omega) (.inr (cone_root hg l hroot))
  obtain ⟨a1, a2, a3⟩ := cleanN_range g (coneV g (rootsG g)) (nodesN g)
  refine lb_at l ?_ hs
  show 0 ≤ (cleanN g (coneV g (rootsG g)) (nodesN g)).2.1.getD _ 0
  rw [List.getD_eq_getElem?_getD]
  cases hq : (cleanN g (coneV g (rootsG g)) (nodesN g)).2.1[(l / 2).toNat]? with
  | none => simp
  | some x => exact (a2 x (List.mem_of_getElem? hq)).1
end Go.Proofs.YtkmnmokjlpenhaaPi

/- Plain law: Strash of graphs keeps what a graph shows; done again Clean and Strash change nothing. -/
set_option linter.unusedVariables false
set_option linter.unusedSimpArgs false
namespace Go.Proofs.YtkmnmokjlpenhaaPi

theorem findA_none (p : Int × Int) : ∀ (ps : List (Int × Int)) (i : Nat), findA p ps i = none ↔ p ∉ ps
  | [], i => by simp [findA]
  | x :: ps, i => by
    rw [findA]
    by_cases h : x = p
    · simp [h]
    · rw [if_neg h, findA_none p ps (i + 1)]
      simp [Ne.symm h]
/-- No and of a graph is trivial, and none stands twice. -/
structure NormA (ands : List (Int × Int)) : Prop where
  lt : ∀ p ∈ ands, 2 ≤ p.1 ∧ p.1 < p.2 ∧ p.1 ≠ flipL p.2
  nodup : ands.Nodup
theorem mkAnd_cases (m : LMk) (a b : Int) : (min a b = 0 ∨ min a b = flipL (max a b)) ∧ mkAnd m a b = (0, m) ∨ (¬ (min a b = 0 ∨ min a b = flipL (max a b))) ∧ ((min a b = 1 ∨ min a b = max a b) ∧ mkAnd m a b = (max a b, m) ∨
    (¬ (min a b = 1 ∨ min a b = max a b)) ∧ ((∃ k : Nat, m.ands[k]? = some (min a b, max a b) ∧ mkAnd m a b = (2 * (m.first + k), m)) ∨ ((min a b, max a b) ∉ m.ands ∧ mkAnd m a b = (2 * (m.first + m.ands.length), { m with ands := m.ands ++ [(min a b, max a b)] })))) := by
  unfold mkAnd
  by_cases h0 : min a b = 0 ∨ min a b = flipL (max a b)
  · exact .inl ⟨h0, by rw [if_pos h0]⟩
  refine .inr ⟨h0, ?_⟩
  rw [if_neg h0]
  by_cases h1 : min a b = 1 ∨ min a b = max a b
  · exact .inl ⟨h1, by rw [if_pos h1]⟩
  refine .inr ⟨h1, ?_⟩
  rw [if_neg h1]
  cases hf : findA (min a b, max a b) m.ands 0 with
  | some k => exact .inl ⟨k, by simpa using (findA_range _ _ _ _ hf).2, rfl⟩
  | none => exact .inr ⟨(findA_none _ _ _).1 hf, rfl⟩
structure StrashNf (g : LGraph) (m : LMk) : Prop where
  ands : ∀ (i : Nat) (p : Int × Int), m.ands[i]? = some p → (0 ≤ p.1 ∧ p.1 < 2 * (1 + (g.inn.length : Int) + g.regs.length + i)) ∧ 0 ≤ p.2 ∧ p.2 < 2 * (1 + (g.inn.length : Int) + g.regs.length + i)
  norm : NormA m.ands
theorem mkAnd_nf (g : LGraph) (m : LMk) (hm : StrashNf g m) (a b : Int) (ha : 0 ≤ a ∧ a < 2 * (1 + (g.inn.length : Int) + g.regs.length + m.ands.length)) (hb : 0 ≤ b ∧ b < 2 * (1 + (g.inn.length : Int) + g.regs.length + m.ands.length)) : StrashNf g (mkAnd m a b).2 := by
  rcases mkAnd_cases m a b with ⟨_, e⟩ | ⟨n0, ⟨_, e⟩ | ⟨n1, ⟨k, _, e⟩ | ⟨hni, e⟩⟩⟩
  · rw [e]; exact hm
  · rw [e]; exact hm
  · rw [e]; exact hm
  · rw [e]
    refine ⟨fun i p hp => ?_, fun p hp => ?_, ?_⟩
    · simp only [List.getElem?_append] at hp
      split at hp
      · exact hm.ands i p hp
      · rename_i hj
        have hj0 : i - m.ands.length = 0 := by
          have := (List.getElem?_eq_some_iff.1 hp).1
          simp at this
          omega
        rw [hj0] at hp
        simp only [List.getElem?_cons_zero, Option.some.injEq] at hp
        subst hp
        simp only
        omega
    · simp only [List.mem_append, List.mem_singleton] at hp
      rcases hp with hp | rfl
      · exact hm.norm.lt p hp
      · simp only
        refine ⟨by omega, by omega, fun h => n0 (.inr h)⟩
    · rw [List.nodup_append]
      refine ⟨hm.norm.nodup, by simp, fun x hx y hy => ?_⟩
      simp only [List.mem_singleton] at hy
      subst hy
      intro h
      subst h
      exact hni hx
theorem vals_lb (ps : List (Int × Int)) (v : List Int) (i : Nat) (p : Int × Int) (hp : ps[i]? = some p) (hr : ∀ (i : Nat) (p : Int × Int), ps[i]? = some p → (0 ≤ p.1 ∧ p.1 < 2 * ((v.length : Int) + i)) ∧ 0 ≤ p.2 ∧ p.2 < 2 * ((v.length : Int) + i)) :
    lb (valsA ps v) (2 * ((v.length + i : Nat) : Int)) = (lb (valsA ps v) p.1 && lb (valsA ps v) p.2) := by
  have h := valsA_node ps v i p hp hr
  rw [lb_even, show bit0 ((valsA ps v).getD (v.length + i) 0) = (bv ((valsA ps v).getD (v.length + i) 0)).getLsbD 0 from rfl, h, lb_litB, lb_litB]
  simp
theorem lb_minmax (v : List Int) (a b : Int) : (lb v (min a b) && lb v (max a b)) = (lb v a && lb v b) := by
  by_cases h : a ≤ b
  · rw [Int.min_eq_left h, Int.max_eq_right h]
  · rw [Int.min_eq_right (by omega), Int.max_eq_left (by omega), Bool.and_comm]
section
variable {g : LGraph} {inn st : List Int} (h1 : inn.length = g.inn.length) (h2 : st.length = g.regs.length)
include h1 h2
theorem mkAnd_sim (m : LMk) (hm : StrashNf g m) (e1 : m.inn = g.inn) (e2 : m.regs = g.regs) (a b : Int) (ha : 0 ≤ a ∧ a < 2 * (1 + (g.inn.length : Int) + g.regs.length + m.ands.length)) (hb : 0 ≤ b ∧ b < 2 * (1 + (g.inn.length : Int) + g.regs.length + m.ands.length)) :
    lb (valsA (mkAnd m a b).2.ands ([0] ++ inn ++ st)) (mkAnd m a b).1 = (lb (valsA m.ands ([0] ++ inn ++ st)) a && lb (valsA m.ands ([0] ++ inn ++ st)) b) ∧
    ∀ l : Int, 0 ≤ l → l < 2 * (1 + (g.inn.length : Int) + g.regs.length + m.ands.length) → lb (valsA (mkAnd m a b).2.ands ([0] ++ inn ++ st)) l = lb (valsA m.ands ([0] ++ inn ++ st)) l := by
  have hbl : ([0] ++ inn ++ st).length = 1 + g.inn.length + g.regs.length := by simp; omega
  have hw : (valsA m.ands ([0] ++ inn ++ st)).length = 1 + g.inn.length + g.regs.length + m.ands.length := by rw [valsA_len, hbl]
  have hoff : lb (valsA m.ands ([0] ++ inn ++ st)) 0 = false := by
    have := lb_even (valsA m.ands ([0] ++ inn ++ st)) 0
    rw [show (2 * ((0 : Nat) : Int)) = 0 by rfl] at this
    rw [this, valsA_pre _ _ _ (by omega)]
    simp [bit0]
  have hon : lb (valsA m.ands ([0] ++ inn ++ st)) 1 = true := by
    have := lb_flip (valsA m.ands ([0] ++ inn ++ st)) 0 (by omega)
    rw [hoff] at this
    exact this
  have hmm := lb_minmax (valsA m.ands ([0] ++ inn ++ st)) a b
  rcases mkAnd_cases m a b with ⟨h0, e⟩ | ⟨n0, ⟨h0, e⟩ | ⟨n1, ⟨k, hk, e⟩ | ⟨hni, e⟩⟩⟩
  · rw [e]
    refine ⟨?_, fun l _ _ => rfl⟩
    simp only
    rw [hoff, ← hmm]
    rcases h0 with h0 | h0
    · rw [h0, hoff, Bool.false_and]
    · rw [h0, lb_flip _ _ (by omega)]
      cases lb (valsA m.ands ([0] ++ inn ++ st)) (max a b) <;> rfl
  · rw [e]
    refine ⟨?_, fun l _ _ => rfl⟩
    simp only
    rw [← hmm]
    rcases h0 with h0 | h0
    · rw [h0, hon, Bool.true_and]
    · rw [h0, Bool.and_self]
  · rw [e]
    refine ⟨?_, fun l _ _ => rfl⟩
    simp only
    rw [← hmm]
    have := vals_lb m.ands ([0] ++ inn ++ st) k _ hk (fun i p hp => by have := hm.ands i p hp; rw [hbl]; omega)
    rw [← this, hbl]
    congr 1
    simp only [LMk.first, e1, e2]
    omega
  · rw [e]
    simp only
    rw [valsA_snoc]
    refine ⟨?_, fun l l0 l1 => ?_⟩
    · have := lb_last (valsA m.ands ([0] ++ inn ++ st)) (min a b) (max a b)
      rw [← hmm, ← this, hw]
      congr 1
      simp only [LMk.first, e1, e2]
      omega
    · exact lb_app _ _ _ l0 (by rw [hw]; omega)
end
end Go.Proofs.YtkmnmokjlpenhaaPi

/- Plain law: a table has its values over any literals. -/
set_option linter.unusedVariables false
set_option linter.unusedSimpArgs false
namespace Go.Proofs.YtkmnmokjlpenhaaPi

theorem bv_shift (t : Int) (h : U64 t) (s : Nat) : bv (t.fdiv (2 ^ s)) = bv t >>> s := by
  obtain ⟨h0, h1⟩ := h
  obtain ⟨r, rfl⟩ : ∃ r : Nat, t = r := ⟨t.toNat, by omega⟩
  have e2 : ((2 : Int) ^ s) = ((2 ^ s : Nat) : Int) := by simp
  have e : ((r : Int).fdiv (2 ^ s)) = ((r / 2 ^ s : Nat) : Int) := by
    rw [e2, Int.fdiv_eq_ediv_of_nonneg _ (Int.natCast_nonneg _)]
    rfl
  have hle : r / 2 ^ s ≤ r := Nat.div_le_self _ _
  apply BitVec.eq_of_toNat_eq
  rw [e, BitVec.toNat_ushiftRight, BitVec.toNat_ofInt, BitVec.toNat_ofInt, Nat.shiftRight_eq_div_pow]
  have a1 : ((((r / 2 ^ s : Nat) : Int)) % ((2 ^ 64 : Nat) : Int)).toNat = r / 2 ^ s := by
    generalize r / 2 ^ s = y at hle
    omega
  have a2 : ((r : Int) % ((2 ^ 64 : Nat) : Int)).toNat = r := by omega
  rw [a1, a2]
theorem ones_bits (n : Nat) (h : n ≤ 6) : ∀ k, k < 64 → (bv (onesT n)).getLsbD k = decide (k < 2 ^ n) := by
  have : n = 0 ∨ n = 1 ∨ n = 2 ∨ n = 3 ∨ n = 4 ∨ n = 5 ∨ n = 6 := by omega
  rcases this with rfl | rfl | rfl | rfl | rfl | rfl | rfl <;> decide +kernel
/-- The bit of a table. -/
def tb (t : Int) (k : Nat) : Bool := (bv t).getLsbD k
theorem tb_and (t : Int) (n k : Nat) (h : n ≤ 6) (hk : k < 2 ^ n) (hk2 : k < 64) : tb (bits .and .u64 t (onesT n)) k = tb t k := by
  unfold tb
  rw [bv_and, BitVec.getLsbD_and, ones_bits n h k hk2, decide_eq_true hk, Bool.and_true]
theorem tb_shift (t : Int) (h : U64 t) (s k : Nat) : tb (t.fdiv (2 ^ s)) k = tb t (s + k) := by
  unfold tb
  rw [bv_shift t h, BitVec.getLsbD_ushiftRight]
theorem tb_zero (k : Nat) : tb 0 k = false := by simp [tb]
theorem pow_le64 {n : Nat} (h : n ≤ 6) : 2 ^ n ≤ 64 := Nat.le_trans (Nat.pow_le_pow_right (by omega) h) (by decide)

abbrev vl (base : List Int) (m : LMk) (l : Int) : Bool := lb (valsA m.ands base) l
structure AtG (g : LGraph) (m : LMk) : Prop where
  inn : m.inn = g.inn
  regs : m.regs = g.regs
  nf : StrashNf g m
theorem AtG.in_ {g : LGraph} {m : LMk} (h : AtG g m) {a : Int} (ha : InM m a) : 0 ≤ a ∧ a < 2 * (1 + (g.inn.length : Int) + g.regs.length + m.ands.length) := by
  unfold InM LMk.top LMk.first at ha
  rw [h.inn, h.regs] at ha
  exact ha
/-- What a maker has after a step: its values stay. -/
structure KeepsM (g : LGraph) (base : List Int) (m m' : LMk) : Prop where
  at_ : AtG g m'
  val : ∀ l, InM m l → vl base m' l = vl base m l
section
variable {g : LGraph} {inn st : List Int} (h1 : inn.length = g.inn.length) (h2 : st.length = g.regs.length)
include h1 h2
theorem and_keeps {m : LMk} (hm : AtG g m) {a b : Int} (ha : InM m a) (hb : InM m b) : KeepsM g ([0] ++ inn ++ st) m (mkAnd m a b).2 ∧ vl ([0] ++ inn ++ st) (mkAnd m a b).2 (mkAnd m a b).1 = (vl ([0] ++ inn ++ st) m a && vl ([0] ++ inn ++ st) m b) := by
  obtain ⟨s1, s2⟩ := mkAnd_sim h1 h2 m hm.nf hm.inn hm.regs a b (hm.in_ ha) (hm.in_ hb)
  obtain ⟨p1, p2⟩ := mkAnd_after m ha hb
  exact ⟨⟨⟨by rw [p1.inn, hm.inn], by rw [p1.regs, hm.regs], mkAnd_nf g m hm.nf a b (hm.in_ ha) (hm.in_ hb)⟩, fun l hl => s2 l (hm.in_ hl).1 (hm.in_ hl).2⟩, s1⟩
theorem pair_keeps {m : LMk} (hm : AtG g m) {a b c d : Int} (ha : InM m a) (hb : InM m b) (hc : InM m c) (hd : InM m d) : KeepsM g ([0] ++ inn ++ st) m (mkPair m a b c d).2 ∧
    vl ([0] ++ inn ++ st) (mkPair m a b c d).2 (mkPair m a b c d).1 = ((vl ([0] ++ inn ++ st) m a && vl ([0] ++ inn ++ st) m b) || (vl ([0] ++ inn ++ st) m c && vl ([0] ++ inn ++ st) m d)) := by
  obtain ⟨p1, p2⟩ := mkAnd_after m ha hb
  obtain ⟨k1, v1⟩ := and_keeps h1 h2 hm ha hb
  obtain ⟨q1, q2⟩ := mkAnd_after (mkAnd m a b).2 (p1.up hc) (p1.up hd)
  obtain ⟨k2, v2⟩ := and_keeps h1 h2 k1.at_ (p1.up hc) (p1.up hd)
  obtain ⟨r1, r2⟩ := mkAnd_after (mkAnd (mkAnd m a b).2 c d).2 (flip_in (q1.up p2)) (flip_in q2)
  obtain ⟨k3, v3⟩ := and_keeps h1 h2 k2.at_ (flip_in (q1.up p2)) (flip_in q2)
  refine ⟨⟨k3.at_, fun l hl => ?_⟩, ?_⟩
  · exact (k3.val l (q1.up (p1.up hl))).trans ((k2.val l (p1.up hl)).trans (k1.val l hl))
  · unfold mkPair
    simp only
    show lb _ (flipL _) = _
    rw [lb_flip _ _ r2.1]
    show (!vl _ _ _) = _
    rw [v3]
    show (!(lb _ (flipL _) && lb _ (flipL _))) = _
    rw [lb_flip _ _ p2.1, lb_flip _ _ q2.1]
    show (!(!vl _ _ _ && !vl _ _ _)) = _
    rw [k2.val _ p2, v1, v2, k1.val _ hc, k1.val _ hd]
    cases vl ([0] ++ inn ++ st) m a <;> cases vl ([0] ++ inn ++ st) m b <;> cases vl ([0] ++ inn ++ st) m c <;> cases vl ([0] ++ inn ++ st) m d <;> rfl
theorem vl_zero (m : LMk) : vl ([0] ++ inn ++ st) m 0 = false := by
  have hbl : ([0] ++ inn ++ st).length = 1 + g.inn.length + g.regs.length := by simp; omega
  have := lb_even (valsA m.ands ([0] ++ inn ++ st)) 0
  rw [show (2 * ((0 : Nat) : Int)) = 0 by rfl] at this
  rw [vl, this, valsA_pre _ _ _ (by omega)]
  simp [bit0]
theorem vl_one (m : LMk) : vl ([0] ++ inn ++ st) m 1 = true := by
  have h0 : lb (valsA m.ands ([0] ++ inn ++ st)) 0 = false := vl_zero h1 h2 m
  have := lb_flip (valsA m.ands ([0] ++ inn ++ st)) 0 (by omega)
  rw [h0] at this
  exact this
end
/-- The number that literals read as. -/
def idxL (f : Int → Bool) (l : List Int) : Nat → Nat
  | 0 => 0
  | n + 1 => if f (l.getD n 0) = true then 2 ^ n + idxL f l n else idxL f l n
theorem idxL_lt (f : Int → Bool) (l : List Int) : ∀ n, idxL f l n < 2 ^ n
  | 0 => by simp [idxL]
  | n + 1 => by
    have := idxL_lt f l n
    rw [idxL, Nat.pow_succ]
    split <;> omega
theorem idxL_congr (f f' : Int → Bool) (l l' : List Int) : ∀ n, (∀ q, q < n → f (l.getD q 0) = f' (l'.getD q 0)) → idxL f l n = idxL f' l' n
  | 0, _ => rfl
  | n + 1, h => by rw [idxL, idxL, h n (by omega), idxL_congr f f' l l' n (fun q hq => h q (by omega))]
theorem take_getD (l : List Int) (n q : Nat) (h : q < n) : (l.take n).getD q 0 = l.getD q 0 := by
  simp [List.getD_eq_getElem?_getD, List.getElem?_take, h]
section
variable {g : LGraph} {inn st : List Int} (h1 : inn.length = g.inn.length) (h2 : st.length = g.regs.length)
include h1 h2
theorem table_sim : ∀ (n : Nat), n ≤ 6 → ∀ (m : LMk) (t : Int) (l : List Int), AtG g m → U64 t → (∀ x ∈ l, InM m x) →
    KeepsM g ([0] ++ inn ++ st) m (mkTable n m t l).2 ∧ vl ([0] ++ inn ++ st) (mkTable n m t l).2 (mkTable n m t l).1 = tb t (idxL (vl ([0] ++ inn ++ st) m) l n)
  | 0, _, m, t, l, hm, ht, hl => by
    have hone := one_iff t
    have hb := bit_and_one t
    rw [mkTable, idxL]
    have hk : KeepsM g ([0] ++ inn ++ st) m m := ⟨hm, fun _ _ => rfl⟩
    have e : tb t 0 = bit0 t := rfl
    rw [e, ← hone]
    split
    · rename_i h
      refine ⟨hk, ?_⟩
      rw [vl_zero h1 h2, h]
      rfl
    · refine ⟨hk, ?_⟩
      rw [vl_one h1 h2]
      rcases hb with hb | hb
      · contradiction
      · rw [hb]; rfl
  | n + 1, hn, m, t, l, hm, ht, hl => by
    have hk : KeepsM g ([0] ++ inn ++ st) m m := ⟨hm, fun _ _ => rfl⟩
    have hlt := idxL_lt (vl ([0] ++ inn ++ st) m) l (n + 1)
    have hlt0 := idxL_lt (vl ([0] ++ inn ++ st) m) l n
    have hp1 := pow_le64 hn
    have hp0 : 2 ^ n + 2 ^ n = 2 ^ (n + 1) := by rw [Nat.pow_succ]; omega
    have hall := tb_and t (n + 1) (idxL (vl ([0] ++ inn ++ st) m) l (n + 1)) hn hlt (by omega)
    have hta : ∀ x ∈ l.take n, InM m x := fun x hx => hl x (List.mem_of_mem_take hx)
    have hidx : ∀ m', KeepsM g ([0] ++ inn ++ st) m m' → idxL (vl ([0] ++ inn ++ st) m') (l.take n) n = idxL (vl ([0] ++ inn ++ st) m) l n := fun m' hk' =>
      idxL_congr _ _ _ _ n fun q hq => by
        rw [take_getD l n q hq]
        exact hk'.val _ (getD_in hl q)
    have hA : tb (bits .and .u64 (t.fdiv (2 ^ 2 ^ n)) (onesT n)) (idxL (vl ([0] ++ inn ++ st) m) l n) = tb t (2 ^ n + idxL (vl ([0] ++ inn ++ st) m) l n) := by
      rw [tb_and _ n _ (by omega) hlt0 (by omega), tb_shift t ht]
    have hB : tb (bits .and .u64 t (onesT n)) (idxL (vl ([0] ++ inn ++ st) m) l n) = tb t (idxL (vl ([0] ++ inn ++ st) m) l n) := tb_and _ n _ (by omega) hlt0 (by omega)
    have hsplit : idxL (vl ([0] ++ inn ++ st) m) l (n + 1) = if vl ([0] ++ inn ++ st) m (l.getD n 0) = true then 2 ^ n + idxL (vl ([0] ++ inn ++ st) m) l n else idxL (vl ([0] ++ inn ++ st) m) l n := rfl
    rw [mkTable]
    split
    · rename_i h
      refine ⟨hk, ?_⟩
      rw [vl_zero h1 h2, ← hall, h, tb_zero]
    split
    · rename_i h
      refine ⟨hk, ?_⟩
      rw [vl_one h1 h2, ← hall, h]
      unfold tb
      rw [ones_bits (n + 1) hn _ (by omega), decide_eq_true hlt]
    split
    · rename_i h
      obtain ⟨k1, v1⟩ := table_sim n (by omega) m (bits .and .u64 t (onesT n)) (l.take n) hm (u64_and _ _) hta
      refine ⟨k1, ?_⟩
      rw [v1, hidx m hk, hB, hsplit]
      split
      · rw [← hA, h, hB]
      · rfl
    · obtain ⟨a1, i1⟩ := mkTable_after n m (bits .and .u64 (t.fdiv (2 ^ 2 ^ n)) (onesT n)) (l.take n) hta
      obtain ⟨k1, v1⟩ := table_sim n (by omega) m (bits .and .u64 (t.fdiv (2 ^ 2 ^ n)) (onesT n)) (l.take n) hm (u64_and _ _) hta
      rw [hidx m hk, hA] at v1
      have hta1 : ∀ x ∈ l.take n, InM (mkTable n m (bits .and .u64 (t.fdiv (2 ^ 2 ^ n)) (onesT n)) (l.take n)).2 x := fun x hx => a1.up (hta x hx)
      have hy := getD_in hl n
      generalize mkTable n m (bits .and .u64 (t.fdiv (2 ^ 2 ^ n)) (onesT n)) (l.take n) = X1 at *
      obtain ⟨x1, m1⟩ := X1
      simp only at *
      obtain ⟨a2, i2⟩ := mkTable_after n m1 (bits .and .u64 t (onesT n)) (l.take n) hta1
      obtain ⟨k2, v2⟩ := table_sim n (by omega) m1 (bits .and .u64 t (onesT n)) (l.take n) k1.at_ (u64_and _ _) hta1
      rw [hidx m1 k1, hB] at v2
      generalize mkTable n m1 (bits .and .u64 t (onesT n)) (l.take n) = X2 at *
      obtain ⟨x2, m2⟩ := X2
      simp only at *
      have hy2 := a2.up (a1.up hy)
      obtain ⟨k3, v3⟩ := pair_keeps h1 h2 k2.at_ hy2 (a2.up i1) (flip_in hy2) i2
      refine ⟨⟨k3.at_, fun x hx => (k3.val x (a2.up (a1.up hx))).trans ((k2.val x (a1.up hx)).trans (k1.val x hx))⟩, ?_⟩
      rw [v3, k2.val _ i1, v1, v2, hsplit]
      have hf : vl ([0] ++ inn ++ st) m2 (flipL (l.getD n 0)) = !vl ([0] ++ inn ++ st) m2 (l.getD n 0) := lb_flip _ _ hy.1
      rw [hf, (k2.val _ (a1.up hy)).trans (k1.val _ hy)]
      cases vl ([0] ++ inn ++ st) m (l.getD n 0) <;> simp
end
theorem idx_bits (f : Int → Bool) (l : List Int) (K : Nat) : ∀ n, (∀ q, q < n → f (l.getD q 0) = K.testBit q) → idxL f l n = K % 2 ^ n
  | 0, _ => by simp [idxL, Nat.mod_one]
  | n + 1, h => by
    rw [idxL, h n (by omega), idx_bits f l K n (fun q hq => h q (by omega)), Nat.pow_succ, Nat.mod_mul, Nat.testBit_eq_decide_div_mod_eq]
    have h2 : K / 2 ^ n % 2 < 2 := Nat.mod_lt _ (by omega)
    by_cases hb : K / 2 ^ n % 2 = 1
    · rw [hb, if_pos (by simp)]
      omega
    · have h0 : K / 2 ^ n % 2 = 0 := by omega
      rw [h0, if_neg (by simp)]
      omega
end Go.Proofs.YtkmnmokjlpenhaaPi

/- The walks of slices.Concat of rows of bools, and of rows of words, that are not all empty. -/
set_option linter.unusedVariables false
set_option linter.unusedSimpArgs false
set_option maxRecDepth 100000
namespace Go.Proofs.YtkmnmokjlpenhaaPi
set_option maxHeartbeats 4000000
def sumL {α : Type} (ps : List (List α)) : Nat := (ps.map List.length).foldr (· + ·) 0
theorem sumL_take {α : Type} (ps : List (List α)) (i : Nat) (r : List α) (h : ps[i]? = some r) : sumL (ps.take (i + 1)) = sumL (ps.take i) + r.length := by
  induction ps generalizing i with
  | nil => simp at h
  | cons p ps ih =>
    cases i with
    | zero => simp at h; subst h; simp [sumL]
    | succ i =>
      have := ih i (by simpa using h)
      simp only [sumL, List.take_succ_cons, List.map_cons, List.foldr_cons] at this ⊢
      omega
theorem flat_take {α : Type} (ps : List (List α)) (i : Nat) (r : List α) (h : ps[i]? = some r) : (ps.take (i + 1)).flatten = (ps.take i).flatten ++ r := by simp [List.take_add_one, h]
theorem sumL_le {α : Type} (ps : List (List α)) (i : Nat) : sumL (ps.take i) ≤ sumL ps := by
  induction ps generalizing i with
  | nil => simp
  | cons p ps ih =>
    cases i with
    | zero => simp [sumL]
    | succ i =>
      have := ih i
      simp only [sumL, List.take_succ_cons, List.map_cons, List.foldr_cons] at this ⊢
      omega
theorem flat_len {α : Type} (ps : List (List α)) : ps.flatten.length = sumL ps := by
  induction ps with
  | nil => rfl
  | cons p ps ih => simp only [List.flatten_cons, List.length_append, sumL, List.map_cons, List.foldr_cons] at ih ⊢; rw [ih]
end Go.Proofs.YtkmnmokjlpenhaaPi

/- The walks of slices.Concat at literals, and of net. -/
set_option linter.unusedVariables false
set_option linter.unusedSimpArgs false
set_option maxRecDepth 100000
namespace Go.Proofs.YtkmnmokjlpenhaaPi
set_option maxHeartbeats 4000000
abbrev intss (l : List (List Int)) : List (List Im) := l.map fun r => [.sl (ints r)]
theorem intss_len (l : List (List Int)) : (intss l).length = l.length := by simp
theorem intss_at (q : List (List Int)) (i : Nat) (h : i < q.length) : ∃ r, q[i]? = some r ∧ r ∈ q ∧ q.getD i [] = r ∧ (intss q)[i]? = some [.sl (ints r)] :=
  ⟨q[i], List.getElem?_eq_getElem h, List.getElem_mem h, by simp [h], by simp [h]⟩
/-- The net of the node of a literal. -/
def netOf (l : Int) : Int := if l < 2 then 0 else l / 2 + 1
theorem ConcatL_ok (ps : List (List Int)) (h0 : 0 < sumL ps) (h1 : sumL ps ≤ 100000) (h2 : ps.length ≤ 1000) (up : Frs) : ACalls Try.prog 154 [.im (.sl (intss ps))] up fun v u => v = .im (.sl (ints ps.flatten)) ∧ u = up := by
  refine ACalls.code Try.func154 rfl 36 rfl (by simp) [.tmp 2] rfl fun Q hQ => ?_
  simp only [ups, PV.up, argEnv]
  have ft := And.intro ty_3 (And.intro ty_4 (And.intro ty_9 (And.intro ty_49 (And.intro ty_62 (And.intro ty_212 trivial)))))
  refine Run.seq ?_
  have fx := And.intro intss_len ft
  refine Run.go ?_
  refine End.kp [0] ?_
  refine Run.seq ?_
  refine Run.go ?_
  refine End.kp [0, 3] ?_
  refine Run.seq ?_
  refine Run.seq ?_
  refine Run.go ?_
  refine End.kp [0, 3, 9, 10, 11] ?_
  refine Run.block ?_
  refine Run.ghost (Ghost.form [(0, .im (.sl (intss ps))), (3, .i 0), (9, .im (.sl (intss ps))), (10, .i ps.length), (11, .i (0 : Nat))] 0 ⟨rfl, rfl, rfl, rfl, rfl, trivial⟩ rfl rfl) ?_
  refine Run.loop (fun m' st => ∃ i : Nat, m' = ps.length - i ∧ i ≤ ps.length ∧ st = ⟨[(0, .im (.sl (intss ps))), (3, .i (sumL (ps.take i) : Nat)), (9, .im (.sl (intss ps))), (10, .i ps.length), (11, .i (i : Nat))], [], up⟩) ps.length ⟨0, rfl, by omega, by simp [sumL]⟩ fun m' st hI => ?_
  obtain ⟨i, rfl, hi, rfl⟩ := hI
  refine Run.seq ?_
  have fx := And.intro intss_len ft
  refine Run.go ?_
  refine End.kp [0, 3, 9, 10, 11, 12] ?_
  refine Run.seq ?_
  refine Run.cond _ rfl (fun hb => ?_) (fun hb => ?_)
  · have hb2 := of_decide_eq_true hb
    have hin : i < ps.length := by omega
    have wi := wsucc hin (by omega)
    obtain ⟨r, hri, hrm, _, hrr⟩ := intss_at ps i hin
    have hil : (i : Int) < (ps.length : Int) := by omega
    have ht := sumL_take ps i r hri
    have hle := sumL_le ps (i + 1)
    have wa : IntKind.i64.wrap ((sumL (ps.take i) : Int) + r.length) = (sumL (ps.take (i + 1)) : Int) := by rw [wrap64 (by omega)]; omega
    have hn0 : decide ((sumL (ps.take (i + 1)) : Int) < 0) = false := decide_eq_false (by omega)
    refine Run.skip ?_
    refine End.kp [0, 3, 9, 10, 11] ?_
    refine Run.seq ?_
    refine Run.block ?_
    refine Run.seq ?_
    have fx := And.intro (@Int.toNat_natCast) (And.intro (@Int.natCast_nonneg) (And.intro hn0 (And.intro wa (And.intro ints_len (And.intro hil (And.intro hrr (And.intro wi (And.intro intss_len ft))))))))
    refine Run.go ?_
    refine End.kp [0, 3, 5, 9, 10, 11] ?_
    refine Run.seq ?_
    refine Run.go ?_
    refine End.kp [0, 3, 9, 10, 11] ?_
    refine Run.seq ?_
    refine Run.go ?_
    refine End.kp [0, 3, 9, 10, 11, 20] ?_
    refine Run.cond _ rfl (fun hb => ?_) (fun hb => ?_)
    · have hb3 := hb
      simp at hb
    · have hb3 := hb
      refine Run.skip ?_
      refine End.blk ?_
      refine End.kp [0, 3, 9, 10, 11] ?_
      have fx := And.intro (@Int.toNat_natCast) (And.intro (@Int.natCast_nonneg) (And.intro hn0 (And.intro wa (And.intro ints_len (And.intro hil (And.intro hrr (And.intro wi (And.intro intss_len ft))))))))
      refine Run.go ?_
      refine End.lp ?_
      refine ⟨ps.length - (i + 1), _, by omega, Ghost.form [(0, .im (.sl (intss ps))), (3, .i (sumL (ps.take (i + 1)) : Nat)), (9, .im (.sl (intss ps))), (10, .i ps.length), (11, .i (i + 1 : Nat))] 0 ⟨rfl, rfl, rfl, rfl, rfl, trivial⟩ rfl rfl, i + 1, rfl, by omega, rfl⟩
  · have hb2 := of_decide_eq_false hb
    have hiN : i = ps.length := by omega
    subst hiN
    rw [List.take_length]
    refine Run.exit rfl ?_
    refine End.kp [0, 3] ?_
    refine Run.seq ?_
    have fx := And.intro intss_len ft
    refine Run.region rfl fun K hK => GOps.sim ?_
    refine GOps.callM rfl rfl rfl rfl (by kernel_rfl) (ACalls.sim ?_)
    refine (growL_ok (sumL ps) h0 (by omega) _ _).mono fun v u hv => ?_
    obtain ⟨rfl, rfl⟩ := hv
    refine ⟨_, _, rfl, GOps.sim ?_⟩
    refine GOps.done (hK _ ?_); clear hK K
    refine End.kp [0, 6] ?_
    refine Run.seq ?_
    refine Run.seq ?_
    refine Run.go ?_
    refine End.kp [6, 25, 26, 27] ?_
    refine Run.block ?_
    refine Run.ghost (Ghost.form [(6, .ms 0 0 0), (25, .im (.sl (intss ps))), (26, .i ps.length), (27, .i (0 : Nat))] 1 ⟨rfl, rfl, rfl, rfl, trivial⟩ rfl rfl) ?_
    refine Run.loop (fun m' st => ∃ i : Nat, m' = ps.length - i ∧ i ≤ ps.length ∧ st = ⟨[(6, .ms 0 0 (ps.take i).flatten.length), (25, .im (.sl (intss ps))), (26, .i ps.length), (27, .i (i : Nat))], [.row 62 1 (ints (ps.take i).flatten) 0], up⟩) ps.length ⟨0, rfl, by omega, rfl⟩ fun m' st hI => ?_
    obtain ⟨i, rfl, hi, rfl⟩ := hI
    have hfl : (ints (ps.take i).flatten).length = (ps.take i).flatten.length := by rw [ints_len]
    have hfs := flat_len (ps.take i)
    have hsl := sumL_le ps i
    refine Run.seq ?_
    have fx := And.intro hfl (And.intro intss_len ft)
    refine Run.go ?_
    refine End.kp [6, 25, 26, 27, 28] ?_
    refine Run.seq ?_
    refine Run.cond _ rfl (fun hb => ?_) (fun hb => ?_)
    · have hb2 := of_decide_eq_true hb
      have hin : i < ps.length := by omega
      have wi := wsucc hin (by omega)
      obtain ⟨r, hri, hrm, _, hrr⟩ := intss_at ps i hin
      have hil : (i : Int) < (ps.length : Int) := by omega
      have ht := sumL_take ps i r hri
      have hle := sumL_le ps (i + 1)
      have hft := flat_take ps i r hri
      have hcap : ((ps.take i).flatten.length + r.length) * 8 ≤ 140737488355328 := by omega
      have hcap2 : (ps.take i).flatten.length + r.length ≤ 140737488355328 := by omega
      have hall : (ints r).all (fun r => r.length == 1) = true := by simp
      refine Run.skip ?_
      refine End.kp [6, 25, 26, 27] ?_
      refine Run.seq ?_
      refine Run.block ?_
      refine Run.seq ?_
      have fx := And.intro (@Int.toNat_natCast) (And.intro (@Int.natCast_nonneg) (And.intro hall (And.intro hcap2 (And.intro hcap (And.intro ints_len (And.intro hil (And.intro hrr (And.intro wi (And.intro hfl (And.intro intss_len ft))))))))))
      refine Run.go ?_
      refine End.kp [6, 8, 25, 26, 27] ?_
      refine Run.go ?_
      refine End.blk ?_
      refine End.kp [6, 25, 26, 27] ?_
      refine Run.go ?_
      refine End.lp ?_
      refine ⟨ps.length - (i + 1), _, by omega, Ghost.form [(6, .ms 0 0 ((ps.take i).flatten.length + r.length)), (25, .im (.sl (intss ps))), (26, .i ps.length), (27, .i (i + 1 : Nat))] 1 ⟨rfl, rfl, rfl, rfl, trivial⟩ rfl rfl, i + 1, rfl, by omega, ?_⟩
      rw [hft]
      simp
    · have hb2 := of_decide_eq_false hb
      have hiN : i = ps.length := by omega
      subst hiN
      rw [List.take_length] at hfl ⊢
      refine Run.exit rfl ?_
      refine End.kp [6] ?_
      refine Run.seq ?_
      refine Run.ghost (Ghost.shut (t := 6) (j := 0) rfl rfl hfl) ?_
      simp only [eput, edel]
      have fx := And.intro hfl (And.intro intss_len ft)
      refine Run.go ?_
      refine End.kp [2] ?_
      refine Run.ret (hQ _ _ ⟨.inr rfl, _, rfl, _, rfl, ?_⟩)
      exact ⟨rfl, rfl⟩
theorem growL0_ok (up : Frs) : ACalls Try.prog 158 [.nils, .i 0] up fun v u => v = .im (.sl []) ∧ u = up := by
  refine ACalls.code Try.func158 rfl 27 rfl (by simp) [.tmp 4] rfl fun Q hQ => ?_
  simp only [ups, PV.up, argEnv]
  have ft := And.intro ty_3 (And.intro ty_4 (And.intro ty_9 (And.intro ty_49 (And.intro ty_62 trivial))))
  refine Run.seq ?_
  have fx := ft
  refine Run.go ?_
  refine End.kp [0, 1] ?_
  refine Run.seq ?_
  refine Run.seq ?_
  refine Run.go ?_
  refine End.kp [0, 1, 6] ?_
  refine Run.cond _ rfl (fun hb => ?_) (fun hb => ?_)
  · have hb2 := hb
    simp at hb
  · have hb2 := hb
    refine Run.skip ?_
    refine End.kp [0, 1] ?_
    refine Run.seq ?_
    refine Run.seq ?_
    have fx := ft
    refine Run.region rfl fun K hK => GOps.sim ?_
    refine GOps.capNil (GOps.sim ?_)
    refine GOps.done (hK _ ?_); clear hK K
    refine End.kp [0, 1] ?_
    refine Run.seq ?_
    have fx := ft
    refine Run.go ?_
    refine End.kp [0, 1, 16] ?_
    refine Run.cond _ rfl (fun hb => ?_) (fun hb => ?_)
    · have hb3 := hb
      exact absurd hb (by decide)
    · have hb3 := hb
      refine Run.skip ?_
      refine End.kp [0] ?_
      refine Run.seq ?_
      have fx := ft
      refine Run.go ?_
      refine End.kp [4] ?_
      refine Run.ret (hQ _ _ ⟨.inr rfl, _, rfl, _, rfl, ?_⟩)
      exact ⟨rfl, rfl⟩
theorem ConcatL0_ok (up : Frs) : ACalls Try.prog 154 [.im (.sl [[.sl []], [.sl []]])] up fun v u => v = .im (.sl []) ∧ u = up := by
  refine ACalls.code Try.func154 rfl 36 rfl (by simp) [.tmp 2] rfl fun Q hQ => ?_
  simp only [ups, PV.up, argEnv]
  have ft := And.intro ty_3 (And.intro ty_4 (And.intro ty_9 (And.intro ty_49 (And.intro ty_62 (And.intro ty_212 trivial)))))
  refine Run.seq ?_
  have fx := ft
  refine Run.go ?_
  refine End.kp [0] ?_
  refine Run.seq ?_
  refine Run.go ?_
  refine End.kp [0, 3] ?_
  refine Run.seq ?_
  refine Run.seq ?_
  refine Run.go ?_
  refine End.kp [0, 3, 9, 10, 11] ?_
  refine Run.block ?_
  refine Run.ghost (Ghost.form [(0, .im (.sl [[.sl []], [.sl []]])), (3, .i 0), (9, .im (.sl [[.sl []], [.sl []]])), (10, .i 2), (11, .i ((0 : Nat) : Int))] 0 ⟨rfl, rfl, rfl, rfl, rfl, trivial⟩ rfl rfl) ?_
  refine Run.loop (fun m' st => ∃ i : Nat, m' = 2 - i ∧ i ≤ 2 ∧ st = ⟨[(0, .im (.sl [[.sl []], [.sl []]])), (3, .i 0), (9, .im (.sl [[.sl []], [.sl []]])), (10, .i 2), (11, .i (i : Nat))], [], up⟩) 2 ⟨0, rfl, by omega, rfl⟩ fun m' st hI => ?_
  obtain ⟨i, rfl, hi, rfl⟩ := hI
  refine Run.seq ?_
  have fx := ft
  refine Run.go ?_
  refine End.kp [0, 3, 9, 10, 11, 12] ?_
  refine Run.seq ?_
  refine Run.cond _ rfl (fun hb => ?_) (fun hb => ?_)
  · have hb2 := of_decide_eq_true hb
    have hin : i < 2 := by omega
    have wi := wsucc (i := i) (n := 2) hin (by omega)
    have hil : (i : Int) < ((0 + 1 + 1 : Nat) : Int) := by omega
    have hrr : ([[.sl []], [.sl []]] : List (List Im))[i]? = some [.sl []] := by rcases (show i = 0 ∨ i = 1 by omega) with rfl | rfl <;> rfl
    refine Run.skip ?_
    refine End.kp [0, 3, 9, 10, 11] ?_
    refine Run.seq ?_
    refine Run.block ?_
    refine Run.seq ?_
    have fx := And.intro (@Int.toNat_natCast) (And.intro (@Int.natCast_nonneg) (And.intro hil (And.intro hrr (And.intro wi ft))))
    refine Run.go ?_
    refine End.kp [0, 3, 5, 9, 10, 11] ?_
    refine Run.seq ?_
    refine Run.go ?_
    refine End.kp [0, 3, 9, 10, 11] ?_
    refine Run.seq ?_
    refine Run.go ?_
    refine End.kp [0, 3, 9, 10, 11, 20] ?_
    refine Run.cond _ rfl (fun hb => ?_) (fun hb => ?_)
    · have hb3 := hb
      exact absurd hb (by decide)
    · have hb3 := hb
      refine Run.skip ?_
      refine End.blk ?_
      refine End.kp [0, 3, 9, 10, 11] ?_
      have fx := And.intro (@Int.toNat_natCast) (And.intro (@Int.natCast_nonneg) (And.intro hil (And.intro hrr (And.intro wi ft))))
      refine Run.go ?_
      refine End.lp ?_
      refine ⟨2 - (i + 1), _, by omega, Ghost.form [(0, .im (.sl [[.sl []], [.sl []]])), (3, .i 0), (9, .im (.sl [[.sl []], [.sl []]])), (10, .i 2), (11, .i (i + 1 : Nat))] 0 ⟨rfl, rfl, rfl, rfl, rfl, trivial⟩ rfl rfl, i + 1, rfl, by omega, rfl⟩
  · have hb2 := hb
    refine Run.exit rfl ?_
    refine End.kp [0, 3] ?_
    refine Run.seq ?_
    have fx := ft
    refine Run.region rfl fun K hK => GOps.sim ?_
    refine GOps.callM rfl rfl rfl rfl (by kernel_rfl) (ACalls.sim ?_)
    refine (growL0_ok _).mono fun v u hv => ?_
    obtain ⟨rfl, rfl⟩ := hv
    refine ⟨_, _, rfl, GOps.sim ?_⟩
    refine GOps.done (hK _ ?_); clear hK K
    refine End.kp [0, 6] ?_
    refine Run.seq ?_
    refine Run.seq ?_
    refine Run.go ?_
    refine End.kp [6, 25, 26, 27] ?_
    refine Run.block ?_
    refine Run.ghost (Ghost.form [(6, .im (.sl [])), (25, .im (.sl [[.sl []], [.sl []]])), (26, .i 2), (27, .i ((0 : Nat) : Int))] 0 ⟨rfl, rfl, rfl, rfl, trivial⟩ rfl rfl) ?_
    refine Run.loop (fun m' st => ∃ i : Nat, m' = 2 - i ∧ i ≤ 2 ∧ st = ⟨[(6, .im (.sl [])), (25, .im (.sl [[.sl []], [.sl []]])), (26, .i 2), (27, .i (i : Nat))], [], up⟩) 2 ⟨0, rfl, by omega, rfl⟩ fun m' st hI => ?_
    obtain ⟨i, rfl, hi, rfl⟩ := hI
    refine Run.seq ?_
    have fx := ft
    refine Run.go ?_
    refine End.kp [6, 25, 26, 27, 28] ?_
    refine Run.seq ?_
    refine Run.cond _ rfl (fun hb => ?_) (fun hb => ?_)
    · have hb2 := of_decide_eq_true hb
      have hin : i < 2 := by omega
      have wi := wsucc (i := i) (n := 2) hin (by omega)
      have hil : (i : Int) < ((0 + 1 + 1 : Nat) : Int) := by omega
      have hrr : ([[.sl []], [.sl []]] : List (List Im))[i]? = some [.sl []] := by rcases (show i = 0 ∨ i = 1 by omega) with rfl | rfl <;> rfl
      refine Run.skip ?_
      refine End.kp [6, 25, 26, 27] ?_
      refine Run.seq ?_
      refine Run.block ?_
      refine Run.seq ?_
      have fx := And.intro (@Int.toNat_natCast) (And.intro (@Int.natCast_nonneg) (And.intro hil (And.intro hrr (And.intro wi ft))))
      refine Run.go ?_
      refine End.kp [6, 8, 25, 26, 27] ?_
      refine Run.region rfl fun K hK => GOps.sim ?_
      refine GOps.appendE (GOps.sim ?_)
      refine GOps.done (hK _ ?_); clear hK K
      refine End.blk ?_
      refine End.kp [6, 25, 26, 27] ?_
      have fx := And.intro (@Int.toNat_natCast) (And.intro (@Int.natCast_nonneg) (And.intro hil (And.intro hrr (And.intro wi ft))))
      refine Run.go ?_
      refine End.lp ?_
      refine ⟨2 - (i + 1), _, by omega, Ghost.form [(6, .im (.sl [])), (25, .im (.sl [[.sl []], [.sl []]])), (26, .i 2), (27, .i (i + 1 : Nat))] 0 ⟨rfl, rfl, rfl, rfl, trivial⟩ rfl rfl, i + 1, rfl, by omega, rfl⟩
    · have hb2 := hb
      refine Run.exit rfl ?_
      refine End.kp [6] ?_
      refine Run.seq ?_
      have fx := ft
      refine Run.go ?_
      refine End.kp [2] ?_
      refine Run.ret (hQ _ _ ⟨.inr rfl, _, rfl, _, rfl, ?_⟩)
      exact ⟨rfl, rfl⟩
theorem netLit_ok (l : Int) (h0 : 0 ≤ l) (h1 : l ≤ 1000000) (up : Frs) : ACalls Try.prog 155 [.i l] up fun v u => v = .i (netOf l) ∧ u = up := by
  have hd := tdiv2 l h0 (by omega)
  have w1 : IntKind.i64.wrap (l / 2 + 1) = l / 2 + 1 := wrap64 (by omega)
  refine ACalls.code Try.func155 rfl 8 rfl (by simp) [.tmp 2] rfl fun Q hQ => ?_
  simp only [ups, PV.up, argEnv]
  have ft := And.intro ty_3 (And.intro ty_4 (And.intro ty_62 trivial))
  refine Run.seq ?_
  have fx := And.intro w1 (And.intro hd ft)
  refine Run.go ?_
  refine End.kp [0] ?_
  refine Run.seq ?_
  refine Run.seq ?_
  refine Run.go ?_
  refine End.kp [0, 4] ?_
  refine Run.cond _ rfl (fun hb => ?_) (fun hb => ?_)
  · have hb2 := of_decide_eq_true hb
    refine Run.seq ?_
    have fx := And.intro w1 (And.intro hd ft)
    refine Run.go ?_
    refine End.kp [2] ?_
    refine Run.ret (hQ _ _ ⟨.inr rfl, _, rfl, _, rfl, ?_⟩)
    exact ⟨by rw [netOf, if_pos hb2], rfl⟩
  · have hb2 := of_decide_eq_false hb
    refine Run.skip ?_
    refine End.kp [0] ?_
    refine Run.seq ?_
    have fx := And.intro w1 (And.intro hd ft)
    refine Run.go ?_
    refine End.kp [2] ?_
    refine Run.ret (hQ _ _ ⟨.inr rfl, _, rfl, _, rfl, ?_⟩)
    exact ⟨by rw [netOf, if_neg hb2], rfl⟩
end Go.Proofs.YtkmnmokjlpenhaaPi

/- The walk of what gives each literal a net (With$1): an inverter is made where none is yet. -/
set_option linter.unusedVariables false
set_option linter.unusedSimpArgs false
set_option maxRecDepth 100000
namespace Go.Proofs.YtkmnmokjlpenhaaPi
set_option maxHeartbeats 4000000
theorem FirstM_ok (inn out : List ByteArray) (d nf ng no : Nat) (h1 : inn.length ≤ 1000) (h2 : nf ≤ 1000) (up : Frs) : ACalls Try.prog 82 [.agg [.im (.sl (strs inn)), .im (.sl (strs out)), .ms d 3 nf, .ms d 4 ng, .ms d 5 no]] up fun v u => v = .i (2 + inn.length + nf) ∧ u = up := by
  have w1 : IntKind.i64.wrap (2 + (inn.length : Int)) = 2 + (inn.length : Int) := wrap64 (by omega)
  have w2 : IntKind.i64.wrap (2 + (inn.length : Int) + nf) = 2 + (inn.length : Int) + nf := wrap64 (by omega)
  refine ACalls.code Try.func82 rfl 11 rfl (by simp) [.tmp 2] rfl fun Q hQ => ?_
  simp only [ups, PV.up, argEnv]
  have ft := And.intro ty_2 (And.intro ty_3 (And.intro ty_9 (And.intro ty_26 (And.intro ty_27 (And.intro ty_30 (And.intro ty_78 trivial))))))
  refine Run.seq ?_
  have fx := And.intro w2 (And.intro w1 (And.intro strs_len ft))
  refine Run.go ?_
  refine End.kp [1] ?_
  refine Run.seq ?_
  refine Run.go ?_
  refine End.kp [2] ?_
  refine Run.ret (hQ _ _ ⟨.inr rfl, _, rfl, _, rfl, ?_⟩)
  exact ⟨rfl, rfl⟩
theorem NetsM_ok (inn out : List ByteArray) (d nf ng no : Nat) (h1 : inn.length ≤ 1000) (h2 : nf ≤ 1000) (h3 : ng ≤ 1000) (up : Frs) : ACalls Try.prog 19 [.agg [.im (.sl (strs inn)), .im (.sl (strs out)), .ms d 3 nf, .ms d 4 ng, .ms d 5 no]] up fun v u => v = .i (2 + inn.length + nf + ng) ∧ u = up := by
  have w3 : IntKind.i64.wrap (2 + (inn.length : Int) + nf + ng) = 2 + (inn.length : Int) + nf + ng := wrap64 (by omega)
  refine ACalls.code Try.func19 rfl 9 rfl (by simp) [.tmp 2] rfl fun Q hQ => ?_
  simp only [ups, PV.up, argEnv]
  have ft := And.intro ty_3 (And.intro ty_28 (And.intro ty_30 (And.intro ty_39 trivial)))
  refine Run.seq ?_
  have fx := And.intro w3 ft
  refine Run.go ?_
  refine End.kp [1] ?_
  refine Run.seq ?_
  refine Run.drawA fun K hK => ?_
  refine DOps.sim ?_
  refine DOps.call (.i (2 + inn.length + nf)) [] [] rfl rfl rfl rfl (by kernel_rfl) (by simp [Agree]) (fun u hu => FirstM_ok inn out (d + 1) nf ng no h1 h2 u) ?_
  refine DOps.sim ?_
  refine DOps.nil (metAll_quiet rfl) (hK _ ?_); clear hK K
  refine End.kp [2] ?_
  refine Run.ret (hQ _ _ ⟨.inr rfl, _, rfl, _, rfl, ?_⟩)
  exact ⟨rfl, rfl⟩
/-- The literals that have a net of their own, in the order in which they got it. -/
def mapI (I : List (Int × Int)) : List (List Im × Im) := I.map fun p => ([.int .i64 p.1], .int .i64 p.2)
def lookI (l : Int) : List (Int × Int) → Nat → Option (Nat × Int)
  | [], _ => none
  | p :: I, i => if l = p.1 then some (i, p.2) else lookI l I (i + 1)
theorem same_int (a b : Int) : sameIm Try.prog 62 (.int .i64 a) (.int .i64 b) = some (decide (a = b)) := by
  simp only [sameIm, ty_62, Option.isSome_some, if_true]
  rfl
theorem findI (l : Int) : ∀ (I : List (Int × Int)) (i : Nat), findIm Try.prog 62 (.int .i64 l) (mapI I) i = some ((lookI l I i).map fun q => (q.1, .int .i64 q.2))
  | [], i => rfl
  | p :: I, i => by
    simp only [mapI, List.map_cons, findIm, same_int, lookI]
    by_cases h : l = p.1
    · rw [if_pos h, decide_eq_true h]; rfl
    · rw [if_neg h, decide_eq_false h]; exact findI l I (i + 1)
theorem findI_last (l v : Int) : ∀ (I : List (Int × Int)) (i : Nat), lookI l I i = none → findIm Try.prog 62 (.int .i64 l) (mapI I ++ [([.int .i64 l], .int .i64 v)]) i = some (some (i + I.length, .int .i64 v))
  | [], i, _ => by simp [mapI, findIm, same_int]
  | p :: I, i, h => by
    simp only [lookI] at h
    split at h
    · simp at h
    · rename_i hne
      simp only [mapI, List.map_cons, List.cons_append, findIm, same_int, decide_eq_false hne]
      have := findI_last l v I (i + 1) h
      simp only [mapI] at this
      rw [this]
      simp; omega
/-- What the state becomes: the net, the literals known, the gates. -/
def atN (nb : Int) (l : Int) (I : List (Int × Int)) (G : List LGate) : Int × List (Int × Int) × List LGate :=
  if 1 < l ∧ l % 2 = 0 then (netOf l, I, G) else match lookI l I 0 with
  | some (_, k) => (k, I, G)
  | none => (nb + G.length, I ++ [(l, nb + G.length)], G ++ [⟨1, [netOf l]⟩])
theorem at_even (inn out : List ByteArray) (nf no : Nat) (I : List (Int × Int)) (G : List LGate) (l : Int) (h0 : 0 ≤ l) (h1 : l ≤ 1000000) (b1 : inn.length ≤ 1000) (b2 : nf ≤ 1000) (b3 : G.length ≤ 900) (u0 : Frs) (k7 : fget u0 0 7 = some (.box [.map 0 6])) (k6 : fget u0 0 6 = some (.map (mapI I))) (k2 : fget u0 0 2 = some (.box [.im (.sl (strs inn)), .im (.sl (strs out)), .ms 0 3 nf, .ms 0 4 G.length, .ms 0 5 no])) (k4 : fget u0 0 4 = some (.row 39 3 (G.map LGate.im) 0)) (he : 1 < l ∧ l % 2 = 0) : ACalls Try.prog 156 [.i l, .ptr 0 7 0, .ptr 0 2 0] u0 fun v u => v = .i (netOf l) ∧ u = u0 := by
  have hm : l.tmod 2 = l % 2 := tmod2 l h0
  have hml : IntKind.i64.wrap (l % 2) = l % 2 := wrap64 (by omega)
  
  have g1 : decide (l > 1) = true := decide_eq_true (by omega)
  have g2 : (l % 2 == 0) = true := by rw [he.2]; rfl
  refine ACalls.code Try.func156 rfl 40 rfl (by simp) [.tmp 4] rfl fun Q hQ => ?_
  simp only [ups, PV.up, argEnv]
  have ft := And.intro ty_2 (And.intro ty_3 (And.intro ty_4 (And.intro ty_22 (And.intro ty_28 (And.intro ty_30 (And.intro ty_39 (And.intro ty_62 (And.intro ty_206 trivial))))))))
  refine Run.seq ?_
  have fx := And.intro g2 (And.intro g1 (And.intro hml (And.intro hm ft)))
  refine Run.go ?_
  refine End.kp [0, 1, 2] ?_
  refine Run.seq ?_
  refine Run.seq ?_
  refine Run.go ?_
  refine End.kp [0, 1, 2, 13] ?_
  refine Run.cond _ rfl (fun hb => ?_) (fun hb => ?_)
  · have hb2 := hb
    refine Run.seq ?_
    have fx := And.intro g2 (And.intro g1 (And.intro hml (And.intro hm ft)))
    refine Run.region rfl fun K hK => GOps.sim ?_
    refine GOps.call rfl rfl rfl rfl (by kernel_rfl) (ACalls.sim ?_)
    refine (netLit_ok l h0 h1 _).mono fun v u hv => ?_
    obtain ⟨rfl, rfl⟩ := hv
    refine ⟨_, _, rfl, GOps.sim ?_⟩
    refine GOps.done (hK _ ?_); clear hK K
    refine End.kp [4] ?_
    refine Run.ret (hQ _ _ ⟨.inr rfl, _, rfl, _, rfl, ?_⟩)
    exact ⟨rfl, rfl⟩
  · have hb2 := hb
    simp at hb
theorem at_old (inn out : List ByteArray) (nf no : Nat) (I : List (Int × Int)) (G : List LGate) (l : Int) (h0 : 0 ≤ l) (h1 : l ≤ 1000000) (b1 : inn.length ≤ 1000) (b2 : nf ≤ 1000) (b3 : G.length ≤ 900) (u0 : Frs) (k7 : fget u0 0 7 = some (.box [.map 0 6])) (k6 : fget u0 0 6 = some (.map (mapI I))) (k2 : fget u0 0 2 = some (.box [.im (.sl (strs inn)), .im (.sl (strs out)), .ms 0 3 nf, .ms 0 4 G.length, .ms 0 5 no])) (k4 : fget u0 0 4 = some (.row 39 3 (G.map LGate.im) 0)) (he : ¬ (1 < l ∧ l % 2 = 0)) (q : Nat) (k : Int) (hq : lookI l I 0 = some (q, k)) : ACalls Try.prog 156 [.i l, .ptr 0 7 0, .ptr 0 2 0] u0 fun v u => v = .i k ∧ u = u0 := by
  have hm : l.tmod 2 = l % 2 := tmod2 l h0
  have hml : IntKind.i64.wrap (l % 2) = l % 2 := wrap64 (by omega)
  
  have hf : findIm Try.prog 62 (.int .i64 l) (mapI I) 0 = some (some (q, .int .i64 k)) := by rw [findI, hq]; rfl
  refine ACalls.code Try.func156 rfl 40 rfl (by simp) [.tmp 4] rfl fun Q hQ => ?_
  simp only [ups, PV.up, argEnv]
  have ft := And.intro ty_2 (And.intro ty_3 (And.intro ty_4 (And.intro ty_22 (And.intro ty_28 (And.intro ty_30 (And.intro ty_39 (And.intro ty_62 (And.intro ty_206 trivial))))))))
  refine Run.seq ?_
  have fx := And.intro hf (And.intro k6 (And.intro k7 (And.intro hml (And.intro hm ft))))
  refine Run.go ?_
  refine End.kp [0, 1, 2] ?_
  refine Run.seq ?_
  refine Run.seq ?_
  rcases Bool.eq_false_or_eq_true (decide (l > 1)) with hs1 | hs1
  · skip
    have g2 : (l % 2 == 0) = false := beq_eq_false_iff_ne.2 fun e => he ⟨of_decide_eq_true hs1, e⟩
    have fx := And.intro g2 (And.intro hs1 (And.intro hf (And.intro k6 (And.intro k7 (And.intro hml (And.intro hm ft))))))
    refine Run.go ?_
    refine End.kp [0, 1, 2, 13] ?_
    refine Run.cond _ rfl (fun hb => ?_) (fun hb => ?_)
    · have hb2 := hb
      simp at hb
    · have hb2 := hb
      refine Run.skip ?_
      refine End.kp [0, 1, 2] ?_
      refine Run.seq ?_
      refine Run.seq ?_
      have fx := And.intro g2 (And.intro hs1 (And.intro hf (And.intro k6 (And.intro k7 (And.intro hml (And.intro hm ft))))))
      refine Run.go ?_
      refine End.kp [0, 1, 2, 5, 6] ?_
      refine Run.seq ?_
      refine Run.go ?_
      refine End.kp [0, 1, 2, 5, 22] ?_
      refine Run.cond _ rfl (fun hb => ?_) (fun hb => ?_)
      · have hb3 := hb
        refine Run.seq ?_
        have fx := And.intro g2 (And.intro hs1 (And.intro hf (And.intro k6 (And.intro k7 (And.intro hml (And.intro hm ft))))))
        refine Run.go ?_
        refine End.kp [4] ?_
        refine Run.ret (hQ _ _ ⟨.inr rfl, _, rfl, _, rfl, ?_⟩)
        exact ⟨rfl, rfl⟩
      · have hb3 := hb
        simp at hb
  · skip
    have g2 := hs1
    have fx := And.intro g2 (And.intro hs1 (And.intro hf (And.intro k6 (And.intro k7 (And.intro hml (And.intro hm ft))))))
    refine Run.go ?_
    refine End.kp [0, 1, 2, 13] ?_
    refine Run.cond _ rfl (fun hb => ?_) (fun hb => ?_)
    · have hb2 := hb
      simp at hb
    · have hb2 := hb
      refine Run.skip ?_
      refine End.kp [0, 1, 2] ?_
      refine Run.seq ?_
      refine Run.seq ?_
      have fx := And.intro g2 (And.intro hs1 (And.intro hf (And.intro k6 (And.intro k7 (And.intro hml (And.intro hm ft))))))
      refine Run.go ?_
      refine End.kp [0, 1, 2, 5, 6] ?_
      refine Run.seq ?_
      refine Run.go ?_
      refine End.kp [0, 1, 2, 5, 22] ?_
      refine Run.cond _ rfl (fun hb => ?_) (fun hb => ?_)
      · have hb3 := hb
        refine Run.seq ?_
        have fx := And.intro g2 (And.intro hs1 (And.intro hf (And.intro k6 (And.intro k7 (And.intro hml (And.intro hm ft))))))
        refine Run.go ?_
        refine End.kp [4] ?_
        refine Run.ret (hQ _ _ ⟨.inr rfl, _, rfl, _, rfl, ?_⟩)
        exact ⟨rfl, rfl⟩
      · have hb3 := hb
        simp at hb
theorem at_new (inn out : List ByteArray) (nf no : Nat) (I : List (Int × Int)) (G : List LGate) (l : Int) (h0 : 0 ≤ l) (h1 : l ≤ 1000000) (b1 : inn.length ≤ 1000) (b2 : nf ≤ 1000) (b3 : G.length ≤ 900) (u0 : Frs) (k7 : fget u0 0 7 = some (.box [.map 0 6])) (k6 : fget u0 0 6 = some (.map (mapI I))) (k2 : fget u0 0 2 = some (.box [.im (.sl (strs inn)), .im (.sl (strs out)), .ms 0 3 nf, .ms 0 4 G.length, .ms 0 5 no])) (k4 : fget u0 0 4 = some (.row 39 3 (G.map LGate.im) 0)) (he : ¬ (1 < l ∧ l % 2 = 0)) (hq : lookI l I 0 = none) : ACalls Try.prog 156 [.i l, .ptr 0 7 0, .ptr 0 2 0] u0 fun v u => v = .i (2 + inn.length + nf + G.length) ∧ u = fset (fset (fset u0 0 6 (.map (mapI I ++ [([.int .i64 l], .int .i64 (2 + inn.length + nf + G.length))]))) 0 4 (.row 39 3 ((G ++ [(⟨1, [netOf l]⟩ : LGate)]).map LGate.im) 0)) 0 2 (.box [.im (.sl (strs inn)), .im (.sl (strs out)), .ms 0 3 nf, .ms 0 4 (G.length + 1), .ms 0 5 no]) := by
  have hm : l.tmod 2 = l % 2 := tmod2 l h0
  have hml : IntKind.i64.wrap (l % 2) = l % 2 := wrap64 (by omega)
  
  have hf : findIm Try.prog 62 (.int .i64 l) (mapI I) 0 = some none := by rw [findI, hq]; rfl
  have hfl := findI_last l (2 + inn.length + nf + G.length) I 0 hq
  have hap : (G.length + 1) * 40 ≤ 140737488355328 := by omega
  have hgl : (G.map LGate.im).length = G.length := by simp
  have ne : ∀ (u : Frs) (j j' : Nat) (o : AObj), j ≠ j' → fget (fset u 0 j o) 0 j' = fget u 0 j' := fun u j j' o h => by rw [fget_fset, if_neg (fun e => h e.2.symm)]
  have se : ∀ (u : Frs) (j : Nat) (o o0 : AObj), fget u 0 j = some o0 → fget (fset u 0 j o) 0 j = some o := fun u j o o0 h => fget_fset_same _ _ _ _ _ h
  have q2 := fun o => (ne u0 6 2 o (by decide)).trans k2
  have q4 := fun o => (ne u0 6 4 o (by decide)).trans k4
  have q7 := fun o => (ne u0 6 7 o (by decide)).trans k7
  have q6 := fun o => se u0 6 o _ k6
  have p2 := fun o o' => (ne (fset u0 0 6 o) 4 2 o' (by decide)).trans (q2 o)
  have p7 := fun o o' => (ne (fset u0 0 6 o) 4 7 o' (by decide)).trans (q7 o)
  have p6 := fun o o' => (ne (fset u0 0 6 o) 4 6 o' (by decide)).trans (q6 o)
  have r7 := fun o o' o'' => (ne (fset (fset u0 0 6 o) 0 4 o') 2 7 o'' (by decide)).trans (p7 o o')
  have r6 := fun o o' o'' => (ne (fset (fset u0 0 6 o) 0 4 o') 2 6 o'' (by decide)).trans (p6 o o')
  refine ACalls.code Try.func156 rfl 40 rfl (by simp) [.tmp 4] rfl fun Q hQ => ?_
  simp only [ups, PV.up, argEnv]
  have ft := And.intro ty_2 (And.intro ty_3 (And.intro ty_4 (And.intro ty_22 (And.intro ty_28 (And.intro ty_30 (And.intro ty_39 (And.intro ty_62 (And.intro ty_206 trivial))))))))
  refine Run.seq ?_
  have fx := And.intro r6 (And.intro r7 (And.intro p6 (And.intro p7 (And.intro p2 (And.intro q6 (And.intro q7 (And.intro q4 (And.intro q2 (And.intro hgl (And.intro hap (And.intro hfl (And.intro hf (And.intro k4 (And.intro k2 (And.intro k6 (And.intro k7 (And.intro hml (And.intro hm ft))))))))))))))))))
  refine Run.go ?_
  refine End.kp [0, 1, 2] ?_
  refine Run.seq ?_
  refine Run.seq ?_
  rcases Bool.eq_false_or_eq_true (decide (l > 1)) with hs1 | hs1
  · skip
    have g2 : (l % 2 == 0) = false := beq_eq_false_iff_ne.2 fun e => he ⟨of_decide_eq_true hs1, e⟩
    have fx := And.intro g2 (And.intro hs1 (And.intro r6 (And.intro r7 (And.intro p6 (And.intro p7 (And.intro p2 (And.intro q6 (And.intro q7 (And.intro q4 (And.intro q2 (And.intro hgl (And.intro hap (And.intro hfl (And.intro hf (And.intro k4 (And.intro k2 (And.intro k6 (And.intro k7 (And.intro hml (And.intro hm ft))))))))))))))))))))
    refine Run.go ?_
    refine End.kp [0, 1, 2, 13] ?_
    refine Run.cond _ rfl (fun hb => ?_) (fun hb => ?_)
    · have hb2 := hb
      simp at hb
    · have hb2 := hb
      refine Run.skip ?_
      refine End.kp [0, 1, 2] ?_
      refine Run.seq ?_
      refine Run.seq ?_
      have fx := And.intro g2 (And.intro hs1 (And.intro r6 (And.intro r7 (And.intro p6 (And.intro p7 (And.intro p2 (And.intro q6 (And.intro q7 (And.intro q4 (And.intro q2 (And.intro hgl (And.intro hap (And.intro hfl (And.intro hf (And.intro k4 (And.intro k2 (And.intro k6 (And.intro k7 (And.intro hml (And.intro hm ft))))))))))))))))))))
      refine Run.go ?_
      refine End.kp [0, 1, 2, 5, 6] ?_
      refine Run.seq ?_
      refine Run.go ?_
      refine End.kp [0, 1, 2, 5, 22] ?_
      refine Run.cond _ rfl (fun hb => ?_) (fun hb => ?_)
      · have hb3 := hb
        simp at hb
      · have hb3 := hb
        refine Run.skip ?_
        refine End.kp [0, 1, 2] ?_
        refine Run.seq ?_
        have fx := And.intro g2 (And.intro hs1 (And.intro r6 (And.intro r7 (And.intro p6 (And.intro p7 (And.intro p2 (And.intro q6 (And.intro q7 (And.intro q4 (And.intro q2 (And.intro hgl (And.intro hap (And.intro hfl (And.intro hf (And.intro k4 (And.intro k2 (And.intro k6 (And.intro k7 (And.intro hml (And.intro hm ft))))))))))))))))))))
        refine Run.drawA fun K hK => ?_
        refine DOps.sim ?_
        refine DOps.call (.i (2 + inn.length + nf + G.length)) [] [] rfl rfl rfl rfl (by kernel_rfl) (by simp [Agree]) (fun u hu => NetsM_ok inn out 1 nf G.length no b1 b2 (by omega) u) ?_
        refine DOps.sim ?_
        refine DOps.updV (d := 1) (j := 6) (mapI I) hf (by exact k6) ?_
        refine DOps.sim ?_
        refine DOps.nil (by rfl) (hK _ ?_); clear hK K
        refine End.kp [0, 1, 2] ?_
        refine Run.seq ?_
        refine Run.ghost (.spares 1) ?_
        simp only [ASt.pushN, ASt.push, List.append_assoc, List.cons_append, List.nil_append]
        refine Run.drawA fun K hK => ?_
        refine DOps.sim ?_
        refine DOps.call (.i (netOf l)) [] [] rfl rfl rfl rfl (by kernel_rfl) (by simp [Agree]) (fun u hu => netLit_ok l h0 h1 u) ?_
        refine DOps.litF ?_
        refine DOps.sim ?_
        refine DOps.nil (by rfl) (hK _ ?_); clear hK K
        refine End.kp [0, 1] ?_
        refine Run.seq ?_
        have fx := And.intro g2 (And.intro hs1 (And.intro r6 (And.intro r7 (And.intro p6 (And.intro p7 (And.intro p2 (And.intro q6 (And.intro q7 (And.intro q4 (And.intro q2 (And.intro hgl (And.intro hap (And.intro hfl (And.intro hf (And.intro k4 (And.intro k2 (And.intro k6 (And.intro k7 (And.intro hml (And.intro hm ft))))))))))))))))))))
        refine Run.go ?_
        refine End.kp [4] ?_
        refine Run.ret (hQ _ _ ⟨.inr rfl, _, rfl, _, rfl, ?_⟩)
        exact ⟨rfl, by rw [List.map_append]; rfl⟩
  · skip
    have g2 := hs1
    have fx := And.intro g2 (And.intro hs1 (And.intro r6 (And.intro r7 (And.intro p6 (And.intro p7 (And.intro p2 (And.intro q6 (And.intro q7 (And.intro q4 (And.intro q2 (And.intro hgl (And.intro hap (And.intro hfl (And.intro hf (And.intro k4 (And.intro k2 (And.intro k6 (And.intro k7 (And.intro hml (And.intro hm ft))))))))))))))))))))
    refine Run.go ?_
    refine End.kp [0, 1, 2, 13] ?_
    refine Run.cond _ rfl (fun hb => ?_) (fun hb => ?_)
    · have hb2 := hb
      simp at hb
    · have hb2 := hb
      refine Run.skip ?_
      refine End.kp [0, 1, 2] ?_
      refine Run.seq ?_
      refine Run.seq ?_
      have fx := And.intro g2 (And.intro hs1 (And.intro r6 (And.intro r7 (And.intro p6 (And.intro p7 (And.intro p2 (And.intro q6 (And.intro q7 (And.intro q4 (And.intro q2 (And.intro hgl (And.intro hap (And.intro hfl (And.intro hf (And.intro k4 (And.intro k2 (And.intro k6 (And.intro k7 (And.intro hml (And.intro hm ft))))))))))))))))))))
      refine Run.go ?_
      refine End.kp [0, 1, 2, 5, 6] ?_
      refine Run.seq ?_
      refine Run.go ?_
      refine End.kp [0, 1, 2, 5, 22] ?_
      refine Run.cond _ rfl (fun hb => ?_) (fun hb => ?_)
      · have hb3 := hb
        simp at hb
      · have hb3 := hb
        refine Run.skip ?_
        refine End.kp [0, 1, 2] ?_
        refine Run.seq ?_
        have fx := And.intro g2 (And.intro hs1 (And.intro r6 (And.intro r7 (And.intro p6 (And.intro p7 (And.intro p2 (And.intro q6 (And.intro q7 (And.intro q4 (And.intro q2 (And.intro hgl (And.intro hap (And.intro hfl (And.intro hf (And.intro k4 (And.intro k2 (And.intro k6 (And.intro k7 (And.intro hml (And.intro hm ft))))))))))))))))))))
        refine Run.drawA fun K hK => ?_
        refine DOps.sim ?_
        refine DOps.call (.i (2 + inn.length + nf + G.length)) [] [] rfl rfl rfl rfl (by kernel_rfl) (by simp [Agree]) (fun u hu => NetsM_ok inn out 1 nf G.length no b1 b2 (by omega) u) ?_
        refine DOps.sim ?_
        refine DOps.updV (d := 1) (j := 6) (mapI I) hf (by exact k6) ?_
        refine DOps.sim ?_
        refine DOps.nil (by rfl) (hK _ ?_); clear hK K
        refine End.kp [0, 1, 2] ?_
        refine Run.seq ?_
        refine Run.ghost (.spares 1) ?_
        simp only [ASt.pushN, ASt.push, List.append_assoc, List.cons_append, List.nil_append]
        refine Run.drawA fun K hK => ?_
        refine DOps.sim ?_
        refine DOps.call (.i (netOf l)) [] [] rfl rfl rfl rfl (by kernel_rfl) (by simp [Agree]) (fun u hu => netLit_ok l h0 h1 u) ?_
        refine DOps.litF ?_
        refine DOps.sim ?_
        refine DOps.nil (by rfl) (hK _ ?_); clear hK K
        refine End.kp [0, 1] ?_
        refine Run.seq ?_
        have fx := And.intro g2 (And.intro hs1 (And.intro r6 (And.intro r7 (And.intro p6 (And.intro p7 (And.intro p2 (And.intro q6 (And.intro q7 (And.intro q4 (And.intro q2 (And.intro hgl (And.intro hap (And.intro hfl (And.intro hf (And.intro k4 (And.intro k2 (And.intro k6 (And.intro k7 (And.intro hml (And.intro hm ft))))))))))))))))))))
        refine Run.go ?_
        refine End.kp [4] ?_
        refine Run.ret (hQ _ _ ⟨.inr rfl, _, rfl, _, rfl, ?_⟩)
        exact ⟨rfl, by rw [List.map_append]; rfl⟩
end Go.Proofs.YtkmnmokjlpenhaaPi

