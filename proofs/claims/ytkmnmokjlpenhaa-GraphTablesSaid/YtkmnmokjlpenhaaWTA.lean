/- Merged: WGF WGG WGH. -/
import Derived.Test.YtkmnmokjlpenhaaWGD
import Derived.Test.YtkmnmokjlpenhaaPWords
/- The walks of Copy of graphs, and of pair, depends of makers. -/
set_option linter.unusedVariables false
set_option linter.unusedSimpArgs false
set_option maxRecDepth 100000
namespace Go.Proofs.YtkmnmokjlpenhaaPi
set_option maxHeartbeats 4000000
theorem CloneL_nil (up : Frs) : ACalls Try.prog 149 [.im (.sl (([] : List Int).map iI))] up fun v u => v = .im (.sl (([] : List Int).map iI)) ∧ u = up := by
  refine ACalls.code Try.func149 rfl 8 rfl (by simp) [.tmp 2] rfl fun Q hQ => ?_
  simp only [ups, PV.up, argEnv]
  have ft := And.intro ty_4 (And.intro ty_49 (And.intro ty_62 trivial))
  refine Run.seq ?_
  have fx := And.intro (@List.map_nil.{0, 0}) ft
  refine Run.go ?_
  refine End.kp [0] ?_
  refine Run.seq ?_
  refine Run.seq ?_
  refine Run.go ?_
  refine End.kp [0, 4] ?_
  refine Run.cond_any rfl ?_ ?_
  · skip
    refine Run.seq ?_
    have fx := And.intro (@List.map_nil.{0, 0}) ft
    refine Run.go ?_
    refine End.kp [2] ?_
    refine Run.resC hQ ?_
    exact ⟨rfl, rfl⟩
  · skip
    refine Run.skip ?_
    refine End.kp [0] ?_
    refine Run.seq ?_
    have fx := And.intro (@List.map_nil.{0, 0}) ft
    refine Run.go ?_
    refine End.kp [2] ?_
    refine Run.resC hQ ?_
    exact ⟨rfl, rfl⟩
theorem CloneL_cons (x : Int) (xs : List Int) (h : xs.length ≤ 1000000) (up : Frs) : ACalls Try.prog 149 [.im (.sl ((x :: xs).map iI))] up fun v u => v = .im (.sl ((x :: xs).map iI)) ∧ u = up := by
  have hall : (xs.map iI).all (fun r => r.length == 1) = true := by simp
  have hlen : ((xs.map iI).length + 1) * 8 ≤ 140737488355328 := by rw [List.length_map]; omega
  refine ACalls.code Try.func149 rfl 8 rfl (by simp) [.tmp 2] rfl fun Q hQ => ?_
  simp only [ups, PV.up, argEnv]
  have ft := And.intro ty_4 (And.intro ty_49 (And.intro ty_62 trivial))
  refine Run.seq ?_
  have fx := And.intro hlen (And.intro hall (And.intro (@List.map_cons.{0, 0}) ft))
  refine Run.go ?_
  refine End.kp [0] ?_
  refine Run.seq ?_
  refine Run.seq ?_
  refine Run.go ?_
  refine End.kp [0, 4] ?_
  refine Run.cond _ rfl (fun hb => ?_) (fun hb => ?_)
  · have hb := hb
    simp at hb
  · have hb := hb
    refine Run.skip ?_
    refine End.kp [0] ?_
    refine Run.seq ?_
    have fx := And.intro hlen (And.intro hall (And.intro (@List.map_cons.{0, 0}) ft))
    refine Run.go ?_
    refine End.move (Ghost.shut (t := 2) (j := 0) rfl rfl rfl) ?_
    simp only [eput, edel]
    refine End.kp [2] ?_
    refine Run.ret (hQ _ _ ⟨.inr rfl, _, rfl, _, rfl, ?_⟩)
    exact ⟨rfl, rfl⟩
theorem CloneL_ok (q : List Int) (h : q.length ≤ 1000000) (up : Frs) : ACalls Try.prog 149 [.im (.sl (q.map iI))] up fun v u => v = .im (.sl (q.map iI)) ∧ u = up := by
  cases q with
  | nil => exact CloneL_nil up
  | cons x xs => exact CloneL_cons x xs (by simp at h; omega) up
theorem Copy_ok (g : LGraph) (hg : GSmall g) (up : Frs) : ACalls Try.prog 117 [g.pv] up fun v u => v = g.pv ∧ u = up := by
  obtain ⟨z1, z2, z3, z4, z5⟩ := hg
  refine ACalls.code Try.func117 rfl 19 rfl (by simp) [.cell 2 51] rfl fun Q hQ => ?_
  simp only [ups, PV.up, argEnv]
  have ft := And.intro ty_2 (And.intro ty_3 (And.intro ty_4 (And.intro ty_9 (And.intro ty_26 (And.intro ty_47 (And.intro ty_48 (And.intro ty_49 (And.intro ty_51 (And.intro ty_62 (And.intro ty_69 (And.intro ty_137 trivial)))))))))))
  refine Run.seq ?_
  have fx := ft
  refine Run.go ?_
  refine End.kp [1, 2] ?_
  refine Run.seq ?_
  refine Run.drawA fun K hK => ?_
  refine DOps.sim ?_
  refine DOps.call (.im (.sl (strs g.inn))) [] [] rfl rfl rfl rfl (by kernel_rfl) (by simp [Agree]) (fun u hu => CloneS_ok g.inn (by omega) u) ?_
  refine DOps.sim ?_
  refine DOps.call (.im (.sl (strs g.out))) [] [] rfl rfl rfl rfl (by kernel_rfl) (by simp [Agree]) (fun u hu => CloneS_ok g.out (by omega) u) ?_
  refine DOps.sim ?_
  refine DOps.call (.im (.sl (g.regs.map LReg.im))) [] [] rfl rfl rfl rfl (by kernel_rfl) (by simp [Agree]) (fun u hu => CloneR_ok g.regs (by omega) u) ?_
  refine DOps.sim ?_
  refine DOps.call (.im (.sl (g.ands.map nd))) [] [] rfl rfl rfl rfl (by kernel_rfl) (by simp [Agree]) (fun u hu => CloneN_ok g.ands (by omega) u) ?_
  refine DOps.sim ?_
  refine DOps.call (.im (.sl (ints g.outs))) [] [] rfl rfl rfl rfl (by kernel_rfl) (by simp [Agree]) (fun u hu => CloneL_ok g.outs (by omega) u) ?_
  refine DOps.sim ?_
  refine DOps.nil (by rfl) (hK _ ?_); clear hK K
  refine End.kp [2] ?_
  refine Run.resC hQ ?_
  exact ⟨rfl, rfl⟩
/-- Two ands, and what is one of them. -/
def mkPair (m : LMk) (a b c d : Int) : Int × LMk :=
  (flipL (mkAnd (mkAnd (mkAnd m a b).2 c d).2 (flipL (mkAnd m a b).1) (flipL (mkAnd (mkAnd m a b).2 c d).1)).1, (mkAnd (mkAnd (mkAnd m a b).2 c d).2 (flipL (mkAnd m a b).1) (flipL (mkAnd (mkAnd m a b).2 c d).1)).2)
abbrev LMk.top (m : LMk) : Int := 2 * (m.first + m.ands.length)
abbrev InM (m : LMk) (a : Int) : Prop := 0 ≤ a ∧ a < m.top
structure AfterM (m m' : LMk) (n : Nat) : Prop where
  inn : m'.inn = m.inn
  regs : m'.regs = m.regs
  less : m.ands.length ≤ m'.ands.length
  most : m'.ands.length ≤ m.ands.length + n
theorem AfterM.first {m m' : LMk} {n : Nat} (h : AfterM m m' n) : m'.first = m.first := by rw [LMk.first, LMk.first, h.inn, h.regs]
theorem AfterM.small {m m' : LMk} {n : Nat} (h : AfterM m m' n) (hm : MkSmall m) (hn : m.ands.length + n ≤ 4000) : MkSmall m' := ⟨by rw [h.inn]; exact hm.inn, by rw [h.regs]; exact hm.regs, by have := h.most; omega⟩
theorem AfterM.up {m m' : LMk} {n : Nat} (h : AfterM m m' n) {a : Int} (ha : InM m a) : InM m' a := by
  have := h.first
  have := h.less
  unfold InM LMk.top at *
  omega
theorem AfterM.trans {m m' m2 : LMk} {n k : Nat} (h : AfterM m m' n) (h' : AfterM m' m2 k) : AfterM m m2 (n + k) := ⟨by rw [h'.inn, h.inn], by rw [h'.regs, h.regs], by have := h.less; have := h'.less; omega, by have := h.most; have := h'.most; omega⟩
theorem AfterM.refl (m : LMk) (n : Nat) : AfterM m m n := ⟨rfl, rfl, Nat.le_refl _, by omega⟩
theorem mkAnd_after (m : LMk) {a b : Int} (ha : InM m a) (hb : InM m b) : AfterM m (mkAnd m a b).2 1 ∧ InM (mkAnd m a b).2 (mkAnd m a b).1 := by
  obtain ⟨h1, h2, h3, h4, h5⟩ := mkAnd_range m a b ha hb
  refine ⟨⟨h2, h3, h4, h5⟩, ?_⟩
  have e : (mkAnd m a b).2.first = m.first := by rw [LMk.first, LMk.first, h2, h3]
  unfold InM LMk.top
  rw [e]
  exact h1
theorem flip_in {m : LMk} {a : Int} (h : InM m a) : InM m (flipL a) := by
  have h1 := flipL_lt a (m.first + m.ands.length) h.1 h.2
  exact h1
theorem mkPair_after (m : LMk) {a b c d : Int} (ha : InM m a) (hb : InM m b) (hc : InM m c) (hd : InM m d) : AfterM m (mkPair m a b c d).2 3 ∧ InM (mkPair m a b c d).2 (mkPair m a b c d).1 := by
  obtain ⟨p1, p2⟩ := mkAnd_after m ha hb
  obtain ⟨q1, q2⟩ := mkAnd_after (mkAnd m a b).2 (p1.up hc) (p1.up hd)
  obtain ⟨r1, r2⟩ := mkAnd_after (mkAnd (mkAnd m a b).2 c d).2 (flip_in (q1.up p2)) (flip_in q2)
  exact ⟨(p1.trans q1).trans r1, flip_in r2⟩
theorem Not_ok (l : Int) (h0 : 0 ≤ l) (h1 : l ≤ 1000000000) (up : Frs) : ACalls Try.prog 148 [.i l] up fun v u => v = .i (flipL l) ∧ u = up := by
  have d1 : decide (l < 0) = false := decide_eq_false (by omega)
  have hx := xor_one l h0 h1
  refine ACalls.code Try.func148 rfl 8 rfl (by simp) [.tmp 2] rfl fun Q hQ => ?_
  simp only [ups, PV.up, argEnv]
  have ft := And.intro ty_4 (And.intro ty_62 trivial)
  refine Run.seq ?_
  have fx := And.intro hx (And.intro d1 ft)
  refine Run.go ?_
  refine End.kp [0] ?_
  refine Run.seq ?_
  refine Run.seq ?_
  refine Run.go ?_
  refine End.kp [0, 4] ?_
  refine Run.cond _ rfl (fun hb => ?_) (fun hb => ?_)
  · have hb2 := hb
    simp at hb
  · have hb2 := hb
    refine Run.skip ?_
    refine End.kp [0] ?_
    refine Run.seq ?_
    have fx := And.intro hx (And.intro d1 ft)
    refine Run.go ?_
    refine End.kp [2] ?_
    refine Run.ret (hQ _ _ ⟨.inr rfl, _, rfl, _, rfl, ?_⟩)
    exact ⟨rfl, rfl⟩
theorem mpair_ok (a b c e : Int) (m : LMk) (hm : MkSmall m) (up : Frs) (d j r q : Nat) (hk : MkAt up d j r q m) (hn : m.ands.length + 3 ≤ 4000) (ha : InM m a) (hb : InM m b) (hc : InM m c) (he : InM m e) : ACalls Try.prog 147 [.ptr d j 0, .i a, .i b, .i c, .i e] up fun v u => v = .tup [.i (mkPair m a b c e).1, .im (.bool true)] ∧ u = setMk up d j r q (mkPair m a b c e).2 := by
  have hm2 := hm
  obtain ⟨z1, z2, z3⟩ := hm
  obtain ⟨p1, p2⟩ := mkAnd_after m ha hb
  obtain ⟨q1, q2⟩ := mkAnd_after (mkAnd m a b).2 (p1.up hc) (p1.up he)
  obtain ⟨r1, r2⟩ := mkAnd_after (mkAnd (mkAnd m a b).2 c e).2 (flip_in (q1.up p2)) (flip_in q2)
  have s1 := p1.small hm2 (by omega)
  have l1 := p1.most
  have s2 := q1.small s1 (by omega)
  have l2 := q1.most
  have f1 := p1.first
  have f2 := q1.first
  have f3 := r1.first
  have l3 := r1.most
  have hP : mkPair m a b c e = (flipL (mkAnd (mkAnd (mkAnd m a b).2 c e).2 (flipL (mkAnd m a b).1) (flipL (mkAnd (mkAnd m a b).2 c e).1)).1, (mkAnd (mkAnd (mkAnd m a b).2 c e).2 (flipL (mkAnd m a b).1) (flipL (mkAnd (mkAnd m a b).2 c e).1)).2) := rfl
  have hb' := p1.up hc
  have he' := p1.up he
  have hx' := flip_in (q1.up p2)
  have hy' := flip_in q2
  unfold InM LMk.top LMk.first at *
  have k1 := fun u (hu : MkAt u (d + 1) j r q m) => mand_ok a b m hm2 u (d + 1) j r q hu (by omega) (by omega) (by omega)
  generalize mkAnd m a b = X at *
  obtain ⟨x, m1⟩ := X
  simp only at *
  have k2 := fun u (hu : MkAt u (d + 1) j r q m1) => mand_ok c e m1 s1 u (d + 1) j r q hu (by omega) (by omega) (by omega)
  generalize mkAnd m1 c e = Y at *
  obtain ⟨y, m2⟩ := Y
  simp only at *
  have k3 := fun u (hu : MkAt u (d + 1) j r q m2) => mand_ok (flipL x) (flipL y) m2 s2 u (d + 1) j r q hu (by omega) (by omega) (by omega)
  generalize mkAnd m2 (flipL x) (flipL y) = Z at *
  obtain ⟨z, m3⟩ := Z
  simp only at *
  refine ACalls.code Try.func147 rfl 50 rfl (by simp) [.tmp 10, .tmp 11] rfl fun Q hQ => ?_
  simp only [ups, PV.up, argEnv]
  have ft := And.intro ty_4 (And.intro ty_62 (And.intro ty_109 trivial))
  refine Run.seq ?_
  have fx := ft
  refine Run.go ?_
  refine End.kp [0, 1, 2, 3, 4] ?_
  refine Run.seq ?_
  refine Run.region rfl fun K hK => GOps.sim ?_
  refine GOps.call rfl rfl rfl rfl (by kernel_rfl) (ACalls.sim ?_)
  refine (k1 _ ⟨hk.box, hk.row, hk.map⟩).mono fun v u hv => ?_
  obtain ⟨rfl, rfl⟩ := hv
  refine ⟨_, _, rfl, GOps.sim ?_⟩
  refine GOps.done (hK _ ?_); clear hK K
  refine End.kp [0, 3, 4, 12, 13] ?_
  refine Run.seq ?_
  refine Run.region rfl fun K hK => GOps.sim ?_
  refine GOps.call rfl rfl rfl rfl (by kernel_rfl) (ACalls.sim ?_)
  refine (k2 _ (by have hh := setMk_at (m' := m1) hk; exact ⟨hh.box, hh.row, hh.map⟩)).mono fun v u hv => ?_
  obtain ⟨rfl, rfl⟩ := hv
  refine ⟨_, _, rfl, GOps.sim ?_⟩
  refine GOps.done (hK _ ?_); clear hK K
  refine End.kp [0, 12, 13, 14, 15] ?_
  refine Run.seq ?_
  refine Run.seq ?_
  refine Run.go ?_
  refine End.kp [0, 12, 14, 36] ?_
  refine Run.cond _ rfl (fun hb => ?_) (fun hb => ?_)
  · have hb2 := hb
    simp at hb
  · have hb2 := hb
    refine Run.skip ?_
    refine End.kp [0, 12, 14] ?_
    refine Run.seq ?_
    have fx := ft
    refine Run.region rfl fun K hK => GOps.sim ?_
    refine GOps.call rfl rfl rfl rfl (by kernel_rfl) (ACalls.sim ?_)
    refine (Not_ok x (by omega) (by omega) _).mono fun v u hv => ?_
    obtain ⟨rfl, rfl⟩ := hv
    refine ⟨_, _, rfl, GOps.sim ?_⟩
    refine GOps.call rfl rfl rfl rfl (by kernel_rfl) (ACalls.sim ?_)
    refine (Not_ok y (by omega) (by omega) _).mono fun v u hv => ?_
    obtain ⟨rfl, rfl⟩ := hv
    refine ⟨_, _, rfl, GOps.sim ?_⟩
    refine GOps.call rfl rfl rfl rfl (by kernel_rfl) (ACalls.sim ?_)
    refine (k3 _ (by have hh := setMk_at (m' := m2) (setMk_at (m' := m1) hk); exact ⟨hh.box, hh.row, hh.map⟩)).mono fun v u hv => ?_
    obtain ⟨rfl, rfl⟩ := hv
    refine ⟨_, _, rfl, GOps.sim ?_⟩
    refine GOps.done (hK _ ?_); clear hK K
    refine End.kp [13, 16] ?_
    refine Run.seq ?_
    refine Run.seq ?_
    refine Run.go ?_
    refine End.kp [16, 47] ?_
    refine Run.cond _ rfl (fun hb => ?_) (fun hb => ?_)
    · have hb2 := hb
      simp at hb
    · have hb2 := hb
      refine Run.skip ?_
      refine End.kp [16] ?_
      refine Run.seq ?_
      have fx := ft
      refine Run.region rfl fun K hK => GOps.sim ?_
      refine GOps.call rfl rfl rfl rfl (by kernel_rfl) (ACalls.sim ?_)
      refine (Not_ok z (by omega) (by omega) _).mono fun v u hv => ?_
      obtain ⟨rfl, rfl⟩ := hv
      refine ⟨_, _, rfl, GOps.sim ?_⟩
      refine GOps.done (hK _ ?_); clear hK K
      refine End.kp [10, 11] ?_
      refine Run.ret (hQ _ _ ⟨.inr rfl, _, rfl, _, rfl, ?_⟩)
      rw [hP]
      exact ⟨rfl, by have h1 := setMk_at (m' := m1) hk; show setMk (setMk (setMk up d j r q m1) d j r q m2) d j r q m3 = _; rw [setMk_set h1, setMk_set hk]⟩
end Go.Proofs.YtkmnmokjlpenhaaPi

/- The walks of depends, table, Table of makers. -/
set_option linter.unusedVariables false
set_option linter.unusedSimpArgs false
namespace Go.Proofs.YtkmnmokjlpenhaaPi
set_option maxHeartbeats 4000000
theorem shl1 (n : Nat) (h : n ≤ 6) : IntKind.i64.wrap (1 * 2 ^ min n IntKind.i64.bits) = ((2 ^ n : Nat) : Int) := by
  have h64 : min n IntKind.i64.bits = n := by show min n 64 = n; omega
  rw [h64, Int.one_mul]
  have : n = 0 ∨ n = 1 ∨ n = 2 ∨ n = 3 ∨ n = 4 ∨ n = 5 ∨ n = 6 := by omega
  rcases this with rfl | rfl | rfl | rfl | rfl | rfl | rfl <;> decide
theorem or_small (a b : Nat) (ha : a < 128) (hb : b < 128) : ∃ c : Nat, bits .or .i64 (a : Int) (b : Int) = (c : Int) ∧ c < 128 := by
  refine ⟨a ||| b, ?_, Nat.or_lt_two_pow (n := 7) ha hb⟩
  have hc : a ||| b < 128 := Nat.or_lt_two_pow (n := 7) ha hb
  show IntKind.i64.wrap ((BitVec.ofInt 64 (a : Int) ||| BitVec.ofInt 64 (b : Int)).toNat : Int) = _
  rw [BitVec.toNat_or]
  have a1 : (BitVec.ofInt 64 (a : Int)).toNat = a := by rw [BitVec.toNat_ofInt]; omega
  have b1 : (BitVec.ofInt 64 (b : Int)).toNat = b := by rw [BitVec.toNat_ofInt]; omega
  rw [a1, b1]
  exact wrap64 (by omega)
def depAt (t : Int) (i k : Nat) : Bool := (bits .and .i64 ((k : Int).fdiv (2 ^ min i IntKind.i64.bits)) 1 == 0) && (bits .and .u64 (t.fdiv (2 ^ min k IntKind.u64.bits)) 1 != bits .and .u64 (t.fdiv (2 ^ min (bits .or .i64 (k : Int) ((2 ^ i : Nat) : Int)).toNat IntKind.u64.bits)) 1)
/-- Whether a table depends on an input. -/
def depV (t : Int) (n i : Nat) : Bool := (List.range (2 ^ n)).any (depAt t i)
theorem depends_ok (t : Int) (n : Nat) (hn : n ≤ 6) (i : Nat) (hi : i < n) (up : Frs) : ACalls Try.prog 114 [.u t, .i n, .i i] up fun v u => v = .im (.bool (depV t n i)) ∧ u = up := by
  obtain ⟨W, hW⟩ : ∃ W, W = 2 ^ n := ⟨_, rfl⟩
  have wn := shl1 n hn
  rw [← hW] at wn
  have wi := shl1 i (by omega)
  have hp : W ≤ 64 := hW ▸ Nat.le_trans (Nat.pow_le_pow_right (by omega) hn) (by decide)
  have hn0 : ¬ ((n : Int) < 0) := by omega
  have hi0 : ¬ ((i : Int) < 0) := by omega
  refine ACalls.code Try.func114 rfl 33 rfl (by simp) [.tmp 6] rfl fun Q hQ => ?_
  simp only [ups, PV.up, argEnv]
  have ft := And.intro ty_3 (And.intro ty_4 (And.intro ty_37 trivial))
  refine Run.seq ?_
  have fx := And.intro hi0 (And.intro hn0 (And.intro wi (And.intro wn ft)))
  refine Run.go ?_
  refine End.kp [0, 1, 2] ?_
  refine Run.seq ?_
  refine Run.seq ?_
  refine Run.go ?_
  refine End.kp [0, 2, 9, 10] ?_
  refine Run.block ?_
  refine Run.ghost (Ghost.form [(0, .u t), (2, .i i), (9, .i (W : Nat)), (10, .i (0 : Nat))] 0 ⟨rfl, rfl, rfl, rfl, trivial⟩ rfl rfl) ?_
  refine Run.loop (fun m' st => ∃ k : Nat, m' = W - k ∧ k ≤ W ∧ (List.range k).any (depAt t i) = false ∧ st = ⟨[(0, .u t), (2, .i i), (9, .i (W : Nat)), (10, .i (k : Nat))], [], up⟩) W ⟨0, rfl, by omega, rfl, rfl⟩ fun m' st hI => ?_
  obtain ⟨k, rfl, hk, hno, rfl⟩ := hI
  refine Run.seq ?_
  have fx := And.intro hi0 (And.intro hn0 (And.intro wi (And.intro wn ft)))
  refine Run.go ?_
  refine End.kp [0, 2, 9, 10, 11] ?_
  refine Run.seq ?_
  refine Run.cond _ rfl (fun hb => ?_) (fun hb => ?_)
  · have hb2 := of_decide_eq_true hb
    have hin : k < W := by omega
    have wk := wsucc hin (by omega)
    have hk0 : ¬ ((k : Int) < 0) := by omega
    have hp2 : 2 ^ i ≤ 64 := Nat.le_trans (Nat.pow_le_pow_right (by omega) (show i ≤ 6 by omega)) (by decide)
    obtain ⟨c, hX, hcl⟩ := or_small k (2 ^ i) (by omega) (by omega)
    have hc0 : ¬ ((c : Int) < 0) := by omega
    have hD : depAt t i k = ((bits .and .i64 ((k : Int).fdiv (2 ^ min i IntKind.i64.bits)) 1 == 0) && (bits .and .u64 (t.fdiv (2 ^ min k IntKind.u64.bits)) 1 != bits .and .u64 (t.fdiv (2 ^ min c IntKind.u64.bits)) 1)) := by rw [depAt, hX]; rfl
    generalize hy : bits .and .i64 ((k : Int).fdiv (2 ^ min i IntKind.i64.bits)) 1 = y at hD
    generalize hz : bits .and .u64 (t.fdiv (2 ^ min k IntKind.u64.bits)) 1 = z at hD
    generalize hx : bits .and .u64 (t.fdiv (2 ^ min c IntKind.u64.bits)) 1 = x at hD
    refine Run.skip ?_
    refine End.kp [0, 2, 9, 10] ?_
    refine Run.seq ?_
    refine Run.block ?_
    refine Run.seq ?_
    have fx := And.intro hx (And.intro hz (And.intro hy (And.intro hX (And.intro hc0 (And.intro hk0 (And.intro wk (And.intro hi0 (And.intro hn0 (And.intro wi (And.intro wn ft))))))))))
    refine Run.go ?_
    refine End.kp [0, 2, 7, 9, 10] ?_
    refine Run.seq ?_
    rcases Bool.eq_false_or_eq_true ((y == 0)) with hs4 | hs4
    · skip
      have fx := And.intro hs4 (And.intro hx (And.intro hz (And.intro hy (And.intro hX (And.intro hc0 (And.intro hk0 (And.intro wk (And.intro hi0 (And.intro hn0 (And.intro wi (And.intro wn ft)))))))))))
      refine Run.drawA fun K hK => ?_
      refine DOps.sim ?_
      refine DOps.nil (metAll_quiet rfl) (hK _ ?_); clear hK K
      refine End.kp [0, 2, 9, 10, 31] ?_
      refine Run.cond _ rfl (fun hb => ?_) (fun hb => ?_)
      · have hb2 := hb
        have hDt : depAt t i k = true := by rw [hD, hs4, hb2]; rfl
        refine Run.seq ?_
        have fx := And.intro hs4 (And.intro hx (And.intro hz (And.intro hy (And.intro hX (And.intro hc0 (And.intro hk0 (And.intro wk (And.intro hi0 (And.intro hn0 (And.intro wi (And.intro wn ft)))))))))))
        refine Run.go ?_
        refine End.kp [6] ?_
        refine Run.ret (hQ _ _ ⟨.inr rfl, _, rfl, _, rfl, ?_⟩)
        exact ⟨by rw [depV, ← hW, List.any_eq_true.2 ⟨k, by simpa using hin, hDt⟩], rfl⟩
      · have hb2 := hb
        have hDf : depAt t i k = false := by rw [hD, hb2, Bool.and_false]
        refine Run.skip ?_
        refine End.blk ?_
        refine End.kp [0, 2, 9, 10] ?_
        have fx := And.intro hs4 (And.intro hx (And.intro hz (And.intro hy (And.intro hX (And.intro hc0 (And.intro hk0 (And.intro wk (And.intro hi0 (And.intro hn0 (And.intro wi (And.intro wn ft)))))))))))
        refine Run.go ?_
        refine End.lp ?_
        refine ⟨W - (k + 1), _, by omega, Ghost.form [(0, .u t), (2, .i i), (9, .i (W : Nat)), (10, .i (k + 1 : Nat))] 0 ⟨rfl, rfl, rfl, rfl, trivial⟩ rfl rfl, k + 1, rfl, by omega, by rw [List.range_succ, List.any_append, hno]; simp [hDf], rfl⟩
    · skip
      have fx := And.intro hs4 (And.intro hx (And.intro hz (And.intro hy (And.intro hX (And.intro hc0 (And.intro hk0 (And.intro wk (And.intro hi0 (And.intro hn0 (And.intro wi (And.intro wn ft)))))))))))
      refine Run.drawA fun K hK => ?_
      refine DOps.sim ?_
      refine DOps.nil (metAll_quiet rfl) (hK _ ?_); clear hK K
      refine End.kp [0, 2, 9, 10, 31] ?_
      refine Run.cond _ rfl (fun hb => ?_) (fun hb => ?_)
      · have hb2 := hb
        simp at hb
      · have hDf : depAt t i k = false := by rw [hD, hs4, Bool.false_and]
        refine Run.skip ?_
        refine End.blk ?_
        refine End.kp [0, 2, 9, 10] ?_
        have fx := And.intro hs4 (And.intro hx (And.intro hz (And.intro hy (And.intro hX (And.intro hc0 (And.intro hk0 (And.intro wk (And.intro hi0 (And.intro hn0 (And.intro wi (And.intro wn ft)))))))))))
        refine Run.go ?_
        refine End.lp ?_
        refine ⟨W - (k + 1), _, by omega, Ghost.form [(0, .u t), (2, .i i), (9, .i (W : Nat)), (10, .i (k + 1 : Nat))] 0 ⟨rfl, rfl, rfl, rfl, trivial⟩ rfl rfl, k + 1, rfl, by omega, by rw [List.range_succ, List.any_append, hno]; simp [hDf], rfl⟩
  · have hb2 := of_decide_eq_false hb
    have hkW : k = W := by omega
    refine Run.exit rfl ?_
    refine End.kp [] ?_
    refine Run.seq ?_
    have fx := And.intro hi0 (And.intro hn0 (And.intro wi (And.intro wn ft)))
    refine Run.go ?_
    refine End.kp [6] ?_
    refine Run.ret (hQ _ _ ⟨.inr rfl, _, rfl, _, rfl, ?_⟩)
    exact ⟨by rw [depV, ← hW, ← hkW, hno], rfl⟩
end Go.Proofs.YtkmnmokjlpenhaaPi

/- The walk of table of makers. -/
set_option linter.unusedVariables false
set_option linter.unusedSimpArgs false
namespace Go.Proofs.YtkmnmokjlpenhaaPi
set_option maxHeartbeats 4000000
/-- The bits of a table of n inputs. -/
def onesT (n : Nat) : Int := 2 ^ (2 ^ n) - 1
def mkTable : Nat → LMk → Int → List Int → Int × LMk
  | 0, m, t, _ => if bits .and .u64 t 1 = 0 then (0, m) else (1, m)
  | n + 1, m, t, l =>
    if bits .and .u64 t (onesT (n + 1)) = 0 then (0, m) else if bits .and .u64 t (onesT (n + 1)) = onesT (n + 1) then (1, m) else
    if bits .and .u64 (t.fdiv (2 ^ 2 ^ n)) (onesT n) = bits .and .u64 t (onesT n) then mkTable n m (bits .and .u64 t (onesT n)) (l.take n) else
    mkPair (mkTable n (mkTable n m (bits .and .u64 (t.fdiv (2 ^ 2 ^ n)) (onesT n)) (l.take n)).2 (bits .and .u64 t (onesT n)) (l.take n)).2 (l.getD n 0) (mkTable n m (bits .and .u64 (t.fdiv (2 ^ 2 ^ n)) (onesT n)) (l.take n)).1 (flipL (l.getD n 0)) (mkTable n (mkTable n m (bits .and .u64 (t.fdiv (2 ^ 2 ^ n)) (onesT n)) (l.take n)).2 (bits .and .u64 t (onesT n)) (l.take n)).1
def capT (n : Nat) : Nat := 3 * (2 ^ n - 1)
theorem capT_succ (n : Nat) : capT (n + 1) = capT n + capT n + 3 := by
  unfold capT
  have : 0 < 2 ^ n := Nat.pow_pos (by omega)
  rw [Nat.pow_succ]
  omega
theorem AfterM.more {m m' : LMk} {n k : Nat} (h : AfterM m m' n) (hk : n ≤ k) : AfterM m m' k := ⟨h.inn, h.regs, h.less, by have := h.most; omega⟩
theorem zero_in (m : LMk) : InM m 0 := by unfold InM LMk.top LMk.first; omega
theorem one_in (m : LMk) : InM m 1 := by unfold InM LMk.top LMk.first; omega
theorem getD_in {m : LMk} {l : List Int} (h : ∀ x ∈ l, InM m x) (n : Nat) : InM m (l.getD n 0) := by
  rw [List.getD_eq_getElem?_getD]
  cases hk : l[n]? with
  | none => exact zero_in m
  | some x => exact h x (List.mem_of_getElem? hk)
theorem mkTable_after : ∀ (n : Nat) (m : LMk) (t : Int) (l : List Int), (∀ x ∈ l, InM m x) → AfterM m (mkTable n m t l).2 (capT n) ∧ InM (mkTable n m t l).2 (mkTable n m t l).1
  | 0, m, t, l, h => by
    unfold mkTable
    split
    · exact ⟨AfterM.refl _ _, zero_in m⟩
    · exact ⟨AfterM.refl _ _, one_in m⟩
  | n + 1, m, t, l, h => by
    rw [mkTable]
    have ht : ∀ x ∈ l.take n, InM m x := fun x hx => h x (List.mem_of_mem_take hx)
    split
    · exact ⟨AfterM.refl _ _, zero_in m⟩
    split
    · exact ⟨AfterM.refl _ _, one_in m⟩
    split
    · obtain ⟨h1, h2⟩ := mkTable_after n m (bits .and .u64 t (onesT n)) (l.take n) ht
      exact ⟨h1.more (by rw [capT_succ]; omega), h2⟩
    · obtain ⟨h1, h2⟩ := mkTable_after n m (bits .and .u64 (t.fdiv (2 ^ 2 ^ n)) (onesT n)) (l.take n) ht
      obtain ⟨h3, h4⟩ := mkTable_after n (mkTable n m (bits .and .u64 (t.fdiv (2 ^ 2 ^ n)) (onesT n)) (l.take n)).2 (bits .and .u64 t (onesT n)) (l.take n) (fun x hx => h1.up (ht x hx))
      obtain ⟨h5, h6⟩ := mkPair_after (mkTable n (mkTable n m (bits .and .u64 (t.fdiv (2 ^ 2 ^ n)) (onesT n)) (l.take n)).2 (bits .and .u64 t (onesT n)) (l.take n)).2 (h3.up (h1.up (getD_in h n))) (h3.up h2) (flip_in (h3.up (h1.up (getD_in h n)))) h4
      refine ⟨((h1.trans h3).trans h5).more (by rw [capT_succ]; omega), h6⟩
def TableIH (n : Nat) : Prop := ∀ (t : Int) (l : List Int), l.length = n → ∀ (m : LMk), MkSmall m → ∀ (up : Frs) (d j r q : Nat), MkAt up d j r q m → m.ands.length + capT n ≤ 4000 → (∀ x ∈ l, InM m x) →
  ACalls Try.prog 116 [.ptr d j 0, .u t, .im (.sl (ints l))] up fun v u => v = .tup [.i (mkTable n m t l).1, .im (.bool true)] ∧ u = setMk up d j r q (mkTable n m t l).2
theorem shlU (n : Nat) (h : n ≤ 6) : IntKind.u64.wrap (1 * 2 ^ min n IntKind.u64.bits) = ((2 ^ n : Nat) : Int) := by
  have : n = 0 ∨ n = 1 ∨ n = 2 ∨ n = 3 ∨ n = 4 ∨ n = 5 ∨ n = 6 := by omega
  rcases this with rfl | rfl | rfl | rfl | rfl | rfl | rfl <;> decide +kernel
theorem shlU2 (n : Nat) (h : n ≤ 5) : IntKind.u64.wrap (1 * 2 ^ min (2 ^ n) IntKind.u64.bits) = ((2 ^ 2 ^ n : Nat) : Int) := by
  have : n = 0 ∨ n = 1 ∨ n = 2 ∨ n = 3 ∨ n = 4 ∨ n = 5 := by omega
  rcases this with rfl | rfl | rfl | rfl | rfl | rfl <;> decide +kernel
theorem onesT_wrap (n : Nat) (h : n ≤ 5) : IntKind.u64.wrap (((2 ^ 2 ^ n : Nat) : Int) - 1) = onesT n := by
  have : n = 0 ∨ n = 1 ∨ n = 2 ∨ n = 3 ∨ n = 4 ∨ n = 5 := by omega
  rcases this with rfl | rfl | rfl | rfl | rfl | rfl <;> decide +kernel
theorem half_min (n : Nat) (h : n ≤ 5) : min (2 ^ n) IntKind.u64.bits = 2 ^ n := by
  have : n = 0 ∨ n = 1 ∨ n = 2 ∨ n = 3 ∨ n = 4 ∨ n = 5 := by omega
  rcases this with rfl | rfl | rfl | rfl | rfl | rfl <;> decide +kernel
theorem bit_and_one (t : Int) : bits .and .u64 t 1 = 0 ∨ bits .and .u64 t 1 = 1 := by
  have h : bits .and .u64 t 1 = ((bv t &&& 1#64).toNat : Int) := by
    show IntKind.u64.wrap (BitVec.ofInt 64 t &&& BitVec.ofInt 64 1).toNat = _
    rw [wrapU (by have := (BitVec.ofInt 64 t &&& BitVec.ofInt 64 1).isLt; omega)]
    rfl
  rw [h]
  have h2 : (bv t &&& 1#64).toNat = (bv t).toNat % 2 := by
    rw [BitVec.toNat_and]
    exact Nat.and_one_is_mod _
  rw [h2]
  omega
theorem mtable_zero (t : Int) (l : List Int) (hl : l.length = 0) (m : LMk) (hm : MkSmall m) (up : Frs) (d j r q : Nat) (hk : MkAt up d j r q m) : ACalls Try.prog 116 [.ptr d j 0, .u t, .im (.sl (ints l))] up fun v u => v = .tup [.i (mkTable 0 m t l).1, .im (.bool true)] ∧ u = setMk up d j r q (mkTable 0 m t l).2 := by
  have hkk := setMk_self hk
  obtain ⟨N, hN⟩ : ∃ N, N = 0 := ⟨_, rfl⟩
  have hll : (ints l).length = N := by rw [ints_len, hl, hN]
  have h1 : onesT N = 1 := by rw [hN]; rfl
  have h01 := bit_and_one t
  
  have hn0 : ¬ ((N : Int) < 0) := by omega
  obtain ⟨H, hH⟩ : ∃ H, H = 2 ^ N := ⟨_, rfl⟩
  have w1 := shlU N (by omega)
  rw [← hH] at w1
  have hH0 : ¬ ((H : Int) < 0) := by omega
  
  have w2 := shlU2 N (by omega)
  rw [← hH] at w2
  obtain ⟨O, hO⟩ : ∃ O, O = 2 ^ H := ⟨_, rfl⟩
  rw [← hO] at w2
  have w3 := onesT_wrap N (by omega)
  rw [← hH, ← hO] at w3
  
  rw [h1] at w3
  generalize hT : bits .and .u64 t 1 = T at h01
  refine ACalls.code Try.func116 rfl 103 rfl (by simp) [.tmp 6, .tmp 7] rfl fun Q hQ => ?_
  simp only [ups, PV.up, argEnv]
  have ft := And.intro ty_3 (And.intro ty_4 (And.intro ty_37 (And.intro ty_49 (And.intro ty_62 (And.intro ty_109 (And.intro ty_188 trivial))))))
  refine Run.seq ?_
  have fx := And.intro hT (And.intro w3 (And.intro w2 (And.intro hH0 (And.intro w1 (And.intro hn0 (And.intro hll ft))))))
  refine Run.go ?_
  refine End.kp [0, 1, 2] ?_
  refine Run.seq ?_
  refine Run.go ?_
  refine End.kp [0, 1, 2, 8] ?_
  refine Run.seq ?_
  refine Run.go ?_
  refine End.kp [0, 1, 2, 8, 9] ?_
  refine Run.seq ?_
  refine Run.seq ?_
  refine Run.go ?_
  refine End.kp [0, 1, 2, 8, 9, 21] ?_
  refine Run.cond _ rfl (fun hb => ?_) (fun hb => ?_)
  · have hb0 := hb
    have fx := And.intro hT (And.intro w3 (And.intro w2 (And.intro hH0 (And.intro w1 (And.intro hn0 (And.intro hll ft))))))
    refine Run.go ?_
    refine End.kp [0, 1, 2, 8, 9] ?_
    refine Run.seq ?_
    refine Run.seq ?_
    refine Run.go ?_
    refine End.kp [0, 1, 2, 8, 9, 28] ?_
    refine Run.block ?_
    refine Run.seq ?_
    refine Run.go ?_
    refine End.kp [0, 1, 2, 8, 9, 28, 29] ?_
    refine Run.cond _ rfl (fun hb => ?_) (fun hb => ?_)
    · have hb1 := eq_of_beq hb
      refine Run.seq ?_
      have fx := And.intro hT (And.intro w3 (And.intro w2 (And.intro hH0 (And.intro w1 (And.intro hn0 (And.intro hll ft))))))
      refine Run.go ?_
      refine End.kp [6, 7] ?_
      refine Run.ret (hQ _ _ ⟨.inr rfl, _, rfl, _, rfl, ?_⟩)
      rw [mkTable, hT, if_pos hb1]
      exact ⟨rfl, hkk.symm⟩
    · have hb1 : ¬ T = 0 := fun h => by simp [h] at hb
      refine Run.seq ?_
      have fx := And.intro hT (And.intro w3 (And.intro w2 (And.intro hH0 (And.intro w1 (And.intro hn0 (And.intro hll ft))))))
      refine Run.go ?_
      refine End.kp [0, 1, 2, 8, 31] ?_
      refine Run.cond _ rfl (fun hb => ?_) (fun hb => ?_)
      · have hb2 := eq_of_beq hb
        refine Run.seq ?_
        have fx := And.intro hT (And.intro w3 (And.intro w2 (And.intro hH0 (And.intro w1 (And.intro hn0 (And.intro hll ft))))))
        refine Run.go ?_
        refine End.kp [6, 7] ?_
        refine Run.ret (hQ _ _ ⟨.inr rfl, _, rfl, _, rfl, ?_⟩)
        rw [mkTable, hT, if_neg hb1]
        exact ⟨rfl, hkk.symm⟩
      · have hb2 : ¬ T = 1 := fun h => by simp [h] at hb
        omega
  · have hb0 := of_decide_eq_false hb
    omega
theorem mtable_succ (n : Nat) (hn : n < 6) (ih : TableIH n) (t : Int) (l : List Int) (hl : l.length = n + 1) (m : LMk) (hm : MkSmall m) (up : Frs) (d j r q : Nat) (hk : MkAt up d j r q m) (hc : m.ands.length + capT (n + 1) ≤ 4000) (hin : ∀ x ∈ l, InM m x) : ACalls Try.prog 116 [.ptr d j 0, .u t, .im (.sl (ints l))] up fun v u => v = .tup [.i (mkTable (n + 1) m t l).1, .im (.bool true)] ∧ u = setMk up d j r q (mkTable (n + 1) m t l).2 := by
  have hkk := setMk_self hk
  have hm2 := hm
  rw [capT_succ] at hc
  obtain ⟨N, hN⟩ : ∃ N, N = n + 1 := ⟨_, rfl⟩
  have hll : (ints l).length = N := by rw [ints_len, hl, hN]
  have ht : ∀ x ∈ l.take n, InM m x := fun x hx => hin x (List.mem_of_mem_take hx)
  have hslice : 0 ≤ n ∧ n = n ∧ n ≤ N ∧ szOk 1 0 (ints l) := ⟨by omega, rfl, by omega, .inl rfl⟩
  have htake : (ints l).take n = ints (l.take n) := by simp [List.map_take]
  have hn1 : ¬ ((n : Int) < 0) := by omega
  have hn2 : 0 ≤ (n : Int) := by omega
  have hnl : (n : Int) < (N : Int) := by omega
  have wsub : IntKind.i64.wrap ((N : Int) - 1) = (n : Int) := by rw [wrap64 (by omega)]; omega
  obtain ⟨h, hh⟩ : ∃ h, h = 2 ^ n := ⟨_, rfl⟩
  have u1 := shl1 n (by omega)
  have u2 := shlU2 n (by omega)
  have u4 := half_min n (by omega)
  have u3 := onesT_wrap n (by omega)
  have hA2 : bits .and .u64 (t.fdiv (2 ^ 2 ^ n)) (onesT n) = bits .and .u64 (t.fdiv (2 ^ h)) (onesT n) := by rw [hh]
  rw [← hh] at u1 u2 u3 u4
  rw [u4] at u2
  obtain ⟨L, hL⟩ : ∃ L, L = 2 ^ h := ⟨_, rfl⟩
  rw [← hL] at u2 u3
  have hh0 : ¬ ((h : Int) < 0) := by omega
  generalize hA : bits .and .u64 (t.fdiv (2 ^ h)) (onesT n) = a at hA2
  generalize hB : bits .and .u64 t (onesT n) = b
  generalize hT : bits .and .u64 t (onesT N) = T
  
  have hn0 : ¬ ((N : Int) < 0) := by omega
  obtain ⟨H, hH⟩ : ∃ H, H = 2 ^ N := ⟨_, rfl⟩
  have w1 := shlU N (by omega)
  rw [← hH] at w1
  have hH0 : ¬ ((H : Int) < 0) := by omega
  refine ACalls.code Try.func116 rfl 103 rfl (by simp) [.tmp 6, .tmp 7] rfl fun Q hQ => ?_
  simp only [ups, PV.up, argEnv]
  have ft := And.intro ty_3 (And.intro ty_4 (And.intro ty_37 (And.intro ty_49 (And.intro ty_62 (And.intro ty_109 (And.intro ty_188 trivial))))))
  refine Run.seq ?_
  have fx := And.intro (@Int.toNat_natCast) (And.intro (@Int.natCast_nonneg) (And.intro hB (And.intro hA (And.intro hh0 (And.intro u4 (And.intro u3 (And.intro u2 (And.intro u1 (And.intro wsub (And.intro hn2 (And.intro hn1 (And.intro htake (And.intro hslice (And.intro hH0 (And.intro w1 (And.intro hn0 (And.intro hll ft)))))))))))))))))
  refine Run.go ?_
  refine End.kp [0, 1, 2] ?_
  refine Run.seq ?_
  refine Run.go ?_
  refine End.kp [0, 1, 2, 8] ?_
  refine Run.seq ?_
  refine Run.go ?_
  refine End.kp [0, 1, 2, 8, 9] ?_
  refine Run.seq ?_
  refine Run.seq ?_
  refine Run.go ?_
  refine End.kp [0, 1, 2, 8, 9, 21] ?_
  refine Run.cond _ rfl (fun hb => ?_) (fun hb => ?_)
  · have hb0 := of_decide_eq_true hb
    
    have w2 := shlU2 N (by omega)
    rw [← hH] at w2
    obtain ⟨O, hO⟩ : ∃ O, O = 2 ^ H := ⟨_, rfl⟩
    rw [← hO] at w2
    have w3 := onesT_wrap N (by omega)
    rw [← hH, ← hO] at w3
    have hZ : onesT N = onesT N := rfl
    have fx := And.intro hT (And.intro w3 (And.intro w2 (And.intro (@Int.toNat_natCast) (And.intro (@Int.natCast_nonneg) (And.intro hB (And.intro hA (And.intro hh0 (And.intro u4 (And.intro u3 (And.intro u2 (And.intro u1 (And.intro wsub (And.intro hn2 (And.intro hn1 (And.intro htake (And.intro hslice (And.intro hH0 (And.intro w1 (And.intro hn0 (And.intro hll ft))))))))))))))))))))
    refine Run.go ?_
    refine End.kp [0, 1, 2, 8, 9] ?_
    refine Run.seq ?_
    refine Run.seq ?_
    refine Run.go ?_
    refine End.kp [0, 1, 2, 8, 9, 28] ?_
    refine Run.block ?_
    refine Run.seq ?_
    refine Run.go ?_
    refine End.kp [0, 1, 2, 8, 9, 28, 29] ?_
    refine Run.cond _ rfl (fun hb => ?_) (fun hb => ?_)
    · have hb1 := eq_of_beq hb
      refine Run.seq ?_
      have fx := And.intro hT (And.intro w3 (And.intro w2 (And.intro (@Int.toNat_natCast) (And.intro (@Int.natCast_nonneg) (And.intro hB (And.intro hA (And.intro hh0 (And.intro u4 (And.intro u3 (And.intro u2 (And.intro u1 (And.intro wsub (And.intro hn2 (And.intro hn1 (And.intro htake (And.intro hslice (And.intro hH0 (And.intro w1 (And.intro hn0 (And.intro hll ft))))))))))))))))))))
      refine Run.go ?_
      refine End.kp [6, 7] ?_
      refine Run.ret (hQ _ _ ⟨.inr rfl, _, rfl, _, rfl, ?_⟩)
      rw [mkTable, ← hN, hT, if_pos hb1]
      exact ⟨rfl, hkk.symm⟩
    · have hb1 : ¬ T = 0 := fun h => by simp [h] at hb
      refine Run.seq ?_
      have fx := And.intro hT (And.intro w3 (And.intro w2 (And.intro (@Int.toNat_natCast) (And.intro (@Int.natCast_nonneg) (And.intro hB (And.intro hA (And.intro hh0 (And.intro u4 (And.intro u3 (And.intro u2 (And.intro u1 (And.intro wsub (And.intro hn2 (And.intro hn1 (And.intro htake (And.intro hslice (And.intro hH0 (And.intro w1 (And.intro hn0 (And.intro hll ft))))))))))))))))))))
      refine Run.go ?_
      refine End.kp [0, 1, 2, 8, 31] ?_
      refine Run.cond _ rfl (fun hb => ?_) (fun hb => ?_)
      · have hb2 := eq_of_beq hb
        refine Run.seq ?_
        have fx := And.intro hT (And.intro w3 (And.intro w2 (And.intro (@Int.toNat_natCast) (And.intro (@Int.natCast_nonneg) (And.intro hB (And.intro hA (And.intro hh0 (And.intro u4 (And.intro u3 (And.intro u2 (And.intro u1 (And.intro wsub (And.intro hn2 (And.intro hn1 (And.intro htake (And.intro hslice (And.intro hH0 (And.intro w1 (And.intro hn0 (And.intro hll ft))))))))))))))))))))
        refine Run.go ?_
        refine End.kp [6, 7] ?_
        refine Run.ret (hQ _ _ ⟨.inr rfl, _, rfl, _, rfl, ?_⟩)
        rw [mkTable, ← hN, hT, if_neg hb1, if_pos (by rw [hZ]; exact hb2)]
        exact ⟨rfl, hkk.symm⟩
      · have hb2 : ¬ T = onesT N := fun h => by first | (rw [h] at hb; simp at hb; done) | (rw [h, hZ] at hb; simp at hb; done)
        have hE : mkTable (n + 1) m t l = if a = b then mkTable n m b (l.take n) else mkPair (mkTable n (mkTable n m a (l.take n)).2 b (l.take n)).2 (l.getD n 0) (mkTable n m a (l.take n)).1 (flipL (l.getD n 0)) (mkTable n (mkTable n m a (l.take n)).2 b (l.take n)).1 := by
          rw [mkTable, ← hN, hT, if_neg hb1, if_neg hb2, hA2, hB]
        refine Run.skip ?_
        refine End.blk ?_
        refine End.kp [0, 1, 2, 8] ?_
        refine Run.seq ?_
        have fx := And.intro hT (And.intro w3 (And.intro w2 (And.intro (@Int.toNat_natCast) (And.intro (@Int.natCast_nonneg) (And.intro hB (And.intro hA (And.intro hh0 (And.intro u4 (And.intro u3 (And.intro u2 (And.intro u1 (And.intro wsub (And.intro hn2 (And.intro hn1 (And.intro htake (And.intro hslice (And.intro hH0 (And.intro w1 (And.intro hn0 (And.intro hll ft))))))))))))))))))))
        refine Run.go ?_
        refine End.kp [0, 1, 2, 8, 10] ?_
        refine Run.seq ?_
        refine Run.go ?_
        refine End.kp [0, 1, 2, 8, 10, 11] ?_
        refine Run.seq ?_
        refine Run.go ?_
        refine End.kp [0, 2, 8, 12, 13] ?_
        refine Run.seq ?_
        refine Run.seq ?_
        refine Run.go ?_
        refine End.kp [0, 2, 8, 12, 13, 50] ?_
        refine Run.cond _ rfl (fun hb => ?_) (fun hb => ?_)
        · have hb3 := eq_of_beq hb
          rw [hb3, if_pos rfl] at hE
          refine Run.seq ?_
          have fx := And.intro hT (And.intro w3 (And.intro w2 (And.intro (@Int.toNat_natCast) (And.intro (@Int.natCast_nonneg) (And.intro hB (And.intro hA (And.intro hh0 (And.intro u4 (And.intro u3 (And.intro u2 (And.intro u1 (And.intro wsub (And.intro hn2 (And.intro hn1 (And.intro htake (And.intro hslice (And.intro hH0 (And.intro w1 (And.intro hn0 (And.intro hll ft))))))))))))))))))))
          refine Run.region rfl fun K hK => GOps.sim ?_
          refine GOps.call rfl rfl rfl rfl (by kernel_rfl) (ACalls.sim ?_)
          refine (ih b (l.take n) (by rw [List.length_take]; omega) m hm2 _ (d + 1) j r q (by exact ⟨hk.box, hk.row, hk.map⟩) (by omega) ht).mono fun v u hv => ?_
          obtain ⟨rfl, rfl⟩ := hv
          refine ⟨_, _, rfl, GOps.sim ?_⟩
          refine GOps.done (hK _ ?_); clear hK K
          refine End.kp [6, 7] ?_
          refine Run.ret (hQ _ _ ⟨.inr rfl, _, rfl, _, rfl, ?_⟩)
          rw [hE]
          exact ⟨rfl, rfl⟩
        · have hb3 : ¬ a = b := fun h => by simp [h] at hb
          rw [if_neg hb3] at hE
          obtain ⟨h1, h1i⟩ := mkTable_after n m a (l.take n) ht
          have s1 := h1.small hm2 (by omega)
          have h1m := h1.most
          obtain ⟨h2, h2i⟩ := mkTable_after n (mkTable n m a (l.take n)).2 b (l.take n) (fun x hx => h1.up (ht x hx))
          have s2 := h2.small s1 (by omega)
          have h2m := h2.most
          have hyi := h2.up (h1.up (getD_in hin n))
          have hxi := h2.up h1i
          generalize h1e : mkTable n m a (l.take n) = X1 at *
          obtain ⟨x1, m1⟩ := X1
          simp only at *
          generalize h2e : mkTable n m1 b (l.take n) = X2 at *
          obtain ⟨x2, m2⟩ := X2
          simp only at *
          have hgy := ints_get l n (by omega)
          generalize l.getD n 0 = y at *
          have hP3 := fun (u : Frs) (hu : MkAt u (d + 1) j r q m2) => mpair_ok y x1 (flipL y) x2 m2 s2 u (d + 1) j r q hu (by omega) hyi hxi (flip_in hyi) h2i
          have hsm2 := s2.ands
          have hsm3 := s2.inn
          have hsm4 := s2.regs
          unfold InM LMk.top LMk.first at hyi
          generalize mkPair m2 y x1 (flipL y) x2 = X3 at *
          obtain ⟨p, m3⟩ := X3
          simp only at *
          refine Run.skip ?_
          refine End.kp [0, 2, 8, 12, 13] ?_
          refine Run.seq ?_
          have fx := And.intro hnl (And.intro hgy (And.intro hT (And.intro w3 (And.intro w2 (And.intro (@Int.toNat_natCast) (And.intro (@Int.natCast_nonneg) (And.intro hB (And.intro hA (And.intro hh0 (And.intro u4 (And.intro u3 (And.intro u2 (And.intro u1 (And.intro wsub (And.intro hn2 (And.intro hn1 (And.intro htake (And.intro hslice (And.intro hH0 (And.intro w1 (And.intro hn0 (And.intro hll ft))))))))))))))))))))))
          refine Run.region rfl fun K hK => GOps.sim ?_
          refine GOps.call rfl rfl rfl rfl (by kernel_rfl) (ACalls.sim ?_)
          refine (ih a (l.take n) (by rw [List.length_take]; omega) m hm2 _ (d + 1) j r q (by exact ⟨hk.box, hk.row, hk.map⟩) (by omega) ht).mono fun v u hv => ?_
          obtain ⟨rfl, rfl⟩ := hv
          rw [h1e]
          have fx := And.intro hnl (And.intro hgy (And.intro hT (And.intro w3 (And.intro w2 (And.intro (@Int.toNat_natCast) (And.intro (@Int.natCast_nonneg) (And.intro hB (And.intro hA (And.intro hh0 (And.intro u4 (And.intro u3 (And.intro u2 (And.intro u1 (And.intro wsub (And.intro hn2 (And.intro hn1 (And.intro htake (And.intro hslice (And.intro hH0 (And.intro w1 (And.intro hn0 (And.intro hll ft))))))))))))))))))))))
          refine ⟨_, _, rfl, GOps.sim ?_⟩
          refine GOps.done (hK _ ?_); clear hK K
          refine End.kp [0, 2, 8, 13, 14, 15] ?_
          refine Run.seq ?_
          refine Run.region rfl fun K hK => GOps.sim ?_
          refine GOps.call rfl rfl rfl rfl (by kernel_rfl) (ACalls.sim ?_)
          refine (ih b (l.take n) (by rw [List.length_take]; omega) m1 s1 _ (d + 1) j r q (by have hh := setMk_at (m' := m1) hk; exact ⟨hh.box, hh.row, hh.map⟩) (by omega) (fun x hx => h1.up (ht x hx))).mono fun v u hv => ?_
          obtain ⟨rfl, rfl⟩ := hv
          rw [h2e]
          have fx := And.intro hnl (And.intro hgy (And.intro hT (And.intro w3 (And.intro w2 (And.intro (@Int.toNat_natCast) (And.intro (@Int.natCast_nonneg) (And.intro hB (And.intro hA (And.intro hh0 (And.intro u4 (And.intro u3 (And.intro u2 (And.intro u1 (And.intro wsub (And.intro hn2 (And.intro hn1 (And.intro htake (And.intro hslice (And.intro hH0 (And.intro w1 (And.intro hn0 (And.intro hll ft))))))))))))))))))))))
          refine ⟨_, _, rfl, GOps.sim ?_⟩
          refine GOps.done (hK _ ?_); clear hK K
          refine End.kp [0, 2, 8, 14, 15, 16, 17] ?_
          refine Run.seq ?_
          refine Run.seq ?_
          refine Run.go ?_
          refine End.kp [0, 2, 8, 14, 16, 85] ?_
          refine Run.cond _ rfl (fun hb => ?_) (fun hb => ?_)
          · have hb4 := hb
            simp at hb
          · have hb4 := hb
            refine Run.skip ?_
            refine End.kp [0, 2, 8, 14, 16] ?_
            refine Run.seq ?_
            have fx := And.intro hnl (And.intro hgy (And.intro hT (And.intro w3 (And.intro w2 (And.intro (@Int.toNat_natCast) (And.intro (@Int.natCast_nonneg) (And.intro hB (And.intro hA (And.intro hh0 (And.intro u4 (And.intro u3 (And.intro u2 (And.intro u1 (And.intro wsub (And.intro hn2 (And.intro hn1 (And.intro htake (And.intro hslice (And.intro hH0 (And.intro w1 (And.intro hn0 (And.intro hll ft))))))))))))))))))))))
            refine Run.drawA fun K hK => ?_
            refine DOps.sim ?_
            refine DOps.call (.i (flipL y)) [] [] rfl rfl rfl rfl (by kernel_rfl) (by simp [Agree]) (fun u hu => Not_ok y (by omega) (by omega) u) ?_
            refine DOps.sim ?_
            refine DOps.call (.tup [.i p, .im (.bool true)]) [((d + 1, j), mkBox r q m2), ((d + 1, r), mkRow m2), ((d + 1, q), mkMap m2)] [((d + 1, j), mkBox r q m3), ((d + 1, r), mkRow m3), ((d + 1, q), mkMap m3)] rfl rfl rfl rfl (by kernel_rfl) (by have hh := setMk_at (m' := m2) (setMk_at (m' := m1) hk); intro x hx; simp only [List.mem_cons, List.not_mem_nil, or_false] at hx; rcases hx with rfl | rfl | rfl; exact hh.box; exact hh.row; exact hh.map) (fun u hu => hP3 u ⟨hu ((d + 1, j), mkBox r q m2) (by simp), hu ((d + 1, r), mkRow m2) (by simp), hu ((d + 1, q), mkMap m2) (by simp)⟩) ?_
            refine DOps.sim ?_
            refine DOps.nil (by rfl) (hK _ ?_); clear hK K
            refine End.kp [6, 7] ?_
            refine Run.ret (hQ _ _ ⟨.inr rfl, _, rfl, _, rfl, ?_⟩)
            rw [hE]
            exact ⟨rfl, by have h1 := setMk_at (m' := m1) hk; show setMk (setMk (setMk up d j r q m1) d j r q m2) d j r q m3 = _; rw [setMk_set h1, setMk_set hk]⟩
  · have hb0 := of_decide_eq_false hb
    have hZ : onesT N = 18446744073709551615 := by rw [show N = 6 by omega]; decide +kernel
    have hT6 : bits .and .u64 t 18446744073709551615 = T := by rw [← hZ]; exact hT
    refine Run.skip ?_
    refine End.kp [0, 1, 2, 8, 9] ?_
    refine Run.seq ?_
    refine Run.seq ?_
    have fx := And.intro hT6 (And.intro (@Int.toNat_natCast) (And.intro (@Int.natCast_nonneg) (And.intro hB (And.intro hA (And.intro hh0 (And.intro u4 (And.intro u3 (And.intro u2 (And.intro u1 (And.intro wsub (And.intro hn2 (And.intro hn1 (And.intro htake (And.intro hslice (And.intro hH0 (And.intro w1 (And.intro hn0 (And.intro hll ft))))))))))))))))))
    refine Run.go ?_
    refine End.kp [0, 1, 2, 8, 9, 28] ?_
    refine Run.block ?_
    refine Run.seq ?_
    refine Run.go ?_
    refine End.kp [0, 1, 2, 8, 9, 28, 29] ?_
    refine Run.cond _ rfl (fun hb => ?_) (fun hb => ?_)
    · have hb1 := eq_of_beq hb
      refine Run.seq ?_
      have fx := And.intro hT6 (And.intro (@Int.toNat_natCast) (And.intro (@Int.natCast_nonneg) (And.intro hB (And.intro hA (And.intro hh0 (And.intro u4 (And.intro u3 (And.intro u2 (And.intro u1 (And.intro wsub (And.intro hn2 (And.intro hn1 (And.intro htake (And.intro hslice (And.intro hH0 (And.intro w1 (And.intro hn0 (And.intro hll ft))))))))))))))))))
      refine Run.go ?_
      refine End.kp [6, 7] ?_
      refine Run.ret (hQ _ _ ⟨.inr rfl, _, rfl, _, rfl, ?_⟩)
      rw [mkTable, ← hN, hT, if_pos hb1]
      exact ⟨rfl, hkk.symm⟩
    · have hb1 : ¬ T = 0 := fun h => by simp [h] at hb
      refine Run.seq ?_
      have fx := And.intro hT6 (And.intro (@Int.toNat_natCast) (And.intro (@Int.natCast_nonneg) (And.intro hB (And.intro hA (And.intro hh0 (And.intro u4 (And.intro u3 (And.intro u2 (And.intro u1 (And.intro wsub (And.intro hn2 (And.intro hn1 (And.intro htake (And.intro hslice (And.intro hH0 (And.intro w1 (And.intro hn0 (And.intro hll ft))))))))))))))))))
      refine Run.go ?_
      refine End.kp [0, 1, 2, 8, 31] ?_
      refine Run.cond _ rfl (fun hb => ?_) (fun hb => ?_)
      · have hb2 := eq_of_beq hb
        refine Run.seq ?_
        have fx := And.intro hT6 (And.intro (@Int.toNat_natCast) (And.intro (@Int.natCast_nonneg) (And.intro hB (And.intro hA (And.intro hh0 (And.intro u4 (And.intro u3 (And.intro u2 (And.intro u1 (And.intro wsub (And.intro hn2 (And.intro hn1 (And.intro htake (And.intro hslice (And.intro hH0 (And.intro w1 (And.intro hn0 (And.intro hll ft))))))))))))))))))
        refine Run.go ?_
        refine End.kp [6, 7] ?_
        refine Run.ret (hQ _ _ ⟨.inr rfl, _, rfl, _, rfl, ?_⟩)
        rw [mkTable, ← hN, hT, if_neg hb1, if_pos (by rw [hZ]; exact hb2)]
        exact ⟨rfl, hkk.symm⟩
      · have hb2 : ¬ T = onesT N := fun h => by first | (rw [h] at hb; simp at hb; done) | (rw [h, hZ] at hb; simp at hb; done)
        have hE : mkTable (n + 1) m t l = if a = b then mkTable n m b (l.take n) else mkPair (mkTable n (mkTable n m a (l.take n)).2 b (l.take n)).2 (l.getD n 0) (mkTable n m a (l.take n)).1 (flipL (l.getD n 0)) (mkTable n (mkTable n m a (l.take n)).2 b (l.take n)).1 := by
          rw [mkTable, ← hN, hT, if_neg hb1, if_neg hb2, hA2, hB]
        refine Run.skip ?_
        refine End.blk ?_
        refine End.kp [0, 1, 2, 8] ?_
        refine Run.seq ?_
        have fx := And.intro hT6 (And.intro (@Int.toNat_natCast) (And.intro (@Int.natCast_nonneg) (And.intro hB (And.intro hA (And.intro hh0 (And.intro u4 (And.intro u3 (And.intro u2 (And.intro u1 (And.intro wsub (And.intro hn2 (And.intro hn1 (And.intro htake (And.intro hslice (And.intro hH0 (And.intro w1 (And.intro hn0 (And.intro hll ft))))))))))))))))))
        refine Run.go ?_
        refine End.kp [0, 1, 2, 8, 10] ?_
        refine Run.seq ?_
        refine Run.go ?_
        refine End.kp [0, 1, 2, 8, 10, 11] ?_
        refine Run.seq ?_
        refine Run.go ?_
        refine End.kp [0, 2, 8, 12, 13] ?_
        refine Run.seq ?_
        refine Run.seq ?_
        refine Run.go ?_
        refine End.kp [0, 2, 8, 12, 13, 50] ?_
        refine Run.cond _ rfl (fun hb => ?_) (fun hb => ?_)
        · have hb3 := eq_of_beq hb
          rw [hb3, if_pos rfl] at hE
          refine Run.seq ?_
          have fx := And.intro hT6 (And.intro (@Int.toNat_natCast) (And.intro (@Int.natCast_nonneg) (And.intro hB (And.intro hA (And.intro hh0 (And.intro u4 (And.intro u3 (And.intro u2 (And.intro u1 (And.intro wsub (And.intro hn2 (And.intro hn1 (And.intro htake (And.intro hslice (And.intro hH0 (And.intro w1 (And.intro hn0 (And.intro hll ft))))))))))))))))))
          refine Run.region rfl fun K hK => GOps.sim ?_
          refine GOps.call rfl rfl rfl rfl (by kernel_rfl) (ACalls.sim ?_)
          refine (ih b (l.take n) (by rw [List.length_take]; omega) m hm2 _ (d + 1) j r q (by exact ⟨hk.box, hk.row, hk.map⟩) (by omega) ht).mono fun v u hv => ?_
          obtain ⟨rfl, rfl⟩ := hv
          refine ⟨_, _, rfl, GOps.sim ?_⟩
          refine GOps.done (hK _ ?_); clear hK K
          refine End.kp [6, 7] ?_
          refine Run.ret (hQ _ _ ⟨.inr rfl, _, rfl, _, rfl, ?_⟩)
          rw [hE]
          exact ⟨rfl, rfl⟩
        · have hb3 : ¬ a = b := fun h => by simp [h] at hb
          rw [if_neg hb3] at hE
          obtain ⟨h1, h1i⟩ := mkTable_after n m a (l.take n) ht
          have s1 := h1.small hm2 (by omega)
          have h1m := h1.most
          obtain ⟨h2, h2i⟩ := mkTable_after n (mkTable n m a (l.take n)).2 b (l.take n) (fun x hx => h1.up (ht x hx))
          have s2 := h2.small s1 (by omega)
          have h2m := h2.most
          have hyi := h2.up (h1.up (getD_in hin n))
          have hxi := h2.up h1i
          generalize h1e : mkTable n m a (l.take n) = X1 at *
          obtain ⟨x1, m1⟩ := X1
          simp only at *
          generalize h2e : mkTable n m1 b (l.take n) = X2 at *
          obtain ⟨x2, m2⟩ := X2
          simp only at *
          have hgy := ints_get l n (by omega)
          generalize l.getD n 0 = y at *
          have hP3 := fun (u : Frs) (hu : MkAt u (d + 1) j r q m2) => mpair_ok y x1 (flipL y) x2 m2 s2 u (d + 1) j r q hu (by omega) hyi hxi (flip_in hyi) h2i
          have hsm2 := s2.ands
          have hsm3 := s2.inn
          have hsm4 := s2.regs
          unfold InM LMk.top LMk.first at hyi
          generalize mkPair m2 y x1 (flipL y) x2 = X3 at *
          obtain ⟨p, m3⟩ := X3
          simp only at *
          refine Run.skip ?_
          refine End.kp [0, 2, 8, 12, 13] ?_
          refine Run.seq ?_
          have fx := And.intro hnl (And.intro hgy (And.intro hT6 (And.intro (@Int.toNat_natCast) (And.intro (@Int.natCast_nonneg) (And.intro hB (And.intro hA (And.intro hh0 (And.intro u4 (And.intro u3 (And.intro u2 (And.intro u1 (And.intro wsub (And.intro hn2 (And.intro hn1 (And.intro htake (And.intro hslice (And.intro hH0 (And.intro w1 (And.intro hn0 (And.intro hll ft))))))))))))))))))))
          refine Run.region rfl fun K hK => GOps.sim ?_
          refine GOps.call rfl rfl rfl rfl (by kernel_rfl) (ACalls.sim ?_)
          refine (ih a (l.take n) (by rw [List.length_take]; omega) m hm2 _ (d + 1) j r q (by exact ⟨hk.box, hk.row, hk.map⟩) (by omega) ht).mono fun v u hv => ?_
          obtain ⟨rfl, rfl⟩ := hv
          rw [h1e]
          have fx := And.intro hnl (And.intro hgy (And.intro hT6 (And.intro (@Int.toNat_natCast) (And.intro (@Int.natCast_nonneg) (And.intro hB (And.intro hA (And.intro hh0 (And.intro u4 (And.intro u3 (And.intro u2 (And.intro u1 (And.intro wsub (And.intro hn2 (And.intro hn1 (And.intro htake (And.intro hslice (And.intro hH0 (And.intro w1 (And.intro hn0 (And.intro hll ft))))))))))))))))))))
          refine ⟨_, _, rfl, GOps.sim ?_⟩
          refine GOps.done (hK _ ?_); clear hK K
          refine End.kp [0, 2, 8, 13, 14, 15] ?_
          refine Run.seq ?_
          refine Run.region rfl fun K hK => GOps.sim ?_
          refine GOps.call rfl rfl rfl rfl (by kernel_rfl) (ACalls.sim ?_)
          refine (ih b (l.take n) (by rw [List.length_take]; omega) m1 s1 _ (d + 1) j r q (by have hh := setMk_at (m' := m1) hk; exact ⟨hh.box, hh.row, hh.map⟩) (by omega) (fun x hx => h1.up (ht x hx))).mono fun v u hv => ?_
          obtain ⟨rfl, rfl⟩ := hv
          rw [h2e]
          have fx := And.intro hnl (And.intro hgy (And.intro hT6 (And.intro (@Int.toNat_natCast) (And.intro (@Int.natCast_nonneg) (And.intro hB (And.intro hA (And.intro hh0 (And.intro u4 (And.intro u3 (And.intro u2 (And.intro u1 (And.intro wsub (And.intro hn2 (And.intro hn1 (And.intro htake (And.intro hslice (And.intro hH0 (And.intro w1 (And.intro hn0 (And.intro hll ft))))))))))))))))))))
          refine ⟨_, _, rfl, GOps.sim ?_⟩
          refine GOps.done (hK _ ?_); clear hK K
          refine End.kp [0, 2, 8, 14, 15, 16, 17] ?_
          refine Run.seq ?_
          refine Run.seq ?_
          refine Run.go ?_
          refine End.kp [0, 2, 8, 14, 16, 85] ?_
          refine Run.cond _ rfl (fun hb => ?_) (fun hb => ?_)
          · have hb4 := hb
            simp at hb
          · have hb4 := hb
            refine Run.skip ?_
            refine End.kp [0, 2, 8, 14, 16] ?_
            refine Run.seq ?_
            have fx := And.intro hnl (And.intro hgy (And.intro hT6 (And.intro (@Int.toNat_natCast) (And.intro (@Int.natCast_nonneg) (And.intro hB (And.intro hA (And.intro hh0 (And.intro u4 (And.intro u3 (And.intro u2 (And.intro u1 (And.intro wsub (And.intro hn2 (And.intro hn1 (And.intro htake (And.intro hslice (And.intro hH0 (And.intro w1 (And.intro hn0 (And.intro hll ft))))))))))))))))))))
            refine Run.drawA fun K hK => ?_
            refine DOps.sim ?_
            refine DOps.call (.i (flipL y)) [] [] rfl rfl rfl rfl (by kernel_rfl) (by simp [Agree]) (fun u hu => Not_ok y (by omega) (by omega) u) ?_
            refine DOps.sim ?_
            refine DOps.call (.tup [.i p, .im (.bool true)]) [((d + 1, j), mkBox r q m2), ((d + 1, r), mkRow m2), ((d + 1, q), mkMap m2)] [((d + 1, j), mkBox r q m3), ((d + 1, r), mkRow m3), ((d + 1, q), mkMap m3)] rfl rfl rfl rfl (by kernel_rfl) (by have hh := setMk_at (m' := m2) (setMk_at (m' := m1) hk); intro x hx; simp only [List.mem_cons, List.not_mem_nil, or_false] at hx; rcases hx with rfl | rfl | rfl; exact hh.box; exact hh.row; exact hh.map) (fun u hu => hP3 u ⟨hu ((d + 1, j), mkBox r q m2) (by simp), hu ((d + 1, r), mkRow m2) (by simp), hu ((d + 1, q), mkMap m2) (by simp)⟩) ?_
            refine DOps.sim ?_
            refine DOps.nil (by rfl) (hK _ ?_); clear hK K
            refine End.kp [6, 7] ?_
            refine Run.ret (hQ _ _ ⟨.inr rfl, _, rfl, _, rfl, ?_⟩)
            rw [hE]
            exact ⟨rfl, by have h1 := setMk_at (m' := m1) hk; show setMk (setMk (setMk up d j r q m1) d j r q m2) d j r q m3 = _; rw [setMk_set h1, setMk_set hk]⟩
end Go.Proofs.YtkmnmokjlpenhaaPi
