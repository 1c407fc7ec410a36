/- Merged: WGI WGJ WGK. -/
import Derived.Test.YtkmnmokjlpenhaaWTA
import Derived.Test.YtkmnmokjlpenhaaWUA
/- The walks of Table, Graph of makers. -/
set_option linter.unusedVariables false
set_option linter.unusedSimpArgs false
set_option maxRecDepth 100000
namespace Go.Proofs.YtkmnmokjlpenhaaPi
set_option maxHeartbeats 4000000
theorem mtable_all : ∀ n : Nat, n ≤ 6 → TableIH n
  | 0, _ => fun t l hl m hm up d j r q hk _ _ => mtable_zero t l hl m hm up d j r q hk
  | n + 1, h => fun t l hl m hm up d j r q hk hc hin => mtable_succ n (by omega) (mtable_all n (by omega)) t l hl m hm up d j r q hk hc hin
theorem mTable_ok (n : Nat) (hn : n ≤ 6) (t : Int) (l : List Int) (hl : l.length = n) (m : LMk) (hm : MkSmall m) (up : Frs) (d j r q : Nat) (hk : MkAt up d j r q m) (hc : m.ands.length + capT n ≤ 4000) (hin : ∀ x ∈ l, InM m x) : ACalls Try.prog 63 [.ptr d j 0, .u t, .im (.sl (ints l))] up fun v u => v = .i (mkTable n m t l).1 ∧ u = setMk up d j r q (mkTable n m t l).2 := by
  have hm2 := hm
  have hll : (ints l).length = n := by rw [ints_len, hl]
  have d1 : decide ((n : Int) > 6) = false := decide_eq_false (by omega)
  refine ACalls.code Try.func63 rfl 44 rfl (by simp) [.tmp 6] rfl fun Q hQ => ?_
  simp only [ups, PV.up, argEnv]
  have ft := And.intro ty_3 (And.intro ty_4 (And.intro ty_34 (And.intro ty_37 (And.intro ty_49 (And.intro ty_62 (And.intro ty_109 trivial))))))
  refine Run.seq ?_
  have fx := And.intro d1 (And.intro hll ft)
  refine Run.go ?_
  refine End.kp [0, 1, 2] ?_
  refine Run.seq ?_
  refine Run.seq ?_
  refine Run.go ?_
  refine End.kp [0, 1, 2, 13] ?_
  refine Run.cond _ rfl (fun hb => ?_) (fun hb => ?_)
  · have hb0 := hb
    simp at hb
  · have hb0 := hb
    refine Run.skip ?_
    refine End.kp [0, 1, 2] ?_
    refine Run.seq ?_
    refine Run.seq ?_
    have fx := And.intro d1 (And.intro hll ft)
    refine Run.go ?_
    refine End.kp [0, 1, 2, 16, 17, 18] ?_
    refine Run.block ?_
    refine Run.ghost (Ghost.form [(0, .ptr (d + 1) j 0), (1, .u t), (2, .im (.sl (ints l))), (16, .im (.sl (ints l))), (17, .i n), (18, .i (0 : Nat))] 0 ⟨rfl, rfl, rfl, rfl, rfl, rfl, trivial⟩ rfl rfl) ?_
    refine Run.loop (fun m' st => ∃ k : Nat, m' = n - k ∧ k ≤ n ∧ st = ⟨[(0, .ptr (d + 1) j 0), (1, .u t), (2, .im (.sl (ints l))), (16, .im (.sl (ints l))), (17, .i n), (18, .i (k : Nat))], [], up⟩) n ⟨0, rfl, by omega, rfl⟩ fun m' st hI => ?_
    obtain ⟨k, rfl, hk', rfl⟩ := hI
    refine Run.seq ?_
    have fx := And.intro d1 (And.intro hll ft)
    refine Run.go ?_
    refine End.kp [0, 1, 2, 16, 17, 18, 19] ?_
    refine Run.seq ?_
    refine Run.cond _ rfl (fun hb => ?_) (fun hb => ?_)
    · have hb2 := of_decide_eq_true hb
      have hin' : k < n := by omega
      have wk := wsucc hin' (by omega)
      obtain ⟨x, hxi, hxm, hx⟩ := int_at l k (by omega)
      have hxin := hin x hxm
      unfold InM LMk.top LMk.first at hxin
      have hkl : (k : Int) < (n : Int) := by omega
      refine Run.skip ?_
      refine End.kp [0, 1, 2, 16, 17, 18] ?_
      refine Run.seq ?_
      refine Run.block ?_
      refine Run.seq ?_
      have fx := And.intro (@Int.toNat_natCast) (And.intro (@Int.natCast_nonneg) (And.intro hkl (And.intro hx (And.intro wk (And.intro d1 (And.intro hll ft))))))
      refine Run.go ?_
      refine End.kp [0, 1, 2, 7, 8, 16, 17, 18] ?_
      refine Run.seq ?_
      rcases Bool.eq_false_or_eq_true (depV t n k) with hs6 | hs6
      · skip
        have fx := And.intro hs6 (And.intro (@Int.toNat_natCast) (And.intro (@Int.natCast_nonneg) (And.intro hkl (And.intro hx (And.intro wk (And.intro d1 (And.intro hll ft)))))))
        refine Run.region rfl fun K hK => GOps.sim ?_
        refine GOps.call rfl rfl rfl rfl (by kernel_rfl) (ACalls.sim ?_)
        refine (depends_ok t n hn k (by omega) _).mono fun v u hv => ?_
        obtain ⟨rfl, rfl⟩ := hv
        refine ⟨_, _, rfl, GOps.sim ?_⟩
        refine GOps.call rfl rfl rfl rfl (by kernel_rfl) (ACalls.sim ?_)
        refine (mknown_ok m hm2 _ (d + 1) j r q (by exact ⟨hk.box, hk.row, hk.map⟩) [x] (fun y hy => by simp at hy; subst hy; omega) (by simp)).mono fun v u hv => ?_
        obtain ⟨rfl, rfl⟩ := hv
        refine ⟨_, _, rfl, GOps.sim ?_⟩
        refine GOps.done (hK _ ?_); clear hK K
        refine End.kp [0, 1, 2, 16, 17, 18, 34] ?_
        refine Run.cond _ rfl (fun hb => ?_) (fun hb => ?_)
        · have hb2 := hb
          simp at hb
        · have hb2 := hb
          refine Run.skip ?_
          refine End.blk ?_
          refine End.kp [0, 1, 2, 16, 17, 18] ?_
          have fx := And.intro hs6 (And.intro (@Int.toNat_natCast) (And.intro (@Int.natCast_nonneg) (And.intro hkl (And.intro hx (And.intro wk (And.intro d1 (And.intro hll ft)))))))
          refine Run.go ?_
          refine End.lp ?_
          refine ⟨n - (k + 1), _, by omega, Ghost.form [(0, .ptr (d + 1) j 0), (1, .u t), (2, .im (.sl (ints l))), (16, .im (.sl (ints l))), (17, .i n), (18, .i (k + 1 : Nat))] 0 ⟨rfl, rfl, rfl, rfl, rfl, rfl, trivial⟩ rfl rfl, k + 1, rfl, by omega, rfl⟩
      · skip
        have fx := And.intro hs6 (And.intro (@Int.toNat_natCast) (And.intro (@Int.natCast_nonneg) (And.intro hkl (And.intro hx (And.intro wk (And.intro d1 (And.intro hll ft)))))))
        refine Run.region rfl fun K hK => GOps.sim ?_
        refine GOps.call rfl rfl rfl rfl (by kernel_rfl) (ACalls.sim ?_)
        refine (depends_ok t n hn k (by omega) _).mono fun v u hv => ?_
        obtain ⟨rfl, rfl⟩ := hv
        refine ⟨_, _, rfl, GOps.sim ?_⟩
        refine GOps.done (hK _ ?_); clear hK K
        refine End.kp [0, 1, 2, 16, 17, 18, 34] ?_
        refine Run.cond _ rfl (fun hb => ?_) (fun hb => ?_)
        · have hb2 := hb
          simp at hb
        · have hb2 := hb
          refine Run.skip ?_
          refine End.blk ?_
          refine End.kp [0, 1, 2, 16, 17, 18] ?_
          have fx := And.intro hs6 (And.intro (@Int.toNat_natCast) (And.intro (@Int.natCast_nonneg) (And.intro hkl (And.intro hx (And.intro wk (And.intro d1 (And.intro hll ft)))))))
          refine Run.go ?_
          refine End.lp ?_
          refine ⟨n - (k + 1), _, by omega, Ghost.form [(0, .ptr (d + 1) j 0), (1, .u t), (2, .im (.sl (ints l))), (16, .im (.sl (ints l))), (17, .i n), (18, .i (k + 1 : Nat))] 0 ⟨rfl, rfl, rfl, rfl, rfl, rfl, trivial⟩ rfl rfl, k + 1, rfl, by omega, rfl⟩
    · have hb2 := of_decide_eq_false hb
      refine Run.exit rfl ?_
      refine End.kp [0, 1, 2] ?_
      refine Run.seq ?_
      have fx := And.intro d1 (And.intro hll ft)
      refine Run.region rfl fun K hK => GOps.sim ?_
      refine GOps.call rfl rfl rfl rfl (by kernel_rfl) (ACalls.sim ?_)
      refine (mtable_all n hn t l hl m hm2 _ (d + 1) j r q (by exact ⟨hk.box, hk.row, hk.map⟩) hc hin).mono fun v u hv => ?_
      obtain ⟨rfl, rfl⟩ := hv
      refine ⟨_, _, rfl, GOps.sim ?_⟩
      refine GOps.done (hK _ ?_); clear hK K
      refine End.kp [9] ?_
      refine Run.seq ?_
      refine Run.go ?_
      refine End.kp [6] ?_
      refine Run.ret (hQ _ _ ⟨.inr rfl, _, rfl, _, rfl, ?_⟩)
      exact ⟨rfl, rfl⟩
theorem mGraph_ok (g : LGraph) (hg : GraphOk g) (hgr : g.regs = []) (up : Frs) (d j q : Nat) (hk : fget up d j = some (.box [.im (.sl (strs g.inn)), .im (.sl (g.regs.map LReg.im)), .im (.sl (g.ands.map nd)), .map 0 q, .i 0])) : ACalls Try.prog 64 [.ptr d j 0, .im (.sl (strs g.out)), .im (.sl (ints g.outs)), .im (.sl (g.regs.map LReg.im))] up fun v u => v = .tup [g.pv, .i 0] ∧ u = up := by
  have hsm := hg.small
  have hrl : g.regs.length = 0 := by rw [hgr]; rfl
  obtain ⟨R, hR⟩ : ∃ R, R = 0 := ⟨_, rfl⟩
  have hrr : (g.regs.map LReg.im).length = R := by rw [hgr, hR]; rfl
  have dR : ((R : Int) != R) = false := by simp
  have dR2 : ((0 : Int) != R) = false := by rw [hR]; rfl
  refine ACalls.code Try.func64 rfl 70 rfl (by simp) [.cell 8 51, .tmp 9] rfl fun Q hQ => ?_
  simp only [ups, PV.up, argEnv]
  have ft := And.intro ty_2 (And.intro ty_3 (And.intro ty_4 (And.intro ty_9 (And.intro ty_26 (And.intro ty_34 (And.intro ty_47 (And.intro ty_48 (And.intro ty_49 (And.intro ty_51 (And.intro ty_62 (And.intro ty_69 (And.intro ty_109 (And.intro ty_137 (And.intro ty_170 trivial))))))))))))))
  refine Run.seq ?_
  have fx := And.intro dR (And.intro hrr (And.intro hk ft))
  refine Run.go ?_
  refine End.kp [0, 1, 2, 3, 8] ?_
  refine Run.seq ?_
  refine Run.seq ?_
  refine Run.go ?_
  refine End.kp [0, 1, 2, 3, 8, 18] ?_
  refine Run.cond _ rfl (fun hb => ?_) (fun hb => ?_)
  · have hb0 := hb
    simp at hb
  · have hb0 := hb
    refine Run.skip ?_
    refine End.kp [0, 1, 2, 3, 8] ?_
    refine Run.seq ?_
    refine Run.seq ?_
    have fx := And.intro dR (And.intro hrr (And.intro hk ft))
    refine Run.go ?_
    refine End.kp [0, 1, 2, 3, 8, 31] ?_
    refine Run.cond _ rfl (fun hb => ?_) (fun hb => ?_)
    · have hb0 := hb
      simp at hb
    · have hb0 := hb
      refine Run.skip ?_
      refine End.kp [0, 1, 2, 3, 8] ?_
      refine Run.seq ?_
      refine Run.ghost (.spares 1) ?_
      simp only [ASt.pushN, ASt.push, List.append_assoc, List.cons_append, List.nil_append]
      have fx := And.intro dR (And.intro hrr (And.intro hk ft))
      refine Run.drawA fun K hK => ?_
      refine DOps.sim ?_
      refine DOps.call (g.pv) [] [] rfl rfl rfl rfl (by kernel_rfl) (by simp [Agree]) (fun u hu => Copy_ok g hsm u) ?_
      refine DOps.sim ?_
      refine DOps.nil (by rfl) (hK _ ?_); clear hK K
      refine End.kp [3, 8, 10] ?_
      refine Run.seq ?_
      refine Run.seq ?_
      refine Run.go ?_
      refine End.kp [8, 10, 49, 50, 51] ?_
      refine Run.block ?_
      refine Run.ghost (Ghost.form [(8, .ptr 0 0 0), (10, .ptr 0 1 0), (49, .im (.sl (g.regs.map LReg.im))), (50, .i R), (51, .i 0)] 2 ⟨rfl, rfl, rfl, rfl, rfl, trivial⟩ rfl rfl) ?_
      refine Run.loop (fun m st => st = ⟨[(8, .ptr 0 0 0), (10, .ptr 0 1 0), (49, .im (.sl (g.regs.map LReg.im))), (50, .i R), (51, .i 0)], [.box [.nils, .nils, .nils, .nils, .nils], .box g.cells], up⟩) 0 rfl fun m st hI => ?_
      subst hI
      refine Run.seq ?_
      have fx := And.intro dR (And.intro hrr (And.intro hk ft))
      refine Run.go ?_
      refine End.kp [8, 10, 49, 50, 51, 52] ?_
      refine Run.seq ?_
      refine Run.cond _ rfl (fun hb => ?_) (fun hb => ?_)
      · have hb2 := of_decide_eq_true hb
        omega
      · have hb2 := hb
        refine Run.exit rfl ?_
        refine End.kp [8, 10] ?_
        refine Run.seq ?_
        refine Run.seq ?_
        have fx := And.intro dR (And.intro hrr (And.intro hk ft))
        refine Run.region rfl fun K hK => GOps.sim ?_
        refine GOps.call rfl rfl rfl rfl (by kernel_rfl) (ACalls.sim ?_)
        refine (Check_ok g hg _).mono fun v u hv => ?_
        obtain ⟨rfl, rfl⟩ := hv
        refine ⟨_, _, rfl, GOps.sim ?_⟩
        refine GOps.done (hK _ ?_); clear hK K
        refine End.kp [8, 10, 13] ?_
        refine Run.seq ?_
        refine Run.go ?_
        refine End.kp [8, 10, 13, 66] ?_
        refine Run.cond _ rfl (fun hb => ?_) (fun hb => ?_)
        · have hb3 := hb
          simp at hb
        · have hb3 := hb
          refine Run.skip ?_
          refine End.kp [8, 10] ?_
          refine Run.seq ?_
          have fx := And.intro dR (And.intro hrr (And.intro hk ft))
          refine Run.go ?_
          refine End.kp [8, 9] ?_
          refine Run.resC hQ ?_
          exact ⟨rfl, rfl⟩
end Go.Proofs.YtkmnmokjlpenhaaPi

/- The walks of Next, Words of a stream without numbers. -/
set_option linter.unusedVariables false
set_option linter.unusedSimpArgs false
namespace Go.Proofs.YtkmnmokjlpenhaaPi
set_option maxHeartbeats 4000000
/-- A stream that has no numbers. -/
abbrev stmN (a : Int) : AObj := .box [.nils, .i a]
theorem Next_nil (l : List Int) (hl0 : l = []) (a n : Int) (hs : StmOk l a) (hn : I64 n) (up : Frs) (d j : Nat) (hl : fget up d j = some (stmN a)) : ACalls Try.prog 16 [.ptr d j 0, .i n] up fun v u => v = .i (nextV l a n) ∧ u = fset up d j (stmN (a + 1)) := by
  have hset : ∀ o, fget (fset up d j o) d j = some o := fun o => fget_fset_same _ _ _ _ _ hl
  have hw1 : IntKind.i64.wrap (a + 1) = a + 1 := wrap64 (by have := hs.pos; have := hs.few; omega)
  have hw2 : IntKind.i64.wrap ((a + 1) * 7919) = (a + 1) * 7919 := wrap64 (by have := hs.pos; have := hs.few; omega)
  refine ACalls.code Try.func16 rfl 64 rfl (by simp) [.tmp 4] rfl fun Q hQ => ?_
  simp only [ups, PV.up, argEnv]
  have ft := And.intro ty_3 (And.intro ty_4 (And.intro ty_22 (And.intro ty_23 (And.intro ty_25 trivial))))
  refine Run.seq ?_
  have fx := And.intro hw2 (And.intro hw1 (And.intro hset (And.intro hl ft)))
  refine Run.go ?_
  refine End.kp [0, 1] ?_
  refine Run.seq ?_
  refine Run.go ?_
  refine End.kp [0, 1] ?_
  refine Run.seq ?_
  refine Run.seq ?_
  refine Run.go ?_
  refine End.kp [0, 1, 19] ?_
  refine Run.cond _ rfl (fun hb => ?_) (fun hb => ?_)
  · have hb0 := hb
    refine Run.seq ?_
    have fx := And.intro hw2 (And.intro hw1 (And.intro hset (And.intro hl ft)))
    refine Run.region rfl fun K hK => GOps.sim ?_
    refine GOps.call rfl rfl rfl rfl (by kernel_rfl) (ACalls.sim ?_)
    refine (Below_ok ((a + 1) * 7919) n (by have := hs.pos; have := hs.few; constructor <;> omega) hn _).mono fun v u hv => ?_
    obtain ⟨rfl, rfl⟩ := hv
    refine ⟨_, _, rfl, GOps.sim ?_⟩
    refine GOps.done (hK _ ?_); clear hK K
    refine End.kp [4] ?_
    refine Run.ret (hQ _ _ ⟨.inr rfl, _, rfl, _, rfl, ?_⟩)
    exact ⟨by simp [nextV, hl0], rfl⟩
  · have hb0 := hb
    simp at hb
theorem Words_nil (N : Nat) (hN : N ≤ 300) (l : List Int) (hl0 : l = []) (a : Int) (hs : StmOk l a) (hf : a + 1000 < 1099511627776) (up : Frs) (d j : Nat) (hl : fget up d j = some (stmN a)) : ACalls Try.prog 60 [.ptr d j 0, .i N] up fun v u => v = .im (.sl (strs (wordsV l N 0 a).1)) ∧ u = fset up d j (stmN (wordsV l N 0 a).2) := by
  have hset : ∀ o, fget (fset up d j o) d j = some o := fun o => fget_fset_same _ _ _ _ _ hl
  have hp := hs.pos
  refine ACalls.code Try.func60 rfl 51 rfl (by simp) [.tmp 4] rfl fun Q hQ => ?_
  simp only [ups, PV.up, argEnv]
  have ft := And.intro ty_2 (And.intro ty_3 (And.intro ty_4 (And.intro ty_5 (And.intro ty_9 (And.intro ty_23 (And.intro ty_26 (And.intro ty_165 trivial)))))))
  refine Run.seq ?_
  have fx := And.intro hset (And.intro hl ft)
  refine Run.go ?_
  refine End.kp [0, 1] ?_
  refine Run.seq ?_
  refine Run.go ?_
  refine End.kp [0, 1, 5] ?_
  refine Run.seq ?_
  refine Run.seq ?_
  refine Run.go ?_
  refine End.kp [0, 5, 8, 9] ?_
  refine Run.block ?_
  refine Run.ghost (Ghost.thaw (u := 5) 9 1 (by decide) rfl) ?_
  refine Run.ghost (Ghost.shape [(0, .ptr (d + 1) j 0), (5, .ms 0 0 (0)), (8, .i N), (9, .i (0 : Nat))] 1 ?_ rfl rfl) ?_
  · simp [eget, eput, edel]
  refine Run.loop (fun m s => ∃ (i : Nat) (done : List ByteArray) (b : Int), m = N - i ∧ i ≤ N ∧ done.length = i ∧ (wordsV l (N - i) i b).2 = (wordsV l N 0 a).2 ∧ done ++ (wordsV l (N - i) i b).1 = (wordsV l N 0 a).1 ∧ a ≤ b ∧ b ≤ a + 3 * i ∧
    s = ⟨[(0, .ptr (d + 1) j 0), (5, .ms 0 0 (i)), (8, .i N), (9, .i (i : Nat))], [.row 9 1 (strs done) 0], fset up d j (stmN b)⟩) N ⟨0, [], a, rfl, by omega, rfl, rfl, rfl, by omega, by omega, by rw [fset_self up d j _ hl]; rfl⟩ fun m s hI => ?_
  obtain ⟨i, done, b, rfl, hi, hdl, hw2, hw1, hb0, hb1, rfl⟩ := hI
  have hsl : (strs done).length = i := by rw [strs_len, hdl]
  have hs0 : StmOk l b := ⟨hs.vals, hs.len, by omega, by omega⟩
  refine Run.seq ?_
  have fx := And.intro hsl (And.intro hset (And.intro hl ft))
  refine Run.go ?_
  refine End.kp [0, 5, 8, 9, 10] ?_
  refine Run.seq ?_
  refine Run.cond _ rfl (fun hb => ?_) (fun hb => ?_)
  · have hb := of_decide_eq_true hb
    have hin : i < N := by omega
    have hap : (i + 1) * 16 ≤ 140737488355328 := by omega
    obtain ⟨r0, r1⟩ := nextV_range l b 26 (by omega)
    obtain ⟨r2, r3⟩ := nextV_range l (b + 1) 5 (by omega)
    obtain ⟨r4, r5⟩ := nextV_range l (b + 1 + 1) 10 (by omega)
    have m0 := Int.emod_nonneg (i : Int) (show (26 : Int) ≠ 0 by decide)
    have m1 := Int.emod_lt_of_pos (i : Int) (show (0 : Int) < 26 by decide)
    have m2 := Int.emod_nonneg ((i : Int) / 26) (show (26 : Int) ≠ 0 by decide)
    have m3 := Int.emod_lt_of_pos ((i : Int) / 26) (show (0 : Int) < 26 by decide)
    have d0 : (0 : Int) ≤ (i : Int) / 26 := by omega
    have d1 : (i : Int) / 26 ≤ i := by omega
    have t1 : (i : Int).tmod 26 = (i : Int) % 26 := Int.tmod_eq_emod_of_nonneg (by omega)
    have t2 : (i : Int).tdiv 26 = (i : Int) / 26 := Int.tdiv_eq_ediv_of_nonneg (by omega)
    have t3 : ((i : Int) / 26).tmod 26 = (i : Int) / 26 % 26 := Int.tmod_eq_emod_of_nonneg d0
    have w0 : IntKind.i64.wrap ((i : Int) / 26) = (i : Int) / 26 := wrap64 (by omega)
    have w1 : IntKind.i64.wrap (97 + nextV l b 26) = 97 + nextV l b 26 := wrap64 (by omega)
    have w2 : IntKind.i64.wrap (97 + (i : Int) % 26) = 97 + (i : Int) % 26 := wrap64 (by omega)
    have w3 : IntKind.i64.wrap (97 + (i : Int) / 26 % 26) = 97 + (i : Int) / 26 % 26 := wrap64 (by omega)
    have w4 : IntKind.i64.wrap (48 + nextV l (b + 1 + 1) 10) = 48 + nextV l (b + 1 + 1) 10 := wrap64 (by omega)
    have v1 : IntKind.u8.wrap (97 + nextV l b 26) = 97 + nextV l b 26 := wrap8 (by omega)
    have v2 : IntKind.u8.wrap (97 + (i : Int) % 26) = 97 + (i : Int) % 26 := wrap8 (by omega)
    have v3 : IntKind.u8.wrap (97 + (i : Int) / 26 % 26) = 97 + (i : Int) / 26 % 26 := wrap8 (by omega)
    have v4 : IntKind.u8.wrap (48 + nextV l (b + 1 + 1) 10) = 48 + nextV l (b + 1 + 1) 10 := wrap8 (by omega)
    have z1 : 0 ≤ 97 + nextV l b 26 ∧ 97 + nextV l b 26 < 256 := by omega
    have z2 : 0 ≤ 97 + (i : Int) % 26 ∧ 97 + (i : Int) % 26 < 256 := by omega
    have z3 : 0 ≤ 97 + (i : Int) / 26 % 26 ∧ 97 + (i : Int) / 26 % 26 < 256 := by omega
    have z4 : 0 ≤ 48 + nextV l (b + 1 + 1) 10 ∧ 48 + nextV l (b + 1 + 1) 10 < 256 := by omega
    have wi : IntKind.i64.wrap ((i : Int) + 1) = ((i + 1 : Nat) : Int) := by rw [wrap64 (by omega)]; omega
    refine Run.skip ?_
    refine End.kp [0, 5, 8, 9] ?_
    refine Run.seq ?_
    refine Run.block ?_
    refine Run.seq ?_
    have fx := And.intro (@ByteArray.size_append) (And.intro (@List.size_toArray.{0}) (And.intro (@ba_size) (And.intro wi (And.intro z4 (And.intro z3 (And.intro z2 (And.intro z1 (And.intro v4 (And.intro v3 (And.intro v2 (And.intro v1 (And.intro w4 (And.intro w3 (And.intro w2 (And.intro w1 (And.intro w0 (And.intro t3 (And.intro t2 (And.intro t1 (And.intro hap (And.intro hsl (And.intro hset (And.intro hl ft)))))))))))))))))))))))
    refine Run.go ?_
    refine End.kp [0, 5, 6, 8, 9] ?_
    refine Run.seq ?_
    refine Run.region rfl fun K hK => GOps.sim ?_
    refine GOps.call rfl rfl rfl rfl (by kernel_rfl) (ACalls.sim ?_)
    refine (Next_nil l hl0 b 26 hs0 (by omega) _ (d + 1) j (hset _)).mono fun v u hv => ?_
    obtain ⟨rfl, rfl⟩ := hv
    refine ⟨_, _, rfl, GOps.sim ?_⟩
    refine GOps.done (hK _ ?_); clear hK K
    refine End.kp [0, 5, 7, 8, 9] ?_
    refine Run.seq ?_
    refine Run.seq ?_
    refine Run.region rfl fun K hK => GOps.sim ?_
    refine GOps.call rfl rfl rfl rfl (by kernel_rfl) (ACalls.sim ?_)
    refine (Next_nil l hl0 (b + 1) 5 (hs0.plus 1 (by omega) (by omega)) (by omega) _ (d + 1) j (hset _)).mono fun v u hv => ?_
    obtain ⟨rfl, rfl⟩ := hv
    refine ⟨_, _, rfl, GOps.sim ?_⟩
    refine GOps.done (hK _ ?_); clear hK K
    refine End.kp [0, 5, 7, 8, 9, 28] ?_
    refine Run.block ?_
    refine Run.seq ?_
    refine Run.go ?_
    refine End.kp [0, 5, 7, 8, 9, 28, 29] ?_
    refine Run.cond _ rfl (fun hb => ?_) (fun hb => ?_)
    · have hb5 : nextV l (b + 1) 5 = 0 := eq_of_beq hb
      have fx := And.intro (@ByteArray.size_append) (And.intro (@List.size_toArray.{0}) (And.intro (@ba_size) (And.intro wi (And.intro z4 (And.intro z3 (And.intro z2 (And.intro z1 (And.intro v4 (And.intro v3 (And.intro v2 (And.intro v1 (And.intro w4 (And.intro w3 (And.intro w2 (And.intro w1 (And.intro w0 (And.intro t3 (And.intro t2 (And.intro t1 (And.intro hap (And.intro hsl (And.intro hset (And.intro hl ft)))))))))))))))))))))))
      refine Run.region rfl fun K hK => GOps.sim ?_
      refine GOps.call rfl rfl rfl rfl (by kernel_rfl) (ACalls.sim ?_)
      refine (Next_nil l hl0 (b + 1 + 1) 10 ((hs0.plus 1 (by omega) (by omega)).plus 1 (by omega) (by omega)) (by omega) _ (d + 1) j (hset _)).mono fun v u hv => ?_
      obtain ⟨rfl, rfl⟩ := hv
      refine ⟨_, _, rfl, GOps.sim ?_⟩
      refine GOps.done (hK _ ?_); clear hK K
      refine End.blk ?_
      refine End.kp [0, 5, 7, 8, 9] ?_
      refine Run.go ?_
      refine End.blk ?_
      refine End.kp [0, 5, 8, 9] ?_
      refine Run.go ?_
      refine End.lp ?_
      have hn : nameV l b i = (⟨#[chr (97 + nextV l b 26), chr (97 + (i : Int) % 26), chr (97 + (i : Int) / 26 % 26)]⟩ ++ (⟨#[91]⟩ ++ ⟨#[chr (48 + nextV l (b + 1 + 1) 10)]⟩ ++ ⟨#[93]⟩), b + 1 + 1 + 1) := by simp [nameV, chr, hb5]
      have hp := nameV_pos l b i
      have hwi : wordsV l (N - i) i b = ((nameV l b i).1 :: (wordsV l (N - (i + 1)) (i + 1) (nameV l b i).2).1, (wordsV l (N - (i + 1)) (i + 1) (nameV l b i).2).2) := by
        rw [show N - i = (N - (i + 1)) + 1 by omega]
        rfl
      rw [hwi] at hw1 hw2
      refine ⟨N - (i + 1), _, by omega, Ghost.shape [(0, .ptr (d + 1) j 0), (5, .ms 0 0 (i + 1)), (8, .i N), (9, .i (i + 1 : Nat))] 1 ?_ rfl rfl, i + 1, done ++ [(nameV l b i).1], (nameV l b i).2, rfl, by omega, by simp [hdl], hw2, by simpa using hw1, by omega, by omega, ?_⟩
      · simp only [List.mem_cons, List.not_mem_nil, or_false, forall_eq_or_imp, forall_eq, eget]
        simp
      · rw [hn]
        simp [chr]
    · have hb5 : ¬ nextV l (b + 1) 5 = 0 := fun e => by simp [e] at hb
      refine Run.seq ?_
      have fx := And.intro (@ByteArray.size_append) (And.intro (@List.size_toArray.{0}) (And.intro (@ba_size) (And.intro wi (And.intro z4 (And.intro z3 (And.intro z2 (And.intro z1 (And.intro v4 (And.intro v3 (And.intro v2 (And.intro v1 (And.intro w4 (And.intro w3 (And.intro w2 (And.intro w1 (And.intro w0 (And.intro t3 (And.intro t2 (And.intro t1 (And.intro hap (And.intro hsl (And.intro hset (And.intro hl ft)))))))))))))))))))))))
      refine Run.go ?_
      refine End.kp [0, 5, 7, 8, 9, 41] ?_
      refine Run.cond _ rfl (fun hb => ?_) (fun hb => ?_)
      · have hb6 : nextV l (b + 1) 5 = 1 := eq_of_beq hb
        have fx := And.intro (@ByteArray.size_append) (And.intro (@List.size_toArray.{0}) (And.intro (@ba_size) (And.intro wi (And.intro z4 (And.intro z3 (And.intro z2 (And.intro z1 (And.intro v4 (And.intro v3 (And.intro v2 (And.intro v1 (And.intro w4 (And.intro w3 (And.intro w2 (And.intro w1 (And.intro w0 (And.intro t3 (And.intro t2 (And.intro t1 (And.intro hap (And.intro hsl (And.intro hset (And.intro hl ft)))))))))))))))))))))))
        refine Run.go ?_
        refine End.blk ?_
        refine End.kp [0, 5, 7, 8, 9] ?_
        refine Run.go ?_
        refine End.blk ?_
        refine End.kp [0, 5, 8, 9] ?_
        refine Run.go ?_
        refine End.lp ?_
        have hn : nameV l b i = (⟨#[109, 46]⟩ ++ ⟨#[chr (97 + nextV l b 26), chr (97 + (i : Int) % 26), chr (97 + (i : Int) / 26 % 26)]⟩, b + 1 + 1) := by simp [nameV, chr, hb5, hb6]
        have hp := nameV_pos l b i
        have hwi : wordsV l (N - i) i b = ((nameV l b i).1 :: (wordsV l (N - (i + 1)) (i + 1) (nameV l b i).2).1, (wordsV l (N - (i + 1)) (i + 1) (nameV l b i).2).2) := by
          rw [show N - i = (N - (i + 1)) + 1 by omega]
          rfl
        rw [hwi] at hw1 hw2
        refine ⟨N - (i + 1), _, by omega, Ghost.shape [(0, .ptr (d + 1) j 0), (5, .ms 0 0 (i + 1)), (8, .i N), (9, .i (i + 1 : Nat))] 1 ?_ rfl rfl, i + 1, done ++ [(nameV l b i).1], (nameV l b i).2, rfl, by omega, by simp [hdl], hw2, by simpa using hw1, by omega, by omega, ?_⟩
        · simp only [List.mem_cons, List.not_mem_nil, or_false, forall_eq_or_imp, forall_eq, eget]
          simp
        · rw [hn]
          simp [chr]
      · have hb6 : ¬ nextV l (b + 1) 5 = 1 := fun e => by simp [e] at hb
        refine Run.skip ?_
        refine End.blk ?_
        refine End.kp [0, 5, 7, 8, 9] ?_
        have fx := And.intro (@ByteArray.size_append) (And.intro (@List.size_toArray.{0}) (And.intro (@ba_size) (And.intro wi (And.intro z4 (And.intro z3 (And.intro z2 (And.intro z1 (And.intro v4 (And.intro v3 (And.intro v2 (And.intro v1 (And.intro w4 (And.intro w3 (And.intro w2 (And.intro w1 (And.intro w0 (And.intro t3 (And.intro t2 (And.intro t1 (And.intro hap (And.intro hsl (And.intro hset (And.intro hl ft)))))))))))))))))))))))
        refine Run.go ?_
        refine End.blk ?_
        refine End.kp [0, 5, 8, 9] ?_
        refine Run.go ?_
        refine End.lp ?_
        have hn : nameV l b i = (⟨#[chr (97 + nextV l b 26), chr (97 + (i : Int) % 26), chr (97 + (i : Int) / 26 % 26)]⟩, b + 1 + 1) := by simp [nameV, chr, hb5, hb6]
        have hp := nameV_pos l b i
        have hwi : wordsV l (N - i) i b = ((nameV l b i).1 :: (wordsV l (N - (i + 1)) (i + 1) (nameV l b i).2).1, (wordsV l (N - (i + 1)) (i + 1) (nameV l b i).2).2) := by
          rw [show N - i = (N - (i + 1)) + 1 by omega]
          rfl
        rw [hwi] at hw1 hw2
        refine ⟨N - (i + 1), _, by omega, Ghost.shape [(0, .ptr (d + 1) j 0), (5, .ms 0 0 (i + 1)), (8, .i N), (9, .i (i + 1 : Nat))] 1 ?_ rfl rfl, i + 1, done ++ [(nameV l b i).1], (nameV l b i).2, rfl, by omega, by simp [hdl], hw2, by simpa using hw1, by omega, by omega, ?_⟩
        · simp only [List.mem_cons, List.not_mem_nil, or_false, forall_eq_or_imp, forall_eq, eget]
          simp
        · rw [hn]
          simp [chr]
  · have hb := of_decide_eq_false hb
    have hiN : i = N := by omega
    subst hiN
    simp only [Nat.sub_self, wordsV, List.append_nil] at hw1 hw2
    refine Run.exit rfl ?_
    refine End.kp [5] ?_
    refine Run.seq ?_
    refine Run.ghost (Ghost.shut (t := 5) (j := 0) rfl rfl hsl) ?_
    simp only [eput, edel]
    have fx := And.intro hsl (And.intro hset (And.intro hl ft))
    refine Run.go ?_
    refine End.kp [4] ?_
    refine Run.ret (hQ _ _ ⟨.inr rfl, _, rfl, _, rfl, ?_⟩)
    exact ⟨by rw [hw1], by rw [hw2]⟩
end Go.Proofs.YtkmnmokjlpenhaaPi

/- The walk of GraphTables. -/
set_option linter.unusedVariables false
set_option linter.unusedSimpArgs false
namespace Go.Proofs.YtkmnmokjlpenhaaPi
set_option maxHeartbeats 4000000
def tabL (N i : Nat) : List Int := (List.range i).map fun q : Nat => 2 * (1 + ((N - 1 - q : Nat) : Int))
theorem tabL_len (N i : Nat) : (tabL N i).length = i := by simp [tabL]
theorem tabL_succ (N i : Nat) : tabL N (i + 1) = tabL N i ++ [2 * (1 + ((N - 1 - i : Nat) : Int))] := by simp [tabL, List.range_succ]
def bitK (K N q : Nat) : Bool := (bits .and .i64 ((K : Int).fdiv (2 ^ min (N - 1 - q) IntKind.i64.bits)) 1 == 1)
def inK (K N i : Nat) : List Bool := (List.range i).map (bitK K N)
theorem inK_len (K N i : Nat) : (inK K N i).length = i := by simp [inK]
theorem inK_succ (K N i : Nat) : inK K N (i + 1) = inK K N i ++ [bitK K N i] := by simp [inK, List.range_succ]
theorem bools_snoc (q : List Bool) (b : Bool) : bools (q ++ [b]) = bools q ++ [[.bool b]] := by simp
abbrev strO : ByteArray := ⟨#[111]⟩
abbrev mk0 (W : List ByteArray) : LMk := ⟨W, [], [], 0⟩
def tabM (W : List ByteArray) (N : Nat) (t : Int) : Int × LMk := mkTable N (mk0 W) t (tabL N N)
def tabG (W : List ByteArray) (N : Nat) (t : Int) : LGraph := ⟨W, [strO], [], (tabM W N t).2.ands, [(tabM W N t).1]⟩
theorem mkAnd_bad (m : LMk) (a b : Int) : (mkAnd m a b).2.bad = m.bad := by
  unfold mkAnd
  split
  · rfl
  · split
    · rfl
    · split <;> rfl
theorem mkTable_bad : ∀ (n : Nat) (m : LMk) (t : Int) (l : List Int), (mkTable n m t l).2.bad = m.bad
  | 0, m, t, l => by unfold mkTable; split <;> rfl
  | n + 1, m, t, l => by
    rw [mkTable]
    split
    · rfl
    split
    · rfl
    split
    · exact mkTable_bad n _ _ _
    · simp only [mkPair, mkAnd_bad, mkTable_bad n]
structure TableLaw : Prop where
  ok : ∀ (N : Nat) (t : Int), N ≤ 6 → GraphOk (tabG (wordsV [] N 0 0).1 N t)
  law : ∀ (N : Nat) (t : Int) (K : Nat), N ≤ 6 → U64 t → K < 2 ^ N → laneB (outsG (tabG (wordsV [] N 0 0).1 N t) (graphVals (tabG (wordsV [] N 0 0).1 N t) (lanes0 (inK K N N)) (lanes0 []))) = [bits .and .u64 (t.fdiv (2 ^ min K IntKind.u64.bits)) 1 == 1]
theorem Tables_walk (t n k : Int) (ht : U64 t) (hn : I64 n) (hk : I64 k) (hlaw : TableLaw) (up : Frs) : ACalls Try.prog 11 [.u t, .i n, .i k] up fun v u => v = .im (.bool true) ∧ u = up := by
  have hs0 : StmOk [] 0 := ⟨fun x h => by simp at h, by simp, by omega, by omega⟩
  obtain ⟨nb0, nb1⟩ := below_range n 7 (by omega)
  have hBel := Below_ok n 7 hn ⟨by omega, by omega⟩
  obtain ⟨N, hN⟩ : ∃ N : Nat, below n 7 = N := ⟨(below n 7).toNat, by omega⟩
  rw [hN] at hBel
  have hN6 : N ≤ 6 := by omega
  have hWd := Words_nil N (by omega) [] rfl 0 hs0 (by omega)
  obtain ⟨q1, q2, q3⟩ := wordsV_pos [] N 0 0
  have hok := hlaw.ok N t hN6
  have hl := fun K => hlaw.law N t K hN6 ht
  generalize (wordsV [] N 0 0).2 = b at hWd q1 q2
  generalize (wordsV [] N 0 0).1 = W at hWd q3 hok hl
  have wn := shl1 N hN6
  obtain ⟨Z, hZ⟩ : ∃ Z, Z = 2 ^ N := ⟨_, rfl⟩
  have hZ1 : 1 ≤ Z := by rw [hZ]; exact Nat.pow_pos (by omega)
  have hZ2 : Z ≤ 64 := hZ ▸ Nat.le_trans (Nat.pow_le_pow_right (by omega) hN6) (by decide)
  rw [← hZ] at wn
  obtain ⟨kb0, kb1⟩ := below_range k Z (by omega)
  have hBk := Below_ok k Z hk ⟨by omega, by omega⟩
  obtain ⟨K, hK⟩ : ∃ K : Nat, below k Z = K := ⟨(below k Z).toNat, by omega⟩
  rw [hK] at hBk
  have hlK := hl K (by omega)
  have hm0 : MkSmall (mk0 W) := ⟨by simp only; omega, by simp, by simp⟩
  have hn0 : ¬ ((N : Int) < 0) := by omega
  have hK0 : ¬ ((K : Int) < 0) := by omega
  have hlin : ∀ x ∈ tabL N N, InM (mk0 W) x := fun x hx => by
    simp only [tabL, List.mem_map, List.mem_range] at hx
    obtain ⟨q, hq, rfl⟩ := hx
    unfold InM LMk.top LMk.first
    simp only [List.length_nil]
    omega
  refine ACalls.code Try.func11 rfl 118 rfl (by simp) [.tmp 6] rfl fun Q hQ => ?_
  simp only [ups, PV.up, argEnv]
  have ft := And.intro ty_2 (And.intro ty_3 (And.intro ty_4 (And.intro ty_9 (And.intro ty_23 (And.intro ty_25 (And.intro ty_26 (And.intro ty_34 (And.intro ty_37 (And.intro ty_47 (And.intro ty_48 (And.intro ty_49 (And.intro ty_51 (And.intro ty_62 (And.intro ty_69 (And.intro ty_71 (And.intro ty_109 (And.intro ty_137 trivial)))))))))))))))))
  refine Run.seq ?_
  have fx := And.intro hK0 (And.intro wn (And.intro hn0 (And.intro ints_len (And.intro strs_len ft))))
  refine Run.go ?_
  refine End.kp [0, 1, 2] ?_
  refine Run.seq ?_
  refine Run.region rfl fun K hK => GOps.sim ?_
  refine GOps.call rfl rfl rfl rfl (by kernel_rfl) (ACalls.sim ?_)
  refine (hBel _).mono fun v u hv => ?_
  obtain ⟨rfl, rfl⟩ := hv
  refine ⟨_, _, rfl, GOps.sim ?_⟩
  refine GOps.done (hK _ ?_); clear hK K
  refine End.kp [0, 1, 2] ?_
  refine Run.seq ?_
  refine Run.region rfl fun K hK => GOps.sim ?_
  refine GOps.call rfl rfl rfl rfl (by kernel_rfl) (ACalls.sim ?_)
  refine (hWd _ 0 0 rfl).mono fun v u hv => ?_
  obtain ⟨rfl, rfl⟩ := hv
  refine ⟨_, _, rfl, GOps.sim ?_⟩
  refine GOps.done (hK _ ?_); clear hK K
  refine End.kp [0, 1, 2, 7] ?_
  refine Run.seq ?_
  refine Run.region rfl fun K hK => GOps.sim ?_
  refine GOps.call rfl rfl rfl rfl (by kernel_rfl) (ACalls.sim ?_)
  refine (New_ok W [] (by omega) (by simp) _ _).mono fun v u hv => ?_
  obtain ⟨rfl, rfl⟩ := hv
  refine ⟨_, _, rfl, GOps.sim ?_⟩
  refine GOps.done (hK _ ?_); clear hK K
  refine End.kp [0, 1, 2, 8] ?_
  refine Run.seq ?_
  refine Run.seq ?_
  refine Run.region rfl fun K hK => GOps.sim ?_
  refine GOps.call rfl rfl rfl rfl (by kernel_rfl) (ACalls.sim ?_)
  refine (graphs_ok _).mono fun v u hv => ?_
  obtain ⟨rfl, rfl⟩ := hv
  refine ⟨_, _, rfl, GOps.sim ?_⟩
  refine GOps.done (hK _ ?_); clear hK K
  refine End.kp [0, 1, 2, 8, 32] ?_
  refine Run.cond _ rfl (fun hb => ?_) (fun hb => ?_)
  · have hb0 := hb
    simp at hb
  · have hb0 := hb
    refine Run.skip ?_
    refine End.kp [0, 1, 2, 8] ?_
    refine Run.seq ?_
    have fx := And.intro hK0 (And.intro wn (And.intro hn0 (And.intro ints_len (And.intro strs_len ft))))
    refine Run.go ?_
    refine End.kp [0, 1, 2, 8, 9] ?_
    refine Run.seq ?_
    refine Run.seq ?_
    refine Run.go ?_
    refine End.kp [0, 1, 2, 8, 9, 33, 34] ?_
    refine Run.block ?_
    refine Run.ghost (Ghost.thaw (u := 9) 62 1 (by decide) rfl) ?_
    refine Run.ghost (Ghost.form [(0, .u t), (1, .i N), (2, .i k), (8, .ptr 0 2 0), (9, .ms 0 4 0), (33, .i N), (34, .i (0 : Nat))] 5 ⟨rfl, rfl, rfl, rfl, rfl, rfl, rfl, trivial⟩ rfl rfl) ?_
    refine Run.loop (fun m' st => ∃ i : Nat, m' = N - i ∧ i ≤ N ∧ st = ⟨[(0, .u t), (1, .i N), (2, .i k), (8, .ptr 0 2 0), (9, .ms 0 4 i), (33, .i N), (34, .i (i : Nat))], [stmN b, mkMap (mk0 W), mkBox 3 1 (mk0 W), mkRow (mk0 W), .row 62 1 (ints (tabL N i)) 0], up⟩) N ⟨0, rfl, by omega, rfl⟩ fun m' st hI => ?_
    obtain ⟨i, rfl, hi, rfl⟩ := hI
    have hti : (ints (tabL N i)).length = i := by rw [ints_len, tabL_len]
    have hap : (i + 1) * 8 ≤ 140737488355328 := by omega
    refine Run.seq ?_
    have fx := And.intro hap (And.intro hti (And.intro hK0 (And.intro wn (And.intro hn0 (And.intro ints_len (And.intro strs_len ft))))))
    refine Run.go ?_
    refine End.kp [0, 1, 2, 8, 9, 33, 34, 35] ?_
    refine Run.seq ?_
    refine Run.cond _ rfl (fun hb => ?_) (fun hb => ?_)
    · have hb2 := of_decide_eq_true hb
      have hin : i < N := by omega
      have wi := wsucc hin (by omega)
      have w1 : IntKind.i64.wrap ((N : Int) - 1) = (N : Int) - 1 := wrap64 (by omega)
      have w2 : IntKind.i64.wrap ((N : Int) - 1 - i) = ((N - 1 - i : Nat) : Int) := by rw [wrap64 (by omega)]; omega
      refine Run.skip ?_
      refine End.kp [0, 1, 2, 8, 9, 33, 34] ?_
      refine Run.seq ?_
      refine Run.block ?_
      refine Run.seq ?_
      have fx := And.intro w2 (And.intro w1 (And.intro wi (And.intro hap (And.intro hti (And.intro hK0 (And.intro wn (And.intro hn0 (And.intro ints_len (And.intro strs_len ft)))))))))
      refine Run.go ?_
      refine End.kp [0, 1, 2, 8, 9, 10, 33, 34] ?_
      refine Run.region rfl fun K hK => GOps.sim ?_
      refine GOps.call rfl rfl rfl rfl (by kernel_rfl) (ACalls.sim ?_)
      refine (mIn_ok (N - 1 - i) (mk0 W) hm0 _ 0 2 3 1 ⟨rfl, rfl, rfl⟩ (by simp only; omega)).mono fun v u hv => ?_
      obtain ⟨rfl, rfl⟩ := hv
      refine ⟨_, _, rfl, GOps.sim ?_⟩
      refine GOps.done (hK _ ?_); clear hK K
      refine End.blk ?_
      refine End.kp [0, 1, 2, 8, 9, 33, 34] ?_
      refine Run.go ?_
      refine End.lp ?_
      refine ⟨N - (i + 1), _, by omega, Ghost.form [(0, .u t), (1, .i N), (2, .i k), (8, .ptr 0 2 0), (9, .ms 0 4 (i + 1)), (33, .i N), (34, .i (i + 1 : Nat))] 5 ⟨rfl, rfl, rfl, rfl, rfl, rfl, rfl, trivial⟩ rfl rfl, i + 1, rfl, by omega, ?_⟩
      rw [tabL_succ, ints_snoc]
      rfl
    · have hb2 := of_decide_eq_false hb
      have hiN : i = N := by omega
      subst hiN
      have hcap : (mk0 W).ands.length + capT i ≤ 4000 := by
        have : capT i ≤ 189 := by unfold capT; omega
        simp only [List.length_nil]
        omega
      obtain ⟨aft, hxin⟩ := mkTable_after i (mk0 W) t (tabL i i) hlin
      have hbad := mkTable_bad i (mk0 W) t (tabL i i)
      have hmost := aft.most
      have hTab := fun u hu => mTable_ok i hN6 t (tabL i i) (tabL_len i i) (mk0 W) hm0 u 0 2 3 1 hu hcap hlin
      have hinn := aft.inn
      have hreg := aft.regs
      unfold tabG tabM at hok hlK
      generalize mkTable i (mk0 W) t (tabL i i) = X at hok hlK hbad hmost hTab hinn hreg
      obtain ⟨x, m1⟩ := X
      obtain ⟨i1, r1, A, b1⟩ := m1
      simp only at hok hlK hbad hmost hTab hinn hreg
      subst hbad hinn hreg
      refine Run.exit rfl ?_
      refine End.kp [0, 1, 2, 8, 9] ?_
      refine Run.seq ?_
      refine Run.ghost (Ghost.shut (t := 9) (j := 4) rfl rfl hti) ?_
      simp only [eput, edel]
      have fx := And.intro hap (And.intro hti (And.intro hK0 (And.intro wn (And.intro hn0 (And.intro ints_len (And.intro strs_len ft))))))
      refine Run.region rfl fun K hK => GOps.sim ?_
      refine GOps.call rfl rfl rfl rfl (by kernel_rfl) (ACalls.sim ?_)
      refine (hTab _ ⟨rfl, rfl, rfl⟩).mono fun v u hv => ?_
      obtain ⟨rfl, rfl⟩ := hv
      refine ⟨_, _, rfl, GOps.sim ?_⟩
      refine GOps.done (hK _ ?_); clear hK K
      refine End.kp [0, 1, 2, 8, 11] ?_
      refine Run.seq ?_
      refine Run.ghost (Ghost.boxShut (j := 2) (i := 2) (r := 3) rfl rfl rfl (nd_len _)) ?_
      simp only [List.set_cons_zero, List.set_cons_succ]
      have fx := And.intro hap (And.intro hti (And.intro hK0 (And.intro wn (And.intro hn0 (And.intro ints_len (And.intro strs_len ft))))))
      refine Run.region rfl fun K hK => GOps.sim ?_
      refine GOps.call rfl rfl rfl rfl (by kernel_rfl) (ACalls.sim ?_)
      refine (mGraph_ok ⟨i1, [strO], [], A, [x]⟩ hok rfl _ 0 2 1 (by exact rfl)).mono fun v u hv => ?_
      obtain ⟨rfl, rfl⟩ := hv
      refine ⟨_, _, rfl, GOps.sim ?_⟩
      refine GOps.done (hK _ ?_); clear hK K
      refine End.kp [0, 1, 2, 12, 13] ?_
      refine Run.seq ?_
      refine Run.region rfl fun K hK => GOps.sim ?_
      refine GOps.call rfl rfl rfl rfl (by kernel_rfl) (ACalls.sim ?_)
      refine (hBk _).mono fun v u hv => ?_
      obtain ⟨rfl, rfl⟩ := hv
      refine ⟨_, _, rfl, GOps.sim ?_⟩
      refine GOps.done (hK _ ?_); clear hK K
      refine End.kp [0, 1, 2, 12, 13] ?_
      refine Run.seq ?_
      refine Run.go ?_
      refine End.kp [0, 1, 2, 12, 13, 14] ?_
      refine Run.seq ?_
      refine Run.seq ?_
      refine Run.go ?_
      refine End.kp [0, 1, 2, 12, 13, 14, 63, 64] ?_
      refine Run.block ?_
      refine Run.ghost (Ghost.thaw (u := 14) 4 1 (by decide) rfl) ?_
      refine Run.ghost (Ghost.form [(0, .u t), (1, .i i), (2, .i K), (12, .ptr 0 7 0), (13, .i 0), (14, .ms 0 8 0), (63, .i i), (64, .i (0 : Nat))] 9 ⟨rfl, rfl, rfl, rfl, rfl, rfl, rfl, rfl, trivial⟩ rfl rfl) ?_
      refine Run.loop (fun m' st => ∃ v : Nat, m' = i - v ∧ v ≤ i ∧ st = ⟨[(0, .u t), (1, .i i), (2, .i K), (12, .ptr 0 7 0), (13, .i 0), (14, .ms 0 8 v), (63, .i i), (64, .i (v : Nat))], [stmN b, mkMap ⟨i1, [], A, 0⟩, .box [.im (.sl (strs i1)), .im (.sl []), .im (.sl (A.map nd)), .map 0 1, .i 0], .row 137 2 (A.map nd) (A.map nd).length, .row 62 1 (ints (tabL i i)) i, .row 9 1 [[.str ⟨#[111]⟩]] 1, .row 62 1 [[.int .i64 x]] 1, .box [.im (.sl (strs i1)), .im (.sl [[.str strO]]), .im (.sl []), .im (.sl (A.map nd)), .im (.sl [[.int .i64 x]])], .row 4 1 (bools (inK K i v)) 0], up⟩) i ⟨0, rfl, by omega, rfl⟩ fun m' st hI => ?_
      obtain ⟨v, rfl, hv, rfl⟩ := hI
      have htv : (bools (inK K i v)).length = v := by rw [bools_len, inK_len]
      have hav : (v + 1) * 1 ≤ 140737488355328 := by omega
      have hav2 : v + 1 ≤ 140737488355328 := by omega
      refine Run.seq ?_
      have fx := And.intro hav2 (And.intro hav (And.intro htv (And.intro hap (And.intro hti (And.intro hK0 (And.intro wn (And.intro hn0 (And.intro ints_len (And.intro strs_len ft)))))))))
      refine Run.go ?_
      refine End.kp [0, 1, 2, 12, 13, 14, 63, 64, 65] ?_
      refine Run.seq ?_
      refine Run.cond _ rfl (fun hb => ?_) (fun hb => ?_)
      · have hb2 := of_decide_eq_true hb
        have hin : v < i := by omega
        have wi := wsucc hin (by omega)
        have w1 : IntKind.i64.wrap ((i : Int) - 1) = (i : Int) - 1 := wrap64 (by omega)
        obtain ⟨y, hy⟩ : ∃ y, y = i - 1 - v := ⟨_, rfl⟩
        have w2 : IntKind.i64.wrap ((i : Int) - 1 - v) = (y : Int) := by rw [wrap64 (by omega)]; omega
        have hy0 : ¬ ((y : Int) < 0) := by omega
        have hbit : (bits .and .i64 ((K : Int).fdiv (2 ^ min y IntKind.i64.bits)) 1 == 1) = bitK K i v := by rw [hy]; rfl
        refine Run.skip ?_
        refine End.kp [0, 1, 2, 12, 13, 14, 63, 64] ?_
        refine Run.seq ?_
        refine Run.block ?_
        refine Run.seq ?_
        have fx := And.intro hbit (And.intro hy0 (And.intro w2 (And.intro w1 (And.intro wi (And.intro hav2 (And.intro hav (And.intro htv (And.intro hap (And.intro hti (And.intro hK0 (And.intro wn (And.intro hn0 (And.intro ints_len (And.intro strs_len ft))))))))))))))
        refine Run.go ?_
        refine End.kp [0, 1, 2, 12, 13, 14, 15, 63, 64] ?_
        refine Run.go ?_
        refine End.blk ?_
        refine End.kp [0, 1, 2, 12, 13, 14, 63, 64] ?_
        refine Run.go ?_
        refine End.lp ?_
        refine ⟨i - (v + 1), _, by omega, Ghost.form [(0, .u t), (1, .i i), (2, .i K), (12, .ptr 0 7 0), (13, .i 0), (14, .ms 0 8 (v + 1)), (63, .i i), (64, .i (v + 1 : Nat))] 9 ⟨rfl, rfl, rfl, rfl, rfl, rfl, rfl, rfl, trivial⟩ rfl rfl, v + 1, rfl, by omega, ?_⟩
        rw [inK_succ, bools_snoc]
        rfl
      · have hb2 := of_decide_eq_false hb
        have hvi : v = i := by omega
        subst hvi
        have hEv := GEval_ok ⟨i1, [strO], [], A, [x]⟩ hok (inK K v v) [] (by rw [inK_len]; exact q3.symm) rfl
        rw [hlK] at hEv
        have hbit2 : (bits .and .u64 (t.fdiv (2 ^ min K IntKind.u64.bits)) 1 == 1) = (bits .and .u64 (t.fdiv (2 ^ min K IntKind.u64.bits)) 1 == 1) := rfl
        generalize hbb : (bits .and .u64 (t.fdiv (2 ^ min K IntKind.u64.bits)) 1 == 1) = bit at hEv
        have h11 : (((1 : Nat) : Int) == 1) = true := rfl
        have h01 : (0 : Int) < ((1 : Nat) : Int) := by omega
        have hbe : (bit == bit) = true := by simp
        have hcz : capT v = 3 * (Z - 1) := by rw [capT, hZ]
        have wz : IntKind.i64.wrap ((Z : Int) - 1) = (Z : Int) - 1 := wrap64 (by omega)
        have w3 : IntKind.i64.wrap (3 * ((Z : Int) - 1)) = 3 * ((Z : Int) - 1) := wrap64 (by omega)
        have dle : decide ((A.length : Int) ≤ 3 * ((Z : Int) - 1)) = true := decide_eq_true (by simp only [List.length_nil] at hmost; omega)
        refine Run.exit rfl ?_
        refine End.kp [0, 1, 2, 12, 13, 14] ?_
        refine Run.seq ?_
        refine Run.ghost (Ghost.shut (t := 14) (j := 8) rfl rfl htv) ?_
        simp only [eput, edel]
        have fx := And.intro nd_len (And.intro dle (And.intro w3 (And.intro wz (And.intro hbe (And.intro h01 (And.intro h11 (And.intro hbb (And.intro hav2 (And.intro hav (And.intro htv (And.intro hap (And.intro hti (And.intro hK0 (And.intro wn (And.intro hn0 (And.intro ints_len (And.intro strs_len ft)))))))))))))))))
        refine Run.region rfl fun K hK => GOps.sim ?_
        refine GOps.call rfl rfl rfl rfl (by kernel_rfl) (ACalls.sim ?_)
        refine (hEv _).mono fun v u hv => ?_
        obtain ⟨rfl, rfl⟩ := hv
        refine ⟨_, _, rfl, GOps.sim ?_⟩
        refine GOps.done (hK _ ?_); clear hK K
        refine End.kp [0, 1, 2, 12, 13, 16, 18] ?_
        refine Run.seq ?_
        refine Run.drawA fun K hK => ?_
        refine DOps.sim ?_
        refine DOps.nil (metAll_quiet rfl) (hK _ ?_); clear hK K
        refine End.kp [6] ?_
        refine Run.ret (hQ _ _ ⟨.inr rfl, _, rfl, _, rfl, ?_⟩)
        exact ⟨rfl, rfl⟩
end Go.Proofs.YtkmnmokjlpenhaaPi
