/- The walk of GraphLanes. -/
import Derived.Test.YtkmnmokjlpenhaaWGM
import Derived.Test.YtkmnmokjlpenhaaWY
import Derived.Test.YtkmnmokjlpenhaaWUA
import Derived.Test.YtkmnmokjlpenhaaPLanes
set_option linter.unusedVariables false
set_option linter.unusedSimpArgs false
set_option maxRecDepth 100000
namespace Go.Proofs.YtkmnmokjlpenhaaPi
set_option maxHeartbeats 4000000
theorem small_outs (l : List Int) (a : Int) (ands : Nat) : 1 ≤ (smallV l a ands).1.outs.length ∧ (smallV l a ands).1.outs.length ≤ 4 := by
  obtain ⟨r1, s1⟩ := nextV_range l (a + 1 + 1 + 1) (4 - 1 + 1) (by omega)
  have h2 := graphV_pos l (a + 1 + 1 + 1 + 1) (nextV l a 5).toNat (nextV l (a + 1) 4).toNat (nextV l (a + 1 + 1) (ands + 1)).toNat (1 + nextV l (a + 1 + 1 + 1) (4 - 1 + 1)).toNat
  simp only [smallV]
  omega
theorem Lanes_walk (l : List Int) (hs : StmOk l 0) (up : Frs) : ACalls Try.prog 8 [.im (.sl (ints l))] up fun v u => v = .im (.bool true) ∧ u = up := by
  have ok : ∀ b : Int, 0 ≤ b → b ≤ 100000 → StmOk l b := fun b h1 h2 => ⟨hs.vals, hs.len, h1, by omega⟩
  have hSm := Small_ok 20 (by omega) l 0 hs (by omega)
  obtain ⟨hg, hb1, hb2⟩ := small_ok l 0 20 (by omega)
  obtain ⟨hi4, hr3⟩ := small_len l 0 20
  obtain ⟨ho1, ho2⟩ := small_outs l 0 20
  generalize smallV l 0 20 = M at hSm hg hb1 hb2 hi4 hr3 ho1 ho2
  obtain ⟨g, b⟩ := M
  simp only at hSm hg hb1 hb2 hi4 hr3 ho1 ho2
  obtain ⟨z1, z2, z3, z4, z5⟩ := hg.small
  have hp1 := playedV_pos l g.inn.length b 64
  have hP1 := Played_ok 64 g.inn.length (by omega) (by omega) l b (ok _ (by omega) (by omega)) (by omega)
  have hr1 := playedV_row l g.inn.length b 64
  have hl1 := playedV_len l g.inn.length b 64
  generalize playedV l g.inn.length b 64 = PA at hp1 hP1 hr1 hl1
  obtain ⟨A, c⟩ := PA
  simp only at hp1 hP1 hr1 hl1
  have hp2 := playedV_pos l g.regs.length c 64
  have hP2 := Played_ok 64 g.regs.length (by omega) (by omega) l c (ok _ (by omega) (by omega)) (by omega)
  have hr2 := playedV_row l g.regs.length c 64
  have hl2 := playedV_len l g.regs.length c 64
  generalize playedV l g.regs.length c 64 = PB at hp2 hP2 hr2 hl2
  obtain ⟨B, e⟩ := PB
  simp only at hp2 hP2 hr2 hl2
  have hsA := spread_ok A g.inn.length (by omega) (by intro h; rw [h] at hl1; simp at hl1) (by omega) hr1
  have hsB := spread_ok B g.regs.length (by omega) (by intro h; rw [h] at hl2; simp at hl2) (by omega) hr2
  have hW := GWords_ok g hg (spreadV A g.inn.length) (spreadV B g.regs.length) (by simp [spreadV]) (by simp [spreadV])
  have hLaw := fun (k : Nat) (hk : k < 64) (a b : List Bool) (ha : A[k]? = some a) (hb : B[k]? = some b) => lanes_law g A B hl1 hl2 hk hr1 hr2 ha hb
  have hOl : (outsG g (graphVals g (spreadV A g.inn.length) (spreadV B g.regs.length))).length = g.outs.length := by simp [outsG]
  have hXl : (nextsG g (graphVals g (spreadV A g.inn.length) (spreadV B g.regs.length))).length = g.regs.length := by simp [nextsG]
  generalize outsG g (graphVals g (spreadV A g.inn.length) (spreadV B g.regs.length)) = O at hW hLaw hOl
  generalize nextsG g (graphVals g (spreadV A g.inn.length) (spreadV B g.regs.length)) = X at hW hLaw hXl
  obtain ⟨Y, hY⟩ : ∃ Y, Y = O ++ X := ⟨_, rfl⟩
  have hYl : Y.length = g.outs.length + g.regs.length := by rw [hY, List.length_append, hOl, hXl]
  have hCU := ConcatU_ok [O, X] (by simp [sumL]; omega) (by simp [sumL]; omega) (by simp)
  rw [show [O, X].flatten = Y by simp [hY]] at hCU
  rw [← hY] at hLaw
  have huY := us_len Y
  have d1 : ((g.outs.length : Int) != g.outs.length) = false := by simp
  have d2 : ((g.regs.length : Int) != g.regs.length) = false := by simp
  refine ACalls.code Try.func8 rfl 107 rfl (by simp) [.tmp 2] rfl fun Q hQ => ?_
  simp only [ups, PV.up, argEnv]
  have ft := And.intro ty_2 (And.intro ty_3 (And.intro ty_4 (And.intro ty_9 (And.intro ty_22 (And.intro ty_23 (And.intro ty_25 (And.intro ty_26 (And.intro ty_34 (And.intro ty_37 (And.intro ty_47 (And.intro ty_51 (And.intro ty_56 (And.intro ty_58 (And.intro ty_69 (And.intro ty_71 (And.intro ty_155 trivial))))))))))))))))
  refine Run.seq ?_
  have fx := And.intro d2 (And.intro d1 (And.intro huY (And.intro hXl (And.intro hOl (And.intro us_len (And.intro boolss_len (And.intro rim_len (And.intro strs_len ft))))))))
  refine Run.go ?_
  refine End.kp [0] ?_
  refine Run.seq ?_
  refine Run.go ?_
  refine End.kp [3] ?_
  refine Run.seq ?_
  refine Run.region rfl fun K hK => GOps.sim ?_
  refine GOps.call rfl rfl rfl rfl (by kernel_rfl) (ACalls.sim ?_)
  refine (hSm _ 0 0 rfl).mono fun v u hv => ?_
  obtain ⟨rfl, rfl⟩ := hv
  refine ⟨_, _, rfl, GOps.sim ?_⟩
  refine GOps.done (hK _ ?_); clear hK K
  refine End.kp [3, 4] ?_
  refine Run.seq ?_
  refine Run.drawA fun K hK => ?_
  refine DOps.sim ?_
  refine DOps.call (.im (.sl (boolss A))) [((0, 0), stm l b)] [((0, 0), stm l c)] rfl rfl rfl rfl (by kernel_rfl) (by simp [Agree, ASt.fr]) (fun u hu => hP1 u 0 0 (hu ((0, 0), stm l b) (by simp))) ?_
  refine DOps.sim ?_
  refine DOps.call (.im (.sl (boolss B))) [((0, 0), stm l c)] [((0, 0), stm l e)] rfl rfl rfl rfl (by kernel_rfl) (by simp [Agree, ASt.fr]) (fun u hu => hP2 u 0 0 (hu ((0, 0), stm l c) (by simp))) ?_
  refine DOps.sim ?_
  refine DOps.nil (by rfl) (hK _ ?_); clear hK K
  refine End.kp [4, 5, 6] ?_
  refine Run.seq ?_
  refine Run.drawA fun K hK => ?_
  refine DOps.sim ?_
  refine DOps.call (.im (.sl (us (spreadV A g.inn.length)))) [] [] rfl rfl rfl rfl (by kernel_rfl) (by simp [Agree]) (fun u hu => hsA u) ?_
  refine DOps.sim ?_
  refine DOps.call (.im (.sl (us (spreadV B g.regs.length)))) [] [] rfl rfl rfl rfl (by kernel_rfl) (by simp [Agree]) (fun u hu => hsB u) ?_
  refine DOps.sim ?_
  refine DOps.call (.tup [.im (.sl (us O)), .im (.sl (us X)), .i 0]) [] [] rfl rfl rfl rfl (by kernel_rfl) (by simp [Agree]) (fun u hu => hW u) ?_
  refine DOps.sim ?_
  refine DOps.nil (by rfl) (hK _ ?_); clear hK K
  refine End.kp [4, 5, 6, 7, 8, 9] ?_
  refine Run.seq ?_
  refine Run.seq ?_
  refine Run.region rfl fun K hK => GOps.sim ?_
  refine GOps.call rfl rfl rfl rfl (by kernel_rfl) (ACalls.sim ?_)
  refine (graphs_ok _).mono fun v u hv => ?_
  obtain ⟨rfl, rfl⟩ := hv
  refine ⟨_, _, rfl, GOps.sim ?_⟩
  refine GOps.done (hK _ ?_); clear hK K
  refine End.kp [4, 5, 6, 7, 8, 47] ?_
  refine Run.cond _ rfl (fun hb => ?_) (fun hb => ?_)
  · have hb2 := hb
    simp at hb
  · have hb2 := hb
    refine Run.skip ?_
    refine End.kp [4, 5, 6, 7, 8] ?_
    refine Run.seq ?_
    refine Run.seq ?_
    have fx := And.intro d2 (And.intro d1 (And.intro huY (And.intro hXl (And.intro hOl (And.intro us_len (And.intro boolss_len (And.intro rim_len (And.intro strs_len ft))))))))
    refine Run.go ?_
    refine End.kp [4, 5, 6, 7, 8, 48] ?_
    refine Run.block ?_
    refine Run.ghost (Ghost.form [(4, .ptr 0 1 0), (5, .im (.sl (boolss A))), (6, .im (.sl (boolss B))), (7, .im (.sl (us O))), (8, .im (.sl (us X))), (48, .i (0 : Nat))] 2 ⟨rfl, rfl, rfl, rfl, rfl, rfl, trivial⟩ rfl rfl) ?_
    refine Run.loop (fun m s => ∃ k : Nat, m = 64 - k ∧ k ≤ 64 ∧ s = ⟨[(4, .ptr 0 1 0), (5, .im (.sl (boolss A))), (6, .im (.sl (boolss B))), (7, .im (.sl (us O))), (8, .im (.sl (us X))), (48, .i (k : Nat))], [stm l e, .box [.im (.sl (strs g.inn)), .im (.sl (strs g.out)), .im (.sl (g.regs.map LReg.im)), .im (.sl (g.ands.map nd)), .im (.sl (ints g.outs))]], up⟩) 64 ⟨0, rfl, by omega, rfl⟩ fun m s hI => ?_
    obtain ⟨k, rfl, hk, rfl⟩ := hI
    refine Run.seq ?_
    have fx := And.intro d2 (And.intro d1 (And.intro huY (And.intro hXl (And.intro hOl (And.intro us_len (And.intro boolss_len (And.intro rim_len (And.intro strs_len ft))))))))
    refine Run.go ?_
    refine End.kp [4, 5, 6, 7, 8, 48, 49] ?_
    refine Run.seq ?_
    refine Run.cond _ rfl (fun hb => ?_) (fun hb => ?_)
    · have hb2 := of_decide_eq_true hb
      have hkn : k < 64 := by omega
      have wk := wsucc hkn (by omega)
      obtain ⟨ra, hra, hram, _, hrra⟩ := boolss_at A k (by omega)
      obtain ⟨rb, hrb, hrbm, _, hrrb⟩ := boolss_at B k (by omega)
      have hka : (k : Int) < (A.length : Int) := by omega
      have hkb : (k : Int) < (B.length : Int) := by omega
      have hE := GEval_ok g hg ra rb (hr1 ra hram) (hr2 rb hrbm)
      have hL := hLaw k hkn ra rb hra hrb
      have hpl : (laneB (outsG g (graphVals g (lanes0 ra) (lanes0 rb)))).length = g.outs.length := by simp [outsG]
      have hml : (laneB (nextsG g (graphVals g (lanes0 ra) (lanes0 rb)))).length = g.regs.length := by simp [nextsG]
      generalize laneB (outsG g (graphVals g (lanes0 ra) (lanes0 rb))) = p at hE hL hpl
      generalize laneB (nextsG g (graphVals g (lanes0 ra) (lanes0 rb))) = q at hE hL hml
      have hbp := bools_len p
      have hbq := bools_len q
      have hCB := ConcatB_ok [p, q] (by simp [sumL]; omega) (by simp [sumL]; omega) (by simp)
      rw [show [p, q].flatten = Y.map (bitW k) by simp [hL]] at hCB
      have hbl : (bools (Y.map (bitW k))).length = Y.length := by simp
      refine Run.skip ?_
      refine End.kp [4, 5, 6, 7, 8, 48] ?_
      refine Run.seq ?_
      refine Run.block ?_
      refine Run.seq ?_
      have fx := And.intro (@Int.toNat_natCast) (And.intro (@Int.natCast_nonneg) (And.intro hbl (And.intro hml (And.intro hpl (And.intro hbq (And.intro hbp (And.intro hkb (And.intro hka (And.intro hrrb (And.intro hrra (And.intro wk (And.intro d2 (And.intro d1 (And.intro huY (And.intro hXl (And.intro hOl (And.intro us_len (And.intro boolss_len (And.intro rim_len (And.intro strs_len ft))))))))))))))))))))
      refine Run.go ?_
      refine End.kp [4, 5, 6, 7, 8, 10, 48] ?_
      refine Run.seq ?_
      refine Run.drawA fun K hK => ?_
      refine DOps.sim ?_
      refine DOps.call (.tup [.im (.sl (bools p)), .im (.sl (bools q)), .i 0]) [] [] rfl rfl rfl rfl (by kernel_rfl) (by simp [Agree]) (fun u hu => hE u) ?_
      refine DOps.sim ?_
      refine DOps.nil (by rfl) (hK _ ?_); clear hK K
      refine End.kp [4, 5, 6, 7, 8, 10, 11, 12, 13, 48] ?_
      refine Run.seq ?_
      refine Run.seq ?_
      refine Run.go ?_
      refine End.kp [4, 5, 6, 7, 8, 10, 11, 12, 48, 80] ?_
      refine Run.cond _ rfl (fun hb => ?_) (fun hb => ?_)
      · have hb3 := hb
        simp at hb
      · have hb3 := hb
        refine Run.skip ?_
        refine End.kp [4, 5, 6, 7, 8, 10, 11, 12, 48] ?_
        refine Run.seq ?_
        have fx := And.intro (@Int.toNat_natCast) (And.intro (@Int.natCast_nonneg) (And.intro hbl (And.intro hml (And.intro hpl (And.intro hbq (And.intro hbp (And.intro hkb (And.intro hka (And.intro hrrb (And.intro hrra (And.intro wk (And.intro d2 (And.intro d1 (And.intro huY (And.intro hXl (And.intro hOl (And.intro us_len (And.intro boolss_len (And.intro rim_len (And.intro strs_len ft))))))))))))))))))))
        refine Run.region rfl fun K hK => GOps.sim ?_
        refine GOps.call rfl rfl rfl rfl (by kernel_rfl) (ACalls.sim ?_)
        refine (hCB _).mono fun v u hv => ?_
        obtain ⟨rfl, rfl⟩ := hv
        refine ⟨_, _, rfl, GOps.sim ?_⟩
        refine GOps.done (hK _ ?_); clear hK K
        refine End.kp [4, 5, 6, 7, 8, 10, 48, 84, 85, 86] ?_
        refine Run.block ?_
        refine Run.ghost (Ghost.form [(4, .ptr 0 1 0), (5, .im (.sl (boolss A))), (6, .im (.sl (boolss B))), (7, .im (.sl (us O))), (8, .im (.sl (us X))), (10, .i (k : Nat)), (48, .i (k : Nat)), (84, .im (.sl (bools (Y.map (bitW k))))), (85, .i Y.length), (86, .i (0 : Nat))] 2 ⟨rfl, rfl, rfl, rfl, rfl, rfl, rfl, rfl, rfl, rfl, trivial⟩ rfl rfl) ?_
        refine Run.loop (fun m s => ∃ i : Nat, m = Y.length - i ∧ i ≤ Y.length ∧ s = ⟨[(4, .ptr 0 1 0), (5, .im (.sl (boolss A))), (6, .im (.sl (boolss B))), (7, .im (.sl (us O))), (8, .im (.sl (us X))), (10, .i (k : Nat)), (48, .i (k : Nat)), (84, .im (.sl (bools (Y.map (bitW k))))), (85, .i Y.length), (86, .i (i : Nat))], [stm l e, .box [.im (.sl (strs g.inn)), .im (.sl (strs g.out)), .im (.sl (g.regs.map LReg.im)), .im (.sl (g.ands.map nd)), .im (.sl (ints g.outs))]], up⟩) Y.length ⟨0, rfl, by omega, rfl⟩ fun m s hI => ?_
        obtain ⟨i, rfl, hi, rfl⟩ := hI
        refine Run.seq ?_
        have fx := And.intro (@Int.toNat_natCast) (And.intro (@Int.natCast_nonneg) (And.intro hbl (And.intro hml (And.intro hpl (And.intro hbq (And.intro hbp (And.intro hkb (And.intro hka (And.intro hrrb (And.intro hrra (And.intro wk (And.intro d2 (And.intro d1 (And.intro huY (And.intro hXl (And.intro hOl (And.intro us_len (And.intro boolss_len (And.intro rim_len (And.intro strs_len ft))))))))))))))))))))
        refine Run.go ?_
        refine End.kp [4, 5, 6, 7, 8, 10, 48, 84, 85, 86, 87] ?_
        refine Run.seq ?_
        refine Run.cond _ rfl (fun hb => ?_) (fun hb => ?_)
        · have hb4 := of_decide_eq_true hb
          have hin : i < Y.length := by omega
          have wi := wsucc hin (by omega)
          obtain ⟨y, hy⟩ : ∃ y, Y[i]? = some y := ⟨_, List.getElem?_eq_getElem hin⟩
          have hyu : (us Y)[i]? = some [.int .u64 y] := by simp [hy]
          have hyb : (bools (Y.map (bitW k)))[i]? = some [.bool (bitW k y)] := by simp [hy]
          have hiY : (i : Int) < (Y.length : Int) := by omega
          have hk0 : ¬ ((k : Int) < 0) := by omega
          refine Run.skip ?_
          refine End.kp [4, 5, 6, 7, 8, 10, 48, 84, 85, 86] ?_
          refine Run.seq ?_
          refine Run.block ?_
          refine Run.seq ?_
          have fx := And.intro hk0 (And.intro hiY (And.intro hyb (And.intro hyu (And.intro wi (And.intro (@Int.toNat_natCast) (And.intro (@Int.natCast_nonneg) (And.intro hbl (And.intro hml (And.intro hpl (And.intro hbq (And.intro hbp (And.intro hkb (And.intro hka (And.intro hrrb (And.intro hrra (And.intro wk (And.intro d2 (And.intro d1 (And.intro huY (And.intro hXl (And.intro hOl (And.intro us_len (And.intro boolss_len (And.intro rim_len (And.intro strs_len ft)))))))))))))))))))))))))
          refine Run.go ?_
          refine End.kp [4, 5, 6, 7, 8, 10, 14, 15, 48, 84, 85, 86] ?_
          refine Run.seq ?_
          refine Run.region rfl fun K hK => GOps.sim ?_
          refine GOps.call rfl rfl rfl rfl (by kernel_rfl) (ACalls.sim ?_)
          refine (hCU _).mono fun v u hv => ?_
          obtain ⟨rfl, rfl⟩ := hv
          refine ⟨_, _, rfl, GOps.sim ?_⟩
          refine GOps.done (hK _ ?_); clear hK K
          refine End.kp [4, 5, 6, 7, 8, 10, 15, 16, 48, 84, 85, 86] ?_
          refine Run.seq ?_
          refine Run.go ?_
          refine End.kp [4, 5, 6, 7, 8, 10, 48, 84, 85, 86, 104] ?_
          refine Run.cond _ rfl (fun hb => ?_) (fun hb => ?_)
          · have hb5 := hb
            simp [bitW] at hb
          · have hb5 := hb
            refine Run.skip ?_
            refine End.blk ?_
            refine End.kp [4, 5, 6, 7, 8, 10, 48, 84, 85, 86] ?_
            have fx := And.intro hk0 (And.intro hiY (And.intro hyb (And.intro hyu (And.intro wi (And.intro (@Int.toNat_natCast) (And.intro (@Int.natCast_nonneg) (And.intro hbl (And.intro hml (And.intro hpl (And.intro hbq (And.intro hbp (And.intro hkb (And.intro hka (And.intro hrrb (And.intro hrra (And.intro wk (And.intro d2 (And.intro d1 (And.intro huY (And.intro hXl (And.intro hOl (And.intro us_len (And.intro boolss_len (And.intro rim_len (And.intro strs_len ft)))))))))))))))))))))))))
            refine Run.go ?_
            refine End.lp ?_
            refine ⟨Y.length - (i + 1), _, by omega, Ghost.form [(4, .ptr 0 1 0), (5, .im (.sl (boolss A))), (6, .im (.sl (boolss B))), (7, .im (.sl (us O))), (8, .im (.sl (us X))), (10, .i (k : Nat)), (48, .i (k : Nat)), (84, .im (.sl (bools (Y.map (bitW k))))), (85, .i Y.length), (86, .i (i + 1 : Nat))] 2 ⟨rfl, rfl, rfl, rfl, rfl, rfl, rfl, rfl, rfl, rfl, trivial⟩ rfl rfl, i + 1, rfl, by omega, rfl⟩
        · have hb4 := of_decide_eq_false hb
          refine Run.exit rfl ?_
          refine End.blk ?_
          refine End.kp [4, 5, 6, 7, 8, 48] ?_
          have fx := And.intro (@Int.toNat_natCast) (And.intro (@Int.natCast_nonneg) (And.intro hbl (And.intro hml (And.intro hpl (And.intro hbq (And.intro hbp (And.intro hkb (And.intro hka (And.intro hrrb (And.intro hrra (And.intro wk (And.intro d2 (And.intro d1 (And.intro huY (And.intro hXl (And.intro hOl (And.intro us_len (And.intro boolss_len (And.intro rim_len (And.intro strs_len ft))))))))))))))))))))
          refine Run.go ?_
          refine End.lp ?_
          refine ⟨64 - (k + 1), _, by omega, Ghost.form [(4, .ptr 0 1 0), (5, .im (.sl (boolss A))), (6, .im (.sl (boolss B))), (7, .im (.sl (us O))), (8, .im (.sl (us X))), (48, .i (k + 1 : Nat))] 2 ⟨rfl, rfl, rfl, rfl, rfl, rfl, trivial⟩ rfl rfl, k + 1, rfl, by omega, rfl⟩
    · have hb2 := of_decide_eq_false hb
      refine Run.exit rfl ?_
      refine End.kp [] ?_
      refine Run.seq ?_
      have fx := And.intro d2 (And.intro d1 (And.intro huY (And.intro hXl (And.intro hOl (And.intro us_len (And.intro boolss_len (And.intro rim_len (And.intro strs_len ft))))))))
      refine Run.go ?_
      refine End.kp [2] ?_
      refine Run.ret (hQ _ _ ⟨.inr rfl, _, rfl, _, rfl, ?_⟩)
      exact ⟨rfl, rfl⟩
end Go.Proofs.YtkmnmokjlpenhaaPi
