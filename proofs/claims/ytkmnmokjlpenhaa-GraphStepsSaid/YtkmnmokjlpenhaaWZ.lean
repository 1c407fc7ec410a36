/- The walk of GraphSteps. -/
import Derived.Test.YtkmnmokjlpenhaaWY
import Derived.Test.YtkmnmokjlpenhaaWUA
import Derived.Test.YtkmnmokjlpenhaaPLane
set_option linter.unusedVariables false
set_option linter.unusedSimpArgs false
set_option maxRecDepth 100000
namespace Go.Proofs.YtkmnmokjlpenhaaPi
set_option maxHeartbeats 4000000
theorem Steps_walk (l : List Int) (n : Int) (hn : I64 n) (hs : StmOk l 0) (up : Frs) : ACalls Try.prog 9 [.im (.sl (ints l)), .i n] up fun v u => v = .im (.bool true) ∧ u = up := by
  have ok : ∀ b : Int, 0 ≤ b → b ≤ 100000 → StmOk l b := fun b h1 h2 => ⟨hs.vals, hs.len, h1, by omega⟩
  have hSm := Small_ok 25 (by omega) l 0 hs (by omega)
  obtain ⟨hg, hb1, hb2⟩ := small_ok l 0 25 (by omega)
  obtain ⟨hi4, hr3⟩ := small_len l 0 25
  generalize smallV l 0 25 = M at hSm hg hb1 hb2 hi4 hr3
  obtain ⟨g, b⟩ := M
  simp only at hSm hg hb1 hb2 hi4 hr3
  obtain ⟨z1, z2, z3, z4, z5⟩ := hg.small
  obtain ⟨nb0, nb1⟩ := below_range n 30 (by omega)
  have hBel := Below_ok n 30 hn ⟨by omega, by omega⟩
  obtain ⟨k, hk⟩ : ∃ k : Nat, below n 30 = k := ⟨(below n 30).toNat, by omega⟩
  rw [hk] at hBel
  have hP := Played_ok k g.inn.length (by omega) (by omega) l b (ok _ (by omega) (by omega)) (by omega)
  have hr := playedV_row l g.inn.length b k
  have hl := playedV_len l g.inn.length b k
  generalize playedV l g.inn.length b k = PA at hP hr hl
  obtain ⟨tr, c⟩ := PA
  simp only at hP hr hl
  have hRun := GRun_ok g hg tr (by omega) hr
  have hO : runG g (lanes0 (initG g)) (tr.drop 0) = (runG g (lanes0 (initG g)) tr).drop 0 := rfl
  have hOl := runG_len g tr (lanes0 (initG g))
  generalize runG g (lanes0 (initG g)) tr = O at hRun hO hOl
  have d1 : ((O.length : Int) != tr.length) = false := by rw [hOl]; simp
  refine ACalls.code Try.func9 rfl 77 rfl (by simp) [.tmp 4] rfl fun Q hQ => ?_
  simp only [ups, PV.up, argEnv]
  have ft := And.intro ty_2 (And.intro ty_3 (And.intro ty_4 (And.intro ty_9 (And.intro ty_22 (And.intro ty_23 (And.intro ty_25 (And.intro ty_26 (And.intro ty_34 (And.intro ty_51 (And.intro ty_58 (And.intro ty_71 trivial)))))))))))
  refine Run.seq ?_
  have fx := And.intro d1 (And.intro boolss_len (And.intro rim_len (And.intro strs_len ft)))
  refine Run.go ?_
  refine End.kp [0, 1] ?_
  refine Run.seq ?_
  refine Run.go ?_
  refine End.kp [1, 5] ?_
  refine Run.seq ?_
  refine Run.region rfl fun K hK => GOps.sim ?_
  refine GOps.call rfl rfl rfl rfl (by kernel_rfl) (ACalls.sim ?_)
  refine (hSm _ 0 0 rfl).mono fun v u hv => ?_
  obtain ⟨rfl, rfl⟩ := hv
  refine ⟨_, _, rfl, GOps.sim ?_⟩
  refine GOps.done (hK _ ?_); clear hK K
  refine End.kp [1, 5, 6] ?_
  refine Run.seq ?_
  refine Run.drawA fun K hK => ?_
  refine DOps.sim ?_
  refine DOps.call (.i k) [] [] rfl rfl rfl rfl (by kernel_rfl) (by simp [Agree]) (fun u hu => hBel u) ?_
  refine DOps.sim ?_
  refine DOps.call (.im (.sl (boolss tr))) [((0, 0), stm l b)] [((0, 0), stm l c)] rfl rfl rfl rfl (by kernel_rfl) (by simp [Agree, ASt.fr]) (fun u hu => hP u 0 0 (hu ((0, 0), stm l b) (by simp))) ?_
  refine DOps.sim ?_
  refine DOps.nil (by rfl) (hK _ ?_); clear hK K
  refine End.kp [6, 7] ?_
  refine Run.seq ?_
  refine Run.region rfl fun K hK => GOps.sim ?_
  refine GOps.call rfl rfl rfl rfl (by kernel_rfl) (ACalls.sim ?_)
  refine (hRun _).mono fun v u hv => ?_
  obtain ⟨rfl, rfl⟩ := hv
  refine ⟨_, _, rfl, GOps.sim ?_⟩
  refine GOps.done (hK _ ?_); clear hK K
  refine End.kp [6, 7, 8, 9] ?_
  refine Run.seq ?_
  refine Run.seq ?_
  refine Run.region rfl fun K hK => GOps.sim ?_
  refine GOps.call rfl rfl rfl rfl (by kernel_rfl) (ACalls.sim ?_)
  refine (graphs_ok _).mono fun v u hv => ?_
  obtain ⟨rfl, rfl⟩ := hv
  refine ⟨_, _, rfl, GOps.sim ?_⟩
  refine GOps.done (hK _ ?_); clear hK K
  refine End.kp [6, 7, 8, 46] ?_
  refine Run.cond _ rfl (fun hb => ?_) (fun hb => ?_)
  · have hb2 := hb
    simp at hb
  · have hb2 := hb
    refine Run.skip ?_
    refine End.kp [6, 7, 8] ?_
    refine Run.seq ?_
    have fx := And.intro d1 (And.intro boolss_len (And.intro rim_len (And.intro strs_len ft)))
    refine Run.region rfl fun K hK => GOps.sim ?_
    refine GOps.call rfl rfl rfl rfl (by kernel_rfl) (ACalls.sim ?_)
    refine (GInit_ok g hg.small _).mono fun v u hv => ?_
    obtain ⟨rfl, rfl⟩ := hv
    refine ⟨_, _, rfl, GOps.sim ?_⟩
    refine GOps.done (hK _ ?_); clear hK K
    refine End.kp [6, 7, 8, 10] ?_
    refine Run.seq ?_
    refine Run.seq ?_
    refine Run.go ?_
    refine End.kp [6, 8, 10, 49, 50, 51] ?_
    refine Run.block ?_
    refine Run.ghost (Ghost.form [(6, .ptr 0 1 0), (8, .im (.sl (boolss O))), (10, .im (.sl (bools (initG g)))), (49, .im (.sl (boolss tr))), (50, .i tr.length), (51, .i (0 : Nat))] 2 ⟨rfl, rfl, rfl, rfl, rfl, rfl, trivial⟩ rfl rfl) ?_
    refine Run.loop (fun m s => ∃ (i : Nat) (st : List Bool), m = tr.length - i ∧ i ≤ tr.length ∧ st.length = g.regs.length ∧ runG g (lanes0 st) (tr.drop i) = O.drop i ∧ s = ⟨[(6, .ptr 0 1 0), (8, .im (.sl (boolss O))), (10, .im (.sl (bools st))), (49, .im (.sl (boolss tr))), (50, .i tr.length), (51, .i (i : Nat))], [stm l c, .box [.im (.sl (strs g.inn)), .im (.sl (strs g.out)), .im (.sl (g.regs.map LReg.im)), .im (.sl (g.ands.map nd)), .im (.sl (ints g.outs))]], up⟩) tr.length ⟨0, _, rfl, by omega, by simp, hO, rfl⟩ fun m s hI => ?_
    obtain ⟨i, st, rfl, hi, hst, hR, rfl⟩ := hI
    refine Run.seq ?_
    have fx := And.intro d1 (And.intro boolss_len (And.intro rim_len (And.intro strs_len ft)))
    refine Run.go ?_
    refine End.kp [6, 8, 10, 49, 50, 51, 52] ?_
    refine Run.seq ?_
    refine Run.cond _ rfl (fun hb => ?_) (fun hb => ?_)
    · have hb2 := of_decide_eq_true hb
      have hin : i < tr.length := by omega
      have wi := wsucc hin (by omega)
      obtain ⟨r, hri, hrm, _, hrr⟩ := boolss_at tr i hin
      have hrl := hr r hrm
      obtain ⟨o, hoi, hom, _, hoo⟩ := boolss_at O i (by omega)
      have hdr : tr.drop i = r :: tr.drop (i + 1) := by
        obtain ⟨h, e⟩ := List.getElem?_eq_some_iff.1 hri
        rw [← e]
        exact List.drop_eq_getElem_cons h
      have hdo : O.drop i = o :: O.drop (i + 1) := by
        obtain ⟨h, e⟩ := List.getElem?_eq_some_iff.1 hoi
        rw [← e]
        exact List.drop_eq_getElem_cons h
      rw [hdr, hdo, runG, List.cons.injEq] at hR
      obtain ⟨hR1, hR2⟩ := hR
      rw [runG_lane] at hR2
      have hil : (i : Int) < (O.length : Int) := by omega
      refine Run.skip ?_
      refine End.kp [6, 8, 10, 49, 50, 51] ?_
      refine Run.seq ?_
      refine Run.block ?_
      refine Run.seq ?_
      have fx := And.intro (@Int.toNat_natCast) (And.intro (@Int.natCast_nonneg) (And.intro hil (And.intro hoo (And.intro hrr (And.intro wi (And.intro d1 (And.intro boolss_len (And.intro rim_len (And.intro strs_len ft)))))))))
      refine Run.go ?_
      refine End.kp [6, 8, 10, 11, 12, 49, 50, 51] ?_
      refine Run.seq ?_
      refine Run.region rfl fun K hK => GOps.sim ?_
      refine GOps.call rfl rfl rfl rfl (by kernel_rfl) (ACalls.sim ?_)
      refine (GEval_ok g hg r st hrl hst _).mono fun v u hv => ?_
      obtain ⟨rfl, rfl⟩ := hv
      refine ⟨_, _, rfl, GOps.sim ?_⟩
      refine GOps.done (hK _ ?_); clear hK K
      refine End.kp [6, 8, 11, 13, 14, 15, 49, 50, 51] ?_
      refine Run.seq ?_
      refine Run.seq ?_
      refine Run.region rfl fun K hK => GOps.sim ?_
      refine GOps.call rfl rfl rfl rfl (by kernel_rfl) (ACalls.sim ?_)
      refine (EqB_same _ _ hR1 (by simp [outsG]; omega) _).mono fun v u hv => ?_
      obtain ⟨rfl, rfl⟩ := hv
      refine ⟨_, _, rfl, GOps.sim ?_⟩
      refine GOps.done (hK _ ?_); clear hK K
      refine End.kp [6, 8, 14, 49, 50, 51, 74] ?_
      refine Run.cond _ rfl (fun hb => ?_) (fun hb => ?_)
      · have hb2 := hb
        simp at hb
      · have hb2 := hb
        refine Run.skip ?_
        refine End.kp [6, 8, 14, 49, 50, 51] ?_
        have fx := And.intro (@Int.toNat_natCast) (And.intro (@Int.natCast_nonneg) (And.intro hil (And.intro hoo (And.intro hrr (And.intro wi (And.intro d1 (And.intro boolss_len (And.intro rim_len (And.intro strs_len ft)))))))))
        refine Run.go ?_
        refine End.blk ?_
        refine End.kp [6, 8, 10, 49, 50, 51] ?_
        refine Run.go ?_
        refine End.lp ?_
        refine ⟨tr.length - (i + 1), _, by omega, Ghost.form [(6, .ptr 0 1 0), (8, .im (.sl (boolss O))), (10, .im (.sl (bools (laneB (nextsG g (graphVals g (lanes0 r) (lanes0 st))))))), (49, .im (.sl (boolss tr))), (50, .i tr.length), (51, .i (i + 1 : Nat))] 2 ⟨rfl, rfl, rfl, rfl, rfl, rfl, trivial⟩ rfl rfl, i + 1, laneB (nextsG g (graphVals g (lanes0 r) (lanes0 st))), rfl, by omega, by simp [nextsG], hR2, rfl⟩
    · have hb2 := of_decide_eq_false hb
      refine Run.exit rfl ?_
      refine End.kp [] ?_
      refine Run.seq ?_
      have fx := And.intro d1 (And.intro boolss_len (And.intro rim_len (And.intro strs_len ft)))
      refine Run.go ?_
      refine End.kp [4] ?_
      refine Run.ret (hQ _ _ ⟨.inr rfl, _, rfl, _, rfl, ?_⟩)
      exact ⟨rfl, rfl⟩
end Go.Proofs.YtkmnmokjlpenhaaPi
