/- The walks of results, Words, Eval, Init, Run of graphs. -/
import Derived.Test.YtkmnmokjlpenhaaWP
import Derived.Test.YtkmnmokjlpenhaaWN
set_option linter.unusedVariables false
set_option linter.unusedSimpArgs false
set_option maxRecDepth 100000
namespace Go.Proofs.YtkmnmokjlpenhaaPi
set_option maxHeartbeats 2000000
abbrev lanes0 (l : List Bool) : List Int := l.map fun b => if b = true then 1 else 0
abbrev laneB (l : List Int) : List Bool := l.map fun w => bits .and .u64 w 1 == 1
def runG (g : LGraph) : List Int → List (List Bool) → List (List Bool)
  | _, [] => []
  | st, r :: t => laneB (outsG g (graphVals g (lanes0 r) st)) :: runG g (nextsG g (graphVals g (lanes0 r) st)) t
def stateG (g : LGraph) : List Int → List (List Bool) → List Int
  | st, [] => st
  | st, r :: t => stateG g (nextsG g (graphVals g (lanes0 r) st)) t
theorem runG_len (g : LGraph) : ∀ (t : List (List Bool)) (st : List Int), (runG g st t).length = t.length
  | [], st => rfl
  | r :: t, st => by simp [runG, runG_len g t]
abbrev initG (g : LGraph) : List Bool := g.regs.map LReg.init
theorem gresults_ok (g : LGraph) (hg : GraphOk g) (v : List Int) (hv : v.length = 1 + g.inn.length + g.regs.length + g.ands.length) (up : Frs) : ACalls Try.prog 97 [g.pv, .im (.sl (us v))] up fun r u => r = .tup [.im (.sl (us (outsG g v))), .im (.sl (us (nextsG g v)))] ∧ u = up := by
  obtain ⟨z1, z2, z3, z4, z5⟩ := hg.small
  refine ACalls.code Try.func97 rfl 41 rfl (by simp) [.tmp 4, .tmp 5] rfl fun Q hQ => ?_
  simp only [ups, PV.up, argEnv]
  have ft := And.intro ty_2 (And.intro ty_3 (And.intro ty_4 (And.intro ty_37 (And.intro ty_47 (And.intro ty_49 (And.intro ty_51 (And.intro ty_56 (And.intro ty_62 (And.intro ty_69 trivial)))))))))
  refine Run.seq ?_
  have fx := And.intro ints_len (And.intro rim_len (And.intro us_len ft))
  refine Run.go ?_
  refine End.kp [1, 2, 4, 5] ?_
  refine Run.seq ?_
  refine Run.seq ?_
  refine Run.go ?_
  refine End.kp [1, 2, 4, 5, 11, 12, 13] ?_
  refine Run.block ?_
  refine Run.ghost (Ghost.thaw (u := 4) 37 1 (by decide) rfl) ?_
  refine Run.ghost (Ghost.form [(1, .im (.sl (us v))), (2, .ptr 0 0 0), (4, .ms 0 1 0), (5, .nils), (11, .im (.sl (ints g.outs))), (12, .i g.outs.length), (13, .i (0 : Nat))] 2 ⟨rfl, rfl, rfl, rfl, rfl, rfl, rfl, trivial⟩ rfl rfl) ?_
  refine Run.loop (fun m s => ∃ (i : Nat), m = g.outs.length - i ∧ i ≤ g.outs.length ∧ s = ⟨[(1, .im (.sl (us v))), (2, .ptr 0 0 0), (4, .ms 0 1 i), (5, .nils), (11, .im (.sl (ints g.outs))), (12, .i g.outs.length), (13, .i (i : Nat))], [.box [.im (.sl (strs g.inn)), .im (.sl (strs g.out)), .im (.sl (g.regs.map LReg.im)), .im (.sl (g.ands.map nd)), .im (.sl (ints g.outs))], .row 37 1 (us ((g.outs.take i).map (ofV v))) 0], up⟩) g.outs.length ⟨0, rfl, by omega, rfl⟩ fun m s hI => ?_
  obtain ⟨i, rfl, hi, rfl⟩ := hI
  have hol : ((g.outs.take i).map (ofV v)).length = i := by simp; omega
  have hao : (i + 1) * 8 ≤ 140737488355328 := by omega
  refine Run.seq ?_
  have fx := And.intro hao (And.intro hol (And.intro ints_len (And.intro rim_len (And.intro us_len ft))))
  refine Run.go ?_
  refine End.kp [1, 2, 4, 5, 11, 12, 13, 14] ?_
  refine Run.seq ?_
  refine Run.cond _ rfl (fun hb => ?_) (fun hb => ?_)
  · have hb := of_decide_eq_true hb
    have hin : i < g.outs.length := by omega
    have wi := wsucc hin (by omega)
    obtain ⟨x, hxi, hxm, hx⟩ := int_at g.outs i hin
    obtain ⟨x1, x2⟩ := hg.outs x hxm
    have x2' : x < 2 * (v.length : Int) := by omega
    have htk := int_snoc g.outs i x hxi
    refine Run.skip ?_
    refine End.kp [1, 2, 4, 5, 11, 12, 13] ?_
    refine Run.seq ?_
    refine Run.block ?_
    refine Run.seq ?_
    have fx := And.intro (@Int.toNat_natCast) (And.intro (@Int.natCast_nonneg) (And.intro hx (And.intro wi (And.intro hao (And.intro hol (And.intro ints_len (And.intro rim_len (And.intro us_len ft))))))))
    refine Run.go ?_
    refine End.kp [1, 2, 4, 5, 7, 11, 12, 13] ?_
    refine Run.region rfl fun K hK => GOps.sim ?_
    refine GOps.call rfl rfl rfl rfl (by kernel_rfl) (ACalls.sim ?_)
    refine (of_ok v x x1 x2' (by omega) _).mono fun v u hv => ?_
    obtain ⟨rfl, rfl⟩ := hv
    refine ⟨_, _, rfl, GOps.sim ?_⟩
    refine GOps.done (hK _ ?_); clear hK K
    refine End.blk ?_
    refine End.kp [1, 2, 4, 5, 11, 12, 13] ?_
    refine Run.go ?_
    refine End.lp ?_
    refine ⟨g.outs.length - (i + 1), _, by omega, Ghost.form [(1, .im (.sl (us v))), (2, .ptr 0 0 0), (4, .ms 0 1 (i + 1)), (5, .nils), (11, .im (.sl (ints g.outs))), (12, .i g.outs.length), (13, .i (i + 1 : Nat))] 2 ⟨rfl, rfl, rfl, rfl, rfl, rfl, rfl, trivial⟩ rfl rfl, i + 1, rfl, by omega, ?_⟩
    rw [htk]
    simp
  · have hb := of_decide_eq_false hb
    have hiN : i = g.outs.length := by omega
    subst hiN
    rw [List.take_length] at hol ⊢
    refine Run.exit rfl ?_
    refine End.kp [1, 2, 4, 5] ?_
    refine Run.seq ?_
    refine Run.seq ?_
    have fx := And.intro hao (And.intro hol (And.intro ints_len (And.intro rim_len (And.intro us_len ft))))
    refine Run.go ?_
    refine End.kp [1, 4, 5, 25, 26, 27] ?_
    refine Run.block ?_
    refine Run.ghost (Ghost.thaw (u := 5) 37 1 (by decide) rfl) ?_
    refine Run.ghost (Ghost.form [(1, .im (.sl (us v))), (4, .ms 0 1 g.outs.length), (5, .ms 0 2 0), (25, .im (.sl (g.regs.map LReg.im))), (26, .i g.regs.length), (27, .i (0 : Nat))] 3 ⟨rfl, rfl, rfl, rfl, rfl, rfl, trivial⟩ rfl rfl) ?_
    refine Run.loop (fun m s => ∃ (i : Nat), m = g.regs.length - i ∧ i ≤ g.regs.length ∧ s = ⟨[(1, .im (.sl (us v))), (4, .ms 0 1 g.outs.length), (5, .ms 0 2 i), (25, .im (.sl (g.regs.map LReg.im))), (26, .i g.regs.length), (27, .i (i : Nat))], [.box [.im (.sl (strs g.inn)), .im (.sl (strs g.out)), .im (.sl (g.regs.map LReg.im)), .im (.sl (g.ands.map nd)), .im (.sl (ints g.outs))], .row 37 1 (us (outsG g v)) 0, .row 37 1 (us ((g.regs.take i).map fun r => ofV v r.next)) 0], up⟩) g.regs.length ⟨0, rfl, by omega, rfl⟩ fun m s hI => ?_
    obtain ⟨i, rfl, hi, rfl⟩ := hI
    have hdn : ((g.regs.take i).map fun r => ofV v r.next).length = i := by simp; omega
    have haf : (i + 1) * 8 ≤ 140737488355328 := by omega
    refine Run.seq ?_
    have fx := And.intro haf (And.intro hdn (And.intro hao (And.intro hol (And.intro ints_len (And.intro rim_len (And.intro us_len ft))))))
    refine Run.go ?_
    refine End.kp [1, 4, 5, 25, 26, 27, 28] ?_
    refine Run.seq ?_
    refine Run.cond _ rfl (fun hb => ?_) (fun hb => ?_)
    · have hb := of_decide_eq_true hb
      have hin : i < g.regs.length := by omega
      have wi := wsucc hin (by omega)
      obtain ⟨f, hfi, hfm, hf⟩ := reg_at g.regs i hin
      obtain ⟨x1, x2⟩ := hg.regs f hfm
      have x2' : f.next < 2 * (v.length : Int) := by omega
      have htk := reg_snoc g.regs i f hfi
      refine Run.skip ?_
      refine End.kp [1, 4, 5, 25, 26, 27] ?_
      refine Run.seq ?_
      refine Run.block ?_
      refine Run.seq ?_
      have fx := And.intro (@Int.toNat_natCast) (And.intro (@Int.natCast_nonneg) (And.intro hf (And.intro wi (And.intro haf (And.intro hdn (And.intro hao (And.intro hol (And.intro ints_len (And.intro rim_len (And.intro us_len ft))))))))))
      refine Run.go ?_
      refine End.kp [1, 4, 5, 9, 25, 26, 27] ?_
      refine Run.region rfl fun K hK => GOps.sim ?_
      refine GOps.call rfl rfl rfl rfl (by kernel_rfl) (ACalls.sim ?_)
      refine (of_ok v f.next x1 x2' (by omega) _).mono fun v u hv => ?_
      obtain ⟨rfl, rfl⟩ := hv
      refine ⟨_, _, rfl, GOps.sim ?_⟩
      refine GOps.done (hK _ ?_); clear hK K
      refine End.blk ?_
      refine End.kp [1, 4, 5, 25, 26, 27] ?_
      refine Run.go ?_
      refine End.lp ?_
      refine ⟨g.regs.length - (i + 1), _, by omega, Ghost.form [(1, .im (.sl (us v))), (4, .ms 0 1 g.outs.length), (5, .ms 0 2 (i + 1)), (25, .im (.sl (g.regs.map LReg.im))), (26, .i g.regs.length), (27, .i (i + 1 : Nat))] 3 ⟨rfl, rfl, rfl, rfl, rfl, rfl, trivial⟩ rfl rfl, i + 1, rfl, by omega, ?_⟩
      rw [htk]
      simp
    · have hb := of_decide_eq_false hb
      have hiN : i = g.regs.length := by omega
      subst hiN
      rw [List.take_length] at hdn ⊢
      refine Run.exit rfl ?_
      refine End.kp [4, 5] ?_
      refine Run.seq ?_
      refine Run.ghost (Ghost.shut (t := 4) (j := 1) rfl rfl (by rw [us_len]; exact hol)) ?_
      simp only [eput, edel]
      refine Run.ghost (Ghost.shut (t := 5) (j := 2) rfl rfl (by rw [us_len, hdn])) ?_
      simp only [eput, edel]
      have fx := And.intro haf (And.intro hdn (And.intro hao (And.intro hol (And.intro ints_len (And.intro rim_len (And.intro us_len ft))))))
      refine Run.go ?_
      refine End.kp [4, 5] ?_
      refine Run.ret (hQ _ _ ⟨.inr rfl, _, rfl, _, rfl, ?_⟩)
      exact ⟨rfl, rfl⟩
theorem GWords_ok (g : LGraph) (hg : GraphOk g) (inn st : List Int) (h1 : inn.length = g.inn.length) (h2 : st.length = g.regs.length) (up : Frs) : ACalls Try.prog 48 [g.pv, .im (.sl (us inn)), .im (.sl (us st))] up fun v u => v = .tup [.im (.sl (us (outsG g (graphVals g inn st)))), .im (.sl (us (nextsG g (graphVals g inn st)))), .i 0] ∧ u = up := by
  refine ACalls.code Try.func48 rfl 28 rfl (by simp) [.tmp 6, .tmp 7, .tmp 8] rfl fun Q hQ => ?_
  simp only [ups, PV.up, argEnv]
  have ft := And.intro ty_4 (And.intro ty_34 (And.intro ty_37 (And.intro ty_51 (And.intro ty_56 trivial))))
  refine Run.seq ?_
  have fx := ft
  refine Run.go ?_
  refine End.kp [1, 2, 3] ?_
  refine Run.seq ?_
  refine Run.region rfl fun K hK => GOps.sim ?_
  refine GOps.call rfl rfl rfl rfl (by kernel_rfl) (ACalls.sim ?_)
  refine (GValues_ok g hg inn st h1 h2 _).mono fun v u hv => ?_
  obtain ⟨rfl, rfl⟩ := hv
  refine ⟨_, _, rfl, GOps.sim ?_⟩
  refine GOps.done (hK _ ?_); clear hK K
  refine End.kp [3, 8, 9] ?_
  refine Run.seq ?_
  refine Run.seq ?_
  refine Run.go ?_
  refine End.kp [3, 8, 9, 18] ?_
  refine Run.cond _ rfl (fun hb => ?_) (fun hb => ?_)
  · have hb := hb
    simp at hb
  · have hb := hb
    refine Run.skip ?_
    refine End.kp [3, 9] ?_
    refine Run.seq ?_
    have fx := ft
    refine Run.region rfl fun K hK => GOps.sim ?_
    refine GOps.call rfl rfl rfl rfl (by kernel_rfl) (ACalls.sim ?_)
    refine (gresults_ok g hg (graphVals g inn st) (by rw [graphVals_len g inn st h1 h2]) _).mono fun v u hv => ?_
    obtain ⟨rfl, rfl⟩ := hv
    refine ⟨_, _, rfl, GOps.sim ?_⟩
    refine GOps.done (hK _ ?_); clear hK K
    refine End.kp [6, 7] ?_
    refine Run.seq ?_
    refine Run.go ?_
    refine End.kp [6, 7, 8] ?_
    refine Run.ret (hQ _ _ ⟨.inr rfl, _, rfl, _, rfl, ?_⟩)
    exact ⟨rfl, rfl⟩
theorem GEval_ok (g : LGraph) (hg : GraphOk g) (inn st : List Bool) (h1 : inn.length = g.inn.length) (h2 : st.length = g.regs.length) (up : Frs) : ACalls Try.prog 50 [g.pv, .im (.sl (bools inn)), .im (.sl (bools st))] up fun v u => v = .tup [.im (.sl (bools (laneB (outsG g (graphVals g (lanes0 inn) (lanes0 st)))))), .im (.sl (bools (laneB (nextsG g (graphVals g (lanes0 inn) (lanes0 st)))))), .i 0] ∧ u = up := by
  obtain ⟨z1, z2, z3, z4, z5⟩ := hg.small
  refine ACalls.code Try.func50 rfl 28 rfl (by simp) [.tmp 6, .tmp 7, .tmp 8] rfl fun Q hQ => ?_
  simp only [ups, PV.up, argEnv]
  have ft := And.intro ty_2 (And.intro ty_4 (And.intro ty_34 (And.intro ty_37 (And.intro ty_51 (And.intro ty_56 (And.intro ty_71 trivial))))))
  refine Run.seq ?_
  have fx := ft
  refine Run.go ?_
  refine End.kp [1, 2, 3] ?_
  refine Run.seq ?_
  refine Run.drawA fun K hK => ?_
  refine DOps.sim ?_
  refine DOps.call (.im (.sl (us (lanes0 inn)))) [] [] rfl rfl rfl rfl (by kernel_rfl) (by simp [Agree]) (fun u hu => Lanes_ok inn (by omega) u) ?_
  refine DOps.sim ?_
  refine DOps.call (.im (.sl (us (lanes0 st)))) [] [] rfl rfl rfl rfl (by kernel_rfl) (by simp [Agree]) (fun u hu => Lanes_ok st (by omega) u) ?_
  refine DOps.sim ?_
  refine DOps.call (.tup [.im (.sl (us (outsG g (graphVals g (lanes0 inn) (lanes0 st))))), .im (.sl (us (nextsG g (graphVals g (lanes0 inn) (lanes0 st))))), .i 0]) [] [] rfl rfl rfl rfl (by kernel_rfl) (by simp [Agree]) (fun u hu => GWords_ok g hg (lanes0 inn) (lanes0 st) (by simpa using h1) (by simpa using h2) u) ?_
  refine DOps.sim ?_
  refine DOps.nil (metAll_quiet rfl) (hK _ ?_); clear hK K
  refine End.kp [8, 9, 10] ?_
  refine Run.seq ?_
  refine Run.seq ?_
  refine Run.go ?_
  refine End.kp [8, 9, 10, 22] ?_
  refine Run.cond _ rfl (fun hb => ?_) (fun hb => ?_)
  · have hb := hb
    simp at hb
  · have hb := hb
    refine Run.skip ?_
    refine End.kp [9, 10] ?_
    refine Run.seq ?_
    have fx := ft
    refine Run.region rfl fun K hK => GOps.sim ?_
    refine GOps.call rfl rfl rfl rfl (by kernel_rfl) (ACalls.sim ?_)
    refine (Lane_ok _ (by simp [outsG]; omega) _).mono fun v u hv => ?_
    obtain ⟨rfl, rfl⟩ := hv
    refine ⟨_, _, rfl, GOps.sim ?_⟩
    refine GOps.call rfl rfl rfl rfl (by kernel_rfl) (ACalls.sim ?_)
    refine (Lane_ok _ (by simp [nextsG]; omega) _).mono fun v u hv => ?_
    obtain ⟨rfl, rfl⟩ := hv
    refine ⟨_, _, rfl, GOps.sim ?_⟩
    refine GOps.done (hK _ ?_); clear hK K
    refine End.kp [6, 7, 8] ?_
    refine Run.ret (hQ _ _ ⟨.inr rfl, _, rfl, _, rfl, ?_⟩)
    exact ⟨rfl, rfl⟩
theorem GInit_ok (g : LGraph) (hg : GSmall g) (up : Frs) : ACalls Try.prog 54 [g.pv] up fun v u => v = .im (.sl (bools (initG g))) ∧ u = up := by
  obtain ⟨z1, z2, z3, z4, z5⟩ := hg
  have hc : (0 : Int) ≤ g.regs.length := by omega
  have hm1 : ((1 : Nat) : Int) * (g.regs.length : Int) ≤ 281474976710656 := by omega
  have hm2 : (g.regs.length : Int) ≤ 9223372036854775807 := by omega
  refine ACalls.code Try.func54 rfl 25 rfl (by simp) [.tmp 2] rfl fun Q hQ => ?_
  simp only [ups, PV.up, argEnv]
  have ft := And.intro ty_2 (And.intro ty_3 (And.intro ty_4 (And.intro ty_47 (And.intro ty_51 (And.intro ty_69 (And.intro ty_71 trivial))))))
  refine Run.seq ?_
  have fx := And.intro hm2 (And.intro hm1 (And.intro hc (And.intro rim_len ft)))
  refine Run.go ?_
  refine End.kp [1] ?_
  refine Run.seq ?_
  refine Run.go ?_
  refine End.kp [1, 3] ?_
  refine Run.seq ?_
  refine Run.seq ?_
  refine Run.go ?_
  refine End.kp [3, 11, 12, 13] ?_
  refine Run.block ?_
  refine Run.ghost (Ghost.form [(3, .ms 0 1 g.regs.length), (11, .im (.sl (g.regs.map LReg.im))), (12, .i g.regs.length), (13, .i (0 : Nat))] 2 ⟨rfl, rfl, rfl, rfl, trivial⟩ rfl rfl) ?_
  refine Run.loop (fun m s => ∃ (i : Nat), m = g.regs.length - i ∧ i ≤ g.regs.length ∧ s = ⟨[(3, .ms 0 1 g.regs.length), (11, .im (.sl (g.regs.map LReg.im))), (12, .i g.regs.length), (13, .i (i : Nat))], [.box [.im (.sl (strs g.inn)), .im (.sl (strs g.out)), .im (.sl (g.regs.map LReg.im)), .im (.sl (g.ands.map nd)), .im (.sl (ints g.outs))], .row 4 1 ((g.regs.take i).map (fun r => [Im.bool r.init]) ++ List.replicate (g.regs.length - i) [.bool false]) 0], up⟩) g.regs.length ⟨0, rfl, by omega, by simp⟩ fun m s hI => ?_
  obtain ⟨i, rfl, hi, rfl⟩ := hI
  have hrl := fill_len (fun r => [Im.bool r.init]) g.regs [.bool false] i hi
  refine Run.seq ?_
  have fx := And.intro hrl (And.intro hm2 (And.intro hm1 (And.intro hc (And.intro rim_len ft))))
  refine Run.go ?_
  refine End.kp [3, 11, 12, 13, 14] ?_
  refine Run.seq ?_
  refine Run.cond _ rfl (fun hb => ?_) (fun hb => ?_)
  · have hb := of_decide_eq_true hb
    have hin : i < g.regs.length := by omega
    have wi := wsucc hin (by omega)
    obtain ⟨f, hfi, hfm, hf⟩ := reg_at g.regs i hin
    have hri := fill_get (fun r => [Im.bool r.init]) g.regs [.bool false] i hin
    have hfd : g.regs.getD i ⟨ByteArray.empty, 0, false⟩ = f := by simp [hfi]
    have hfm2 := fill_map (fun r => [Im.bool r.init]) g.regs [.bool false] ⟨ByteArray.empty, 0, false⟩ i hin
    rw [hfd] at hfm2
    refine Run.skip ?_
    refine End.kp [3, 11, 12, 13] ?_
    refine Run.seq ?_
    refine Run.block ?_
    refine Run.seq ?_
    have fx := And.intro hri (And.intro hin (And.intro (@Int.ofNat_lt) (And.intro (@Int.toNat_natCast) (And.intro (@Int.natCast_nonneg) (And.intro hf (And.intro wi (And.intro hrl (And.intro hm2 (And.intro hm1 (And.intro hc (And.intro rim_len ft)))))))))))
    refine Run.go ?_
    refine End.kp [3, 4, 5, 11, 12, 13] ?_
    refine Run.go ?_
    refine End.blk ?_
    refine End.kp [3, 11, 12, 13] ?_
    refine Run.go ?_
    refine End.lp ?_
    refine ⟨g.regs.length - (i + 1), _, by omega, Ghost.form [(3, .ms 0 1 g.regs.length), (11, .im (.sl (g.regs.map LReg.im))), (12, .i g.regs.length), (13, .i (i + 1 : Nat))] 2 ⟨rfl, rfl, rfl, rfl, trivial⟩ rfl rfl, i + 1, rfl, by omega, ?_⟩
    rw [← hfm2]
    rfl
  · have hb := of_decide_eq_false hb
    have hiN : i = g.regs.length := by omega
    subst hiN
    rw [fill_all] at hrl ⊢
    refine Run.exit rfl ?_
    refine End.kp [3] ?_
    refine Run.seq ?_
    refine Run.ghost (Ghost.shut (t := 3) (j := 1) rfl rfl hrl) ?_
    simp only [eput, edel]
    have fx := And.intro hrl (And.intro hm2 (And.intro hm1 (And.intro hc (And.intro rim_len ft))))
    refine Run.go ?_
    refine End.kp [2] ?_
    refine Run.ret (hQ _ _ ⟨.inr rfl, _, rfl, _, rfl, ?_⟩)
    exact ⟨by simp, rfl⟩
theorem GRun_ok (g : LGraph) (hg : GraphOk g) (tr : List (List Bool)) (hn : tr.length ≤ 64) (ht : ∀ r ∈ tr, r.length = g.inn.length) (up : Frs) : ACalls Try.prog 53 [g.pv, .im (.sl (boolss tr))] up fun v u => v = .tup [.im (.sl (boolss (runG g (lanes0 (initG g)) tr))), .i 0] ∧ u = up := by
  have hsm := hg.small
  obtain ⟨z1, z2, z3, z4, z5⟩ := hg.small
  have d1 : decide ((tr.length : Int) > 64) = false := decide_eq_false (by omega)
  refine ACalls.code Try.func53 rfl 63 rfl (by simp) [.tmp 4, .tmp 5] rfl fun Q hQ => ?_
  simp only [ups, PV.up, argEnv]
  have ft := And.intro ty_3 (And.intro ty_4 (And.intro ty_9 (And.intro ty_26 (And.intro ty_34 (And.intro ty_37 (And.intro ty_51 (And.intro ty_56 (And.intro ty_58 (And.intro ty_71 trivial)))))))))
  refine Run.seq ?_
  have fx := And.intro d1 (And.intro strs_len (And.intro bools_len (And.intro boolss_len ft)))
  refine Run.go ?_
  refine End.kp [1, 2] ?_
  refine Run.seq ?_
  refine Run.seq ?_
  refine Run.region rfl fun K hK => GOps.sim ?_
  refine GOps.call rfl rfl rfl rfl (by kernel_rfl) (ACalls.sim ?_)
  refine (Check_ok g hg _).mono fun v u hv => ?_
  obtain ⟨rfl, rfl⟩ := hv
  refine ⟨_, _, rfl, GOps.sim ?_⟩
  refine GOps.done (hK _ ?_); clear hK K
  refine End.kp [1, 2, 6] ?_
  refine Run.seq ?_
  refine Run.go ?_
  refine End.kp [1, 2, 6, 18] ?_
  refine Run.cond _ rfl (fun hb => ?_) (fun hb => ?_)
  · have hb := hb
    simp at hb
  · have hb := hb
    refine Run.skip ?_
    refine End.kp [1, 2] ?_
    refine Run.seq ?_
    refine Run.seq ?_
    have fx := And.intro d1 (And.intro strs_len (And.intro bools_len (And.intro boolss_len ft)))
    refine Run.go ?_
    refine End.kp [1, 2, 22] ?_
    refine Run.cond _ rfl (fun hb => ?_) (fun hb => ?_)
    · have hb := hb
      simp at hb
    · have hb := hb
      refine Run.skip ?_
      refine End.kp [1, 2] ?_
      refine Run.seq ?_
      refine Run.seq ?_
      have fx := And.intro d1 (And.intro strs_len (And.intro bools_len (And.intro boolss_len ft)))
      refine Run.go ?_
      refine End.kp [1, 2, 23, 24, 25] ?_
      refine Run.block ?_
      refine Run.ghost (Ghost.form [(1, .im (.sl (boolss tr))), (2, .ptr 0 0 0), (23, .im (.sl (boolss tr))), (24, .i tr.length), (25, .i (0 : Nat))] 1 ⟨rfl, rfl, rfl, rfl, rfl, trivial⟩ rfl rfl) ?_
      refine Run.loop (fun m s => ∃ (i : Nat), m = tr.length - i ∧ i ≤ tr.length ∧ s = ⟨[(1, .im (.sl (boolss tr))), (2, .ptr 0 0 0), (23, .im (.sl (boolss tr))), (24, .i tr.length), (25, .i (i : Nat))], [.box [.im (.sl (strs g.inn)), .im (.sl (strs g.out)), .im (.sl (g.regs.map LReg.im)), .im (.sl (g.ands.map nd)), .im (.sl (ints g.outs))]], up⟩) tr.length ⟨0, rfl, by omega, rfl⟩ fun m s hI => ?_
      obtain ⟨i, rfl, hi, rfl⟩ := hI
      refine Run.seq ?_
      have fx := And.intro d1 (And.intro strs_len (And.intro bools_len (And.intro boolss_len ft)))
      refine Run.go ?_
      refine End.kp [1, 2, 23, 24, 25, 26] ?_
      refine Run.seq ?_
      refine Run.cond _ rfl (fun hb => ?_) (fun hb => ?_)
      · have hb := of_decide_eq_true hb
        have hin : i < tr.length := by omega
        have wi := wsucc hin (by omega)
        obtain ⟨r, hri, hrm, _, hr⟩ := boolss_at tr i hin
        have d2 : ((r.length : Int) != g.inn.length) = false := by rw [ht r hrm]; simp
        refine Run.skip ?_
        refine End.kp [1, 2, 23, 24, 25] ?_
        refine Run.seq ?_
        refine Run.block ?_
        refine Run.seq ?_
        have fx := And.intro (@Int.toNat_natCast) (And.intro (@Int.natCast_nonneg) (And.intro d2 (And.intro hr (And.intro wi (And.intro d1 (And.intro strs_len (And.intro bools_len (And.intro boolss_len ft))))))))
        refine Run.go ?_
        refine End.kp [1, 2, 8, 23, 24, 25] ?_
        refine Run.seq ?_
        refine Run.go ?_
        refine End.kp [1, 2, 23, 24, 25, 34] ?_
        refine Run.cond _ rfl (fun hb => ?_) (fun hb => ?_)
        · have hb := hb
          simp at hb
        · have hb := hb
          refine Run.skip ?_
          refine End.blk ?_
          refine End.kp [1, 2, 23, 24, 25] ?_
          have fx := And.intro (@Int.toNat_natCast) (And.intro (@Int.natCast_nonneg) (And.intro d2 (And.intro hr (And.intro wi (And.intro d1 (And.intro strs_len (And.intro bools_len (And.intro boolss_len ft))))))))
          refine Run.go ?_
          refine End.lp ?_
          refine ⟨tr.length - (i + 1), _, by omega, Ghost.form [(1, .im (.sl (boolss tr))), (2, .ptr 0 0 0), (23, .im (.sl (boolss tr))), (24, .i tr.length), (25, .i (i + 1 : Nat))] 1 ⟨rfl, rfl, rfl, rfl, rfl, trivial⟩ rfl rfl, i + 1, rfl, by omega, rfl⟩
      · have hb := of_decide_eq_false hb
        refine Run.exit rfl ?_
        refine End.kp [1, 2] ?_
        refine Run.seq ?_
        have fx := And.intro d1 (And.intro strs_len (And.intro bools_len (And.intro boolss_len ft)))
        refine Run.region rfl fun K hK => GOps.sim ?_
        refine GOps.call rfl rfl rfl rfl (by kernel_rfl) (ACalls.sim ?_)
        refine (GInit_ok g hsm _).mono fun v u hv => ?_
        obtain ⟨rfl, rfl⟩ := hv
        refine ⟨_, _, rfl, GOps.sim ?_⟩
        refine GOps.call rfl rfl rfl rfl (by kernel_rfl) (ACalls.sim ?_)
        refine (Lanes_ok (initG g) (by simp; omega) _).mono fun v u hv => ?_
        obtain ⟨rfl, rfl⟩ := hv
        refine ⟨_, _, rfl, GOps.sim ?_⟩
        refine GOps.done (hK _ ?_); clear hK K
        refine End.kp [1, 2, 9] ?_
        refine Run.seq ?_
        refine Run.go ?_
        refine End.kp [1, 2, 9, 10] ?_
        refine Run.seq ?_
        refine Run.seq ?_
        refine Run.go ?_
        refine End.kp [2, 9, 10, 39, 40, 41] ?_
        refine Run.block ?_
        refine Run.ghost (Ghost.thaw (u := 10) 71 1 (by decide) rfl) ?_
        refine Run.ghost (Ghost.form [(2, .ptr 0 0 0), (9, .im (.sl (us (lanes0 (initG g))))), (10, .ms 0 1 (0)), (39, .im (.sl (boolss tr))), (40, .i tr.length), (41, .i (0 : Nat))] 2 ⟨rfl, rfl, rfl, rfl, rfl, rfl, trivial⟩ rfl rfl) ?_
        refine Run.loop (fun m s => ∃ (i : Nat) (st : List Int) (dn : List (List Bool)), m = tr.length - i ∧ i ≤ tr.length ∧ dn.length = i ∧ st.length = g.regs.length ∧ dn ++ runG g st (tr.drop i) = runG g (lanes0 (initG g)) tr ∧ s = ⟨[(2, .ptr 0 0 0), (9, .im (.sl (us st))), (10, .ms 0 1 (i)), (39, .im (.sl (boolss tr))), (40, .i tr.length), (41, .i (i : Nat))], [.box [.im (.sl (strs g.inn)), .im (.sl (strs g.out)), .im (.sl (g.regs.map LReg.im)), .im (.sl (g.ands.map nd)), .im (.sl (ints g.outs))], .row 71 1 (boolss dn) 0], up⟩) tr.length ⟨0, _, [], rfl, by omega, rfl, by simp, rfl, rfl⟩ fun m s hI => ?_
        obtain ⟨i, st, dn, rfl, hi, hdn, hst, hR, rfl⟩ := hI
        have hap : (i + 1) * 24 ≤ 140737488355328 := by omega
        refine Run.seq ?_
        have fx := And.intro hap (And.intro hdn (And.intro d1 (And.intro strs_len (And.intro bools_len (And.intro boolss_len ft)))))
        refine Run.go ?_
        refine End.kp [2, 9, 10, 39, 40, 41, 42] ?_
        refine Run.seq ?_
        refine Run.cond _ rfl (fun hb => ?_) (fun hb => ?_)
        · have hb := of_decide_eq_true hb
          have hin : i < tr.length := by omega
          have wi := wsucc hin (by omega)
          obtain ⟨r, hri, hrm, _, hr⟩ := boolss_at tr i hin
          have hrl := ht r hrm
          have hdr : tr.drop i = r :: tr.drop (i + 1) := by
            obtain ⟨h, e⟩ := List.getElem?_eq_some_iff.1 hri
            rw [← e]
            exact List.drop_eq_getElem_cons h
          rw [hdr, runG] at hR
          refine Run.skip ?_
          refine End.kp [2, 9, 10, 39, 40, 41] ?_
          refine Run.seq ?_
          refine Run.block ?_
          refine Run.seq ?_
          have fx := And.intro (@Int.toNat_natCast) (And.intro (@Int.natCast_nonneg) (And.intro hr (And.intro wi (And.intro hap (And.intro hdn (And.intro d1 (And.intro strs_len (And.intro bools_len (And.intro boolss_len ft)))))))))
          refine Run.go ?_
          refine End.kp [2, 9, 10, 12, 39, 40, 41] ?_
          refine Run.seq ?_
          refine Run.drawA fun K hK => ?_
          refine DOps.sim ?_
          refine DOps.call (.im (.sl (us (lanes0 r)))) [] [] rfl rfl rfl rfl (by kernel_rfl) (by simp [Agree]) (fun u hu => Lanes_ok r (by omega) u) ?_
          refine DOps.sim ?_
          refine DOps.call (.im (.sl (us (graphVals g (lanes0 r) st)))) [] [] rfl rfl rfl rfl (by kernel_rfl) (by simp [Agree]) (fun u hu => gvalues_ok g hg (lanes0 r) st (by simpa using hrl) hst u) ?_
          refine DOps.sim ?_
          refine DOps.call (.tup [.im (.sl (us (outsG g (graphVals g (lanes0 r) st)))), .im (.sl (us (nextsG g (graphVals g (lanes0 r) st))))]) [] [] rfl rfl rfl rfl (by kernel_rfl) (by simp [Agree]) (fun u hu => gresults_ok g hg (graphVals g (lanes0 r) st) (by rw [graphVals_len g _ _ (by simpa using hrl) hst]) u) ?_
          refine DOps.sim ?_
          refine DOps.nil (metAll_quiet rfl) (hK _ ?_); clear hK K
          refine End.kp [2, 10, 13, 14, 39, 40, 41] ?_
          refine Run.region rfl fun K hK => GOps.sim ?_
          refine GOps.call rfl rfl rfl rfl (by kernel_rfl) (ACalls.sim ?_)
          refine (Lane_ok _ (by simp [outsG]; omega) _).mono fun v u hv => ?_
          obtain ⟨rfl, rfl⟩ := hv
          refine ⟨_, _, rfl, GOps.sim ?_⟩
          refine GOps.done (hK _ ?_); clear hK K
          refine End.blk ?_
          refine End.kp [2, 9, 10, 39, 40, 41] ?_
          refine Run.go ?_
          refine End.lp ?_
          refine ⟨tr.length - (i + 1), _, by omega, Ghost.form [(2, .ptr 0 0 0), (9, .im (.sl (us (nextsG g (graphVals g (lanes0 r) st))))), (10, .ms 0 1 ((i + 1))), (39, .im (.sl (boolss tr))), (40, .i tr.length), (41, .i (i + 1 : Nat))] 2 ⟨rfl, rfl, rfl, rfl, rfl, rfl, trivial⟩ rfl rfl, i + 1, nextsG g (graphVals g (lanes0 r) st), dn ++ [laneB (outsG g (graphVals g (lanes0 r) st))], rfl, by omega, by simp [hdn], by simp [nextsG], by simpa using hR, ?_⟩
          simp
        · have hb := of_decide_eq_false hb
          have hiN : i = tr.length := by omega
          subst hiN
          rw [List.drop_length, runG, List.append_nil] at hR
          refine Run.exit rfl ?_
          refine End.kp [10] ?_
          refine Run.seq ?_
          refine Run.ghost (Ghost.shut (t := 10) (j := 1) rfl rfl (by rw [boolss_len, hdn])) ?_
          simp only [eput, edel]
          have fx := And.intro hap (And.intro hdn (And.intro d1 (And.intro strs_len (And.intro bools_len (And.intro boolss_len ft)))))
          refine Run.go ?_
          refine End.kp [4, 5] ?_
          refine Run.ret (hQ _ _ ⟨.inr rfl, _, rfl, _, rfl, ?_⟩)
          exact ⟨by rw [hR], rfl⟩
end Go.Proofs.YtkmnmokjlpenhaaPi
