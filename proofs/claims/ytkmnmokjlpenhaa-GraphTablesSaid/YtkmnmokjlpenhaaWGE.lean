/- The walks of runs, GraphTidies. -/
import Derived.Test.YtkmnmokjlpenhaaWGD
import Derived.Test.YtkmnmokjlpenhaaWUA
set_option linter.unusedVariables false
set_option linter.unusedSimpArgs false
set_option maxRecDepth 100000
namespace Go.Proofs.YtkmnmokjlpenhaaPi
set_option maxHeartbeats 4000000
theorem runG_row (g : LGraph) : ∀ (t : List (List Bool)) (st : List Int), ∀ r ∈ runG g st t, r.length = g.outs.length
  | [], st, r, h => by simp [runG] at h
  | x :: t, st, r, h => by
    simp only [runG, List.mem_cons] at h
    rcases h with rfl | h
    · simp [outsG]
    · exact runG_row g t _ r h
abbrev runI (g : LGraph) (tr : List (List Bool)) : List (List Bool) := runG g (lanes0 (initG g)) tr
def cleanL (g : LGraph) : LGraph := movedG g (cleanG g).1 (cleanG g).2.1
def strashL (g : LGraph) : LGraph := movedG g (strashG g).1.ands (strashG g).2
structure TidyLaw : Prop where
  clean : ∀ g, GraphOk g → GraphOk (cleanL g)
  strash : ∀ g, GraphOk g → GraphOk (strashL g)
  cleanRun : ∀ g, GraphOk g → ∀ tr : List (List Bool), (∀ r ∈ tr, r.length = g.inn.length) → runI (cleanL g) tr = runI g tr
  strashRun : ∀ g, GraphOk g → ∀ tr : List (List Bool), (∀ r ∈ tr, r.length = g.inn.length) → runI (strashL g) tr = runI g tr
  less : ∀ g, GraphOk g → (cleanL (strashL (cleanL g))).ands.length ≤ (cleanL g).ands.length
  again : ∀ g, GraphOk g → (strashL (cleanL (strashL g))).ands.length = (cleanL (strashL g)).ands.length
theorem EqF_same (p : List (List Bool)) (hn : p.length ≤ 1000000) (hr : ∀ r ∈ p, r.length ≤ 1000000) (up : Frs) : ACalls Try.prog 59 [.im (.sl (boolss p)), .im (.sl (boolss p)), .fn 55 []] up fun v u => v = .im (.bool true) ∧ u = up := by
  have d1 : ((p.length : Int) != p.length) = false := by simp
  refine ACalls.code Try.func59 rfl 32 rfl (by simp) [.tmp 6] rfl fun Q hQ => ?_
  simp only [ups, PV.up, argEnv]
  have ft := And.intro ty_3 (And.intro ty_4 (And.intro ty_58 (And.intro ty_71 trivial)))
  refine Run.seq ?_
  have fx := And.intro d1 (And.intro boolss_len ft)
  refine Run.go ?_
  refine End.kp [0, 1, 2] ?_
  refine Run.seq ?_
  refine Run.seq ?_
  refine Run.go ?_
  refine End.kp [0, 1, 2, 14] ?_
  refine Run.cond _ rfl (fun hb => ?_) (fun hb => ?_)
  · have hb2 := hb
    simp at hb
  · have hb2 := hb
    refine Run.skip ?_
    refine End.kp [0, 1, 2] ?_
    refine Run.seq ?_
    refine Run.seq ?_
    have fx := And.intro d1 (And.intro boolss_len ft)
    refine Run.go ?_
    refine End.kp [1, 2, 15, 16, 17] ?_
    refine Run.block ?_
    refine Run.ghost (Ghost.form [(1, .im (.sl (boolss p))), (2, .fn 55 []), (15, .im (.sl (boolss p))), (16, .i p.length), (17, .i (0 : Nat))] 0 ⟨rfl, rfl, rfl, rfl, rfl, trivial⟩ rfl rfl) ?_
    refine Run.loop (fun m' st => ∃ i : Nat, m' = p.length - i ∧ i ≤ p.length ∧ st = ⟨[(1, .im (.sl (boolss p))), (2, .fn 55 []), (15, .im (.sl (boolss p))), (16, .i p.length), (17, .i (i : Nat))], [], up⟩) p.length ⟨0, rfl, by omega, rfl⟩ fun m' st hI => ?_
    obtain ⟨i, rfl, hi, rfl⟩ := hI
    refine Run.seq ?_
    have fx := And.intro d1 (And.intro boolss_len ft)
    refine Run.go ?_
    refine End.kp [1, 2, 15, 16, 17, 18] ?_
    refine Run.seq ?_
    refine Run.cond _ rfl (fun hb => ?_) (fun hb => ?_)
    · have hb2 := of_decide_eq_true hb
      have hin : i < p.length := by omega
      have wi := wsucc hin (by omega)
      obtain ⟨r, hri, hrm, _, hrr⟩ := boolss_at p i hin
      have hrl := hr r hrm
      have hil : (i : Int) < (p.length : Int) := by omega
      refine Run.skip ?_
      refine End.kp [1, 2, 15, 16, 17] ?_
      refine Run.seq ?_
      refine Run.block ?_
      refine Run.seq ?_
      have fx := And.intro (@Int.toNat_natCast) (And.intro (@Int.natCast_nonneg) (And.intro hil (And.intro hrr (And.intro wi (And.intro d1 (And.intro boolss_len ft))))))
      refine Run.go ?_
      refine End.kp [1, 2, 7, 8, 15, 16, 17] ?_
      refine Run.seq ?_
      refine Run.go ?_
      refine End.kp [1, 2, 8, 9, 15, 16, 17] ?_
      refine Run.seq ?_
      refine Run.region rfl fun K hK => GOps.sim ?_
      refine GOps.call rfl rfl rfl rfl (by kernel_rfl) (ACalls.sim ?_)
      refine (EqB_same r r rfl (by omega) _).mono fun v u hv => ?_
      obtain ⟨rfl, rfl⟩ := hv
      refine ⟨_, _, rfl, GOps.sim ?_⟩
      refine GOps.done (hK _ ?_); clear hK K
      refine End.kp [1, 2, 15, 16, 17, 30] ?_
      refine Run.cond _ rfl (fun hb => ?_) (fun hb => ?_)
      · have hb2 := hb
        simp at hb
      · have hb2 := hb
        refine Run.skip ?_
        refine End.blk ?_
        refine End.kp [1, 2, 15, 16, 17] ?_
        have fx := And.intro (@Int.toNat_natCast) (And.intro (@Int.natCast_nonneg) (And.intro hil (And.intro hrr (And.intro wi (And.intro d1 (And.intro boolss_len ft))))))
        refine Run.go ?_
        refine End.lp ?_
        refine ⟨p.length - (i + 1), _, by omega, Ghost.form [(1, .im (.sl (boolss p))), (2, .fn 55 []), (15, .im (.sl (boolss p))), (16, .i p.length), (17, .i (i + 1 : Nat))] 0 ⟨rfl, rfl, rfl, rfl, rfl, trivial⟩ rfl rfl, i + 1, rfl, by omega, rfl⟩
    · have hb2 := of_decide_eq_false hb
      refine Run.exit rfl ?_
      refine End.kp [] ?_
      refine Run.seq ?_
      have fx := And.intro d1 (And.intro boolss_len ft)
      refine Run.go ?_
      refine End.kp [6] ?_
      refine Run.ret (hQ _ _ ⟨.inr rfl, _, rfl, _, rfl, ?_⟩)
      exact ⟨rfl, rfl⟩
theorem runs_ok (a b : LGraph) (ha : GraphOk a) (hb : GraphOk b) (tr : List (List Bool)) (hn : tr.length ≤ 64) (hta : ∀ r ∈ tr, r.length = a.inn.length) (htb : ∀ r ∈ tr, r.length = b.inn.length) (hs : runI b tr = runI a tr) (up : Frs) : ACalls Try.prog 67 [a.pv, b.pv, .im (.sl (boolss tr))] up fun v u => v = .im (.bool true) ∧ u = up := by
  have h1 := GRun_ok a ha tr hn hta
  have h2 := GRun_ok b hb tr hn htb
  rw [show runG b (lanes0 (initG b)) tr = runI a tr from hs] at h2
  have hl := runG_len a tr (lanes0 (initG a))
  have hr := runG_row a tr (lanes0 (initG a))
  have ho := ha.small.outs
  unfold runI at h2
  generalize runG a (lanes0 (initG a)) tr = O at h1 h2 hl hr
  refine ACalls.code Try.func67 rfl 41 rfl (by simp) [.tmp 6] rfl fun Q hQ => ?_
  simp only [ups, PV.up, argEnv]
  have ft := And.intro ty_3 (And.intro ty_4 (And.intro ty_34 (And.intro ty_51 (And.intro ty_58 (And.intro ty_71 trivial)))))
  refine Run.seq ?_
  have fx := And.intro hl (And.intro boolss_len ft)
  refine Run.go ?_
  refine End.kp [2, 3, 4] ?_
  refine Run.seq ?_
  refine Run.region rfl fun K hK => GOps.sim ?_
  refine GOps.call rfl rfl rfl rfl (by kernel_rfl) (ACalls.sim ?_)
  refine (h1 _).mono fun v u hv => ?_
  obtain ⟨rfl, rfl⟩ := hv
  refine ⟨_, _, rfl, GOps.sim ?_⟩
  refine GOps.done (hK _ ?_); clear hK K
  refine End.kp [2, 4, 7, 8] ?_
  refine Run.seq ?_
  refine Run.region rfl fun K hK => GOps.sim ?_
  refine GOps.call rfl rfl rfl rfl (by kernel_rfl) (ACalls.sim ?_)
  refine (h2 _).mono fun v u hv => ?_
  obtain ⟨rfl, rfl⟩ := hv
  refine ⟨_, _, rfl, GOps.sim ?_⟩
  refine GOps.done (hK _ ?_); clear hK K
  refine End.kp [2, 7, 8, 9, 10] ?_
  refine Run.seq ?_
  refine Run.region rfl fun K hK => GOps.sim ?_
  refine GOps.call rfl rfl rfl rfl (by kernel_rfl) (ACalls.sim ?_)
  refine (EqF_same O (by omega) (fun r h => by rw [hr r h]; omega) _).mono fun v u hv => ?_
  obtain ⟨rfl, rfl⟩ := hv
  refine ⟨_, _, rfl, GOps.sim ?_⟩
  refine GOps.done (hK _ ?_); clear hK K
  refine End.kp [6] ?_
  refine Run.ret (hQ _ _ ⟨.inr rfl, _, rfl, _, rfl, ?_⟩)
  exact ⟨rfl, rfl⟩
theorem Tidies_walk (l : List Int) (hs : StmOk l 0) (hlaw : TidyLaw) (up : Frs) : ACalls Try.prog 12 [.im (.sl (ints l))] up fun v u => v = .im (.bool true) ∧ u = up := by
  have ok : ∀ b : Int, 0 ≤ b → b ≤ 100000 → StmOk l b := fun b h1 h2 => ⟨hs.vals, hs.len, h1, by omega⟩
  have hSm := Small_ok 30 (by omega) l 0 hs (by omega)
  obtain ⟨hg, hb1, hb2⟩ := small_ok l 0 30 (by omega)
  obtain ⟨hi4, hr3⟩ := small_len l 0 30
  generalize smallV l 0 30 = M at hSm hg hb1 hb2 hi4 hr3
  obtain ⟨g, b⟩ := M
  simp only at hSm hg hb1 hb2 hi4 hr3
  obtain ⟨z1, z2, z3, z4, z5⟩ := hg.small
  have hP := Played_ok 12 g.inn.length (by omega) (by omega) l b (ok _ (by omega) (by omega)) (by omega)
  have hr := playedV_row l g.inn.length b 12
  have hl := playedV_len l g.inn.length b 12
  generalize playedV l g.inn.length b 12 = PA at hP hr hl
  obtain ⟨tr, c⟩ := PA
  simp only at hP hr hl
  have k1 := Clean_ok g hg
  have ga := hlaw.clean g hg
  have r1 := hlaw.cleanRun g hg tr hr
  have ia : (cleanL g).inn = g.inn := rfl
  have k2 := Strash_ok (cleanL g) ga
  have gb := hlaw.strash _ ga
  have r2 := hlaw.strashRun _ ga tr hr
  have ib : (strashL (cleanL g)).inn = g.inn := rfl
  have k3 := Clean_ok _ gb
  have gc := hlaw.clean _ gb
  have r3 := hlaw.cleanRun _ gb tr hr
  have ic : (cleanL (strashL (cleanL g))).inn = g.inn := rfl
  have k4 := Strash_ok _ gc
  have n1 := hlaw.less g hg
  have n2 := hlaw.again _ ga
  rw [r2, r1] at r3
  rw [r1] at r2
  have e1 : movedG g (cleanG g).1 (cleanG g).2.1 = cleanL g := rfl
  rw [e1] at k1
  generalize cleanL g = A at k1 ga r1 ia k2 gb r2 ib k3 gc r3 ic k4 n1 n2
  have e2 : movedG A (strashG A).1.ands (strashG A).2 = strashL A := rfl
  rw [e2] at k2
  generalize strashL A = B at k2 gb r2 ib k3 gc r3 ic k4 n1 n2
  have e3 : movedG B (cleanG B).1 (cleanG B).2.1 = cleanL B := rfl
  rw [e3] at k3
  generalize cleanL B = C at k3 gc r3 ic k4 n1 n2
  have e4 : movedG C (strashG C).1.ands (strashG C).2 = strashL C := rfl
  rw [e4] at k4
  generalize strashL C = D at k4 n2
  have d1 : ((D.ands.length : Int) == C.ands.length) = true := by rw [n2]; simp
  have d2 : decide ((C.ands.length : Int) ≤ A.ands.length) = true := decide_eq_true (by omega)
  refine ACalls.code Try.func12 rfl 104 rfl (by simp) [.tmp 2] rfl fun Q hQ => ?_
  simp only [ups, PV.up, argEnv]
  have ft := And.intro ty_2 (And.intro ty_3 (And.intro ty_4 (And.intro ty_9 (And.intro ty_22 (And.intro ty_23 (And.intro ty_25 (And.intro ty_26 (And.intro ty_34 (And.intro ty_48 (And.intro ty_49 (And.intro ty_51 (And.intro ty_58 (And.intro ty_62 (And.intro ty_71 (And.intro ty_137 trivial)))))))))))))))
  refine Run.seq ?_
  have fx := And.intro d2 (And.intro d1 (And.intro nd_len (And.intro strs_len ft)))
  refine Run.go ?_
  refine End.kp [0] ?_
  refine Run.seq ?_
  refine Run.go ?_
  refine End.kp [3] ?_
  refine Run.seq ?_
  refine Run.region rfl fun K hK => GOps.sim ?_
  refine GOps.call rfl rfl rfl rfl (by kernel_rfl) (ACalls.sim ?_)
  refine (hSm _ 0 0 rfl).mono fun v u hv => ?_
  obtain ⟨rfl, rfl⟩ := hv
  refine ⟨_, _, rfl, GOps.sim ?_⟩
  refine GOps.done (hK _ ?_); clear hK K
  refine End.kp [3, 4] ?_
  refine Run.seq ?_
  refine Run.region rfl fun K hK => GOps.sim ?_
  refine GOps.call rfl rfl rfl rfl (by kernel_rfl) (ACalls.sim ?_)
  refine (hP _ 0 0 rfl).mono fun v u hv => ?_
  obtain ⟨rfl, rfl⟩ := hv
  refine ⟨_, _, rfl, GOps.sim ?_⟩
  refine GOps.done (hK _ ?_); clear hK K
  refine End.kp [4, 5] ?_
  refine Run.seq ?_
  refine Run.region rfl fun K hK => GOps.sim ?_
  refine GOps.call rfl rfl rfl rfl (by kernel_rfl) (ACalls.sim ?_)
  refine (k1 _).mono fun v u hv => ?_
  obtain ⟨rfl, rfl⟩ := hv
  refine ⟨_, _, rfl, GOps.sim ?_⟩
  refine GOps.done (hK _ ?_); clear hK K
  refine End.kp [4, 5, 6, 8] ?_
  refine Run.seq ?_
  refine Run.region rfl fun K hK => GOps.sim ?_
  refine GOps.call rfl rfl rfl rfl (by kernel_rfl) (ACalls.sim ?_)
  refine (k2 _).mono fun v u hv => ?_
  obtain ⟨rfl, rfl⟩ := hv
  refine ⟨_, _, rfl, GOps.sim ?_⟩
  refine GOps.done (hK _ ?_); clear hK K
  refine End.kp [4, 5, 6, 8, 9, 11] ?_
  refine Run.seq ?_
  refine Run.region rfl fun K hK => GOps.sim ?_
  refine GOps.call rfl rfl rfl rfl (by kernel_rfl) (ACalls.sim ?_)
  refine (k3 _).mono fun v u hv => ?_
  obtain ⟨rfl, rfl⟩ := hv
  refine ⟨_, _, rfl, GOps.sim ?_⟩
  refine GOps.done (hK _ ?_); clear hK K
  refine End.kp [4, 5, 6, 8, 9, 11, 12, 14] ?_
  refine Run.seq ?_
  refine Run.region rfl fun K hK => GOps.sim ?_
  refine GOps.call rfl rfl rfl rfl (by kernel_rfl) (ACalls.sim ?_)
  refine (k4 _).mono fun v u hv => ?_
  obtain ⟨rfl, rfl⟩ := hv
  refine ⟨_, _, rfl, GOps.sim ?_⟩
  refine GOps.done (hK _ ?_); clear hK K
  refine End.kp [4, 5, 6, 8, 9, 11, 12, 14, 15, 17] ?_
  refine Run.seq ?_
  refine Run.seq ?_
  refine Run.region rfl fun K hK => GOps.sim ?_
  refine GOps.call rfl rfl rfl rfl (by kernel_rfl) (ACalls.sim ?_)
  refine (graphs_ok _).mono fun v u hv => ?_
  obtain ⟨rfl, rfl⟩ := hv
  refine ⟨_, _, rfl, GOps.sim ?_⟩
  refine GOps.done (hK _ ?_); clear hK K
  refine End.kp [4, 5, 6, 9, 12, 15, 69] ?_
  refine Run.cond _ rfl (fun hb => ?_) (fun hb => ?_)
  · have hb2 := hb
    simp at hb
  · have hb2 := hb
    refine Run.skip ?_
    refine End.kp [4, 5, 6, 9, 12, 15] ?_
    refine Run.seq ?_
    have fx := And.intro d2 (And.intro d1 (And.intro nd_len (And.intro strs_len ft)))
    refine Run.region rfl fun K hK => GOps.sim ?_
    refine GOps.call rfl rfl rfl rfl (by kernel_rfl) (ACalls.sim ?_)
    refine (runs_ok g A hg ga tr (by omega) hr (by rw [ia]; exact hr) r1 _).mono fun v u hv => ?_
    obtain ⟨rfl, rfl⟩ := hv
    refine ⟨_, _, rfl, GOps.sim ?_⟩
    refine GOps.call rfl rfl rfl rfl (by kernel_rfl) (ACalls.sim ?_)
    refine (runs_ok g B hg gb tr (by omega) hr (by rw [ib]; exact hr) r2 _).mono fun v u hv => ?_
    obtain ⟨rfl, rfl⟩ := hv
    refine ⟨_, _, rfl, GOps.sim ?_⟩
    refine GOps.call rfl rfl rfl rfl (by kernel_rfl) (ACalls.sim ?_)
    refine (runs_ok g C hg gc tr (by omega) hr (by rw [ic]; exact hr) r3 _).mono fun v u hv => ?_
    obtain ⟨rfl, rfl⟩ := hv
    refine ⟨_, _, rfl, GOps.sim ?_⟩
    refine GOps.done (hK _ ?_); clear hK K
    refine End.kp [2] ?_
    refine Run.ret (hQ _ _ ⟨.inr rfl, _, rfl, _, rfl, ?_⟩)
    exact ⟨rfl, rfl⟩
end Go.Proofs.YtkmnmokjlpenhaaPi
