/- The walk of GatingHolds. -/
import Derived.Test.YtkmnmokjlpenhaaWU
import Derived.Test.YtkmnmokjlpenhaaWQ
set_option linter.unusedVariables false
set_option linter.unusedSimpArgs false
set_option maxRecDepth 100000
namespace Go.Proofs.YtkmnmokjlpenhaaPi
set_option maxHeartbeats 4000000
/-- What the law asks of a graph, its enables and its values: in plain words, no program in sight. -/
def GatesAt (g : LGraph) (inn st : List Int) : Prop :=
  ∀ i, i < g.regs.length → (0 ≤ (enV g i).1 ∧ (enV g i).1 < 2 * (1 + (g.inn.length : Int) + g.regs.length + g.ands.length)) ∧ (0 ≤ (enV g i).2 ∧ (enV g i).2 < 2 * (1 + (g.inn.length : Int) + g.regs.length + g.ands.length)) ∧
    ofV (graphVals g inn st) (g.regs.getD i regD).next = bits .or .u64 (bits .and .u64 (ofV (graphVals g inn st) (enV g i).1) (ofV (graphVals g inn st) (enV g i).2)) (bits .and .u64 (vnot (ofV (graphVals g inn st) (enV g i).1)) (st.getD i 0))
theorem spreadV_len (rows : List (List Bool)) (K : Nat) : (spreadV rows K).length = K := by simp [spreadV]
theorem Gating_walk (l : List Int) (hs : StmOk l 0) (hlaw : ∀ (g : LGraph) (inn st : List Int), GraphOk g → inn.length = g.inn.length → st.length = g.regs.length → (∃ rows, st = spreadV rows g.regs.length) → (∃ rows, inn = spreadV rows g.inn.length) → GatesAt g inn st) (up : Frs) : ACalls Try.prog 4 [.im (.sl (ints l))] up fun v u => v = .im (.bool true) ∧ u = up := by
  have ok : ∀ b : Int, 0 ≤ b → b ≤ 100000 → StmOk l b := fun b h1 h2 => ⟨hs.vals, hs.len, h1, by omega⟩
  have hMov := Moving_ok 14 (by omega) (by omega) l 0 hs (by omega)
  obtain ⟨hg, hb1, hb2, hi1, hi2, _, _⟩ := moving_ok l 0 14 (by omega) (by omega)
  generalize movingV l 0 14 = M at hMov hg hb1 hb2 hi1 hi2
  obtain ⟨g, b⟩ := M
  simp only at hMov hg hb1 hb2 hi1 hi2
  obtain ⟨z1, z2, z3, z4, z5⟩ := hg.small
  have hp1 := playedV_pos l g.inn.length b 64
  have hP1 := Played_ok 64 g.inn.length (by omega) (by omega) l b (ok _ (by omega) (by omega)) (by omega)
  have hr1 := playedV_row l g.inn.length b 64
  have hl1 := playedV_len l g.inn.length b 64
  generalize playedV l g.inn.length b 64 = PA at hp1 hP1 hr1 hl1
  obtain ⟨rowsA, c⟩ := PA
  simp only at hp1 hP1 hr1 hl1
  have hp2 := playedV_pos l g.regs.length c 64
  have hP2 := Played_ok 64 g.regs.length (by omega) (by omega) l c (ok _ (by omega) (by omega)) (by omega)
  have hr2 := playedV_row l g.regs.length c 64
  have hl2 := playedV_len l g.regs.length c 64
  generalize playedV l g.regs.length c 64 = PB at hp2 hP2 hr2 hl2
  obtain ⟨rowsB, e⟩ := PB
  simp only at hp2 hP2 hr2 hl2
  have hsA := spread_ok rowsA g.inn.length (by omega) (by intro h; rw [h] at hl1; simp at hl1) (by omega) hr1
  have hsB := spread_ok rowsB g.regs.length (by omega) (by intro h; rw [h] at hl2; simp at hl2) (by omega) hr2
  obtain ⟨inn, hinn⟩ : ∃ inn, inn = spreadV rowsA g.inn.length := ⟨_, rfl⟩
  obtain ⟨st, hst⟩ : ∃ st, st = spreadV rowsB g.regs.length := ⟨_, rfl⟩
  rw [← hinn] at hsA
  rw [← hst] at hsB
  have li : inn.length = g.inn.length := by rw [hinn, spreadV_len]
  have ls : st.length = g.regs.length := by rw [hst, spreadV_len]
  have hV := GValues_ok g hg inn st li ls
  have hLaw := hlaw g inn st hg li ls ⟨_, hst⟩ ⟨_, hinn⟩
  have hvl := graphVals_len g inn st li ls
  unfold GatesAt at hLaw
  generalize graphVals g inn st = V at hV hLaw hvl
  have hel : ((enablesV g).map nd).length = g.regs.length := by simp [enablesV]
  have d1 : ((g.regs.length : Int) != g.regs.length) = false := by simp
  refine ACalls.code Try.func4 rfl 118 rfl (by simp) [.tmp 2] rfl fun Q hQ => ?_
  simp only [ups, PV.up, argEnv]
  have ft := And.intro ty_2 (And.intro ty_3 (And.intro ty_4 (And.intro ty_9 (And.intro ty_22 (And.intro ty_23 (And.intro ty_25 (And.intro ty_26 (And.intro ty_27 (And.intro ty_34 (And.intro ty_37 (And.intro ty_47 (And.intro ty_51 (And.intro ty_53 (And.intro ty_56 (And.intro ty_58 (And.intro ty_62 (And.intro ty_67 (And.intro ty_69 (And.intro ty_71 (And.intro ty_78 trivial))))))))))))))))))))
  refine Run.seq ?_
  have fx := And.intro us_len (And.intro d1 (And.intro hel (And.intro rim_len (And.intro strs_len ft))))
  refine Run.go ?_
  refine End.kp [0] ?_
  refine Run.seq ?_
  refine Run.go ?_
  refine End.kp [3] ?_
  refine Run.seq ?_
  refine Run.region rfl fun K hK => GOps.sim ?_
  refine GOps.call rfl rfl rfl rfl (by kernel_rfl) (ACalls.sim ?_)
  refine (hMov _ 0 0 rfl).mono fun v u hv => ?_
  obtain ⟨rfl, rfl⟩ := hv
  refine ⟨_, _, rfl, GOps.sim ?_⟩
  refine GOps.done (hK _ ?_); clear hK K
  refine End.kp [3, 4] ?_
  refine Run.seq ?_
  refine Run.region rfl fun K hK => GOps.sim ?_
  refine GOps.call rfl rfl rfl rfl (by kernel_rfl) (ACalls.sim ?_)
  refine (Enables_ok g hg _).mono fun v u hv => ?_
  obtain ⟨rfl, rfl⟩ := hv
  refine ⟨_, _, rfl, GOps.sim ?_⟩
  refine GOps.done (hK _ ?_); clear hK K
  refine End.kp [3, 4, 5, 6] ?_
  refine Run.seq ?_
  refine Run.drawA fun K hK => ?_
  refine DOps.sim ?_
  refine DOps.call (.im (.sl (boolss rowsA))) [((0, 0), stm l b)] [((0, 0), stm l c)] rfl rfl rfl rfl (by kernel_rfl) (by simp [Agree, ASt.fr]) (fun u hu => hP1 u 0 0 (hu ((0, 0), stm l b) (by simp))) ?_
  refine DOps.sim ?_
  refine DOps.call (.im (.sl (us inn))) [] [] rfl rfl rfl rfl (by kernel_rfl) (by simp [Agree]) (fun u hu => hsA u) ?_
  refine DOps.sim ?_
  refine DOps.call (.im (.sl (boolss rowsB))) [((0, 0), stm l c)] [((0, 0), stm l e)] rfl rfl rfl rfl (by kernel_rfl) (by simp [Agree, ASt.fr]) (fun u hu => hP2 u 0 0 (hu ((0, 0), stm l c) (by simp))) ?_
  refine DOps.sim ?_
  refine DOps.call (.im (.sl (us st))) [] [] rfl rfl rfl rfl (by kernel_rfl) (by simp [Agree]) (fun u hu => hsB u) ?_
  refine DOps.sim ?_
  refine DOps.nil (by rfl) (hK _ ?_); clear hK K
  refine End.kp [4, 5, 6, 7, 8] ?_
  refine Run.seq ?_
  refine Run.region rfl fun K hK => GOps.sim ?_
  refine GOps.call rfl rfl rfl rfl (by kernel_rfl) (ACalls.sim ?_)
  refine (hV _).mono fun v u hv => ?_
  obtain ⟨rfl, rfl⟩ := hv
  refine ⟨_, _, rfl, GOps.sim ?_⟩
  refine GOps.done (hK _ ?_); clear hK K
  refine End.kp [4, 5, 6, 8, 9, 10] ?_
  refine Run.seq ?_
  refine Run.seq ?_
  refine Run.region rfl fun K hK => GOps.sim ?_
  refine GOps.call rfl rfl rfl rfl (by kernel_rfl) (ACalls.sim ?_)
  refine (gated_ok _).mono fun v u hv => ?_
  obtain ⟨rfl, rfl⟩ := hv
  refine ⟨_, _, rfl, GOps.sim ?_⟩
  refine GOps.done (hK _ ?_); clear hK K
  refine End.kp [4, 5, 8, 9, 61] ?_
  refine Run.cond _ rfl (fun hb => ?_) (fun hb => ?_)
  · have hb2 := hb
    simp at hb
  · have hb2 := hb
    refine Run.skip ?_
    refine End.kp [4, 5, 8, 9] ?_
    refine Run.seq ?_
    have fx := And.intro us_len (And.intro d1 (And.intro hel (And.intro rim_len (And.intro strs_len ft))))
    refine Run.go ?_
    refine End.kp [4, 5, 8, 9, 11] ?_
    refine Run.seq ?_
    refine Run.seq ?_
    refine Run.go ?_
    refine End.kp [4, 8, 9, 11, 63, 64, 65] ?_
    refine Run.block ?_
    refine Run.ghost (Ghost.form [(4, .ptr 0 1 0), (8, .im (.sl (us st))), (9, .ptr 0 2 0), (11, .fn 27 [.ptr 0 2 0]), (63, .im (.sl ((enablesV g).map nd))), (64, .i g.regs.length), (65, .i (0 : Nat))] 3 ⟨rfl, rfl, rfl, rfl, rfl, rfl, rfl, trivial⟩ rfl rfl) ?_
    refine Run.loop (fun m s => ∃ (i : Nat), m = g.regs.length - i ∧ i ≤ g.regs.length ∧ s = ⟨[(4, .ptr 0 1 0), (8, .im (.sl (us st))), (9, .ptr 0 2 0), (11, .fn 27 [.ptr 0 2 0]), (63, .im (.sl ((enablesV g).map nd))), (64, .i g.regs.length), (65, .i (i : Nat))], [stm l e, .box [.im (.sl (strs g.inn)), .im (.sl (strs g.out)), .im (.sl (g.regs.map LReg.im)), .im (.sl (g.ands.map nd)), .im (.sl (ints g.outs))], .box [.im (.sl (us V))]], up⟩) g.regs.length ⟨0, rfl, by omega, rfl⟩ fun m s hI => ?_
    obtain ⟨i, rfl, hi, rfl⟩ := hI
    refine Run.seq ?_
    have fx := And.intro us_len (And.intro d1 (And.intro hel (And.intro rim_len (And.intro strs_len ft))))
    refine Run.go ?_
    refine End.kp [4, 8, 9, 11, 63, 64, 65, 66] ?_
    refine Run.seq ?_
    refine Run.cond _ rfl (fun hb => ?_) (fun hb => ?_)
    · have hb2 := of_decide_eq_true hb
      have hin : i < g.regs.length := by omega
      have wi := wsucc hin (by omega)
      obtain ⟨r, hri, hrm, hr⟩ := reg_at g.regs i hin
      obtain ⟨y1, y2⟩ := hg.regs r hrm
      have hen : ((enablesV g).map nd)[i]? = some [.int .i64 (enV g i).1, .int .i64 (enV g i).2] := by simp [enablesV, hin]
      obtain ⟨⟨x1, x2⟩, ⟨x3, x4⟩, hE⟩ := hLaw i hin
      rw [show g.regs.getD i regD = r by simp [hri]] at hE
      generalize enV g i = x at hen x1 x2 x3 x4 hE
      have hst2 := us_get st i (by omega)
      have d2 : decide (x.1 < 0) = false := decide_eq_false (by omega)
      have d3 : decide (x.2 < 0) = false := decide_eq_false (by omega)
      have d4 : decide ((V.length : Int) ≤ if x.1 / 2 < x.2 / 2 then x.2 / 2 else x.1 / 2) = false := decide_eq_false (by split <;> omega)
      refine Run.skip ?_
      refine End.kp [4, 8, 9, 11, 63, 64, 65] ?_
      refine Run.seq ?_
      refine Run.block ?_
      refine Run.seq ?_
      have fx := And.intro (@Int.toNat_natCast) (And.intro (@Int.natCast_nonneg) (And.intro (@ge_iff_le Int _) (And.intro hst2 (And.intro d4 (And.intro d3 (And.intro d2 (And.intro hen (And.intro hr (And.intro wi (And.intro us_len (And.intro d1 (And.intro hel (And.intro rim_len (And.intro strs_len ft))))))))))))))
      refine Run.go ?_
      refine End.kp [4, 8, 9, 11, 12, 13, 63, 64, 65] ?_
      refine Run.seq ?_
      refine Run.seq ?_
      refine Run.drawA fun K hK => ?_
      refine DOps.sim ?_
      refine DOps.call (.i (x.1 / 2)) [] [] rfl rfl rfl rfl (by kernel_rfl) (by simp [Agree]) (fun u hu => Node_ok x.1 x1 (by omega) u) ?_
      refine DOps.sim ?_
      refine DOps.call (.i (x.2 / 2)) [] [] rfl rfl rfl rfl (by kernel_rfl) (by simp [Agree]) (fun u hu => Node_ok x.2 x3 (by omega) u) ?_
      refine DOps.sim ?_
      refine DOps.nil (by rfl) (hK _ ?_); clear hK K
      refine End.kp [4, 8, 9, 11, 12, 13, 63, 64, 65, 89] ?_
      refine Run.cond _ rfl (fun hb => ?_) (fun hb => ?_)
      · have hb2 := hb
        simp at hb
      · have hb2 := hb
        refine Run.skip ?_
        refine End.kp [4, 8, 9, 11, 12, 13, 63, 64, 65] ?_
        refine Run.seq ?_
        have fx := And.intro (@Int.toNat_natCast) (And.intro (@Int.natCast_nonneg) (And.intro (@ge_iff_le Int _) (And.intro hst2 (And.intro d4 (And.intro d3 (And.intro d2 (And.intro hen (And.intro hr (And.intro wi (And.intro us_len (And.intro d1 (And.intro hel (And.intro rim_len (And.intro strs_len ft))))))))))))))
        refine Run.region rfl fun K hK => GOps.sim ?_
        refine GOps.call rfl rfl rfl rfl (by kernel_rfl) (ACalls.sim ?_)
        refine (gat_ok V x.1 x1 (by omega) (by omega) _ 2 rfl).mono fun v u hv => ?_
        obtain ⟨rfl, rfl⟩ := hv
        refine ⟨_, _, rfl, GOps.sim ?_⟩
        refine GOps.done (hK _ ?_); clear hK K
        refine End.kp [4, 8, 9, 11, 12, 13, 14, 63, 64, 65] ?_
        refine Run.seq ?_
        refine Run.drawA fun K hK => ?_
        refine DOps.sim ?_
        refine DOps.call (.u (ofV V (r.next))) [((0, 2), .box [.im (.sl (us V))])] [] rfl rfl rfl rfl (by kernel_rfl) (by simp [Agree, ASt.fr]) (fun u hu => gat_ok V (r.next) y1 (by omega) (by omega) u 2 (hu (((0, 2), .box [.im (.sl (us V))])) (by simp))) ?_
        refine DOps.sim ?_
        refine DOps.call (.u (ofV V (x.2))) [((0, 2), .box [.im (.sl (us V))])] [] rfl rfl rfl rfl (by kernel_rfl) (by simp [Agree, ASt.fr]) (fun u hu => gat_ok V (x.2) x3 (by omega) (by omega) u 2 (hu (((0, 2), .box [.im (.sl (us V))])) (by simp))) ?_
        refine DOps.sim ?_
        refine DOps.nil (by rfl) (hK _ ?_); clear hK K
        refine End.kp [4, 8, 9, 11, 63, 64, 65, 116] ?_
        refine Run.cond _ rfl (fun hb => ?_) (fun hb => ?_)
        · have hb2 := hb
          rw [hE] at hb
          simp at hb
        · have hb2 := hb
          refine Run.skip ?_
          refine End.blk ?_
          refine End.kp [4, 8, 9, 11, 63, 64, 65] ?_
          have fx := And.intro (@Int.toNat_natCast) (And.intro (@Int.natCast_nonneg) (And.intro (@ge_iff_le Int _) (And.intro hst2 (And.intro d4 (And.intro d3 (And.intro d2 (And.intro hen (And.intro hr (And.intro wi (And.intro us_len (And.intro d1 (And.intro hel (And.intro rim_len (And.intro strs_len ft))))))))))))))
          refine Run.go ?_
          refine End.lp ?_
          refine ⟨g.regs.length - (i + 1), _, by omega, Ghost.form [(4, .ptr 0 1 0), (8, .im (.sl (us st))), (9, .ptr 0 2 0), (11, .fn 27 [.ptr 0 2 0]), (63, .im (.sl ((enablesV g).map nd))), (64, .i g.regs.length), (65, .i (i + 1 : Nat))] 3 ⟨rfl, rfl, rfl, rfl, rfl, rfl, rfl, trivial⟩ rfl rfl, i + 1, rfl, by omega, rfl⟩
    · have hb2 := of_decide_eq_false hb
      refine Run.exit rfl ?_
      refine End.kp [] ?_
      refine Run.seq ?_
      have fx := And.intro us_len (And.intro d1 (And.intro hel (And.intro rim_len (And.intro strs_len ft))))
      refine Run.go ?_
      refine End.kp [2] ?_
      refine Run.ret (hQ _ _ ⟨.inr rfl, _, rfl, _, rfl, ?_⟩)
      exact ⟨rfl, rfl⟩
end Go.Proofs.YtkmnmokjlpenhaaPi
