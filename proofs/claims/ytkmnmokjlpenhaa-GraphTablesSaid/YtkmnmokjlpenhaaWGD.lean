/- The walk of Strash of graphs. -/
import Derived.Test.YtkmnmokjlpenhaaWGC
set_option linter.unusedVariables false
set_option linter.unusedSimpArgs false
set_option maxRecDepth 100000
namespace Go.Proofs.YtkmnmokjlpenhaaPi
set_option maxHeartbeats 4000000
def toIn (i : Nat) : List Int := (List.range i).map fun k : Nat => 2 * (k : Int)
theorem toIn_len (i : Nat) : (toIn i).length = i := by simp [toIn]
theorem toIn_succ (i : Nat) : toIn (i + 1) = toIn i ++ [2 * (i : Int)] := by simp [toIn, List.range_succ]
def strashN (g : LGraph) : Nat → LMk × List Int
  | 0 => (⟨g.inn, g.regs, [], 0⟩, toIn (1 + g.inn.length + g.regs.length))
  | j + 1 => ((mkAnd (strashN g j).1 (atV (strashN g j).2 (g.ands.getD j (0, 0)).1) (atV (strashN g j).2 (g.ands.getD j (0, 0)).2)).2, (strashN g j).2 ++ [(mkAnd (strashN g j).1 (atV (strashN g j).2 (g.ands.getD j (0, 0)).1) (atV (strashN g j).2 (g.ands.getD j (0, 0)).2)).1])
def strashG (g : LGraph) : LMk × List Int := strashN g g.ands.length
theorem mkAnd_range (m : LMk) (a b : Int) (a0 : 0 ≤ a ∧ a < 2 * (m.first + m.ands.length)) (b0 : 0 ≤ b ∧ b < 2 * (m.first + m.ands.length)) :
    (0 ≤ (mkAnd m a b).1 ∧ (mkAnd m a b).1 < 2 * (m.first + (mkAnd m a b).2.ands.length)) ∧ (mkAnd m a b).2.inn = m.inn ∧ (mkAnd m a b).2.regs = m.regs ∧ m.ands.length ≤ (mkAnd m a b).2.ands.length ∧ (mkAnd m a b).2.ands.length ≤ m.ands.length + 1 := by
  unfold mkAnd
  split
  · refine ⟨⟨by simp, ?_⟩, rfl, rfl, Nat.le_refl _, by simp⟩
    simp only
    omega
  · split
    · refine ⟨⟨?_, ?_⟩, rfl, rfl, Nat.le_refl _, by simp⟩ <;> simp only <;> omega
    · split
      · rename_i k hk
        obtain ⟨h1, h2⟩ := findA_range _ _ _ _ hk
        have h3 := (List.getElem?_eq_some_iff.1 h2).1
        refine ⟨⟨?_, ?_⟩, rfl, rfl, Nat.le_refl _, by simp⟩ <;> simp only [LMk.first] at * <;> omega
      · refine ⟨⟨?_, ?_⟩, rfl, rfl, by simp, by simp⟩
        · simp only [LMk.first] at *; omega
        · simp only [LMk.first, List.length_append, List.length_cons, List.length_nil] at *; omega
theorem atV_range {to : List Int} {K : Int} (h : ∀ x ∈ to, 0 ≤ x ∧ x < 2 * K) (hK : 0 < K) (l : Int) : 0 ≤ atV to l ∧ atV to l < 2 * K := by
  have hg : 0 ≤ to.getD (l / 2).toNat 0 ∧ to.getD (l / 2).toNat 0 < 2 * K := by
    rw [List.getD_eq_getElem?_getD]
    cases hk : to[(l / 2).toNat]? with
    | none => simp; omega
    | some x => exact h x (List.mem_of_getElem? hk)
  unfold atV flipL
  split
  · split <;> omega
  · exact hg
structure StrashAt (g : LGraph) (j : Nat) (s : LMk × List Int) : Prop where
  inn : s.1.inn = g.inn
  regs : s.1.regs = g.regs
  ands : s.1.ands.length ≤ j
  to : ∀ x ∈ s.2, 0 ≤ x ∧ x < 2 * (1 + (g.inn.length : Int) + g.regs.length + s.1.ands.length)
  len : s.2.length = 1 + g.inn.length + g.regs.length + j
theorem strashN_at (g : LGraph) : ∀ j : Nat, StrashAt g j (strashN g j)
  | 0 => ⟨rfl, rfl, Nat.le_refl _, fun x hx => by
      simp only [strashN, toIn, List.mem_map, List.mem_range] at hx
      obtain ⟨k, hk, rfl⟩ := hx
      simp only [strashN, List.length_nil]
      omega, by simp [strashN, toIn_len]⟩
  | j + 1 => by
    obtain ⟨h1, h2, h3, h4, h5⟩ := strashN_at g j
    have hK : (strashN g j).1.first = 1 + (g.inn.length : Int) + g.regs.length := by rw [LMk.first, h1, h2]
    have ha := atV_range h4 (by omega) (g.ands.getD j (0, 0)).1
    have hb := atV_range h4 (by omega) (g.ands.getD j (0, 0)).2
    rw [← hK] at ha hb
    obtain ⟨⟨r1, r2⟩, r3, r4, r5, r6⟩ := mkAnd_range (strashN g j).1 _ _ ha hb
    rw [hK] at r2
    refine ⟨by rw [strashN, r3, h1], by rw [strashN, r4, h2], by rw [strashN]; simp only; omega, fun x hx => ?_, by rw [strashN]; simp [h5]; omega⟩
    rw [strashN] at hx ⊢
    simp only [List.mem_append, List.mem_singleton] at hx ⊢
    rcases hx with hx | rfl
    · have := h4 x hx; omega
    · exact ⟨r1, r2⟩
theorem Strash_ok (g : LGraph) (hg : GraphOk g) (up : Frs) : ACalls Try.prog 66 [g.pv] up fun v u => v = .tup [(movedG g (strashG g).1.ands (strashG g).2).pv, .im (.sl (ints (strashG g).2)), .i 0] ∧ u = up := by
  have hsm := hg.small
  obtain ⟨z1, z2, z3, z4, z5⟩ := hg.small
  obtain ⟨F, hF⟩ : ∃ F, F = 1 + g.inn.length + g.regs.length := ⟨_, rfl⟩
  have hFi : 1 + (g.inn.length : Int) + g.regs.length = (F : Int) := by omega
  refine ACalls.code Try.func66 rfl 75 rfl (by simp) [.cell 2 51, .tmp 3, .tmp 4] rfl fun Q hQ => ?_
  simp only [ups, PV.up, argEnv]
  have ft := And.intro ty_2 (And.intro ty_3 (And.intro ty_4 (And.intro ty_9 (And.intro ty_26 (And.intro ty_34 (And.intro ty_47 (And.intro ty_48 (And.intro ty_49 (And.intro ty_51 (And.intro ty_62 (And.intro ty_69 (And.intro ty_109 (And.intro ty_137 (And.intro ty_170 trivial))))))))))))))
  refine Run.seq ?_
  have fx := And.intro ints_len (And.intro nd_len (And.intro rim_len (And.intro strs_len ft)))
  refine Run.go ?_
  refine End.kp [1, 2] ?_
  refine Run.seq ?_
  refine Run.seq ?_
  refine Run.region rfl fun K hK => GOps.sim ?_
  refine GOps.call rfl rfl rfl rfl (by kernel_rfl) (ACalls.sim ?_)
  refine (Check_ok g hg _).mono fun v u hv => ?_
  obtain ⟨rfl, rfl⟩ := hv
  refine ⟨_, _, rfl, GOps.sim ?_⟩
  refine GOps.done (hK _ ?_); clear hK K
  refine End.kp [1, 2, 5] ?_
  refine Run.seq ?_
  refine Run.go ?_
  refine End.kp [1, 2, 5, 14] ?_
  refine Run.cond _ rfl (fun hb => ?_) (fun hb => ?_)
  · have hb2 := hb
    simp at hb
  · have hb2 := hb
    refine Run.skip ?_
    refine End.kp [1, 2] ?_
    refine Run.seq ?_
    have fx := And.intro ints_len (And.intro nd_len (And.intro rim_len (And.intro strs_len ft)))
    refine Run.region rfl fun K hK => GOps.sim ?_
    refine GOps.call rfl rfl rfl rfl (by kernel_rfl) (ACalls.sim ?_)
    refine (New_ok g.inn g.regs (by omega) (by omega) _ _).mono fun v u hv => ?_
    obtain ⟨rfl, rfl⟩ := hv
    refine ⟨_, _, rfl, GOps.sim ?_⟩
    refine GOps.done (hK _ ?_); clear hK K
    refine End.kp [1, 2, 6] ?_
    refine Run.seq ?_
    refine Run.go ?_
    refine End.kp [1, 2, 6, 7] ?_
    refine Run.seq ?_
    refine Run.seq ?_
    refine Run.region rfl fun K hK => GOps.sim ?_
    refine GOps.call rfl rfl rfl rfl (by kernel_rfl) (ACalls.sim ?_)
    refine (GFirst_ok g hsm _).mono fun v u hv => ?_
    obtain ⟨rfl, rfl⟩ := hv
    refine ⟨_, _, rfl, GOps.sim ?_⟩
    refine GOps.done (hK _ ?_); clear hK K
    refine End.kp [1, 2, 6, 7, 23, 24] ?_
    refine Run.block ?_
    refine Run.ghost (Ghost.thaw (u := 7) 62 1 (by decide) rfl) ?_
    refine Run.ghost (Ghost.form [(1, .ptr 0 0 0), (2, .ptr 0 1 0), (6, .ptr 0 3 0), (7, .ms 0 5 (0)), (23, .i (1 + g.inn.length + g.regs.length)), (24, .i (0 : Nat))] 6 ⟨rfl, rfl, rfl, rfl, rfl, rfl, trivial⟩ rfl rfl) ?_
    refine Run.loop (fun m st => ∃ (i : Nat), m = F - i ∧ i ≤ F ∧ st = ⟨[(1, .ptr 0 0 0), (2, .ptr 0 1 0), (6, .ptr 0 3 0), (7, .ms 0 5 (i)), (23, .i (1 + g.inn.length + g.regs.length)), (24, .i (i : Nat))], [.box [.im (.sl (strs g.inn)), .im (.sl (strs g.out)), .im (.sl (g.regs.map LReg.im)), .im (.sl (g.ands.map nd)), .im (.sl (ints g.outs))], .box [.nils, .nils, .nils, .nils, .nils], mkMap (⟨g.inn, g.regs, [], 0⟩), mkBox 4 2 (⟨g.inn, g.regs, [], 0⟩), mkRow (⟨g.inn, g.regs, [], 0⟩), .row 62 1 (ints (toIn i)) 0], up⟩) F ⟨0, rfl, by omega, rfl⟩ fun m st hI => ?_
    obtain ⟨i, rfl, hi, rfl⟩ := hI
    have hti : (ints (toIn i)).length = i := by rw [ints_len, toIn_len]
    have hap : (i + 1) * 8 ≤ 140737488355328 := by omega
    refine Run.seq ?_
    have fx := And.intro hap (And.intro hti (And.intro ints_len (And.intro nd_len (And.intro rim_len (And.intro strs_len ft)))))
    refine Run.go ?_
    refine End.kp [1, 2, 6, 7, 23, 24, 25] ?_
    refine Run.seq ?_
    refine Run.cond _ rfl (fun hb => ?_) (fun hb => ?_)
    · have hb2 := of_decide_eq_true hb
      have hin : i < F := by omega
      have wi := wsucc hin (by omega)
      have w2 : IntKind.i64.wrap (2 * (i : Int)) = 2 * (i : Int) := wrap64 (by omega)
      refine Run.skip ?_
      refine End.kp [1, 2, 6, 7, 23, 24] ?_
      refine Run.seq ?_
      refine Run.block ?_
      refine Run.seq ?_
      have fx := And.intro w2 (And.intro wi (And.intro hap (And.intro hti (And.intro ints_len (And.intro nd_len (And.intro rim_len (And.intro strs_len ft)))))))
      refine Run.go ?_
      refine End.kp [1, 2, 6, 7, 8, 23, 24] ?_
      refine Run.go ?_
      refine End.blk ?_
      refine End.kp [1, 2, 6, 7, 23, 24] ?_
      refine Run.go ?_
      refine End.lp ?_
      refine ⟨F - (i + 1), _, by omega, Ghost.form [(1, .ptr 0 0 0), (2, .ptr 0 1 0), (6, .ptr 0 3 0), (7, .ms 0 5 (i + 1)), (23, .i (1 + g.inn.length + g.regs.length)), (24, .i (i + 1 : Nat))] 6 ⟨rfl, rfl, rfl, rfl, rfl, rfl, trivial⟩ rfl rfl, i + 1, rfl, by omega, ?_⟩
      rw [toIn_succ, ints_snoc]
      rfl
    · have hb2 := of_decide_eq_false hb
      have hiN : i = F := by omega
      subst hiN
      subst hF
      refine Run.exit rfl ?_
      refine End.kp [1, 2, 6, 7] ?_
      refine Run.seq ?_
      refine Run.seq ?_
      have fx := And.intro hap (And.intro hti (And.intro ints_len (And.intro nd_len (And.intro rim_len (And.intro strs_len ft)))))
      refine Run.go ?_
      refine End.kp [1, 2, 6, 7, 34, 35, 36] ?_
      refine Run.block ?_
      refine Run.ghost (Ghost.form [(1, .ptr 0 0 0), (2, .ptr 0 1 0), (6, .ptr 0 3 0), (7, .ms 0 5 (1 + g.inn.length + g.regs.length + 0)), (34, .im (.sl (g.ands.map nd))), (35, .i g.ands.length), (36, .i (0 : Nat))] 6 ⟨rfl, rfl, rfl, rfl, rfl, rfl, rfl, trivial⟩ rfl rfl) ?_
      refine Run.loop (fun m st => ∃ (j : Nat), m = g.ands.length - j ∧ j ≤ g.ands.length ∧ st = ⟨[(1, .ptr 0 0 0), (2, .ptr 0 1 0), (6, .ptr 0 3 0), (7, .ms 0 5 (1 + g.inn.length + g.regs.length + j)), (34, .im (.sl (g.ands.map nd))), (35, .i g.ands.length), (36, .i (j : Nat))], [.box [.im (.sl (strs g.inn)), .im (.sl (strs g.out)), .im (.sl (g.regs.map LReg.im)), .im (.sl (g.ands.map nd)), .im (.sl (ints g.outs))], .box [.nils, .nils, .nils, .nils, .nils], mkMap ((strashN g j).1), mkBox 4 2 ((strashN g j).1), mkRow ((strashN g j).1), .row 62 1 (ints ((strashN g j).2)) 0], up⟩) g.ands.length ⟨0, rfl, by omega, rfl⟩ fun m st hI => ?_
      obtain ⟨j, rfl, hj, rfl⟩ := hI
      obtain ⟨s1, s2, s3, s4, s5⟩ := strashN_at g j
      generalize hS : strashN g j = S at s1 s2 s3 s4 s5
      obtain ⟨m, TT⟩ := S
      simp only at s1 s2 s3 s4 s5
      have hti : (ints TT).length = 1 + g.inn.length + g.regs.length + j := by rw [ints_len, s5]
      have hap : (1 + g.inn.length + g.regs.length + j + 1) * 8 ≤ 140737488355328 := by omega
      have hTo : ToOk TT := fun x hx => by have := s4 x hx; omega
      refine Run.seq ?_
      have fx := And.intro hap (And.intro hti (And.intro ints_len (And.intro nd_len (And.intro rim_len (And.intro strs_len ft)))))
      refine Run.go ?_
      refine End.kp [1, 2, 6, 7, 34, 35, 36, 37] ?_
      refine Run.seq ?_
      refine Run.cond _ rfl (fun hb => ?_) (fun hb => ?_)
      · have hb2 := of_decide_eq_true hb
        have hin : j < g.ands.length := by omega
        have wj := wsucc hin (by omega)
        obtain ⟨p, hpi, hpm, hp⟩ := node_at g.ands j hin
        obtain ⟨⟨p1, p2⟩, p3, p4⟩ := hg.ands j p hpi
        have hjl : (j : Int) < (g.ands.length : Int) := by omega
        have hd1 := tdiv2 p.1 p1 (by omega)
        have hd2 := tdiv2 p.2 p3 (by omega)
        have m1 := tmod2 p.1 p1
        have m2 := tmod2 p.2 p3
        have wm1 : IntKind.i64.wrap (p.1 % 2) = p.1 % 2 := wrap64 (by omega)
        have wm2 : IntKind.i64.wrap (p.2 % 2) = p.2 % 2 := wrap64 (by omega)
        have q1 : 0 ≤ p.1 / 2 := by omega
        have q2 : 0 ≤ p.2 / 2 := by omega
        have q3 : p.1 / 2 < ((1 + g.inn.length + g.regs.length + j : Nat) : Int) := by omega
        have q4 : p.2 / 2 < ((1 + g.inn.length + g.regs.length + j : Nat) : Int) := by omega
        have hv1 := ints_get TT (p.1 / 2).toNat (by omega)
        have hv2 := ints_get TT (p.2 / 2).toNat (by omega)
        have g1 := hTo.get (p.1 / 2).toNat
        have g2 := hTo.get (p.2 / 2).toNat
        have hx1 := xor_at TT p.1 (by omega)
        have hx2 := xor_at TT p.2 (by omega)
        have hgd : g.ands.getD j (0, 0) = p := by simp [hpi]
        have r1 := atV_range s4 (by omega) p.1
        have r2 := atV_range s4 (by omega) p.2
        generalize hA : atV TT p.1 = A at hx1 r1
        generalize hB : atV TT p.2 = B at hx2 r2
        have hMS : MkSmall m := ⟨by rw [s1]; omega, by rw [s2]; omega, by omega⟩
        have hAnd : ∀ (u : Frs), MkAt u 0 3 4 2 m → ACalls Try.prog 98 [.ptr 0 3 0, .i A, .i B] u fun v u' => v = .i (mkAnd m A B).1 ∧ u' = setMk u 0 3 4 2 (mkAnd m A B).2 := fun u hk => mAnd_ok A B m hMS u 0 3 4 2 hk (by omega) (by rw [s1, s2]; exact r1) (by rw [s1, s2]; exact r2)
        have hstep : strashN g (j + 1) = ((mkAnd m A B).2, TT ++ [(mkAnd m A B).1]) := by rw [strashN, hS, hgd, hA, hB]
        generalize mkAnd m A B = R at hAnd hstep
        obtain ⟨y, m2'⟩ := R
        simp only at hAnd hstep
        refine Run.skip ?_
        refine End.kp [1, 2, 6, 7, 34, 35, 36] ?_
        refine Run.seq ?_
        refine Run.block ?_
        refine Run.seq ?_
        have fx := And.intro (@Int.toNat_natCast) (And.intro (@Int.natCast_nonneg) (And.intro hx2 (And.intro hx1 (And.intro hv2 (And.intro hv1 (And.intro q4 (And.intro q3 (And.intro q2 (And.intro q1 (And.intro wm2 (And.intro wm1 (And.intro m2 (And.intro m1 (And.intro hd2 (And.intro hd1 (And.intro hjl (And.intro hp (And.intro wj (And.intro hap (And.intro hti (And.intro ints_len (And.intro nd_len (And.intro rim_len (And.intro strs_len ft))))))))))))))))))))))))
        refine Run.go ?_
        refine End.kp [1, 2, 6, 7, 10, 34, 35, 36] ?_
        refine Run.ghost (.spares 1) ?_
        simp only [ASt.pushN, ASt.push, List.append_assoc, List.cons_append, List.nil_append]
        refine Run.drawA fun K hK => ?_
        refine DOps.sim ?_
        refine DOps.call (.i y) [((0, 3), mkBox 4 2 m), ((0, 4), mkRow m), ((0, 2), mkMap m)] [((0, 3), mkBox 4 2 m2'), ((0, 4), mkRow m2'), ((0, 2), mkMap m2')] rfl rfl rfl rfl (by kernel_rfl) (by simp [Agree, ASt.fr]) (fun u hu => hAnd u ⟨hu ((0, 3), mkBox 4 2 m) (by simp), hu ((0, 4), mkRow m) (by simp), hu ((0, 2), mkMap m) (by simp)⟩) ?_
        refine DOps.sim ?_
        refine DOps.nil (by rfl) (hK _ ?_); clear hK K
        refine End.blk ?_
        refine End.kp [1, 2, 6, 7, 34, 35, 36] ?_
        refine Run.go ?_
        refine End.lp ?_
        refine ⟨g.ands.length - (j + 1), _, by omega, Ghost.form [(1, .ptr 0 0 0), (2, .ptr 0 1 0), (6, .ptr 0 3 0), (7, .ms 0 5 (1 + g.inn.length + g.regs.length + (j + 1))), (34, .im (.sl (g.ands.map nd))), (35, .i g.ands.length), (36, .i (j + 1 : Nat))] 6 ⟨rfl, rfl, rfl, rfl, rfl, rfl, rfl, trivial⟩ rfl rfl, j + 1, rfl, by omega, ?_⟩
        rw [hstep, ints_snoc]
        rfl
      · have hb2 := of_decide_eq_false hb
        have hjN : j = g.ands.length := by omega
        subst hjN
        have hgS : strashG g = (m, TT) := hS
        refine Run.exit rfl ?_
        refine End.kp [1, 2, 6, 7] ?_
        refine Run.seq ?_
        refine Run.ghost (Ghost.boxShut (j := 3) (i := 2) (r := 4) rfl rfl rfl (nd_len _)) ?_
        refine Run.ghost (Ghost.shut (t := 7) (j := 5) rfl rfl hti) ?_
        simp only [eput, edel, List.set_cons_zero, List.set_cons_succ]
        have fx := And.intro hap (And.intro hti (And.intro ints_len (And.intro nd_len (And.intro rim_len (And.intro strs_len ft)))))
        refine Run.drawA fun K hK => ?_
        refine DOps.sim ?_
        refine DOps.call (.im (.sl (m.ands.map nd))) [] [] rfl rfl rfl rfl (by kernel_rfl) (by simp [Agree]) (fun u hu => CloneN_ok m.ands (by omega) u) ?_
        refine DOps.sim ?_
        refine DOps.call ((movedG g m.ands TT).pv) [] [] rfl rfl rfl rfl (by kernel_rfl) (by simp [Agree]) (fun u hu => moved_ok g hg m.ands (by omega) TT hTo (by omega) (by omega) u) ?_
        refine DOps.sim ?_
        refine DOps.nil (by rfl) (hK _ ?_); clear hK K
        refine End.kp [2, 3, 4] ?_
        refine Run.resC hQ ?_
        exact ⟨by rw [hgS], rfl⟩
end Go.Proofs.YtkmnmokjlpenhaaPi
