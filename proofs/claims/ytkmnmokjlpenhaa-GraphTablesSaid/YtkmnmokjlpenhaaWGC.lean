/- The walk of Clean of graphs. -/
import Derived.Test.YtkmnmokjlpenhaaWGB
set_option linter.unusedVariables false
set_option linter.unusedSimpArgs false
set_option maxRecDepth 100000
namespace Go.Proofs.YtkmnmokjlpenhaaPi
set_option maxHeartbeats 4000000
def cleanStep (g : LGraph) (need : List Bool) (i : Nat) (s : List (Int × Int) × List Int × List Int) : List (Int × Int) × List Int × List Int :=
  if i < 1 + g.inn.length + g.regs.length then (s.1, s.2.1 ++ [2 * (i : Int)], s.2.2 ++ [(i : Int)])
  else if need.getD i false = true then (s.1 ++ [(atV s.2.1 (g.ands.getD (i - (1 + g.inn.length + g.regs.length)) (0, 0)).1, atV s.2.1 (g.ands.getD (i - (1 + g.inn.length + g.regs.length)) (0, 0)).2)], s.2.1 ++ [2 * (1 + (g.inn.length : Int) + g.regs.length + s.1.length)], s.2.2 ++ [1 + (g.inn.length : Int) + g.regs.length + s.1.length])
  else (s.1, s.2.1 ++ [0], s.2.2 ++ [-1])
def cleanN (g : LGraph) (need : List Bool) : Nat → List (Int × Int) × List Int × List Int
  | 0 => ([], [], [])
  | i + 1 => cleanStep g need i (cleanN g need i)
def cleanG (g : LGraph) : List (Int × Int) × List Int × List Int := cleanN g (coneV g (rootsG g)) (nodesN g)
theorem cleanN_len (g : LGraph) (need : List Bool) : ∀ i : Nat, (cleanN g need i).1.length ≤ i ∧ (cleanN g need i).2.1.length = i ∧ (cleanN g need i).2.2.length = i
  | 0 => ⟨Nat.le_refl _, rfl, rfl⟩
  | i + 1 => by
    obtain ⟨h1, h2, h3⟩ := cleanN_len g need i
    rw [cleanN, cleanStep]
    split
    · simp [h2, h3]; omega
    · split
      · simp [h2, h3]; omega
      · simp [h2, h3]; omega
theorem ToOk.snoc {to : List Int} (h : ToOk to) {x : Int} (hx : 0 ≤ x ∧ x ≤ 1000000) : ToOk (to ++ [x]) := fun y hy => by
  simp only [List.mem_append, List.mem_singleton] at hy
  rcases hy with hy | rfl
  · exact h y hy
  · exact hx
theorem cleanN_to (g : LGraph) (hg : GSmall g) (need : List Bool) : ∀ i : Nat, i ≤ 10000 → ToOk (cleanN g need i).2.1
  | 0, _ => fun x hx => by simp [cleanN] at hx
  | i + 1, h => by
    have ih := cleanN_to g hg need i (by omega)
    have hl := (cleanN_len g need i).1
    obtain ⟨z1, z2, z3, z4, z5⟩ := hg
    rw [cleanN, cleanStep]
    split
    · exact ih.snoc (by omega)
    · split
      · exact ih.snoc (by omega)
      · exact ih.snoc (by omega)
theorem atV_app (to : List Int) (y l : Int) (h0 : 0 ≤ l) (h : l < 2 * (to.length : Int)) : atV (to ++ [y]) l = atV to l := by
  have e : (to ++ [y]).getD (l / 2).toNat 0 = to.getD (l / 2).toNat 0 := by
    simp only [List.getD_eq_getElem?_getD]
    rw [List.getElem?_append_left (by omega)]
  unfold atV
  rw [e]
theorem roots_in {g : LGraph} (hg : GraphOk g) : ∀ x ∈ rootsG g, 0 ≤ x ∧ x < 2 * (1 + (g.inn.length : Int) + g.regs.length + g.ands.length) := fun x hx => by
  simp only [rootsG, List.mem_append, List.mem_map] at hx
  rcases hx with hx | ⟨r, hr, rfl⟩
  · exact hg.outs x hx
  · exact hg.regs r hr
theorem nd_snoc (a : List (Int × Int)) (p : Int × Int) : (a ++ [p]).map nd = a.map nd ++ [nd p] := by simp
theorem ints_snoc (a : List Int) (x : Int) : ints (a ++ [x]) = ints a ++ [[.int .i64 x]] := by simp
theorem Clean_ok (g : LGraph) (hg : GraphOk g) (up : Frs) : ACalls Try.prog 65 [g.pv] up fun v u => v = .tup [(movedG g (cleanG g).1 (cleanG g).2.1).pv, .im (.sl (ints (cleanG g).2.2)), .i 0] ∧ u = up := by
  have hsm := hg.small
  obtain ⟨z1, z2, z3, z4, z5⟩ := hg.small
  have hRi := roots_in hg
  have hRl : (rootsG g).length ≤ 1000 := by simp [rootsG]; omega
  obtain ⟨V, hV⟩ : ∃ V, V = coneV g (rootsG g) := ⟨_, rfl⟩
  have hcone := cone_ok g hg (rootsG g) hRi (by omega)
  have hVl0 := coneV_len g (rootsG g)
  obtain ⟨N, hN⟩ : ∃ N, N = nodesN g := ⟨_, rfl⟩
  have hNi : (N : Int) = 1 + (g.inn.length : Int) + g.regs.length + g.ands.length := by rw [hN, nodesN]; omega
  have hNn : N = 1 + g.inn.length + g.regs.length + g.ands.length := by rw [hN, nodesN]
  have hCG : cleanN g V N = cleanG g := by rw [cleanG, hV, hN]
  rw [← hV] at hcone hVl0
  rw [← hN] at hVl0
  have hVl : (bools V).length = N := by rw [bools_len, hVl0]
  refine ACalls.code Try.func65 rfl 106 rfl (by simp) [.cell 2 51, .tmp 3, .tmp 4] rfl fun Q hQ => ?_
  simp only [ups, PV.up, argEnv]
  have ft := And.intro ty_3 (And.intro ty_4 (And.intro ty_22 (And.intro ty_34 (And.intro ty_48 (And.intro ty_49 (And.intro ty_51 (And.intro ty_62 (And.intro ty_71 (And.intro ty_137 trivial)))))))))
  refine Run.seq ?_
  have fx := And.intro hVl (And.intro ints_len (And.intro nd_len (And.intro rim_len (And.intro strs_len ft))))
  refine Run.go ?_
  refine End.kp [1, 2] ?_
  refine Run.seq ?_
  refine Run.seq ?_
  refine Run.region rfl fun K hK => GOps.sim ?_
  refine GOps.call rfl rfl rfl rfl (by kernel_rfl) (ACalls.sim ?_)
  refine (Check_ok g hg _).mono fun v u hv => ?_
  obtain ⟨rfl, rfl⟩ := hv
  refine ⟨_, _, rfl, GOps.sim ?_⟩
  refine GOps.done (hK _ ?_); clear hK K
  refine End.kp [1, 2, 5] ?_
  refine Run.seq ?_
  refine Run.go ?_
  refine End.kp [1, 2, 5, 16] ?_
  refine Run.cond _ rfl (fun hb => ?_) (fun hb => ?_)
  · have hb2 := hb
    simp at hb
  · have hb2 := hb
    refine Run.skip ?_
    refine End.kp [1, 2] ?_
    refine Run.seq ?_
    have fx := And.intro hVl (And.intro ints_len (And.intro nd_len (And.intro rim_len (And.intro strs_len ft))))
    refine Run.drawA fun K hK => ?_
    refine DOps.sim ?_
    refine DOps.call (.im (.sl (ints (rootsG g)))) [] [] rfl rfl rfl rfl (by kernel_rfl) (by simp [Agree]) (fun u hu => Roots_ok g hsm u) ?_
    refine DOps.sim ?_
    refine DOps.call (.im (.sl (bools V))) [] [] rfl rfl rfl rfl (by kernel_rfl) (by simp [Agree]) (fun u hu => hcone u) ?_
    refine DOps.sim ?_
    refine DOps.nil (metAll_quiet rfl) (hK _ ?_); clear hK K
    refine End.kp [1, 2, 6] ?_
    refine Run.seq ?_
    refine Run.region rfl fun K hK => GOps.sim ?_
    refine GOps.call rfl rfl rfl rfl (by kernel_rfl) (ACalls.sim ?_)
    refine (GFirst_ok g hsm _).mono fun v u hv => ?_
    obtain ⟨rfl, rfl⟩ := hv
    refine ⟨_, _, rfl, GOps.sim ?_⟩
    refine GOps.done (hK _ ?_); clear hK K
    refine End.kp [1, 2, 6, 7] ?_
    refine Run.seq ?_
    refine Run.go ?_
    refine End.kp [1, 2, 6, 7, 8] ?_
    refine Run.seq ?_
    refine Run.go ?_
    refine End.kp [1, 2, 6, 7, 8, 9] ?_
    refine Run.seq ?_
    refine Run.go ?_
    refine End.kp [1, 2, 6, 7, 8, 9, 10] ?_
    refine Run.seq ?_
    refine Run.seq ?_
    refine Run.go ?_
    refine End.kp [1, 2, 6, 7, 8, 9, 10, 26, 27] ?_
    refine Run.block ?_
    refine Run.ghost (Ghost.thaw (u := 8) 137 2 (by decide) rfl) ?_
    refine Run.ghost (Ghost.thaw (u := 9) 62 1 (by decide) rfl) ?_
    refine Run.ghost (Ghost.thaw (u := 10) 3 1 (by decide) rfl) ?_
    refine Run.ghost (Ghost.form [(1, .ptr 0 0 0), (2, .ptr 0 1 0), (6, .im (.sl (bools V))), (7, .i (1 + g.inn.length + g.regs.length)), (8, .ms 0 2 (0)), (9, .ms 0 3 (0)), (10, .ms 0 4 (0)), (26, .i N), (27, .i (0 : Nat))] 5 ⟨rfl, rfl, rfl, rfl, rfl, rfl, rfl, rfl, rfl, trivial⟩ rfl rfl) ?_
    refine Run.loop (fun m st => ∃ (i : Nat), m = N - i ∧ i ≤ N ∧ st = ⟨[(1, .ptr 0 0 0), (2, .ptr 0 1 0), (6, .im (.sl (bools V))), (7, .i (1 + g.inn.length + g.regs.length)), (8, .ms 0 2 ((cleanN g V i).1.length)), (9, .ms 0 3 (i)), (10, .ms 0 4 (i)), (26, .i N), (27, .i (i : Nat))], [.box [.im (.sl (strs g.inn)), .im (.sl (strs g.out)), .im (.sl (g.regs.map LReg.im)), .im (.sl (g.ands.map nd)), .im (.sl (ints g.outs))], .box [.nils, .nils, .nils, .nils, .nils], .row 137 2 (((cleanN g V i).1).map nd) 0, .row 62 1 (ints ((cleanN g V i).2.1)) 0, .row 3 1 (ints ((cleanN g V i).2.2)) 0], up⟩) N ⟨0, rfl, by omega, rfl⟩ fun m st hI => ?_
    obtain ⟨i, rfl, hi, rfl⟩ := hI
    obtain ⟨hAl, hTl, hPl⟩ := cleanN_len g V i
    have hTo := cleanN_to g hsm V i (by omega)
    generalize hC : cleanN g V i = C at hAl hTl hPl hTo
    obtain ⟨A, TT, P⟩ := C
    simp only at hAl hTl hPl hTo
    have hap : (i + 1) * 8 ≤ 140737488355328 := by omega
    have hap2 : (A.length + 1) * 16 ≤ 140737488355328 := by omega
    have hti : (ints TT).length = i := by rw [ints_len, hTl]
    have hpi : (ints P).length = i := by rw [ints_len, hPl]
    refine Run.seq ?_
    have fx := And.intro hpi (And.intro hti (And.intro hap2 (And.intro hap (And.intro hVl (And.intro ints_len (And.intro nd_len (And.intro rim_len (And.intro strs_len ft))))))))
    refine Run.go ?_
    refine End.kp [1, 2, 6, 7, 8, 9, 10, 26, 27, 28] ?_
    refine Run.seq ?_
    refine Run.cond _ rfl (fun hb => ?_) (fun hb => ?_)
    · have hb2 := of_decide_eq_true hb
      have hin : i < N := by omega
      have wi := wsucc hin (by omega)
      have w2 : IntKind.i64.wrap (2 * (i : Int)) = 2 * (i : Int) := wrap64 (by omega)
      refine Run.skip ?_
      refine End.kp [1, 2, 6, 7, 8, 9, 10, 26, 27] ?_
      refine Run.seq ?_
      refine Run.block ?_
      refine Run.seq ?_
      have fx := And.intro (@Int.toNat_natCast) (And.intro (@Int.natCast_nonneg) (And.intro w2 (And.intro wi (And.intro hpi (And.intro hti (And.intro hap2 (And.intro hap (And.intro hVl (And.intro ints_len (And.intro nd_len (And.intro rim_len (And.intro strs_len ft))))))))))))
      refine Run.go ?_
      refine End.kp [1, 2, 6, 7, 8, 9, 10, 11, 26, 27] ?_
      refine Run.block ?_
      refine Run.seq ?_
      refine Run.go ?_
      refine End.kp [1, 2, 6, 7, 8, 9, 10, 11, 26, 27, 36] ?_
      refine Run.cond _ rfl (fun hb => ?_) (fun hb => ?_)
      · have hbt := of_decide_eq_true hb
        have hstep : cleanN g V (i + 1) = (A, TT ++ [2 * (i : Int)], P ++ [(i : Int)]) := by rw [cleanN, hC, cleanStep, if_pos (by omega)]
        have fx := And.intro (@Int.toNat_natCast) (And.intro (@Int.natCast_nonneg) (And.intro w2 (And.intro wi (And.intro hpi (And.intro hti (And.intro hap2 (And.intro hap (And.intro hVl (And.intro ints_len (And.intro nd_len (And.intro rim_len (And.intro strs_len ft))))))))))))
        refine Run.go ?_
        refine End.blk ?_
        refine End.blk ?_
        refine End.kp [1, 2, 6, 7, 8, 9, 10, 26, 27] ?_
        refine Run.go ?_
        refine End.lp ?_
        refine ⟨N - (i + 1), _, by omega, Ghost.form [(1, .ptr 0 0 0), (2, .ptr 0 1 0), (6, .im (.sl (bools V))), (7, .i (1 + g.inn.length + g.regs.length)), (8, .ms 0 2 (A.length)), (9, .ms 0 3 (i + 1)), (10, .ms 0 4 (i + 1)), (26, .i N), (27, .i (i + 1 : Nat))] 5 ⟨rfl, rfl, rfl, rfl, rfl, rfl, rfl, rfl, rfl, trivial⟩ rfl rfl, i + 1, rfl, by omega, ?_⟩
        rw [hstep]
        simp only [nd_snoc, ints_snoc, List.length_append, List.length_cons, List.length_nil, hTl, hPl]
        rfl
      · have hbt := of_decide_eq_false hb
        have hil : (i : Int) < (N : Int) := by omega
        have hvb := bools_get V i (by omega)
        refine Run.seq ?_
        have fx := And.intro hvb (And.intro hil (And.intro (@Int.toNat_natCast) (And.intro (@Int.natCast_nonneg) (And.intro w2 (And.intro wi (And.intro hpi (And.intro hti (And.intro hap2 (And.intro hap (And.intro hVl (And.intro ints_len (And.intro nd_len (And.intro rim_len (And.intro strs_len ft))))))))))))))
        refine Run.go ?_
        refine End.kp [1, 2, 6, 7, 8, 9, 10, 11, 26, 27, 49] ?_
        refine Run.cond _ rfl (fun hb => ?_) (fun hb => ?_)
        · have hb3 := hb
          obtain ⟨k, hk⟩ : ∃ k, i = 1 + g.inn.length + g.regs.length + k := ⟨i - (1 + g.inn.length + g.regs.length), by omega⟩
          have wsub : IntKind.i64.wrap ((i : Int) - (1 + (g.inn.length : Int) + g.regs.length)) = (k : Int) := by rw [wrap64 (by omega)]; omega
          have hkl : (k : Int) < (g.ands.length : Int) := by omega
          obtain ⟨p, hpi2, hpm, hp⟩ := node_at g.ands k (by omega)
          obtain ⟨⟨p1, p2⟩, p3, p4⟩ := hg.ands k p hpi2
          have wA : IntKind.i64.wrap (1 + (g.inn.length : Int) + g.regs.length + A.length) = 1 + (g.inn.length : Int) + g.regs.length + A.length := wrap64 (by omega)
          have wA2 : IntKind.i64.wrap (2 * (1 + (g.inn.length : Int) + g.regs.length + A.length)) = 2 * (1 + (g.inn.length : Int) + g.regs.length + A.length) := wrap64 (by omega)
          obtain ⟨T2, hT2⟩ : ∃ T2, T2 = TT ++ [2 * (1 + (g.inn.length : Int) + g.regs.length + A.length)] := ⟨_, rfl⟩
          have hTo2 : ToOk T2 := by rw [hT2]; exact hTo.snoc (by omega)
          have hT2l : T2.length = i + 1 := by rw [hT2]; simp [hTl]
          have e2 : ints TT ++ [[.int .i64 (2 * (1 + (g.inn.length : Int) + g.regs.length + A.length))]] = ints T2 := by rw [hT2, ints_snoc]
          have hd1 := tdiv2 p.1 p1 (by omega)
          have hd2 := tdiv2 p.2 p3 (by omega)
          have m1 := tmod2 p.1 p1
          have m2 := tmod2 p.2 p3
          have wm1 : IntKind.i64.wrap (p.1 % 2) = p.1 % 2 := wrap64 (by omega)
          have wm2 : IntKind.i64.wrap (p.2 % 2) = p.2 % 2 := wrap64 (by omega)
          have q1 : 0 ≤ p.1 / 2 := by omega
          have q2 : 0 ≤ p.2 / 2 := by omega
          have q3 : p.1 / 2 < ((i + 1 : Nat) : Int) := by omega
          have q4 : p.2 / 2 < ((i + 1 : Nat) : Int) := by omega
          have hv1 := ints_get T2 (p.1 / 2).toNat (by omega)
          have hv2 := ints_get T2 (p.2 / 2).toNat (by omega)
          have g1 := hTo2.get (p.1 / 2).toNat
          have g2 := hTo2.get (p.2 / 2).toNat
          have hx1 := xor_at T2 p.1 (by omega)
          have hx2 := xor_at T2 p.2 (by omega)
          have hT2i : (ints T2).length = i + 1 := by rw [ints_len, hT2l]
          have a1 : atV T2 p.1 = atV TT p.1 := by rw [hT2]; exact atV_app _ _ _ p1 (by omega)
          have a2 : atV T2 p.2 = atV TT p.2 := by rw [hT2]; exact atV_app _ _ _ p3 (by omega)
          have hstep : cleanN g V (i + 1) = (A ++ [(atV TT p.1, atV TT p.2)], T2, P ++ [1 + (g.inn.length : Int) + g.regs.length + A.length]) := by
            have hgd : g.ands.getD (i - (1 + g.inn.length + g.regs.length)) (0, 0) = p := by rw [show i - (1 + g.inn.length + g.regs.length) = k by omega]; simp [hpi2]
            rw [cleanN, hC, cleanStep, if_neg (by omega), if_pos hb3, hgd, hT2]
          refine Run.seq ?_
          have fx := And.intro a2 (And.intro a1 (And.intro hx2 (And.intro hx1 (And.intro hv2 (And.intro hv1 (And.intro q4 (And.intro q3 (And.intro q2 (And.intro q1 (And.intro wm2 (And.intro wm1 (And.intro m2 (And.intro m1 (And.intro hd2 (And.intro hd1 (And.intro hT2i (And.intro e2 (And.intro wA2 (And.intro wA (And.intro hp (And.intro hkl (And.intro wsub (And.intro hvb (And.intro hil (And.intro (@Int.toNat_natCast) (And.intro (@Int.natCast_nonneg) (And.intro w2 (And.intro wi (And.intro hpi (And.intro hti (And.intro hap2 (And.intro hap (And.intro hVl (And.intro ints_len (And.intro nd_len (And.intro rim_len (And.intro strs_len ft)))))))))))))))))))))))))))))))))))))
          refine Run.go ?_
          refine End.kp [1, 2, 6, 7, 8, 9, 10, 12, 26, 27] ?_
          refine Run.seq ?_
          refine Run.go ?_
          refine End.kp [1, 2, 6, 7, 8, 9, 10, 12, 26, 27] ?_
          refine Run.ghost (.spares 1) ?_
          simp only [ASt.pushN, ASt.push, List.append_assoc, List.cons_append, List.nil_append]
          refine Run.drawA fun K hK => ?_
          refine DOps.sim ?_
          refine DOps.nil (by rfl) (hK _ ?_); clear hK K
          refine End.blk ?_
          refine End.blk ?_
          refine End.kp [1, 2, 6, 7, 8, 9, 10, 26, 27] ?_
          refine Run.go ?_
          refine End.lp ?_
          refine ⟨N - (i + 1), _, by omega, Ghost.form [(1, .ptr 0 0 0), (2, .ptr 0 1 0), (6, .im (.sl (bools V))), (7, .i (1 + g.inn.length + g.regs.length)), (8, .ms 0 2 (A.length + 1)), (9, .ms 0 3 (i + 1)), (10, .ms 0 4 (i + 1)), (26, .i N), (27, .i (i + 1 : Nat))] 5 ⟨rfl, rfl, rfl, rfl, rfl, rfl, rfl, rfl, rfl, trivial⟩ rfl rfl, i + 1, rfl, by omega, ?_⟩
          rw [hstep]
          simp only [nd_snoc, ints_snoc, List.length_append, List.length_cons, List.length_nil, hTl, hPl]
          rfl
        · have hb3 := hb
          have hstep : cleanN g V (i + 1) = (A, TT ++ [0], P ++ [-1]) := by rw [cleanN, hC, cleanStep, if_neg (by omega), if_neg (by rw [hb3]; simp)]
          have fx := And.intro hvb (And.intro hil (And.intro (@Int.toNat_natCast) (And.intro (@Int.natCast_nonneg) (And.intro w2 (And.intro wi (And.intro hpi (And.intro hti (And.intro hap2 (And.intro hap (And.intro hVl (And.intro ints_len (And.intro nd_len (And.intro rim_len (And.intro strs_len ft))))))))))))))
          refine Run.go ?_
          refine End.blk ?_
          refine End.blk ?_
          refine End.kp [1, 2, 6, 7, 8, 9, 10, 26, 27] ?_
          refine Run.go ?_
          refine End.lp ?_
          refine ⟨N - (i + 1), _, by omega, Ghost.form [(1, .ptr 0 0 0), (2, .ptr 0 1 0), (6, .im (.sl (bools V))), (7, .i (1 + g.inn.length + g.regs.length)), (8, .ms 0 2 (A.length)), (9, .ms 0 3 (i + 1)), (10, .ms 0 4 (i + 1)), (26, .i N), (27, .i (i + 1 : Nat))] 5 ⟨rfl, rfl, rfl, rfl, rfl, rfl, rfl, rfl, rfl, trivial⟩ rfl rfl, i + 1, rfl, by omega, ?_⟩
          rw [hstep]
          simp only [nd_snoc, ints_snoc, List.length_append, List.length_cons, List.length_nil, hTl, hPl]
          rfl
    · have hb2 := of_decide_eq_false hb
      have hiN : i = N := by omega
      subst hiN
      have hgA : (cleanG g).1 = A := by rw [← hCG, hC]
      have hgT : (cleanG g).2.1 = TT := by rw [← hCG, hC]
      have hgP : (cleanG g).2.2 = P := by rw [← hCG, hC]
      refine Run.exit rfl ?_
      refine End.kp [1, 2, 8, 9, 10] ?_
      refine Run.seq ?_
      refine Run.ghost (Ghost.shut (t := 8) (j := 2) rfl rfl (nd_len _)) ?_
      refine Run.ghost (Ghost.shut (t := 9) (j := 3) rfl rfl hti) ?_
      refine Run.ghost (Ghost.shut (t := 10) (j := 4) rfl rfl hpi) ?_
      simp only [eput, edel]
      have fx := And.intro hpi (And.intro hti (And.intro hap2 (And.intro hap (And.intro hVl (And.intro ints_len (And.intro nd_len (And.intro rim_len (And.intro strs_len ft))))))))
      refine Run.region rfl fun K hK => GOps.sim ?_
      refine GOps.call rfl rfl rfl rfl (by kernel_rfl) (ACalls.sim ?_)
      refine (moved_ok g hg A (by omega) TT hTo (by omega) (by omega) _).mono fun v u hv => ?_
      obtain ⟨rfl, rfl⟩ := hv
      refine ⟨_, _, rfl, GOps.sim ?_⟩
      refine GOps.done (hK _ ?_); clear hK K
      refine End.kp [2, 3, 4] ?_
      refine Run.resC hQ ?_
      exact ⟨by rw [hgA, hgT, hgP], rfl⟩
end Go.Proofs.YtkmnmokjlpenhaaPi
