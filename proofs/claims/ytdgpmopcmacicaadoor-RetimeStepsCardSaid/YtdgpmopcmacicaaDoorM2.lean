/- Part 2 of the proof: the texts WP, WQ, PLane, WR, PWords, PNames, WX, WY, WGA, WGB, WGC, WGD, one behind the other. Each holds for every input that it names; no condition is hidden. -/
import Derived.Test.YtdgpmopcmacicaaDoorM1
/- The walks of the checks of graphs: First, before, Check; and of their values. -/
set_option linter.unusedVariables false
set_option linter.unusedSimpArgs false
set_option maxRecDepth 100000
namespace Go.Proofs.YtdgpmopcmacicaaDoorPi
set_option maxHeartbeats 2000000

structure GSmall (g : LGraph) : Prop where
  inn : g.inn.length ≤ 128
  out : g.out.length ≤ 128
  regs : g.regs.length ≤ 288
  ands : g.ands.length ≤ 4000
  outs : g.outs.length ≤ 128
abbrev firstG (g : LGraph) : Int := 1 + g.inn.length + g.regs.length
abbrev nodesG (g : LGraph) : Int := 1 + g.inn.length + g.regs.length + g.ands.length
structure GraphOk (g : LGraph) : Prop where
  small : GSmall g
  names : ∀ s ∈ g.inn ++ g.regs.map LReg.name, NameOk s
  nodup : (g.inn ++ g.regs.map LReg.name).Nodup
  onames : ∀ s ∈ g.out, NameOk s
  onodup : g.out.Nodup
  olen : g.out.length = g.outs.length
  ands : ∀ (i : Nat) (p : Int × Int), g.ands[i]? = some p → (0 ≤ p.1 ∧ p.1 < 2 * (1 + (g.inn.length : Int) + g.regs.length + i)) ∧ 0 ≤ p.2 ∧ p.2 < 2 * (1 + (g.inn.length : Int) + g.regs.length + i)
  regs : ∀ r ∈ g.regs, 0 ≤ r.next ∧ r.next < 2 * (1 + (g.inn.length : Int) + g.regs.length + g.ands.length)
  outs : ∀ x ∈ g.outs, 0 ≤ x ∧ x < 2 * (1 + (g.inn.length : Int) + g.regs.length + g.ands.length)
theorem reg_at (l : List LReg) (i : Nat) (h : i < l.length) : ∃ r, l[i]? = some r ∧ r ∈ l ∧ (l.map LReg.im)[i]? = some [.str r.name, .int .i64 r.next, .bool r.init] :=
  ⟨l[i], by simp [h], List.getElem_mem h, by simp [h]⟩
theorem node_at (l : List (Int × Int)) (i : Nat) (h : i < l.length) : ∃ p, l[i]? = some p ∧ p ∈ l ∧ (l.map nd)[i]? = some [.int .i64 p.1, .int .i64 p.2] :=
  ⟨l[i], by simp [h], List.getElem_mem h, by simp [h]⟩
theorem tmod2 (x : Int) (h : 0 ≤ x) : x.tmod 2 = x % 2 := Int.tmod_eq_emod_of_nonneg h
theorem tdiv2 (x : Int) (h : 0 ≤ x) (h2 : x ≤ 1000000000) : IntKind.i64.wrap (x.tdiv 2) = x / 2 := by
  rw [Int.tdiv_eq_ediv_of_nonneg h]
  exact wrap64 (by omega)
theorem GFirst_ok (g : LGraph) (hg : GSmall g) (up : Frs) : ACalls Tryd.prog 12 [g.pv] up fun v u => v = .i (1 + g.inn.length + g.regs.length) ∧ u = up := by
  obtain ⟨z1, z2, z3, z4, z5⟩ := hg
  have w1 : IntKind.i64.wrap (1 + (g.inn.length : Int)) = 1 + (g.inn.length : Int) := wrap64 (by omega)
  have w2 : IntKind.i64.wrap (1 + (g.inn.length : Int) + g.regs.length) = 1 + (g.inn.length : Int) + g.regs.length := wrap64 (by omega)
  refine ACalls.code Tryd.func12 rfl 11 rfl (by simp) [.tmp 2] rfl fun Q hQ => ?_
  simp only [ups, PV.up, argEnv]
  have ft := And.intro ty_2 (And.intro ty_3 (And.intro ty_9 (And.intro ty_26 (And.intro ty_27 (And.intro ty_31 (And.intro ty_56 trivial))))))
  refine Run.seq ?_
  have fx := And.intro w2 (And.intro w1 (And.intro rim_len (And.intro strs_len ft)))
  refine Run.go ?_
  refine End.kp [1] ?_
  refine Run.seq ?_
  refine Run.go ?_
  refine End.kp [2] ?_
  refine Run.ret (hQ _ _ ⟨.inr rfl, _, rfl, _, rfl, ?_⟩)
  exact ⟨rfl, rfl⟩
theorem before_pos (l n : Int) (h0 : 0 ≤ l) (hn : 0 ≤ n) (hn2 : n ≤ 1000000) (up : Frs) : ACalls Tryd.prog 45 [.i l, .i n] up fun v u => v = .im (.bool (decide (l < 2 * n))) ∧ u = up := by
  have d1 : decide (0 ≤ l) = true := decide_eq_true (by omega)
  have w1 : IntKind.i64.wrap (2 * n) = 2 * n := wrap64 (by omega)
  refine ACalls.code Tryd.func45 rfl 13 rfl (by simp) [.tmp 4] rfl fun Q hQ => ?_
  simp only [ups, PV.up, argEnv]
  have ft := And.intro ty_3 (And.intro ty_4 (And.intro ty_51 trivial))
  refine Run.seq ?_
  have fx := And.intro (@ge_iff_le Int _) (And.intro w1 (And.intro d1 ft))
  refine Run.go ?_
  refine End.kp [0, 1] ?_
  refine Run.seq ?_
  refine Run.go ?_
  refine End.kp [4] ?_
  refine Run.ret (hQ _ _ ⟨.inr rfl, _, rfl, _, rfl, ?_⟩)
  exact ⟨rfl, rfl⟩
theorem before_ok (l n : Int) (h0 : 0 ≤ l) (h1 : l < 2 * n) (hn2 : n ≤ 1000000) (up : Frs) : ACalls Tryd.prog 45 [.i l, .i n] up fun v u => v = .im (.bool true) ∧ u = up :=
  (before_pos l n h0 (by omega) hn2 up).mono fun v u ⟨h1', h2⟩ => ⟨by rw [h1']; simp; omega, h2⟩
abbrev gnms (g : LGraph) (i : Nat) : List ByteArray := g.inn ++ (g.regs.take i).map LReg.name
theorem gnms_len (g : LGraph) (i : Nat) (h : i ≤ g.regs.length) : (strs (gnms g i)).length = g.inn.length + i := by simp; omega
theorem gnms_next (g : LGraph) (i : Nat) (f : LReg) (h : g.regs[i]? = some f) : gnms g (i + 1) = gnms g i ++ [f.name] := by simp [gnms, List.take_add_one, h]
theorem Check_ok (g : LGraph) (hg : GraphOk g) (up : Frs) : ACalls Tryd.prog 20 [g.pv] up fun v u => v = .i 0 ∧ u = up := by
  have hsm := hg.small
  obtain ⟨z1, z2, z3, z4, z5⟩ := hg.small
  have d1 : decide ((g.inn.length : Int) > 128) = false := decide_eq_false (by omega)
  have d2 : decide ((g.out.length : Int) > 128) = false := decide_eq_false (by omega)
  have d3 : decide ((g.regs.length : Int) > 288) = false := decide_eq_false (by omega)
  have d4 : decide ((g.ands.length : Int) > 4000) = false := decide_eq_false (by omega)
  have d5 : ((g.out.length : Int) != g.outs.length) = false := by rw [hg.olen]; simp
  have wn : IntKind.i64.wrap (1 + (g.inn.length : Int) + g.regs.length + g.ands.length) = 1 + (g.inn.length : Int) + g.regs.length + g.ands.length := wrap64 (by omega)
  refine ACalls.code Tryd.func20 rfl 128 rfl (by simp) [.tmp 2] rfl fun Q hQ => ?_
  simp only [ups, PV.up, argEnv]
  have ft := And.intro ty_2 (And.intro ty_3 (And.intro ty_4 (And.intro ty_9 (And.intro ty_26 (And.intro ty_27 (And.intro ty_28 (And.intro ty_29 (And.intro ty_31 (And.intro ty_35 (And.intro ty_51 (And.intro ty_54 (And.intro ty_56 trivial))))))))))))
  refine Run.seq ?_
  have fx := And.intro d5 (And.intro d4 (And.intro d3 (And.intro d2 (And.intro d1 (And.intro ints_len (And.intro nd_len (And.intro rim_len (And.intro strs_len ft))))))))
  refine Run.go ?_
  refine End.kp [1] ?_
  refine Run.seq ?_
  refine Run.seq ?_
  refine Run.go ?_
  refine End.kp [1, 36] ?_
  refine Run.cond _ rfl (fun hb => ?_) (fun hb => ?_)
  · have hb := hb
    simp at hb
  · have hb := hb
    refine Run.skip ?_
    refine End.kp [1] ?_
    refine Run.seq ?_
    refine Run.seq ?_
    have fx := And.intro d5 (And.intro d4 (And.intro d3 (And.intro d2 (And.intro d1 (And.intro ints_len (And.intro nd_len (And.intro rim_len (And.intro strs_len ft))))))))
    refine Run.go ?_
    refine End.kp [1, 43] ?_
    refine Run.cond _ rfl (fun hb => ?_) (fun hb => ?_)
    · have hb := hb
      simp at hb
    · have hb := hb
      refine Run.skip ?_
      refine End.kp [1] ?_
      refine Run.seq ?_
      have fx := And.intro d5 (And.intro d4 (And.intro d3 (And.intro d2 (And.intro d1 (And.intro ints_len (And.intro nd_len (And.intro rim_len (And.intro strs_len ft))))))))
      refine Run.region rfl fun K hK => GOps.sim ?_
      refine GOps.call rfl rfl rfl rfl (by kernel_rfl) (ACalls.sim ?_)
      refine (CloneX_ok g.inn (by omega) _ _).mono fun v u hv => ?_
      obtain ⟨rfl, rfl⟩ := hv
      refine ⟨_, _, rfl, GOps.sim ?_⟩
      refine GOps.done (hK _ ?_); clear hK K
      refine End.kp [1, 3] ?_
      refine Run.seq ?_
      refine Run.seq ?_
      refine Run.go ?_
      refine End.kp [1, 3, 48, 49, 50] ?_
      refine Run.block ?_
      refine Run.ghost (Ghost.form [(1, .ptr 0 0 0), (3, .ms 0 1 (g.inn.length + 0)), (48, .im (.sl (g.regs.map LReg.im))), (49, .i g.regs.length), (50, .i (0 : Nat))] 2 ⟨rfl, rfl, rfl, rfl, rfl, trivial⟩ rfl rfl) ?_
      refine Run.loop (fun m st => ∃ (i : Nat), m = g.regs.length - i ∧ i ≤ g.regs.length ∧ st = ⟨[(1, .ptr 0 0 0), (3, .ms 0 1 (g.inn.length + i)), (48, .im (.sl (g.regs.map LReg.im))), (49, .i g.regs.length), (50, .i (i : Nat))], [.box [.im (.sl (strs g.inn)), .im (.sl (strs g.out)), .im (.sl (g.regs.map LReg.im)), .im (.sl (g.ands.map nd)), .im (.sl (ints g.outs))], .row 9 1 (strs (gnms g i)) 0], up⟩) g.regs.length ⟨0, rfl, by omega, by simp⟩ fun m st hI => ?_
      obtain ⟨i, rfl, hi, rfl⟩ := hI
      have hsl := gnms_len g i hi
      have hap : (g.inn.length + i + 1) * 16 ≤ 140737488355328 := by omega
      refine Run.seq ?_
      have fx := And.intro hap (And.intro hsl (And.intro d5 (And.intro d4 (And.intro d3 (And.intro d2 (And.intro d1 (And.intro ints_len (And.intro nd_len (And.intro rim_len (And.intro strs_len ft))))))))))
      refine Run.go ?_
      refine End.kp [1, 3, 48, 49, 50, 51] ?_
      refine Run.seq ?_
      refine Run.cond _ rfl (fun hb => ?_) (fun hb => ?_)
      · have hb := of_decide_eq_true hb
        have hin : i < g.regs.length := by omega
        have wi := wsucc hin (by omega)
        obtain ⟨f, hf, hfm, hgt⟩ := reg_at g.regs i hin
        refine Run.skip ?_
        refine End.kp [1, 3, 48, 49, 50] ?_
        refine Run.seq ?_
        refine Run.block ?_
        refine Run.seq ?_
        have fx := And.intro (@Int.toNat_natCast) (And.intro (@Int.natCast_nonneg) (And.intro hgt (And.intro wi (And.intro hap (And.intro hsl (And.intro d5 (And.intro d4 (And.intro d3 (And.intro d2 (And.intro d1 (And.intro ints_len (And.intro nd_len (And.intro rim_len (And.intro strs_len ft))))))))))))))
        refine Run.go ?_
        refine End.kp [1, 3, 5, 48, 49, 50] ?_
        refine Run.go ?_
        refine End.blk ?_
        refine End.kp [1, 3, 48, 49, 50] ?_
        refine Run.go ?_
        refine End.lp ?_
        refine ⟨g.regs.length - (i + 1), _, by omega, Ghost.form [(1, .ptr 0 0 0), (3, .ms 0 1 (g.inn.length + (i + 1))), (48, .im (.sl (g.regs.map LReg.im))), (49, .i g.regs.length), (50, .i (i + 1 : Nat))] 2 ⟨rfl, rfl, rfl, rfl, rfl, trivial⟩ rfl rfl, i + 1, rfl, by omega, ?_⟩
        rw [gnms_next g i f hf]
        simp
      · have hb := of_decide_eq_false hb
        have hiN : i = g.regs.length := by omega
        subst hiN
        have hall : gnms g g.regs.length = g.inn ++ g.regs.map LReg.name := by simp [gnms]
        refine Run.exit rfl ?_
        refine End.kp [1, 3] ?_
        refine Run.seq ?_
        refine Run.seq ?_
        have fx := And.intro hap (And.intro hsl (And.intro d5 (And.intro d4 (And.intro d3 (And.intro d2 (And.intro d1 (And.intro ints_len (And.intro nd_len (And.intro rim_len (And.intro strs_len ft))))))))))
        refine Run.region rfl fun K hK => GOps.sim ?_
        refine GOps.call rfl rfl rfl rfl (by kernel_rfl) (ACalls.sim ?_)
        refine (Names_ok (gnms g g.regs.length) (by rw [hall]; simp; omega) (by rw [hall]; exact hg.names) (by rw [hall]; exact hg.nodup) _).mono fun v u hv => ?_
        obtain ⟨rfl, rfl⟩ := hv
        refine ⟨_, _, rfl, GOps.sim ?_⟩
        refine GOps.done (hK _ ?_); clear hK K
        refine End.kp [1, 6] ?_
        refine Run.seq ?_
        refine Run.go ?_
        refine End.kp [1, 6, 63] ?_
        refine Run.cond _ rfl (fun hb => ?_) (fun hb => ?_)
        · have hb := hb
          simp at hb
        · have hb := hb
          refine Run.skip ?_
          refine End.kp [1] ?_
          refine Run.seq ?_
          refine Run.seq ?_
          have fx := And.intro hap (And.intro hsl (And.intro d5 (And.intro d4 (And.intro d3 (And.intro d2 (And.intro d1 (And.intro ints_len (And.intro nd_len (And.intro rim_len (And.intro strs_len ft))))))))))
          refine Run.region rfl fun K hK => GOps.sim ?_
          refine GOps.call rfl rfl rfl rfl (by kernel_rfl) (ACalls.sim ?_)
          refine (Names_ok g.out (by omega) hg.onames hg.onodup _).mono fun v u hv => ?_
          obtain ⟨rfl, rfl⟩ := hv
          refine ⟨_, _, rfl, GOps.sim ?_⟩
          refine GOps.done (hK _ ?_); clear hK K
          refine End.kp [1, 7] ?_
          refine Run.seq ?_
          refine Run.go ?_
          refine End.kp [1, 7, 69] ?_
          refine Run.cond _ rfl (fun hb => ?_) (fun hb => ?_)
          · have hb := hb
            simp at hb
          · have hb := hb
            refine Run.skip ?_
            refine End.kp [1] ?_
            refine Run.seq ?_
            have fx := And.intro hap (And.intro hsl (And.intro d5 (And.intro d4 (And.intro d3 (And.intro d2 (And.intro d1 (And.intro ints_len (And.intro nd_len (And.intro rim_len (And.intro strs_len ft))))))))))
            refine Run.region rfl fun K hK => GOps.sim ?_
            refine GOps.call rfl rfl rfl rfl (by kernel_rfl) (ACalls.sim ?_)
            refine (GFirst_ok g hsm _).mono fun v u hv => ?_
            obtain ⟨rfl, rfl⟩ := hv
            refine ⟨_, _, rfl, GOps.sim ?_⟩
            refine GOps.done (hK _ ?_); clear hK K
            refine End.kp [1, 8] ?_
            refine Run.seq ?_
            refine Run.seq ?_
            refine Run.go ?_
            refine End.kp [1, 8, 74, 75, 76] ?_
            refine Run.block ?_
            refine Run.ghost (Ghost.form [(1, .ptr 0 0 0), (8, .i (1 + g.inn.length + g.regs.length)), (74, .im (.sl (g.ands.map nd))), (75, .i g.ands.length), (76, .i (0 : Nat))] 1 ⟨rfl, rfl, rfl, rfl, rfl, trivial⟩ rfl rfl) ?_
            refine Run.loop (fun m st => ∃ (i : Nat), m = g.ands.length - i ∧ i ≤ g.ands.length ∧ st = ⟨[(1, .ptr 0 0 0), (8, .i (1 + g.inn.length + g.regs.length)), (74, .im (.sl (g.ands.map nd))), (75, .i g.ands.length), (76, .i (i : Nat))], [.box [.im (.sl (strs g.inn)), .im (.sl (strs g.out)), .im (.sl (g.regs.map LReg.im)), .im (.sl (g.ands.map nd)), .im (.sl (ints g.outs))]], up⟩) g.ands.length ⟨0, rfl, by omega, rfl⟩ fun m st hI => ?_
            obtain ⟨i, rfl, hi, rfl⟩ := hI
            refine Run.seq ?_
            have fx := And.intro hap (And.intro hsl (And.intro d5 (And.intro d4 (And.intro d3 (And.intro d2 (And.intro d1 (And.intro ints_len (And.intro nd_len (And.intro rim_len (And.intro strs_len ft))))))))))
            refine Run.go ?_
            refine End.kp [1, 8, 74, 75, 76, 77] ?_
            refine Run.seq ?_
            refine Run.cond _ rfl (fun hb => ?_) (fun hb => ?_)
            · have hb := of_decide_eq_true hb
              have hin : i < g.ands.length := by omega
              have wi := wsucc hin (by omega)
              obtain ⟨p, hpi, hpm, hp⟩ := node_at g.ands i hin
              obtain ⟨⟨e1, e2⟩, e3, e4⟩ := hg.ands i p hpi
              have wfi : IntKind.i64.wrap (1 + (g.inn.length : Int) + g.regs.length + i) = 1 + (g.inn.length : Int) + g.regs.length + i := wrap64 (by omega)
              refine Run.skip ?_
              refine End.kp [1, 8, 74, 75, 76] ?_
              refine Run.seq ?_
              refine Run.block ?_
              refine Run.seq ?_
              have fx := And.intro (@Int.toNat_natCast) (And.intro (@Int.natCast_nonneg) (And.intro wfi (And.intro hp (And.intro wi (And.intro hap (And.intro hsl (And.intro d5 (And.intro d4 (And.intro d3 (And.intro d2 (And.intro d1 (And.intro ints_len (And.intro nd_len (And.intro rim_len (And.intro strs_len ft)))))))))))))))
              refine Run.go ?_
              refine End.kp [1, 8, 9, 10, 74, 75, 76] ?_
              refine Run.seq ?_
              refine Run.region rfl fun K hK => GOps.sim ?_
              refine GOps.call rfl rfl rfl rfl (by kernel_rfl) (ACalls.sim ?_)
              refine (before_ok p.1 (1 + g.inn.length + g.regs.length + i) e1 e2 (by omega) _).mono fun v u hv => ?_
              obtain ⟨rfl, rfl⟩ := hv
              refine ⟨_, _, rfl, GOps.sim ?_⟩
              refine GOps.call rfl rfl rfl rfl (by kernel_rfl) (ACalls.sim ?_)
              refine (before_ok p.2 (1 + g.inn.length + g.regs.length + i) e3 e4 (by omega) _).mono fun v u hv => ?_
              obtain ⟨rfl, rfl⟩ := hv
              refine ⟨_, _, rfl, GOps.sim ?_⟩
              refine GOps.done (hK _ ?_); clear hK K
              refine End.kp [1, 8, 74, 75, 76, 96] ?_
              refine Run.cond _ rfl (fun hb => ?_) (fun hb => ?_)
              · have hb := hb
                simp at hb
              · have hb := hb
                refine Run.skip ?_
                refine End.blk ?_
                refine End.kp [1, 8, 74, 75, 76] ?_
                have fx := And.intro (@Int.toNat_natCast) (And.intro (@Int.natCast_nonneg) (And.intro wfi (And.intro hp (And.intro wi (And.intro hap (And.intro hsl (And.intro d5 (And.intro d4 (And.intro d3 (And.intro d2 (And.intro d1 (And.intro ints_len (And.intro nd_len (And.intro rim_len (And.intro strs_len ft)))))))))))))))
                refine Run.go ?_
                refine End.lp ?_
                refine ⟨g.ands.length - (i + 1), _, by omega, Ghost.form [(1, .ptr 0 0 0), (8, .i (1 + g.inn.length + g.regs.length)), (74, .im (.sl (g.ands.map nd))), (75, .i g.ands.length), (76, .i (i + 1 : Nat))] 1 ⟨rfl, rfl, rfl, rfl, rfl, trivial⟩ rfl rfl, i + 1, rfl, by omega, rfl⟩
            · have hb := of_decide_eq_false hb
              refine Run.exit rfl ?_
              refine End.kp [1, 8] ?_
              refine Run.seq ?_
              have fx := And.intro wn (And.intro hap (And.intro hsl (And.intro d5 (And.intro d4 (And.intro d3 (And.intro d2 (And.intro d1 (And.intro ints_len (And.intro nd_len (And.intro rim_len (And.intro strs_len ft)))))))))))
              refine Run.go ?_
              refine End.kp [1, 8] ?_
              refine Run.seq ?_
              refine Run.seq ?_
              refine Run.go ?_
              refine End.kp [1, 8, 104, 105, 106] ?_
              refine Run.block ?_
              refine Run.ghost (Ghost.form [(1, .ptr 0 0 0), (8, .i (1 + g.inn.length + g.regs.length + g.ands.length)), (104, .im (.sl (g.regs.map LReg.im))), (105, .i g.regs.length), (106, .i (0 : Nat))] 1 ⟨rfl, rfl, rfl, rfl, rfl, trivial⟩ rfl rfl) ?_
              refine Run.loop (fun m st => ∃ (i : Nat), m = g.regs.length - i ∧ i ≤ g.regs.length ∧ st = ⟨[(1, .ptr 0 0 0), (8, .i (1 + g.inn.length + g.regs.length + g.ands.length)), (104, .im (.sl (g.regs.map LReg.im))), (105, .i g.regs.length), (106, .i (i : Nat))], [.box [.im (.sl (strs g.inn)), .im (.sl (strs g.out)), .im (.sl (g.regs.map LReg.im)), .im (.sl (g.ands.map nd)), .im (.sl (ints g.outs))]], up⟩) g.regs.length ⟨0, rfl, by omega, rfl⟩ fun m st hI => ?_
              obtain ⟨i, rfl, hi, rfl⟩ := hI
              refine Run.seq ?_
              have fx := And.intro wn (And.intro hap (And.intro hsl (And.intro d5 (And.intro d4 (And.intro d3 (And.intro d2 (And.intro d1 (And.intro ints_len (And.intro nd_len (And.intro rim_len (And.intro strs_len ft)))))))))))
              refine Run.go ?_
              refine End.kp [1, 8, 104, 105, 106, 107] ?_
              refine Run.seq ?_
              refine Run.cond _ rfl (fun hb => ?_) (fun hb => ?_)
              · have hb := of_decide_eq_true hb
                have hin : i < g.regs.length := by omega
                have wi := wsucc hin (by omega)
                obtain ⟨f, hf, hfm, hgt⟩ := reg_at g.regs i hin
                obtain ⟨e1, e2⟩ := hg.regs f hfm
                refine Run.skip ?_
                refine End.kp [1, 8, 104, 105, 106] ?_
                refine Run.seq ?_
                refine Run.block ?_
                refine Run.seq ?_
                have fx := And.intro (@Int.toNat_natCast) (And.intro (@Int.natCast_nonneg) (And.intro hgt (And.intro wi (And.intro wn (And.intro hap (And.intro hsl (And.intro d5 (And.intro d4 (And.intro d3 (And.intro d2 (And.intro d1 (And.intro ints_len (And.intro nd_len (And.intro rim_len (And.intro strs_len ft)))))))))))))))
                refine Run.go ?_
                refine End.kp [1, 8, 12, 104, 105, 106] ?_
                refine Run.seq ?_
                refine Run.region rfl fun K hK => GOps.sim ?_
                refine GOps.call rfl rfl rfl rfl (by kernel_rfl) (ACalls.sim ?_)
                refine (before_ok f.next (1 + g.inn.length + g.regs.length + g.ands.length) e1 e2 (by omega) _).mono fun v u hv => ?_
                obtain ⟨rfl, rfl⟩ := hv
                refine ⟨_, _, rfl, GOps.sim ?_⟩
                refine GOps.done (hK _ ?_); clear hK K
                refine End.kp [1, 8, 104, 105, 106, 114] ?_
                refine Run.cond _ rfl (fun hb => ?_) (fun hb => ?_)
                · have hb := hb
                  simp at hb
                · have hb := hb
                  refine Run.skip ?_
                  refine End.blk ?_
                  refine End.kp [1, 8, 104, 105, 106] ?_
                  have fx := And.intro (@Int.toNat_natCast) (And.intro (@Int.natCast_nonneg) (And.intro hgt (And.intro wi (And.intro wn (And.intro hap (And.intro hsl (And.intro d5 (And.intro d4 (And.intro d3 (And.intro d2 (And.intro d1 (And.intro ints_len (And.intro nd_len (And.intro rim_len (And.intro strs_len ft)))))))))))))))
                  refine Run.go ?_
                  refine End.lp ?_
                  refine ⟨g.regs.length - (i + 1), _, by omega, Ghost.form [(1, .ptr 0 0 0), (8, .i (1 + g.inn.length + g.regs.length + g.ands.length)), (104, .im (.sl (g.regs.map LReg.im))), (105, .i g.regs.length), (106, .i (i + 1 : Nat))] 1 ⟨rfl, rfl, rfl, rfl, rfl, trivial⟩ rfl rfl, i + 1, rfl, by omega, rfl⟩
              · have hb := of_decide_eq_false hb
                refine Run.exit rfl ?_
                refine End.kp [1, 8] ?_
                refine Run.seq ?_
                refine Run.seq ?_
                have fx := And.intro wn (And.intro hap (And.intro hsl (And.intro d5 (And.intro d4 (And.intro d3 (And.intro d2 (And.intro d1 (And.intro ints_len (And.intro nd_len (And.intro rim_len (And.intro strs_len ft)))))))))))
                refine Run.go ?_
                refine End.kp [8, 117, 118, 119] ?_
                refine Run.block ?_
                refine Run.ghost (Ghost.form [(8, .i (1 + g.inn.length + g.regs.length + g.ands.length)), (117, .im (.sl (ints g.outs))), (118, .i g.outs.length), (119, .i (0 : Nat))] 0 ⟨rfl, rfl, rfl, rfl, trivial⟩ rfl rfl) ?_
                refine Run.loop (fun m st => ∃ (i : Nat), m = g.outs.length - i ∧ i ≤ g.outs.length ∧ st = ⟨[(8, .i (1 + g.inn.length + g.regs.length + g.ands.length)), (117, .im (.sl (ints g.outs))), (118, .i g.outs.length), (119, .i (i : Nat))], [], up⟩) g.outs.length ⟨0, rfl, by omega, rfl⟩ fun m st hI => ?_
                obtain ⟨i, rfl, hi, rfl⟩ := hI
                refine Run.seq ?_
                have fx := And.intro wn (And.intro hap (And.intro hsl (And.intro d5 (And.intro d4 (And.intro d3 (And.intro d2 (And.intro d1 (And.intro ints_len (And.intro nd_len (And.intro rim_len (And.intro strs_len ft)))))))))))
                refine Run.go ?_
                refine End.kp [8, 117, 118, 119, 120] ?_
                refine Run.seq ?_
                refine Run.cond _ rfl (fun hb => ?_) (fun hb => ?_)
                · have hb := of_decide_eq_true hb
                  have hin : i < g.outs.length := by omega
                  have wi := wsucc hin (by omega)
                  obtain ⟨x, _, hxm, hx⟩ := int_at g.outs i hin
                  obtain ⟨e1, e2⟩ := hg.outs x hxm
                  refine Run.skip ?_
                  refine End.kp [8, 117, 118, 119] ?_
                  refine Run.seq ?_
                  refine Run.block ?_
                  refine Run.seq ?_
                  have fx := And.intro (@Int.toNat_natCast) (And.intro (@Int.natCast_nonneg) (And.intro hx (And.intro wi (And.intro wn (And.intro hap (And.intro hsl (And.intro d5 (And.intro d4 (And.intro d3 (And.intro d2 (And.intro d1 (And.intro ints_len (And.intro nd_len (And.intro rim_len (And.intro strs_len ft)))))))))))))))
                  refine Run.go ?_
                  refine End.kp [8, 14, 117, 118, 119] ?_
                  refine Run.seq ?_
                  refine Run.region rfl fun K hK => GOps.sim ?_
                  refine GOps.call rfl rfl rfl rfl (by kernel_rfl) (ACalls.sim ?_)
                  refine (before_ok x (1 + g.inn.length + g.regs.length + g.ands.length) e1 e2 (by omega) _).mono fun v u hv => ?_
                  obtain ⟨rfl, rfl⟩ := hv
                  refine ⟨_, _, rfl, GOps.sim ?_⟩
                  refine GOps.done (hK _ ?_); clear hK K
                  refine End.kp [8, 117, 118, 119, 126] ?_
                  refine Run.cond _ rfl (fun hb => ?_) (fun hb => ?_)
                  · have hb := hb
                    simp at hb
                  · have hb := hb
                    refine Run.skip ?_
                    refine End.blk ?_
                    refine End.kp [8, 117, 118, 119] ?_
                    have fx := And.intro (@Int.toNat_natCast) (And.intro (@Int.natCast_nonneg) (And.intro hx (And.intro wi (And.intro wn (And.intro hap (And.intro hsl (And.intro d5 (And.intro d4 (And.intro d3 (And.intro d2 (And.intro d1 (And.intro ints_len (And.intro nd_len (And.intro rim_len (And.intro strs_len ft)))))))))))))))
                    refine Run.go ?_
                    refine End.lp ?_
                    refine ⟨g.outs.length - (i + 1), _, by omega, Ghost.form [(8, .i (1 + g.inn.length + g.regs.length + g.ands.length)), (117, .im (.sl (ints g.outs))), (118, .i g.outs.length), (119, .i (i + 1 : Nat))] 0 ⟨rfl, rfl, rfl, rfl, trivial⟩ rfl rfl, i + 1, rfl, by omega, rfl⟩
                · have hb := of_decide_eq_false hb
                  refine Run.exit rfl ?_
                  refine End.kp [] ?_
                  refine Run.seq ?_
                  have fx := And.intro wn (And.intro hap (And.intro hsl (And.intro d5 (And.intro d4 (And.intro d3 (And.intro d2 (And.intro d1 (And.intro ints_len (And.intro nd_len (And.intro rim_len (And.intro strs_len ft)))))))))))
                  refine Run.go ?_
                  refine End.kp [2] ?_
                  refine Run.ret (hQ _ _ ⟨.inr rfl, _, rfl, _, rfl, ?_⟩)
                  exact ⟨rfl, rfl⟩
abbrev vnot (x : Int) : Int := bits .xor .u64 (if IntKind.u64.signed = true then -1 else IntKind.u64.max) x
def ofV (v : List Int) (l : Int) : Int := if l % 2 = 1 then vnot (v.getD (l / 2).toNat 0) else v.getD (l / 2).toNat 0
def valsA : List (Int × Int) → List Int → List Int
  | [], v => v
  | p :: ps, v => valsA ps (v ++ [bits .and .u64 (ofV v p.1) (ofV v p.2)])
def graphVals (g : LGraph) (inn st : List Int) : List Int := valsA g.ands ([0] ++ inn ++ st)
theorem valsA_len : ∀ (ps : List (Int × Int)) (v : List Int), (valsA ps v).length = v.length + ps.length
  | [], v => by simp [valsA]
  | p :: ps, v => by
    rw [valsA, valsA_len ps]
    simp
    omega
theorem graphVals_len (g : LGraph) (inn st : List Int) (h1 : inn.length = g.inn.length) (h2 : st.length = g.regs.length) : (graphVals g inn st).length = 1 + g.inn.length + g.regs.length + g.ands.length := by
  rw [graphVals, valsA_len]
  simp
  omega
def outsG (g : LGraph) (v : List Int) : List Int := g.outs.map (ofV v)
def nextsG (g : LGraph) (v : List Int) : List Int := g.regs.map fun r => ofV v r.next
theorem node_drop (l : List (Int × Int)) (i : Nat) (p : Int × Int) (h : l[i]? = some p) : l.drop i = p :: l.drop (i + 1) := by
  obtain ⟨hi, rfl⟩ := List.getElem?_eq_some_iff.1 h
  exact List.drop_eq_getElem_cons hi
theorem int_snoc (l : List Int) (i : Nat) (r : Int) (h : l[i]? = some r) : l.take (i + 1) = l.take i ++ [r] := by simp [List.take_add_one, h]
theorem reg_snoc (l : List LReg) (i : Nat) (r : LReg) (h : l[i]? = some r) : l.take (i + 1) = l.take i ++ [r] := by simp [List.take_add_one, h]
theorem of_ok (v : List Int) (l : Int) (h0 : 0 ≤ l) (h1 : l < 2 * (v.length : Int)) (hv2 : v.length ≤ 100000) (up : Frs) : ACalls Tryd.prog 73 [.im (.sl (us v)), .i l] up fun r u => r = .u (ofV v l) ∧ u = up := by
  have hm := tmod2 l h0
  have hd := tdiv2 l h0 (by omega)
  have hd0 : 0 ≤ l / 2 := by omega
  have hdl : l / 2 < (v.length : Int) := by omega
  have hv := us_get v (l / 2).toNat (by omega)
  refine ACalls.code Tryd.func73 rfl 19 rfl (by simp) [.tmp 4] rfl fun Q hQ => ?_
  simp only [ups, PV.up, argEnv]
  have ft := And.intro ty_4 (And.intro ty_51 (And.intro ty_103 (And.intro ty_131 trivial)))
  refine Run.seq ?_
  have fx := And.intro hv (And.intro hdl (And.intro hd0 (And.intro hd (And.intro hm (And.intro us_len ft)))))
  refine Run.go ?_
  refine End.kp [0, 1] ?_
  refine Run.seq ?_
  refine Run.seq ?_
  refine Run.go ?_
  refine End.kp [0, 1, 7] ?_
  refine Run.cond _ rfl (fun hb => ?_) (fun hb => ?_)
  · have hb := eq_of_beq hb
    refine Run.seq ?_
    have fx := And.intro hv (And.intro hdl (And.intro hd0 (And.intro hd (And.intro hm (And.intro us_len ft)))))
    refine Run.go ?_
    refine End.kp [4] ?_
    refine Run.ret (hQ _ _ ⟨.inr rfl, _, rfl, _, rfl, ?_⟩)
    exact ⟨by simp [ofV, hb], rfl⟩
  · have hb : ¬ l % 2 = 1 := fun e => by simp [e] at hb
    refine Run.skip ?_
    refine End.kp [0, 1] ?_
    refine Run.seq ?_
    have fx := And.intro hv (And.intro hdl (And.intro hd0 (And.intro hd (And.intro hm (And.intro us_len ft)))))
    refine Run.go ?_
    refine End.kp [4] ?_
    refine Run.ret (hQ _ _ ⟨.inr rfl, _, rfl, _, rfl, ?_⟩)
    exact ⟨by simp [ofV, hb], rfl⟩
theorem of_ms (v : List Int) (l : Int) (h0 : 0 ≤ l) (h1 : l < 2 * (v.length : Int)) (hv2 : v.length ≤ 100000) (up : Frs) (d j n fz : Nat) (hn : n = v.length) (hl : fget up d j = some (.row 131 1 (us v) fz)) : ACalls Tryd.prog 73 [.ms d j n, .i l] up fun r u => r = .u (ofV v l) ∧ u = up := by
  subst hn
  have hm := tmod2 l h0
  have hd := tdiv2 l h0 (by omega)
  have hd0 : 0 ≤ l / 2 := by omega
  have hdl : l / 2 < (v.length : Int) := by omega
  have hv := us_get v (l / 2).toNat (by omega)
  refine ACalls.code Tryd.func73 rfl 19 rfl (by simp) [.tmp 4] rfl fun Q hQ => ?_
  simp only [ups, PV.up, argEnv]
  have ft := And.intro ty_4 (And.intro ty_51 (And.intro ty_103 (And.intro ty_131 trivial)))
  refine Run.seq ?_
  have fx := And.intro hv (And.intro hdl (And.intro hd0 (And.intro hd (And.intro hm (And.intro hl (And.intro us_len ft))))))
  refine Run.go ?_
  refine End.kp [0, 1] ?_
  refine Run.seq ?_
  refine Run.seq ?_
  refine Run.go ?_
  refine End.kp [0, 1, 7] ?_
  refine Run.cond _ rfl (fun hb => ?_) (fun hb => ?_)
  · have hb := eq_of_beq hb
    refine Run.seq ?_
    have fx := And.intro hv (And.intro hdl (And.intro hd0 (And.intro hd (And.intro hm (And.intro hl (And.intro us_len ft))))))
    refine Run.go ?_
    refine End.kp [4] ?_
    refine Run.ret (hQ _ _ ⟨.inr rfl, _, rfl, _, rfl, ?_⟩)
    exact ⟨by simp [ofV, hb], rfl⟩
  · have hb : ¬ l % 2 = 1 := fun e => by simp [e] at hb
    refine Run.skip ?_
    refine End.kp [0, 1] ?_
    refine Run.seq ?_
    have fx := And.intro hv (And.intro hdl (And.intro hd0 (And.intro hd (And.intro hm (And.intro hl (And.intro us_len ft))))))
    refine Run.go ?_
    refine End.kp [4] ?_
    refine Run.ret (hQ _ _ ⟨.inr rfl, _, rfl, _, rfl, ?_⟩)
    exact ⟨by simp [ofV, hb], rfl⟩
theorem gvalues_ok (g : LGraph) (hg : GraphOk g) (inn st : List Int) (h1 : inn.length = g.inn.length) (h2 : st.length = g.regs.length) (up : Frs) : ACalls Tryd.prog 57 [g.pv, .im (.sl (us inn)), .im (.sl (us st))] up fun v u => v = .im (.sl (us (graphVals g inn st))) ∧ u = up := by
  obtain ⟨z1, z2, z3, z4, z5⟩ := hg.small
  have a1 : (1 + inn.length) * 8 ≤ 140737488355328 := by omega
  have a2 : (1 + inn.length + st.length) * 8 ≤ 140737488355328 := by omega
  have b1 : inn.length + 1 = 1 + inn.length := by omega
  have al : ∀ l : List Int, (us l).all (fun r => r.length == 1) = true := fun l => by simp
  refine ACalls.code Tryd.func57 rfl 37 rfl (by simp) [.tmp 6] rfl fun Q hQ => ?_
  simp only [ups, PV.up, argEnv]
  have ft := And.intro ty_3 (And.intro ty_28 (And.intro ty_31 (And.intro ty_51 (And.intro ty_54 (And.intro ty_103 (And.intro ty_131 trivial))))))
  refine Run.seq ?_
  have fx := And.intro (@List.length_append.{0}) (And.intro b1 (And.intro al (And.intro a2 (And.intro a1 (And.intro ints_len (And.intro nd_len (And.intro us_len ft)))))))
  refine Run.go ?_
  refine End.kp [1, 2, 3] ?_
  refine Run.seq ?_
  refine Run.go ?_
  refine End.kp [2, 3, 7] ?_
  refine Run.seq ?_
  refine Run.go ?_
  refine End.kp [3, 7] ?_
  refine Run.seq ?_
  refine Run.seq ?_
  refine Run.go ?_
  refine End.kp [7, 17, 18, 19] ?_
  refine Run.block ?_
  refine Run.ghost (Ghost.form [(7, .ms 0 1 (1 + inn.length + st.length)), (17, .im (.sl (g.ands.map nd))), (18, .i g.ands.length), (19, .i (0 : Nat))] 2 ⟨rfl, rfl, rfl, rfl, trivial⟩ rfl rfl) ?_
  refine Run.loop (fun m s => ∃ (i : Nat) (v : List Int), m = g.ands.length - i ∧ i ≤ g.ands.length ∧ v.length = 1 + inn.length + st.length + i ∧ valsA (g.ands.drop i) v = graphVals g inn st ∧ s = ⟨[(7, .ms 0 1 v.length), (17, .im (.sl (g.ands.map nd))), (18, .i g.ands.length), (19, .i (i : Nat))], [.box [.im (.sl (strs g.inn)), .im (.sl (strs g.out)), .im (.sl (g.regs.map LReg.im)), .im (.sl (g.ands.map nd)), .im (.sl (ints g.outs))], .row 131 1 (us v) 0], up⟩) g.ands.length ⟨0, [0] ++ inn ++ st, rfl, by omega, by simp; omega, rfl, ?_⟩ fun m s hI => ?_
  · simp
    omega
  obtain ⟨i, v, rfl, hi, hvl, hV, rfl⟩ := hI
  have hav : (v.length + 1) * 8 ≤ 140737488355328 := by omega
  refine Run.seq ?_
  have fx := And.intro hav (And.intro (@List.length_append.{0}) (And.intro b1 (And.intro al (And.intro a2 (And.intro a1 (And.intro ints_len (And.intro nd_len (And.intro us_len ft))))))))
  refine Run.go ?_
  refine End.kp [7, 17, 18, 19, 20] ?_
  refine Run.seq ?_
  refine Run.cond _ rfl (fun hb => ?_) (fun hb => ?_)
  · have hb := of_decide_eq_true hb
    have hin : i < g.ands.length := by omega
    have wi := wsucc hin (by omega)
    obtain ⟨p, hpi, hpm, hp⟩ := node_at g.ands i hin
    obtain ⟨⟨e1, e2⟩, e3, e4⟩ := hg.ands i p hpi
    have e2' : p.1 < 2 * (v.length : Int) := by omega
    have e4' : p.2 < 2 * (v.length : Int) := by omega
    rw [node_drop _ i p hpi, valsA] at hV
    refine Run.skip ?_
    refine End.kp [7, 17, 18, 19] ?_
    refine Run.seq ?_
    refine Run.block ?_
    refine Run.seq ?_
    have fx := And.intro (@Int.toNat_natCast) (And.intro (@Int.natCast_nonneg) (And.intro hp (And.intro wi (And.intro hav (And.intro (@List.length_append.{0}) (And.intro b1 (And.intro al (And.intro a2 (And.intro a1 (And.intro ints_len (And.intro nd_len (And.intro us_len ft))))))))))))
    refine Run.go ?_
    refine End.kp [7, 9, 17, 18, 19] ?_
    refine Run.ghost (.spares 1) ?_
    simp only [ASt.pushN, ASt.push, List.append_assoc, List.cons_append, List.nil_append]
    refine Run.drawA fun K hK => ?_
    refine DOps.sim ?_
    refine DOps.call (.u (ofV v p.1)) [((0, 1), .row 131 1 (us v) 0)] [] rfl rfl rfl rfl (by kernel_rfl) (by simp [Agree, ASt.fr]) (fun u hu => of_ms v p.1 e1 e2' (by omega) u 0 1 v.length 0 rfl (hu ((0, 1), .row 131 1 (us v) 0) (by simp))) ?_
    refine DOps.sim ?_
    refine DOps.call (.u (ofV v p.2)) [((0, 1), .row 131 1 (us v) 0)] [] rfl rfl rfl rfl (by kernel_rfl) (by simp [Agree, ASt.fr]) (fun u hu => of_ms v p.2 e3 e4' (by omega) u 0 1 v.length 0 rfl (hu ((0, 1), .row 131 1 (us v) 0) (by simp))) ?_
    refine DOps.sim ?_
    refine DOps.nil (by rfl) (hK _ ?_); clear hK K
    refine End.blk ?_
    refine End.kp [7, 17, 18, 19] ?_
    refine Run.go ?_
    refine End.lp ?_
    refine ⟨g.ands.length - (i + 1), _, by omega, Ghost.form [(7, .ms 0 1 (v.length + 1)), (17, .im (.sl (g.ands.map nd))), (18, .i g.ands.length), (19, .i (i + 1 : Nat))] 2 ⟨rfl, rfl, rfl, rfl, trivial⟩ rfl rfl, i + 1, v ++ [bits .and .u64 (ofV v p.1) (ofV v p.2)], rfl, by omega, by simp; omega, hV, ?_⟩
    simp
  · have hb := of_decide_eq_false hb
    have hiN : i = g.ands.length := by omega
    subst hiN
    rw [List.drop_length, valsA] at hV
    refine Run.exit rfl ?_
    refine End.kp [7] ?_
    refine Run.seq ?_
    refine Run.ghost (Ghost.shut (t := 7) (j := 1) rfl rfl (us_len v)) ?_
    simp only [eput, edel]
    have fx := And.intro hav (And.intro (@List.length_append.{0}) (And.intro b1 (And.intro al (And.intro a2 (And.intro a1 (And.intro ints_len (And.intro nd_len (And.intro us_len ft))))))))
    refine Run.go ?_
    refine End.kp [6] ?_
    refine Run.ret (hQ _ _ ⟨.inr rfl, _, rfl, _, rfl, ?_⟩)
    exact ⟨by rw [hV], rfl⟩
-- GONE GValues_ok
end Go.Proofs.YtdgpmopcmacicaaDoorPi

/- The walks of results, Words, Eval, Init, Run of graphs. -/
set_option linter.unusedVariables false
set_option linter.unusedSimpArgs false
set_option maxRecDepth 100000
namespace Go.Proofs.YtdgpmopcmacicaaDoorPi
set_option maxHeartbeats 2000000
abbrev laneB (l : List Int) : List Bool := l.map fun w => bits .and .u64 w 1 == 1
def runG (g : LGraph) : List Int → List (List Bool) → List (List Bool)
  | _, [] => []
  | st, r :: t => laneB (outsG g (graphVals g (lanes0 r) st)) :: runG g (nextsG g (graphVals g (lanes0 r) st)) t
theorem runG_len (g : LGraph) : ∀ (t : List (List Bool)) (st : List Int), (runG g st t).length = t.length
  | [], st => rfl
  | r :: t, st => by simp [runG, runG_len g t]
abbrev initG (g : LGraph) : List Bool := g.regs.map LReg.init
theorem gresults_ok (g : LGraph) (hg : GraphOk g) (v : List Int) (hv : v.length = 1 + g.inn.length + g.regs.length + g.ands.length) (up : Frs) : ACalls Tryd.prog 56 [g.pv, .im (.sl (us v))] up fun r u => r = .tup [.im (.sl (us (outsG g v))), .im (.sl (us (nextsG g v)))] ∧ u = up := by
  obtain ⟨z1, z2, z3, z4, z5⟩ := hg.small
  refine ACalls.code Tryd.func56 rfl 41 rfl (by simp) [.tmp 4, .tmp 5] rfl fun Q hQ => ?_
  simp only [ups, PV.up, argEnv]
  have ft := And.intro ty_2 (And.intro ty_3 (And.intro ty_4 (And.intro ty_27 (And.intro ty_29 (And.intro ty_31 (And.intro ty_51 (And.intro ty_56 (And.intro ty_103 (And.intro ty_131 trivial)))))))))
  refine Run.seq ?_
  have fx := And.intro ints_len (And.intro rim_len (And.intro us_len ft))
  refine Run.go ?_
  refine End.kp [1, 2, 4, 5] ?_
  refine Run.seq ?_
  refine Run.seq ?_
  refine Run.go ?_
  refine End.kp [1, 2, 4, 5, 11, 12, 13] ?_
  refine Run.block ?_
  refine Run.ghost (Ghost.thaw (u := 4) 131 1 (by decide) rfl) ?_
  refine Run.ghost (Ghost.form [(1, .im (.sl (us v))), (2, .ptr 0 0 0), (4, .ms 0 1 0), (5, .nils), (11, .im (.sl (ints g.outs))), (12, .i g.outs.length), (13, .i (0 : Nat))] 2 ⟨rfl, rfl, rfl, rfl, rfl, rfl, rfl, trivial⟩ rfl rfl) ?_
  refine Run.loop (fun m s => ∃ (i : Nat), m = g.outs.length - i ∧ i ≤ g.outs.length ∧ s = ⟨[(1, .im (.sl (us v))), (2, .ptr 0 0 0), (4, .ms 0 1 i), (5, .nils), (11, .im (.sl (ints g.outs))), (12, .i g.outs.length), (13, .i (i : Nat))], [.box [.im (.sl (strs g.inn)), .im (.sl (strs g.out)), .im (.sl (g.regs.map LReg.im)), .im (.sl (g.ands.map nd)), .im (.sl (ints g.outs))], .row 131 1 (us ((g.outs.take i).map (ofV v))) 0], up⟩) g.outs.length ⟨0, rfl, by omega, rfl⟩ fun m s hI => ?_
  obtain ⟨i, rfl, hi, rfl⟩ := hI
  have hol : ((g.outs.take i).map (ofV v)).length = i := by simp; omega
  have hao : (i + 1) * 8 ≤ 140737488355328 := by omega
  refine Run.seq ?_
  have fx := And.intro hao (And.intro hol (And.intro ints_len (And.intro rim_len (And.intro us_len ft))))
  refine Run.go ?_
  refine End.kp [1, 2, 4, 5, 11, 12, 13, 14] ?_
  refine Run.seq ?_
  refine Run.cond _ rfl (fun hb => ?_) (fun hb => ?_)
  · have hb := of_decide_eq_true hb
    have hin : i < g.outs.length := by omega
    have wi := wsucc hin (by omega)
    obtain ⟨x, hxi, hxm, hx⟩ := int_at g.outs i hin
    obtain ⟨x1, x2⟩ := hg.outs x hxm
    have x2' : x < 2 * (v.length : Int) := by omega
    have htk := int_snoc g.outs i x hxi
    refine Run.skip ?_
    refine End.kp [1, 2, 4, 5, 11, 12, 13] ?_
    refine Run.seq ?_
    refine Run.block ?_
    refine Run.seq ?_
    have fx := And.intro (@Int.toNat_natCast) (And.intro (@Int.natCast_nonneg) (And.intro hx (And.intro wi (And.intro hao (And.intro hol (And.intro ints_len (And.intro rim_len (And.intro us_len ft))))))))
    refine Run.go ?_
    refine End.kp [1, 2, 4, 5, 7, 11, 12, 13] ?_
    refine Run.region rfl fun K hK => GOps.sim ?_
    refine GOps.call rfl rfl rfl rfl (by kernel_rfl) (ACalls.sim ?_)
    refine (of_ok v x x1 x2' (by omega) _).mono fun v u hv => ?_
    obtain ⟨rfl, rfl⟩ := hv
    refine ⟨_, _, rfl, GOps.sim ?_⟩
    refine GOps.done (hK _ ?_); clear hK K
    refine End.blk ?_
    refine End.kp [1, 2, 4, 5, 11, 12, 13] ?_
    refine Run.go ?_
    refine End.lp ?_
    refine ⟨g.outs.length - (i + 1), _, by omega, Ghost.form [(1, .im (.sl (us v))), (2, .ptr 0 0 0), (4, .ms 0 1 (i + 1)), (5, .nils), (11, .im (.sl (ints g.outs))), (12, .i g.outs.length), (13, .i (i + 1 : Nat))] 2 ⟨rfl, rfl, rfl, rfl, rfl, rfl, rfl, trivial⟩ rfl rfl, i + 1, rfl, by omega, ?_⟩
    rw [htk]
    simp
  · have hb := of_decide_eq_false hb
    have hiN : i = g.outs.length := by omega
    subst hiN
    rw [List.take_length] at hol ⊢
    refine Run.exit rfl ?_
    refine End.kp [1, 2, 4, 5] ?_
    refine Run.seq ?_
    refine Run.seq ?_
    have fx := And.intro hao (And.intro hol (And.intro ints_len (And.intro rim_len (And.intro us_len ft))))
    refine Run.go ?_
    refine End.kp [1, 4, 5, 25, 26, 27] ?_
    refine Run.block ?_
    refine Run.ghost (Ghost.thaw (u := 5) 131 1 (by decide) rfl) ?_
    refine Run.ghost (Ghost.form [(1, .im (.sl (us v))), (4, .ms 0 1 g.outs.length), (5, .ms 0 2 0), (25, .im (.sl (g.regs.map LReg.im))), (26, .i g.regs.length), (27, .i (0 : Nat))] 3 ⟨rfl, rfl, rfl, rfl, rfl, rfl, trivial⟩ rfl rfl) ?_
    refine Run.loop (fun m s => ∃ (i : Nat), m = g.regs.length - i ∧ i ≤ g.regs.length ∧ s = ⟨[(1, .im (.sl (us v))), (4, .ms 0 1 g.outs.length), (5, .ms 0 2 i), (25, .im (.sl (g.regs.map LReg.im))), (26, .i g.regs.length), (27, .i (i : Nat))], [.box [.im (.sl (strs g.inn)), .im (.sl (strs g.out)), .im (.sl (g.regs.map LReg.im)), .im (.sl (g.ands.map nd)), .im (.sl (ints g.outs))], .row 131 1 (us (outsG g v)) 0, .row 131 1 (us ((g.regs.take i).map fun r => ofV v r.next)) 0], up⟩) g.regs.length ⟨0, rfl, by omega, rfl⟩ fun m s hI => ?_
    obtain ⟨i, rfl, hi, rfl⟩ := hI
    have hdn : ((g.regs.take i).map fun r => ofV v r.next).length = i := by simp; omega
    have haf : (i + 1) * 8 ≤ 140737488355328 := by omega
    refine Run.seq ?_
    have fx := And.intro haf (And.intro hdn (And.intro hao (And.intro hol (And.intro ints_len (And.intro rim_len (And.intro us_len ft))))))
    refine Run.go ?_
    refine End.kp [1, 4, 5, 25, 26, 27, 28] ?_
    refine Run.seq ?_
    refine Run.cond _ rfl (fun hb => ?_) (fun hb => ?_)
    · have hb := of_decide_eq_true hb
      have hin : i < g.regs.length := by omega
      have wi := wsucc hin (by omega)
      obtain ⟨f, hfi, hfm, hf⟩ := reg_at g.regs i hin
      obtain ⟨x1, x2⟩ := hg.regs f hfm
      have x2' : f.next < 2 * (v.length : Int) := by omega
      have htk := reg_snoc g.regs i f hfi
      refine Run.skip ?_
      refine End.kp [1, 4, 5, 25, 26, 27] ?_
      refine Run.seq ?_
      refine Run.block ?_
      refine Run.seq ?_
      have fx := And.intro (@Int.toNat_natCast) (And.intro (@Int.natCast_nonneg) (And.intro hf (And.intro wi (And.intro haf (And.intro hdn (And.intro hao (And.intro hol (And.intro ints_len (And.intro rim_len (And.intro us_len ft))))))))))
      refine Run.go ?_
      refine End.kp [1, 4, 5, 9, 25, 26, 27] ?_
      refine Run.region rfl fun K hK => GOps.sim ?_
      refine GOps.call rfl rfl rfl rfl (by kernel_rfl) (ACalls.sim ?_)
      refine (of_ok v f.next x1 x2' (by omega) _).mono fun v u hv => ?_
      obtain ⟨rfl, rfl⟩ := hv
      refine ⟨_, _, rfl, GOps.sim ?_⟩
      refine GOps.done (hK _ ?_); clear hK K
      refine End.blk ?_
      refine End.kp [1, 4, 5, 25, 26, 27] ?_
      refine Run.go ?_
      refine End.lp ?_
      refine ⟨g.regs.length - (i + 1), _, by omega, Ghost.form [(1, .im (.sl (us v))), (4, .ms 0 1 g.outs.length), (5, .ms 0 2 (i + 1)), (25, .im (.sl (g.regs.map LReg.im))), (26, .i g.regs.length), (27, .i (i + 1 : Nat))] 3 ⟨rfl, rfl, rfl, rfl, rfl, rfl, trivial⟩ rfl rfl, i + 1, rfl, by omega, ?_⟩
      rw [htk]
      simp
    · have hb := of_decide_eq_false hb
      have hiN : i = g.regs.length := by omega
      subst hiN
      rw [List.take_length] at hdn ⊢
      refine Run.exit rfl ?_
      refine End.kp [4, 5] ?_
      refine Run.seq ?_
      refine Run.ghost (Ghost.shut (t := 4) (j := 1) rfl rfl (by rw [us_len]; exact hol)) ?_
      simp only [eput, edel]
      refine Run.ghost (Ghost.shut (t := 5) (j := 2) rfl rfl (by rw [us_len, hdn])) ?_
      simp only [eput, edel]
      have fx := And.intro haf (And.intro hdn (And.intro hao (And.intro hol (And.intro ints_len (And.intro rim_len (And.intro us_len ft))))))
      refine Run.go ?_
      refine End.kp [4, 5] ?_
      refine Run.ret (hQ _ _ ⟨.inr rfl, _, rfl, _, rfl, ?_⟩)
      exact ⟨rfl, rfl⟩
-- GONE GWords_ok
-- GONE GEval_ok
theorem GInit_ok (g : LGraph) (hg : GSmall g) (up : Frs) : ACalls Tryd.prog 55 [g.pv] up fun v u => v = .im (.sl (bools (initG g))) ∧ u = up := by
  obtain ⟨z1, z2, z3, z4, z5⟩ := hg
  have hc : (0 : Int) ≤ g.regs.length := by omega
  have hm1 : ((1 : Nat) : Int) * (g.regs.length : Int) ≤ 281474976710656 := by omega
  have hm2 : (g.regs.length : Int) ≤ 9223372036854775807 := by omega
  refine ACalls.code Tryd.func55 rfl 25 rfl (by simp) [.tmp 2] rfl fun Q hQ => ?_
  simp only [ups, PV.up, argEnv]
  have ft := And.intro ty_2 (And.intro ty_3 (And.intro ty_4 (And.intro ty_27 (And.intro ty_31 (And.intro ty_56 (And.intro ty_77 trivial))))))
  refine Run.seq ?_
  have fx := And.intro hm2 (And.intro hm1 (And.intro hc (And.intro rim_len ft)))
  refine Run.go ?_
  refine End.kp [1] ?_
  refine Run.seq ?_
  refine Run.go ?_
  refine End.kp [1, 3] ?_
  refine Run.seq ?_
  refine Run.seq ?_
  refine Run.go ?_
  refine End.kp [3, 11, 12, 13] ?_
  refine Run.block ?_
  refine Run.ghost (Ghost.form [(3, .ms 0 1 g.regs.length), (11, .im (.sl (g.regs.map LReg.im))), (12, .i g.regs.length), (13, .i (0 : Nat))] 2 ⟨rfl, rfl, rfl, rfl, trivial⟩ rfl rfl) ?_
  refine Run.loop (fun m s => ∃ (i : Nat), m = g.regs.length - i ∧ i ≤ g.regs.length ∧ s = ⟨[(3, .ms 0 1 g.regs.length), (11, .im (.sl (g.regs.map LReg.im))), (12, .i g.regs.length), (13, .i (i : Nat))], [.box [.im (.sl (strs g.inn)), .im (.sl (strs g.out)), .im (.sl (g.regs.map LReg.im)), .im (.sl (g.ands.map nd)), .im (.sl (ints g.outs))], .row 4 1 ((g.regs.take i).map (fun r => [Im.bool r.init]) ++ List.replicate (g.regs.length - i) [.bool false]) 0], up⟩) g.regs.length ⟨0, rfl, by omega, by simp⟩ fun m s hI => ?_
  obtain ⟨i, rfl, hi, rfl⟩ := hI
  have hrl := fill_len (fun r => [Im.bool r.init]) g.regs [.bool false] i hi
  refine Run.seq ?_
  have fx := And.intro hrl (And.intro hm2 (And.intro hm1 (And.intro hc (And.intro rim_len ft))))
  refine Run.go ?_
  refine End.kp [3, 11, 12, 13, 14] ?_
  refine Run.seq ?_
  refine Run.cond _ rfl (fun hb => ?_) (fun hb => ?_)
  · have hb := of_decide_eq_true hb
    have hin : i < g.regs.length := by omega
    have wi := wsucc hin (by omega)
    obtain ⟨f, hfi, hfm, hf⟩ := reg_at g.regs i hin
    have hri := fill_get (fun r => [Im.bool r.init]) g.regs [.bool false] i hin
    have hfd : g.regs.getD i ⟨ByteArray.empty, 0, false⟩ = f := by simp [hfi]
    have hfm2 := fill_map (fun r => [Im.bool r.init]) g.regs [.bool false] ⟨ByteArray.empty, 0, false⟩ i hin
    rw [hfd] at hfm2
    refine Run.skip ?_
    refine End.kp [3, 11, 12, 13] ?_
    refine Run.seq ?_
    refine Run.block ?_
    refine Run.seq ?_
    have fx := And.intro hri (And.intro hin (And.intro (@Int.ofNat_lt) (And.intro (@Int.toNat_natCast) (And.intro (@Int.natCast_nonneg) (And.intro hf (And.intro wi (And.intro hrl (And.intro hm2 (And.intro hm1 (And.intro hc (And.intro rim_len ft)))))))))))
    refine Run.go ?_
    refine End.kp [3, 4, 5, 11, 12, 13] ?_
    refine Run.go ?_
    refine End.blk ?_
    refine End.kp [3, 11, 12, 13] ?_
    refine Run.go ?_
    refine End.lp ?_
    refine ⟨g.regs.length - (i + 1), _, by omega, Ghost.form [(3, .ms 0 1 g.regs.length), (11, .im (.sl (g.regs.map LReg.im))), (12, .i g.regs.length), (13, .i (i + 1 : Nat))] 2 ⟨rfl, rfl, rfl, rfl, trivial⟩ rfl rfl, i + 1, rfl, by omega, ?_⟩
    rw [← hfm2]
    rfl
  · have hb := of_decide_eq_false hb
    have hiN : i = g.regs.length := by omega
    subst hiN
    rw [fill_all] at hrl ⊢
    refine Run.exit rfl ?_
    refine End.kp [3] ?_
    refine Run.seq ?_
    refine Run.ghost (Ghost.shut (t := 3) (j := 1) rfl rfl hrl) ?_
    simp only [eput, edel]
    have fx := And.intro hrl (And.intro hm2 (And.intro hm1 (And.intro hc (And.intro rim_len ft))))
    refine Run.go ?_
    refine End.kp [2] ?_
    refine Run.ret (hQ _ _ ⟨.inr rfl, _, rfl, _, rfl, ?_⟩)
    exact ⟨by simp, rfl⟩
theorem GRun_ok (g : LGraph) (hg : GraphOk g) (tr : List (List Bool)) (hn : tr.length ≤ 64) (ht : ∀ r ∈ tr, r.length = g.inn.length) (up : Frs) : ACalls Tryd.prog 32 [g.pv, .im (.sl (boolss tr))] up fun v u => v = .tup [.im (.sl (boolss (runG g (lanes0 (initG g)) tr))), .i 0] ∧ u = up := by
  have hsm := hg.small
  obtain ⟨z1, z2, z3, z4, z5⟩ := hg.small
  have d1 : decide ((tr.length : Int) > 64) = false := decide_eq_false (by omega)
  refine ACalls.code Tryd.func32 rfl 63 rfl (by simp) [.tmp 4, .tmp 5] rfl fun Q hQ => ?_
  simp only [ups, PV.up, argEnv]
  have ft := And.intro ty_3 (And.intro ty_4 (And.intro ty_9 (And.intro ty_26 (And.intro ty_31 (And.intro ty_35 (And.intro ty_42 (And.intro ty_77 (And.intro ty_103 (And.intro ty_131 trivial)))))))))
  refine Run.seq ?_
  have fx := And.intro d1 (And.intro strs_len (And.intro bools_len (And.intro boolss_len ft)))
  refine Run.go ?_
  refine End.kp [1, 2] ?_
  refine Run.seq ?_
  refine Run.seq ?_
  refine Run.region rfl fun K hK => GOps.sim ?_
  refine GOps.call rfl rfl rfl rfl (by kernel_rfl) (ACalls.sim ?_)
  refine (Check_ok g hg _).mono fun v u hv => ?_
  obtain ⟨rfl, rfl⟩ := hv
  refine ⟨_, _, rfl, GOps.sim ?_⟩
  refine GOps.done (hK _ ?_); clear hK K
  refine End.kp [1, 2, 6] ?_
  refine Run.seq ?_
  refine Run.go ?_
  refine End.kp [1, 2, 6, 18] ?_
  refine Run.cond _ rfl (fun hb => ?_) (fun hb => ?_)
  · have hb := hb
    simp at hb
  · have hb := hb
    refine Run.skip ?_
    refine End.kp [1, 2] ?_
    refine Run.seq ?_
    refine Run.seq ?_
    have fx := And.intro d1 (And.intro strs_len (And.intro bools_len (And.intro boolss_len ft)))
    refine Run.go ?_
    refine End.kp [1, 2, 22] ?_
    refine Run.cond _ rfl (fun hb => ?_) (fun hb => ?_)
    · have hb := hb
      simp at hb
    · have hb := hb
      refine Run.skip ?_
      refine End.kp [1, 2] ?_
      refine Run.seq ?_
      refine Run.seq ?_
      have fx := And.intro d1 (And.intro strs_len (And.intro bools_len (And.intro boolss_len ft)))
      refine Run.go ?_
      refine End.kp [1, 2, 23, 24, 25] ?_
      refine Run.block ?_
      refine Run.ghost (Ghost.form [(1, .im (.sl (boolss tr))), (2, .ptr 0 0 0), (23, .im (.sl (boolss tr))), (24, .i tr.length), (25, .i (0 : Nat))] 1 ⟨rfl, rfl, rfl, rfl, rfl, trivial⟩ rfl rfl) ?_
      refine Run.loop (fun m s => ∃ (i : Nat), m = tr.length - i ∧ i ≤ tr.length ∧ s = ⟨[(1, .im (.sl (boolss tr))), (2, .ptr 0 0 0), (23, .im (.sl (boolss tr))), (24, .i tr.length), (25, .i (i : Nat))], [.box [.im (.sl (strs g.inn)), .im (.sl (strs g.out)), .im (.sl (g.regs.map LReg.im)), .im (.sl (g.ands.map nd)), .im (.sl (ints g.outs))]], up⟩) tr.length ⟨0, rfl, by omega, rfl⟩ fun m s hI => ?_
      obtain ⟨i, rfl, hi, rfl⟩ := hI
      refine Run.seq ?_
      have fx := And.intro d1 (And.intro strs_len (And.intro bools_len (And.intro boolss_len ft)))
      refine Run.go ?_
      refine End.kp [1, 2, 23, 24, 25, 26] ?_
      refine Run.seq ?_
      refine Run.cond _ rfl (fun hb => ?_) (fun hb => ?_)
      · have hb := of_decide_eq_true hb
        have hin : i < tr.length := by omega
        have wi := wsucc hin (by omega)
        obtain ⟨r, hri, hrm, _, hr⟩ := boolss_at tr i hin
        have d2 : ((r.length : Int) != g.inn.length) = false := by rw [ht r hrm]; simp
        refine Run.skip ?_
        refine End.kp [1, 2, 23, 24, 25] ?_
        refine Run.seq ?_
        refine Run.block ?_
        refine Run.seq ?_
        have fx := And.intro (@Int.toNat_natCast) (And.intro (@Int.natCast_nonneg) (And.intro d2 (And.intro hr (And.intro wi (And.intro d1 (And.intro strs_len (And.intro bools_len (And.intro boolss_len ft))))))))
        refine Run.go ?_
        refine End.kp [1, 2, 8, 23, 24, 25] ?_
        refine Run.seq ?_
        refine Run.go ?_
        refine End.kp [1, 2, 23, 24, 25, 34] ?_
        refine Run.cond _ rfl (fun hb => ?_) (fun hb => ?_)
        · have hb := hb
          simp at hb
        · have hb := hb
          refine Run.skip ?_
          refine End.blk ?_
          refine End.kp [1, 2, 23, 24, 25] ?_
          have fx := And.intro (@Int.toNat_natCast) (And.intro (@Int.natCast_nonneg) (And.intro d2 (And.intro hr (And.intro wi (And.intro d1 (And.intro strs_len (And.intro bools_len (And.intro boolss_len ft))))))))
          refine Run.go ?_
          refine End.lp ?_
          refine ⟨tr.length - (i + 1), _, by omega, Ghost.form [(1, .im (.sl (boolss tr))), (2, .ptr 0 0 0), (23, .im (.sl (boolss tr))), (24, .i tr.length), (25, .i (i + 1 : Nat))] 1 ⟨rfl, rfl, rfl, rfl, rfl, trivial⟩ rfl rfl, i + 1, rfl, by omega, rfl⟩
      · have hb := of_decide_eq_false hb
        refine Run.exit rfl ?_
        refine End.kp [1, 2] ?_
        refine Run.seq ?_
        have fx := And.intro d1 (And.intro strs_len (And.intro bools_len (And.intro boolss_len ft)))
        refine Run.region rfl fun K hK => GOps.sim ?_
        refine GOps.call rfl rfl rfl rfl (by kernel_rfl) (ACalls.sim ?_)
        refine (GInit_ok g hsm _).mono fun v u hv => ?_
        obtain ⟨rfl, rfl⟩ := hv
        refine ⟨_, _, rfl, GOps.sim ?_⟩
        refine GOps.call rfl rfl rfl rfl (by kernel_rfl) (ACalls.sim ?_)
        refine (Lanes_ok (initG g) (by simp; omega) _).mono fun v u hv => ?_
        obtain ⟨rfl, rfl⟩ := hv
        refine ⟨_, _, rfl, GOps.sim ?_⟩
        refine GOps.done (hK _ ?_); clear hK K
        refine End.kp [1, 2, 9] ?_
        refine Run.seq ?_
        refine Run.go ?_
        refine End.kp [1, 2, 9, 10] ?_
        refine Run.seq ?_
        refine Run.seq ?_
        refine Run.go ?_
        refine End.kp [2, 9, 10, 39, 40, 41] ?_
        refine Run.block ?_
        refine Run.ghost (Ghost.thaw (u := 10) 77 1 (by decide) rfl) ?_
        refine Run.ghost (Ghost.form [(2, .ptr 0 0 0), (9, .im (.sl (us (lanes0 (initG g))))), (10, .ms 0 1 (0)), (39, .im (.sl (boolss tr))), (40, .i tr.length), (41, .i (0 : Nat))] 2 ⟨rfl, rfl, rfl, rfl, rfl, rfl, trivial⟩ rfl rfl) ?_
        refine Run.loop (fun m s => ∃ (i : Nat) (st : List Int) (dn : List (List Bool)), m = tr.length - i ∧ i ≤ tr.length ∧ dn.length = i ∧ st.length = g.regs.length ∧ dn ++ runG g st (tr.drop i) = runG g (lanes0 (initG g)) tr ∧ s = ⟨[(2, .ptr 0 0 0), (9, .im (.sl (us st))), (10, .ms 0 1 (i)), (39, .im (.sl (boolss tr))), (40, .i tr.length), (41, .i (i : Nat))], [.box [.im (.sl (strs g.inn)), .im (.sl (strs g.out)), .im (.sl (g.regs.map LReg.im)), .im (.sl (g.ands.map nd)), .im (.sl (ints g.outs))], .row 77 1 (boolss dn) 0], up⟩) tr.length ⟨0, _, [], rfl, by omega, rfl, by simp, rfl, rfl⟩ fun m s hI => ?_
        obtain ⟨i, st, dn, rfl, hi, hdn, hst, hR, rfl⟩ := hI
        have hap : (i + 1) * 24 ≤ 140737488355328 := by omega
        refine Run.seq ?_
        have fx := And.intro hap (And.intro hdn (And.intro d1 (And.intro strs_len (And.intro bools_len (And.intro boolss_len ft)))))
        refine Run.go ?_
        refine End.kp [2, 9, 10, 39, 40, 41, 42] ?_
        refine Run.seq ?_
        refine Run.cond _ rfl (fun hb => ?_) (fun hb => ?_)
        · have hb := of_decide_eq_true hb
          have hin : i < tr.length := by omega
          have wi := wsucc hin (by omega)
          obtain ⟨r, hri, hrm, _, hr⟩ := boolss_at tr i hin
          have hrl := ht r hrm
          have hdr : tr.drop i = r :: tr.drop (i + 1) := by
            obtain ⟨h, e⟩ := List.getElem?_eq_some_iff.1 hri
            rw [← e]
            exact List.drop_eq_getElem_cons h
          rw [hdr, runG] at hR
          refine Run.skip ?_
          refine End.kp [2, 9, 10, 39, 40, 41] ?_
          refine Run.seq ?_
          refine Run.block ?_
          refine Run.seq ?_
          have fx := And.intro (@Int.toNat_natCast) (And.intro (@Int.natCast_nonneg) (And.intro hr (And.intro wi (And.intro hap (And.intro hdn (And.intro d1 (And.intro strs_len (And.intro bools_len (And.intro boolss_len ft)))))))))
          refine Run.go ?_
          refine End.kp [2, 9, 10, 12, 39, 40, 41] ?_
          refine Run.seq ?_
          refine Run.drawA fun K hK => ?_
          refine DOps.sim ?_
          refine DOps.call (.im (.sl (us (lanes0 r)))) [] [] rfl rfl rfl rfl (by kernel_rfl) (by simp [Agree]) (fun u hu => Lanes_ok r (by omega) u) ?_
          refine DOps.sim ?_
          refine DOps.call (.im (.sl (us (graphVals g (lanes0 r) st)))) [] [] rfl rfl rfl rfl (by kernel_rfl) (by simp [Agree]) (fun u hu => gvalues_ok g hg (lanes0 r) st (by simpa using hrl) hst u) ?_
          refine DOps.sim ?_
          refine DOps.call (.tup [.im (.sl (us (outsG g (graphVals g (lanes0 r) st)))), .im (.sl (us (nextsG g (graphVals g (lanes0 r) st))))]) [] [] rfl rfl rfl rfl (by kernel_rfl) (by simp [Agree]) (fun u hu => gresults_ok g hg (graphVals g (lanes0 r) st) (by rw [graphVals_len g _ _ (by simpa using hrl) hst]) u) ?_
          refine DOps.sim ?_
          refine DOps.nil (metAll_quiet rfl) (hK _ ?_); clear hK K
          refine End.kp [2, 10, 13, 14, 39, 40, 41] ?_
          refine Run.region rfl fun K hK => GOps.sim ?_
          refine GOps.call rfl rfl rfl rfl (by kernel_rfl) (ACalls.sim ?_)
          refine (Lane_ok _ (by simp [outsG]; omega) _).mono fun v u hv => ?_
          obtain ⟨rfl, rfl⟩ := hv
          refine ⟨_, _, rfl, GOps.sim ?_⟩
          refine GOps.done (hK _ ?_); clear hK K
          refine End.blk ?_
          refine End.kp [2, 9, 10, 39, 40, 41] ?_
          refine Run.go ?_
          refine End.lp ?_
          refine ⟨tr.length - (i + 1), _, by omega, Ghost.form [(2, .ptr 0 0 0), (9, .im (.sl (us (nextsG g (graphVals g (lanes0 r) st))))), (10, .ms 0 1 ((i + 1))), (39, .im (.sl (boolss tr))), (40, .i tr.length), (41, .i (i + 1 : Nat))] 2 ⟨rfl, rfl, rfl, rfl, rfl, rfl, trivial⟩ rfl rfl, i + 1, nextsG g (graphVals g (lanes0 r) st), dn ++ [laneB (outsG g (graphVals g (lanes0 r) st))], rfl, by omega, by simp [hdn], by simp [nextsG], by simpa using hR, ?_⟩
          simp
        · have hb := of_decide_eq_false hb
          have hiN : i = tr.length := by omega
          subst hiN
          rw [List.drop_length, runG, List.append_nil] at hR
          refine Run.exit rfl ?_
          refine End.kp [10] ?_
          refine Run.seq ?_
          refine Run.ghost (Ghost.shut (t := 10) (j := 1) rfl rfl (by rw [boolss_len, hdn])) ?_
          simp only [eput, edel]
          have fx := And.intro hap (And.intro hdn (And.intro d1 (And.intro strs_len (And.intro bools_len (And.intro boolss_len ft)))))
          refine Run.go ?_
          refine End.kp [4, 5] ?_
          refine Run.ret (hQ _ _ ⟨.inr rfl, _, rfl, _, rfl, ?_⟩)
          exact ⟨by rw [hR], rfl⟩
end Go.Proofs.YtdgpmopcmacicaaDoorPi

/- Plain law: what a run of a graph shows depends on lane 0 of the state alone. -/
set_option linter.unusedVariables false
set_option linter.unusedSimpArgs false
namespace Go.Proofs.YtdgpmopcmacicaaDoorPi

def same0 (v v' : List Int) : Prop := v.length = v'.length ∧ ∀ k, bit0 (v.getD k 0) = bit0 (v'.getD k 0)
theorem laneB_bit0 (v : List Int) : laneB v = v.map bit0 := by
  unfold laneB
  exact List.map_congr_left fun x _ => one_iff x
theorem same0_of {v v' : List Int} (h : same0 v v') (l : Int) : bit0 (ofV v l) = bit0 (ofV v' l) := by
  unfold ofV
  split
  · rw [vnot, vnot, bit0_not, bit0_not, h.2]
  · exact h.2 _
theorem same0_app {v v' w w' : List Int} (h : same0 v v') (k : same0 w w') : same0 (v ++ w) (v' ++ w') := by
  refine ⟨by simp [h.1, k.1], fun q => ?_⟩
  simp only [List.getD_eq_getElem?_getD, List.getElem?_append]
  rw [h.1]
  split
  · have := h.2 q
    simpa only [List.getD_eq_getElem?_getD] using this
  · have := k.2 (q - v'.length)
    simpa only [List.getD_eq_getElem?_getD] using this
theorem same0_refl (v : List Int) : same0 v v := ⟨rfl, fun _ => rfl⟩
theorem same0_one {x y : Int} (h : bit0 x = bit0 y) : same0 [x] [y] := ⟨rfl, fun k => by
  cases k with
  | zero => simpa using h
  | succ k => simp⟩
theorem same0_valsA : ∀ (ps : List (Int × Int)) {v v' : List Int}, same0 v v' → same0 (valsA ps v) (valsA ps v')
  | [], v, v', h => h
  | p :: ps, v, v', h => by
    simp only [valsA]
    refine same0_valsA ps (same0_app h (same0_one ?_))
    rw [bit0_and, bit0_and, same0_of h, same0_of h]
theorem same0_vals (g : LGraph) (inn : List Int) {st st' : List Int} (h : same0 st st') : same0 (graphVals g inn st) (graphVals g inn st') := same0_valsA _ (same0_app (same0_refl _) h)
theorem same0_map {α : Type} (l : List α) (f f' : α → Int) (h : ∀ x, bit0 (f x) = bit0 (f' x)) : same0 (l.map f) (l.map f') := by
  refine ⟨by simp, fun k => ?_⟩
  simp only [List.getD_eq_getElem?_getD, List.getElem?_map]
  cases l[k]? with
  | none => rfl
  | some x => exact h x
theorem same0_lane {v v' : List Int} (h : same0 v v') : laneB v = laneB v' := by
  rw [laneB_bit0, laneB_bit0]
  refine List.ext_getElem? fun k => ?_
  rw [List.getElem?_map, List.getElem?_map]
  have := h.2 k
  simp only [List.getD_eq_getElem?_getD] at this
  have hl := h.1
  by_cases hk : k < v.length
  · rw [List.getElem?_eq_getElem hk, List.getElem?_eq_getElem (by omega)] at this ⊢
    simpa using this
  · rw [List.getElem?_eq_none (by omega), List.getElem?_eq_none (by omega)]
theorem lane_same0 (v : List Int) : same0 v (lanes0 (laneB v)) := by
  refine ⟨by simp, fun k => ?_⟩
  rw [laneB_bit0]
  simp only [List.getD_eq_getElem?_getD, List.getElem?_map]
  cases v[k]? with
  | none => rfl
  | some x => exact (bit0_lane (bit0 x)).symm
theorem runG_same (g : LGraph) : ∀ (t : List (List Bool)) {st st' : List Int}, same0 st st' → runG g st t = runG g st' t
  | [], st, st', h => rfl
  | r :: t, st, st', h => by
    have hv := same0_vals g (lanes0 r) h
    have e1 : laneB (outsG g (graphVals g (lanes0 r) st)) = laneB (outsG g (graphVals g (lanes0 r) st')) := same0_lane (same0_map g.outs (ofV (graphVals g (lanes0 r) st)) (ofV (graphVals g (lanes0 r) st')) (fun x => same0_of hv x))
    have e2 : runG g (nextsG g (graphVals g (lanes0 r) st)) t = runG g (nextsG g (graphVals g (lanes0 r) st')) t := runG_same g t (same0_map g.regs (fun r' => ofV (graphVals g (lanes0 r) st) r'.next) (fun r' => ofV (graphVals g (lanes0 r) st') r'.next) (fun x => same0_of hv x.next))
    simp only [runG]
    rw [e1, e2]
theorem runG_lane (g : LGraph) (t : List (List Bool)) (st : List Int) : runG g st t = runG g (lanes0 (laneB st)) t := runG_same g t (lane_same0 st)
end Go.Proofs.YtdgpmopcmacicaaDoorPi

/- The walks of literals and of enables: Inverted, Node, Make, and, mux, find, Enables. -/
set_option linter.unusedVariables false
set_option linter.unusedSimpArgs false
namespace Go.Proofs.YtdgpmopcmacicaaDoorPi
set_option maxHeartbeats 2000000
/-- The opposite of a literal. -/
def flipL (l : Int) : Int := if l % 2 = 0 then l + 1 else l - 1
theorem xor_one (l : Int) (h0 : 0 ≤ l) (h1 : l ≤ 1000000000) : bits .xor .i64 l 1 = flipL l := by
  obtain ⟨n, rfl⟩ : ∃ n : Nat, l = n := ⟨l.toNat, by omega⟩
  have e : bits .xor .i64 (n : Int) 1 = IntKind.i64.wrap ((n ^^^ 1 : Nat) : Int) := by
    show IntKind.i64.wrap ((BitVec.ofInt 64 (n : Int) ^^^ BitVec.ofInt 64 1).toNat : Int) = _
    rw [BitVec.toNat_xor]
    have a1 : (BitVec.ofInt 64 (n : Int)).toNat = n := by
      rw [BitVec.toNat_ofInt]
      omega
    have a2 : (BitVec.ofInt 64 1).toNat = 1 := by decide
    rw [a1, a2]
  have h2 : n ^^^ 1 = if n % 2 = 0 then n + 1 else n - 1 := by
    have k1 : (n ^^^ 1) / 2 = n / 2 := by
      rw [Nat.xor_div_two]
      simp
    have k2 : (n ^^^ 1) % 2 = 1 ↔ ¬ n % 2 = 1 := by
      rw [Nat.xor_mod_two_eq_one]
      simp
    split <;> omega
  rw [e, h2, flipL]
  by_cases h : n % 2 = 0
  · rw [if_pos h, if_pos (by omega), wrap64 (by omega)]
    omega
  · rw [if_neg h, if_neg (by omega), wrap64 (by omega)]
    omega
-- GONE Inverted_ok
-- GONE Node_ok
-- GONE Make_ok
-- GONE gand_no
-- GONE gand_odd
-- GONE gand_ok
end Go.Proofs.YtdgpmopcmacicaaDoorPi

/- Plain law: words as 64 bits; the values of literals and nodes of a graph. -/
set_option linter.unusedVariables false
set_option linter.unusedSimpArgs false
namespace Go.Proofs.YtdgpmopcmacicaaDoorPi

/-- A word's bits. -/
abbrev bv (x : Int) : BitVec 64 := BitVec.ofInt 64 x
theorem bv_nat (r : BitVec 64) : bv (r.toNat : Int) = r := by
  apply BitVec.eq_of_toNat_eq
  simp
theorem wrap_nat (r : BitVec 64) : IntKind.u64.wrap (r.toNat : Int) = r.toNat := wrapU (by have := r.isLt; omega)
theorem bits_and (x y : Int) : bits .and .u64 x y = ((bv x &&& bv y).toNat : Int) := wrap_nat _
theorem bits_xor (x y : Int) : bits .xor .u64 x y = ((bv x ^^^ bv y).toNat : Int) := wrap_nat _
theorem bv_and (x y : Int) : bv (bits .and .u64 x y) = bv x &&& bv y := by rw [bits_and, bv_nat]
theorem bv_xor (x y : Int) : bv (bits .xor .u64 x y) = bv x ^^^ bv y := by rw [bits_xor, bv_nat]
theorem bv_vnot (x : Int) : bv (vnot x) = ~~~ bv x := by
  rw [vnot, bv_xor]
  have : bv (if IntKind.u64.signed = true then -1 else IntKind.u64.max) = BitVec.allOnes 64 := by decide
  rw [this]
  apply BitVec.eq_of_getLsbD_eq
  intro i hi
  simp only [BitVec.getLsbD_xor, BitVec.getLsbD_allOnes, BitVec.getLsbD_not, hi, decide_true, Bool.true_and, Bool.true_xor]
theorem bv_ext {x y : BitVec 64} (h : ∀ i, i < 64 → x.getLsbD i = y.getLsbD i) : x = y := BitVec.eq_of_getLsbD_eq h

/-- The bits of a literal. -/
def litB (v : List Int) (l : Int) : BitVec 64 := if l % 2 = 1 then ~~~ bv (v.getD (l / 2).toNat 0) else bv (v.getD (l / 2).toNat 0)
theorem bv_of (v : List Int) (l : Int) : bv (ofV v l) = litB v l := by
  unfold ofV litB
  split
  · exact bv_vnot _
  · rfl
theorem litB_flip (v : List Int) (l : Int) (h : 0 ≤ l) : litB v (flipL l) = ~~~ litB v l := by
  unfold litB flipL
  by_cases h2 : l % 2 = 0
  · rw [if_pos h2, if_pos (by omega), if_neg (show ¬ l % 2 = 1 by omega)]
    congr 3
    omega
  · rw [if_neg h2, if_neg (by omega), if_pos (show l % 2 = 1 by omega)]
    have : ((l - 1) / 2).toNat = (l / 2).toNat := by omega
    rw [this]
    apply bv_ext
    intro i hi
    simp [hi]
theorem valsA_pre : ∀ (ps : List (Int × Int)) (v : List Int) (k : Nat), k < v.length → (valsA ps v).getD k 0 = v.getD k 0
  | [], v, k, h => rfl
  | p :: ps, v, k, h => by
    rw [valsA, valsA_pre ps _ k (by simp; omega)]
    simp [List.getElem?_append_left h]
theorem valsA_litB (ps : List (Int × Int)) (v : List Int) (l : Int) (h0 : 0 ≤ l) (h : l < 2 * (v.length : Int)) : litB (valsA ps v) l = litB v l := by
  unfold litB
  rw [valsA_pre ps v (l / 2).toNat (by omega)]
theorem valsA_node : ∀ (ps : List (Int × Int)) (v : List Int) (i : Nat) (p : Int × Int), ps[i]? = some p → (∀ (i : Nat) (p : Int × Int), ps[i]? = some p → (0 ≤ p.1 ∧ p.1 < 2 * ((v.length : Int) + i)) ∧ 0 ≤ p.2 ∧ p.2 < 2 * ((v.length : Int) + i)) →
    bv ((valsA ps v).getD (v.length + i) 0) = litB (valsA ps v) p.1 &&& litB (valsA ps v) p.2
  | [], v, i, p, h, _ => by simp at h
  | q :: qs, v, 0, p, h, hr => by
    simp at h
    subst h
    obtain ⟨⟨a1, a2⟩, a3, a4⟩ := hr 0 q rfl
    rw [valsA]
    have hl : (v ++ [bits .and .u64 (ofV v q.1) (ofV v q.2)]).length = v.length + 1 := by simp
    rw [valsA_pre qs _ _ (by omega), valsA_litB qs _ q.1 a1 (by rw [hl]; omega), valsA_litB qs _ q.2 a3 (by rw [hl]; omega)]
    have e : ∀ l : Int, 0 ≤ l → l < 2 * (v.length : Int) → litB (v ++ [bits .and .u64 (ofV v q.1) (ofV v q.2)]) l = litB v l := fun l h1 h2 => by
      unfold litB
      have : (v ++ [bits .and .u64 (ofV v q.1) (ofV v q.2)]).getD (l / 2).toNat 0 = v.getD (l / 2).toNat 0 := by
        simp only [List.getD_eq_getElem?_getD]
        rw [List.getElem?_append_left (by omega)]
      rw [this]
    rw [e q.1 a1 (by omega), e q.2 a3 (by omega)]
    simp [bv_and, bv_of]
  | q :: qs, v, i + 1, p, h, hr => by
    rw [valsA]
    have hl : (v ++ [bits .and .u64 (ofV v q.1) (ofV v q.2)]).length = v.length + 1 := by simp
    have := valsA_node qs (v ++ [bits .and .u64 (ofV v q.1) (ofV v q.2)]) i p (by simpa using h) (fun j p' hp' => by
      have := hr (j + 1) p' (by simpa using hp')
      rw [hl]
      omega)
    rw [hl] at this
    rw [show v.length + (i + 1) = v.length + 1 + i by omega]
    exact this
section
variable {g : LGraph} (hg : GraphOk g) {inn st : List Int} (h1 : inn.length = g.inn.length) (h2 : st.length = g.regs.length)
include hg h1 h2
theorem g_and (i : Nat) (p : Int × Int) (hp : g.ands[i]? = some p) : litB (graphVals g inn st) (2 * (1 + (g.inn.length : Int) + g.regs.length + i)) = litB (graphVals g inn st) p.1 &&& litB (graphVals g inn st) p.2 := by
  have hl : ([0] ++ inn ++ st).length = 1 + g.inn.length + g.regs.length := by simp; omega
  have := valsA_node g.ands ([0] ++ inn ++ st) i p hp (fun j q hq => by
    have := hg.ands j q hq
    rw [hl]
    omega)
  rw [hl] at this
  rw [graphVals, litB, if_neg (by omega)]
  have e : (2 * (1 + (g.inn.length : Int) + g.regs.length + i) / 2).toNat = 1 + g.inn.length + g.regs.length + i := by omega
  rw [e]
  exact this
end
end Go.Proofs.YtdgpmopcmacicaaDoorPi

/- Plain law: drawn names are in order, and no two of them are the same. -/
set_option linter.unusedVariables false
set_option linter.unusedSimpArgs false
namespace Go.Proofs.YtdgpmopcmacicaaDoorPi

theorem chr_nat (n : Int) (h0 : 0 ≤ n) (h1 : n < 256) : (chr n).toNat = n.toNat := by
  simp only [chr, UInt8.toNat_ofNat']
  omega
/-- The letter that tells one drawn name from the others. -/
def tag (s : ByteArray) : Option UInt8 := if s.data.toList[1]? = some 46 then s.data.toList[3]? else s.data.toList[1]?
theorem chr_46 (n : Int) (h0 : 97 ≤ n) (h1 : n < 256) : chr n ≠ 46 := fun e => by
  have := chr_nat n (by omega) h1
  rw [e] at this
  simp at this
  omega
theorem name_tag (l : List Int) (a i : Int) (hi : 0 ≤ i) : tag (nameV l a i).1 = some (chr (97 + i % 26)) := by
  have m0 := Int.emod_nonneg i (show (26 : Int) ≠ 0 by decide)
  have m1 := Int.emod_lt_of_pos i (show (0 : Int) < 26 by decide)
  have hne := chr_46 (97 + i % 26) (by omega) (by omega)
  unfold nameV
  split
  · simp [tag, hne]
  · split
    · simp [tag]
    · simp [tag, hne]
theorem chr_mem (n : Int) (h0 : 33 ≤ n) (h1 : n ≤ 126) : 33 ≤ (chr n).toNat ∧ (chr n).toNat ≤ 126 := by
  rw [chr_nat n (by omega) (by omega)]
  omega
theorem name_ok (l : List Int) (a i : Int) : NameOk (nameV l a i).1 := by
  have m0 := Int.emod_nonneg i (show (26 : Int) ≠ 0 by decide)
  have m1 := Int.emod_lt_of_pos i (show (0 : Int) < 26 by decide)
  have m2 := Int.emod_nonneg (i / 26) (show (26 : Int) ≠ 0 by decide)
  have m3 := Int.emod_lt_of_pos (i / 26) (show (0 : Int) < 26 by decide)
  obtain ⟨r0, r1⟩ := nextV_range l a 26 (by omega)
  obtain ⟨r4, r5⟩ := nextV_range l (a + 1 + 1) 10 (by omega)
  have c1 := chr_mem (97 + nextV l a 26) (by omega) (by omega)
  have c2 := chr_mem (97 + i % 26) (by omega) (by omega)
  have c3 := chr_mem (97 + i / 26 % 26) (by omega) (by omega)
  have c4 := chr_mem (48 + nextV l (a + 1 + 1) 10) (by omega) (by omega)
  unfold nameV
  split
  · refine ⟨by simp [ba_size], by simp [ba_size], fun b hb => ?_⟩
    simp only [ByteArray.data_append, Array.toList_append, List.mem_append, List.mem_cons, List.not_mem_nil, or_false] at hb
    rcases hb with (rfl | rfl | rfl) | (rfl | rfl) | rfl <;> first | assumption | decide
  · split
    · refine ⟨by simp [ba_size], by simp [ba_size], fun b hb => ?_⟩
      simp only [ByteArray.data_append, Array.toList_append, List.mem_append, List.mem_cons, List.not_mem_nil, or_false] at hb
      rcases hb with (rfl | rfl) | (rfl | rfl | rfl) <;> first | assumption | decide
    · refine ⟨by simp [ba_size], by simp [ba_size], fun b hb => ?_⟩
      simp only [List.mem_cons, List.not_mem_nil, or_false] at hb
      rcases hb with rfl | rfl | rfl <;> assumption
theorem words_ok (l : List Int) : ∀ (k i : Nat) (a : Int), (∀ s ∈ (wordsV l k i a).1, NameOk s) ∧ (wordsV l k i a).1.map tag = (List.range' i k).map fun i : Nat => some (chr (97 + (i : Int) % 26))
  | 0, i, a => by simp [wordsV]
  | k + 1, i, a => by
    obtain ⟨h1, h2⟩ := words_ok l k (i + 1) (nameV l a i).2
    refine ⟨fun s hs => ?_, ?_⟩
    · simp only [wordsV, List.mem_cons] at hs
      rcases hs with rfl | hs
      · exact name_ok l a i
      · exact h1 s hs
    · simp only [wordsV, List.map_cons, List.range'_succ, h2, name_tag l a i (by omega)]
theorem words_nodup (l : List Int) (k : Nat) (a : Int) (hk : k ≤ 26) : (wordsV l k 0 a).1.Nodup := by
  have h : ((wordsV l k 0 a).1.map tag).Pairwise (· ≠ ·) := by
    rw [(words_ok l k 0 a).2, List.pairwise_map]
    refine (List.pairwise_lt_range' (s := 0) (n := k)).imp_of_mem ?_
    intro x y hx hy hxy e
    simp only [List.mem_range'_1] at hx hy
    simp only [Option.some.injEq] at e
    have := congrArg UInt8.toNat e
    rw [chr_nat _ (by omega) (by omega), chr_nat _ (by omega) (by omega)] at this
    omega
  rw [List.pairwise_map] at h
  exact h.imp fun hne e => hne (by rw [e])
end Go.Proofs.YtdgpmopcmacicaaDoorPi

/- The walks of makers of graphs: New, Nodes, fail, In, and, known, And. -/
set_option linter.unusedVariables false
set_option linter.unusedSimpArgs false
set_option maxRecDepth 100000
namespace Go.Proofs.YtdgpmopcmacicaaDoorPi
set_option maxHeartbeats 4000000
/-- A maker: its names, registers, ands, and the first error. -/
structure LMk where
  inn : List ByteArray
  regs : List LReg
  ands : List (Int × Int)
  bad : Int
abbrev LMk.first (m : LMk) : Int := 1 + m.inn.length + m.regs.length
structure MkSmall (m : LMk) : Prop where
  inn : m.inn.length ≤ 200
  regs : m.regs.length ≤ 300
  ands : m.ands.length ≤ 4000
-- GONE mIn_ok
end Go.Proofs.YtdgpmopcmacicaaDoorPi

/- The walks of New, known, And, graphs, slices.Equal. -/
set_option linter.unusedVariables false
set_option linter.unusedSimpArgs false
set_option maxRecDepth 100000
namespace Go.Proofs.YtdgpmopcmacicaaDoorPi
set_option maxHeartbeats 4000000
-- GONE graphs_ok
theorem EqB_same (p q : List Bool) (h : p = q) (hn : p.length ≤ 1000000) (up : Frs) : ACalls Tryd.prog 34 [.im (.sl (bools p)), .im (.sl (bools q))] up fun v u => v = .im (.bool true) ∧ u = up := by
  have d1 : ((p.length : Int) != q.length) = false := by rw [h]; simp
  refine ACalls.code Tryd.func34 rfl 26 rfl (by simp) [.tmp 4] rfl fun Q hQ => ?_
  simp only [ups, PV.up, argEnv]
  have ft := And.intro ty_3 (And.intro ty_4 (And.intro ty_77 trivial))
  refine Run.seq ?_
  have fx := And.intro d1 (And.intro bools_len ft)
  refine Run.go ?_
  refine End.kp [0, 1] ?_
  refine Run.seq ?_
  refine Run.seq ?_
  refine Run.go ?_
  refine End.kp [0, 1, 10] ?_
  refine Run.cond _ rfl (fun hb => ?_) (fun hb => ?_)
  · have hb2 := hb
    simp at hb
  · have hb2 := hb
    refine Run.skip ?_
    refine End.kp [0, 1] ?_
    refine Run.seq ?_
    refine Run.seq ?_
    have fx := And.intro d1 (And.intro bools_len ft)
    refine Run.go ?_
    refine End.kp [0, 1, 12, 13] ?_
    refine Run.block ?_
    refine Run.ghost (Ghost.form [(0, .im (.sl (bools p))), (1, .im (.sl (bools q))), (12, .i p.length), (13, .i (0 : Nat))] 0 ⟨rfl, rfl, rfl, rfl, trivial⟩ rfl rfl) ?_
    refine Run.loop (fun m' st => ∃ i : Nat, m' = p.length - i ∧ i ≤ p.length ∧ st = ⟨[(0, .im (.sl (bools p))), (1, .im (.sl (bools q))), (12, .i p.length), (13, .i (i : Nat))], [], up⟩) p.length ⟨0, rfl, by omega, rfl⟩ fun m' st hI => ?_
    obtain ⟨i, rfl, hi, rfl⟩ := hI
    refine Run.seq ?_
    have fx := And.intro d1 (And.intro bools_len ft)
    refine Run.go ?_
    refine End.kp [0, 1, 12, 13, 14] ?_
    refine Run.seq ?_
    refine Run.cond _ rfl (fun hb => ?_) (fun hb => ?_)
    · have hb2 := of_decide_eq_true hb
      have hin : i < p.length := by omega
      have hiq : i < q.length := by rw [← h]; exact hin
      have wi := wsucc hin (by omega)
      have hp := bools_get p i hin
      have hq := bools_get q i hiq
      have hlp : (i : Int) < (p.length : Int) := by omega
      have hlq : (i : Int) < (q.length : Int) := by omega
      refine Run.skip ?_
      refine End.kp [0, 1, 12, 13] ?_
      refine Run.seq ?_
      refine Run.block ?_
      refine Run.seq ?_
      have fx := And.intro (@Int.toNat_natCast) (And.intro (@Int.natCast_nonneg) (And.intro hlq (And.intro hlp (And.intro hq (And.intro hp (And.intro wi (And.intro d1 (And.intro bools_len ft))))))))
      refine Run.go ?_
      refine End.kp [0, 1, 5, 12, 13] ?_
      refine Run.seq ?_
      refine Run.drawA fun K hK => ?_
      refine DOps.sim ?_
      refine DOps.nil (metAll_quiet rfl) (hK _ ?_); clear hK K
      refine End.kp [0, 1, 12, 13, 24] ?_
      refine Run.cond _ rfl (fun hb => ?_) (fun hb => ?_)
      · have hb2 := hb
        simp [h] at hb
      · have hb2 := hb
        refine Run.skip ?_
        refine End.blk ?_
        refine End.kp [0, 1, 12, 13] ?_
        have fx := And.intro (@Int.toNat_natCast) (And.intro (@Int.natCast_nonneg) (And.intro hlq (And.intro hlp (And.intro hq (And.intro hp (And.intro wi (And.intro d1 (And.intro bools_len ft))))))))
        refine Run.go ?_
        refine End.lp ?_
        refine ⟨p.length - (i + 1), _, by omega, Ghost.form [(0, .im (.sl (bools p))), (1, .im (.sl (bools q))), (12, .i p.length), (13, .i (i + 1 : Nat))] 0 ⟨rfl, rfl, rfl, rfl, trivial⟩ rfl rfl, i + 1, rfl, by omega, rfl⟩
    · have hb2 := of_decide_eq_false hb
      refine Run.exit rfl ?_
      refine End.kp [] ?_
      refine Run.seq ?_
      have fx := And.intro d1 (And.intro bools_len ft)
      refine Run.go ?_
      refine End.kp [4] ?_
      refine Run.ret (hQ _ _ ⟨.inr rfl, _, rfl, _, rfl, ?_⟩)
      exact ⟨rfl, rfl⟩
end Go.Proofs.YtdgpmopcmacicaaDoorPi

/- The walks of Roots, cone, moved, Clean of graphs. -/
set_option linter.unusedVariables false
set_option linter.unusedSimpArgs false
set_option maxRecDepth 100000
namespace Go.Proofs.YtdgpmopcmacicaaDoorPi
set_option maxHeartbeats 4000000
abbrev iI (x : Int) : List Im := [.int .i64 x]
theorem CloneLX_nil (f : List AObj) (rest : Frs) : ACalls Tryd.prog 27 [.im (.sl (([] : List Int).map iI))] (f :: rest) fun v u => v = .ms 0 (f.length + 0) 0 ∧ u = (f ++ [.row 51 1 (([] : List Int).map iI) 0]) :: rest := by
  refine ACalls.codeX Tryd.func27 rfl 8 rfl (by simp) [.tmp 2] rfl fun Q hQ => ?_
  simp only [ups, PV.up, argEnv]
  have ft := And.intro ty_4 (And.intro ty_29 (And.intro ty_51 trivial))
  refine Run.seq ?_
  have fx := And.intro (@List.map_nil.{0, 0}) ft
  refine Run.go ?_
  refine End.kp [0] ?_
  refine Run.seq ?_
  refine Run.seq ?_
  refine Run.go ?_
  refine End.kp [0, 4] ?_
  refine Run.cond_any rfl ?_ ?_
  · skip
    refine Run.seq ?_
    have fx := And.intro (@List.map_nil.{0, 0}) ft
    refine Run.go ?_
    refine End.move (Ghost.thaw (u := 2) 51 1 (by decide) rfl) ?_
    refine End.kp [2] ?_
    refine Run.ret (hQ _ _ ⟨.inr rfl, _, rfl, _, _, rfl, ?_⟩)
    exact ⟨rfl, rfl⟩
  · skip
    refine Run.skip ?_
    refine End.kp [0] ?_
    refine Run.seq ?_
    have fx := And.intro (@List.map_nil.{0, 0}) ft
    refine Run.go ?_
    refine End.kp [2] ?_
    refine Run.ret (hQ _ _ ⟨.inr rfl, _, rfl, _, _, rfl, ?_⟩)
    exact ⟨rfl, rfl⟩
theorem CloneLX_cons (x : Int) (xs : List Int) (h : xs.length ≤ 1000000) (f : List AObj) (rest : Frs) : ACalls Tryd.prog 27 [.im (.sl ((x :: xs).map iI))] (f :: rest) fun v u => v = .ms 0 (f.length + 0) (x :: xs).length ∧ u = (f ++ [.row 51 1 ((x :: xs).map iI) 0]) :: rest := by
  have hall : (xs.map iI).all (fun r => r.length == 1) = true := by simp
  have hlen : (xs.length + 1) * 8 ≤ 140737488355328 := by omega
  refine ACalls.codeX Tryd.func27 rfl 8 rfl (by simp) [.tmp 2] rfl fun Q hQ => ?_
  simp only [ups, PV.up, argEnv]
  have ft := And.intro ty_4 (And.intro ty_29 (And.intro ty_51 trivial))
  refine Run.seq ?_
  have fx := And.intro (@List.length_map.{0, 0}) (And.intro hlen (And.intro hall (And.intro (@List.map_cons.{0, 0}) ft)))
  refine Run.go ?_
  refine End.kp [0] ?_
  refine Run.seq ?_
  refine Run.seq ?_
  refine Run.go ?_
  refine End.kp [0, 4] ?_
  refine Run.cond _ rfl (fun hb => ?_) (fun hb => ?_)
  · have hb := hb
    simp at hb
  · have hb := hb
    refine Run.skip ?_
    refine End.kp [0] ?_
    refine Run.seq ?_
    have fx := And.intro (@List.length_map.{0, 0}) (And.intro hlen (And.intro hall (And.intro (@List.map_cons.{0, 0}) ft)))
    refine Run.go ?_
    refine End.kp [2] ?_
    refine Run.ret (hQ _ _ ⟨.inr rfl, _, rfl, _, _, rfl, ?_⟩)
    exact ⟨rfl, rfl⟩
theorem CloneLX_ok (q : List Int) (h : q.length ≤ 1000000) (f : List AObj) (rest : Frs) : ACalls Tryd.prog 27 [.im (.sl (q.map iI))] (f :: rest) fun v u => v = .ms 0 (f.length + 0) q.length ∧ u = (f ++ [.row 51 1 (q.map iI) 0]) :: rest := by
  cases q with
  | nil => exact CloneLX_nil f rest
  | cons x xs => exact CloneLX_cons x xs (by simp at h; omega) f rest
theorem CloneRI_nil (k : Nat) (up : Frs) (hk : fget up 0 k = some .dead) : ACalls Tryd.prog 69 [.im (.sl (([] : List LReg).map LReg.im))] up fun v u => v = .ms 0 k 0 ∧ u = fset up 0 k (.row 56 3 (([] : List LReg).map LReg.im) 0) := by
  refine ACalls.codeI Tryd.func69 rfl 8 rfl (by simp) [.tmp 2] rfl k fun Q hQ => ?_
  simp only [ups, PV.up, argEnv]
  have ft := And.intro ty_4 (And.intro ty_27 (And.intro ty_56 trivial))
  refine Run.seq ?_
  have fx := And.intro (@List.map_nil.{0, 0}) ft
  refine Run.go ?_
  refine End.kp [0] ?_
  refine Run.seq ?_
  refine Run.seq ?_
  refine Run.go ?_
  refine End.kp [0, 4] ?_
  refine Run.cond_any rfl ?_ ?_
  · skip
    refine Run.seq ?_
    have fx := And.intro (@List.map_nil.{0, 0}) ft
    refine Run.go ?_
    refine End.move (Ghost.thaw (u := 2) 56 3 (by decide) rfl) ?_
    refine End.kp [2] ?_
    have fx := And.intro (@List.map_nil.{0, 0}) ft
    refine Run.resI 0 hQ hk ?_
    exact ⟨rfl, rfl⟩
  · skip
    refine Run.skip ?_
    refine End.kp [0] ?_
    refine Run.seq ?_
    have fx := And.intro (@List.map_nil.{0, 0}) ft
    refine Run.go ?_
    refine End.kp [2] ?_
    refine Run.resI 0 hQ hk ?_
    exact ⟨rfl, rfl⟩
theorem CloneRI_cons (k : Nat) (x : LReg) (xs : List LReg) (h : xs.length ≤ 1000000) (up : Frs) (hk : fget up 0 k = some .dead) : ACalls Tryd.prog 69 [.im (.sl ((x :: xs).map LReg.im))] up fun v u => v = .ms 0 k (x :: xs).length ∧ u = fset up 0 k (.row 56 3 ((x :: xs).map LReg.im) 0) := by
  have hall : (xs.map LReg.im).all (fun r => r.length == 3) = true := by simp
  have hlen : (xs.length + 1) * 32 ≤ 140737488355328 := by omega
  refine ACalls.codeI Tryd.func69 rfl 8 rfl (by simp) [.tmp 2] rfl k fun Q hQ => ?_
  simp only [ups, PV.up, argEnv]
  have ft := And.intro ty_4 (And.intro ty_27 (And.intro ty_56 trivial))
  refine Run.seq ?_
  have fx := And.intro (@List.length_map.{0, 0}) (And.intro hlen (And.intro hall (And.intro (@List.map_cons.{0, 0}) ft)))
  refine Run.go ?_
  refine End.kp [0] ?_
  refine Run.seq ?_
  refine Run.seq ?_
  refine Run.go ?_
  refine End.kp [0, 4] ?_
  refine Run.cond _ rfl (fun hb => ?_) (fun hb => ?_)
  · have hb := hb
    simp at hb
  · have hb := hb
    refine Run.skip ?_
    refine End.kp [0] ?_
    refine Run.seq ?_
    have fx := And.intro (@List.length_map.{0, 0}) (And.intro hlen (And.intro hall (And.intro (@List.map_cons.{0, 0}) ft)))
    refine Run.go ?_
    refine End.kp [2] ?_
    refine Run.resI 0 hQ hk ?_
    exact ⟨rfl, rfl⟩
theorem CloneRI_ok (q : List LReg) (h : q.length ≤ 1000000) (k : Nat) (up : Frs) (hk : fget up 0 k = some .dead) : ACalls Tryd.prog 69 [.im (.sl (q.map LReg.im))] up fun v u => v = .ms 0 k q.length ∧ u = fset up 0 k (.row 56 3 (q.map LReg.im) 0) := by
  cases q with
  | nil => exact CloneRI_nil k up hk
  | cons x xs => exact CloneRI_cons k x xs (by simp at h; omega) up hk
def rootsG (g : LGraph) : List Int := g.outs ++ g.regs.map LReg.next
theorem bools_set (q : List Bool) (i : Nat) (b : Bool) : (bools q).set i [.bool b] = bools (q.set i b) := by simp [List.map_set]
def coneRoots (v : List Bool) (roots : List Int) : List Bool := roots.foldl (fun v l => v.set (l / 2).toNat true) v
def coneStep (g : LGraph) (v : List Bool) (i : Nat) : List Bool :=
  if v.getD (1 + g.inn.length + g.regs.length + i) false then (v.set ((g.ands.getD i (0, 0)).1 / 2).toNat true).set ((g.ands.getD i (0, 0)).2 / 2).toNat true else v
def coneDown (g : LGraph) : Nat → List Bool → List Bool
  | 0, v => v
  | i + 1, v => coneDown g i (coneStep g v i)
def nodesN (g : LGraph) : Nat := 1 + g.inn.length + g.regs.length + g.ands.length
def coneV (g : LGraph) (roots : List Int) : List Bool := coneDown g g.ands.length (coneRoots (List.replicate (nodesN g) false) roots)
theorem coneRoots_len : ∀ (roots : List Int) (v : List Bool), (coneRoots v roots).length = v.length
  | [], v => rfl
  | l :: t, v => by
    have := coneRoots_len t (v.set (l / 2).toNat true)
    simp only [coneRoots, List.foldl_cons] at this ⊢
    rw [this]
    simp
theorem coneStep_len (g : LGraph) (v : List Bool) (i : Nat) : (coneStep g v i).length = v.length := by
  unfold coneStep
  split <;> simp
theorem coneDown_len (g : LGraph) : ∀ (i : Nat) (v : List Bool), (coneDown g i v).length = v.length
  | 0, v => rfl
  | i + 1, v => by rw [coneDown, coneDown_len g i, coneStep_len]
theorem coneV_len (g : LGraph) (roots : List Int) : (coneV g roots).length = nodesN g := by rw [coneV, coneDown_len, coneRoots_len]; simp
/-- A literal over new literals of the nodes. -/
def atV (to : List Int) (l : Int) : Int := if l % 2 = 1 then flipL (to.getD (l / 2).toNat 0) else to.getD (l / 2).toNat 0
theorem xor_zero (l : Int) (h0 : 0 ≤ l) (h1 : l ≤ 1000000000) : bits .xor .i64 l 0 = l := by
  obtain ⟨n, rfl⟩ : ∃ n : Nat, l = n := ⟨l.toNat, by omega⟩
  have e : bits .xor .i64 (n : Int) 0 = IntKind.i64.wrap ((n ^^^ 0 : Nat) : Int) := by
    show IntKind.i64.wrap ((BitVec.ofInt 64 (n : Int) ^^^ BitVec.ofInt 64 0).toNat : Int) = _
    rw [BitVec.toNat_xor]
    have a1 : (BitVec.ofInt 64 (n : Int)).toNat = n := by
      rw [BitVec.toNat_ofInt]
      omega
    have a2 : (BitVec.ofInt 64 0).toNat = 0 := by decide
    rw [a1, a2]
  rw [e, Nat.xor_zero]
  exact wrap64 (by omega)
theorem xor_at (to : List Int) (l : Int) (h : 0 ≤ to.getD (l / 2).toNat 0 ∧ to.getD (l / 2).toNat 0 ≤ 1000000000) : bits .xor .i64 (to.getD (l / 2).toNat 0) (l % 2) = atV to l := by
  unfold atV
  by_cases h2 : l % 2 = 1
  · rw [if_pos h2, h2, xor_one _ h.1 h.2]
  · rw [if_neg h2, show l % 2 = 0 by omega, xor_zero _ h.1 h.2]
def movedG (g : LGraph) (ands : List (Int × Int)) (to : List Int) : LGraph := ⟨g.inn, g.out, g.regs.map (fun r => { r with next := atV to r.next }), ands, g.outs.map (atV to)⟩
/-- Literals that may stand for nodes. -/
def ToOk (to : List Int) : Prop := ∀ x ∈ to, 0 ≤ x ∧ x ≤ 1000000
theorem ToOk.get {to : List Int} (h : ToOk to) (k : Nat) : 0 ≤ to.getD k 0 ∧ to.getD k 0 ≤ 1000000 := by
  rw [List.getD_eq_getElem?_getD]
  cases hk : to[k]? with
  | none => simp
  | some x => exact h x (List.mem_of_getElem? hk)
theorem Roots_ok (g : LGraph) (hg : GSmall g) (up : Frs) : ACalls Tryd.prog 41 [g.pv] up fun v u => v = .im (.sl (ints (rootsG g))) ∧ u = up := by
  obtain ⟨z1, z2, z3, z4, z5⟩ := hg
  refine ACalls.code Tryd.func41 rfl 23 rfl (by simp) [.tmp 2] rfl fun Q hQ => ?_
  simp only [ups, PV.up, argEnv]
  have ft := And.intro ty_2 (And.intro ty_3 (And.intro ty_4 (And.intro ty_27 (And.intro ty_29 (And.intro ty_31 (And.intro ty_51 (And.intro ty_56 trivial)))))))
  refine Run.seq ?_
  have fx := And.intro rim_len ft
  refine Run.go ?_
  refine End.kp [1] ?_
  refine Run.seq ?_
  refine Run.region rfl fun K hK => GOps.sim ?_
  refine GOps.call rfl rfl rfl rfl (by kernel_rfl) (ACalls.sim ?_)
  refine (CloneLX_ok g.outs (by omega) _ _).mono fun v u hv => ?_
  obtain ⟨rfl, rfl⟩ := hv
  refine ⟨_, _, rfl, GOps.sim ?_⟩
  refine GOps.done (hK _ ?_); clear hK K
  refine End.kp [1, 3] ?_
  refine Run.seq ?_
  refine Run.seq ?_
  refine Run.go ?_
  refine End.kp [3, 10, 11, 12] ?_
  refine Run.block ?_
  refine Run.ghost (Ghost.form [(3, .ms 0 1 (g.outs.length + 0)), (10, .im (.sl (g.regs.map LReg.im))), (11, .i g.regs.length), (12, .i (0 : Nat))] 2 ⟨rfl, rfl, rfl, rfl, trivial⟩ rfl rfl) ?_
  refine Run.loop (fun m st => ∃ (i : Nat), m = g.regs.length - i ∧ i ≤ g.regs.length ∧ st = ⟨[(3, .ms 0 1 (g.outs.length + i)), (10, .im (.sl (g.regs.map LReg.im))), (11, .i g.regs.length), (12, .i (i : Nat))], [.box [.im (.sl (strs g.inn)), .im (.sl (strs g.out)), .im (.sl (g.regs.map LReg.im)), .im (.sl (g.ands.map nd)), .im (.sl (ints g.outs))], .row 51 1 (ints (g.outs ++ (g.regs.take i).map LReg.next)) 0], up⟩) g.regs.length ⟨0, rfl, by omega, by simp⟩ fun m st hI => ?_
  obtain ⟨i, rfl, hi, rfl⟩ := hI
  have hsl : (ints (g.outs ++ (g.regs.take i).map LReg.next)).length = g.outs.length + i := by simp; omega
  have hap : (g.outs.length + i + 1) * 8 ≤ 140737488355328 := by omega
  refine Run.seq ?_
  have fx := And.intro hap (And.intro hsl (And.intro rim_len ft))
  refine Run.go ?_
  refine End.kp [3, 10, 11, 12, 13] ?_
  refine Run.seq ?_
  refine Run.cond _ rfl (fun hb => ?_) (fun hb => ?_)
  · have hb2 := of_decide_eq_true hb
    have hin : i < g.regs.length := by omega
    have wi := wsucc hin (by omega)
    obtain ⟨f, hf, hfm, hgt⟩ := reg_at g.regs i hin
    have htk := reg_snoc g.regs i f hf
    refine Run.skip ?_
    refine End.kp [3, 10, 11, 12] ?_
    refine Run.seq ?_
    refine Run.block ?_
    refine Run.seq ?_
    have fx := And.intro (@Int.toNat_natCast) (And.intro (@Int.natCast_nonneg) (And.intro hgt (And.intro wi (And.intro hap (And.intro hsl (And.intro rim_len ft))))))
    refine Run.go ?_
    refine End.kp [3, 5, 10, 11, 12] ?_
    refine Run.go ?_
    refine End.blk ?_
    refine End.kp [3, 10, 11, 12] ?_
    refine Run.go ?_
    refine End.lp ?_
    refine ⟨g.regs.length - (i + 1), _, by omega, Ghost.form [(3, .ms 0 1 (g.outs.length + (i + 1))), (10, .im (.sl (g.regs.map LReg.im))), (11, .i g.regs.length), (12, .i (i + 1 : Nat))] 2 ⟨rfl, rfl, rfl, rfl, trivial⟩ rfl rfl, i + 1, rfl, by omega, ?_⟩
    rw [htk]
    simp
  · have hb2 := of_decide_eq_false hb
    have hiN : i = g.regs.length := by omega
    subst hiN
    rw [List.take_length] at hsl ⊢
    refine Run.exit rfl ?_
    refine End.kp [3] ?_
    refine Run.seq ?_
    refine Run.ghost (Ghost.shut (t := 3) (j := 1) rfl rfl hsl) ?_
    simp only [eput, edel]
    have fx := And.intro hap (And.intro hsl (And.intro rim_len ft))
    refine Run.go ?_
    refine End.kp [2] ?_
    refine Run.ret (hQ _ _ ⟨.inr rfl, _, rfl, _, rfl, ?_⟩)
    exact ⟨rfl, rfl⟩
theorem GNodes_ok (g : LGraph) (hg : GSmall g) (up : Frs) : ACalls Tryd.prog 29 [g.pv] up fun v u => v = .i (1 + g.inn.length + g.regs.length + g.ands.length) ∧ u = up := by
  have hg2 := hg
  obtain ⟨z1, z2, z3, z4, z5⟩ := hg
  have w1 : IntKind.i64.wrap (1 + (g.inn.length : Int) + g.regs.length + g.ands.length) = 1 + (g.inn.length : Int) + g.regs.length + g.ands.length := wrap64 (by omega)
  refine ACalls.code Tryd.func29 rfl 9 rfl (by simp) [.tmp 2] rfl fun Q hQ => ?_
  simp only [ups, PV.up, argEnv]
  have ft := And.intro ty_3 (And.intro ty_28 (And.intro ty_31 (And.intro ty_54 trivial)))
  refine Run.seq ?_
  have fx := And.intro w1 (And.intro nd_len ft)
  refine Run.go ?_
  refine End.kp [1] ?_
  refine Run.seq ?_
  refine Run.drawA fun K hK => ?_
  refine DOps.sim ?_
  refine DOps.call (.i (1 + (g.inn.length : Int) + g.regs.length)) [] [] rfl rfl rfl rfl (by kernel_rfl) (by simp [Agree]) (fun u hu => GFirst_ok g hg2 u) ?_
  refine DOps.sim ?_
  refine DOps.nil (metAll_quiet rfl) (hK _ ?_); clear hK K
  refine End.kp [2] ?_
  refine Run.ret (hQ _ _ ⟨.inr rfl, _, rfl, _, rfl, ?_⟩)
  exact ⟨rfl, rfl⟩
theorem cone_ok (g : LGraph) (hg : GraphOk g) (roots : List Int) (hr : ∀ x ∈ roots, 0 ≤ x ∧ x < 2 * (1 + (g.inn.length : Int) + g.regs.length + g.ands.length)) (hrn : roots.length ≤ 100000) (up : Frs) : ACalls Tryd.prog 72 [g.pv, .im (.sl (ints roots))] up fun v u => v = .im (.sl (bools (coneV g roots))) ∧ u = up := by
  obtain ⟨z1, z2, z3, z4, z5⟩ := hg.small
  obtain ⟨N, hN⟩ : ∃ N, N = nodesN g := ⟨_, rfl⟩
  have hNi : 1 + (g.inn.length : Int) + g.regs.length + g.ands.length = (N : Int) := by rw [hN, nodesN]; omega
  have hc : (0 : Int) ≤ (N : Int) := by omega
  have hm1 : ((1 : Nat) : Int) * (N : Int) ≤ 281474976710656 := by omega
  have hm2 : (N : Int) ≤ 9223372036854775807 := by omega
  have wa : IntKind.i64.wrap ((g.ands.length : Int) - 1) = (g.ands.length : Int) - 1 := wrap64 (by omega)
  refine ACalls.code Tryd.func72 rfl 59 rfl (by simp) [.tmp 4] rfl fun Q hQ => ?_
  simp only [ups, PV.up, argEnv]
  have ft := And.intro ty_3 (And.intro ty_4 (And.intro ty_28 (And.intro ty_29 (And.intro ty_31 (And.intro ty_51 (And.intro ty_54 (And.intro ty_77 trivial)))))))
  refine Run.seq ?_
  have fx := And.intro wa (And.intro hm2 (And.intro hm1 (And.intro hc (And.intro hNi (And.intro nd_len (And.intro ints_len ft))))))
  refine Run.go ?_
  refine End.kp [1, 2] ?_
  refine Run.seq ?_
  refine Run.region rfl fun K hK => GOps.sim ?_
  refine GOps.call rfl rfl rfl rfl (by kernel_rfl) (ACalls.sim ?_)
  refine (GNodes_ok g hg.small _).mono fun v u hv => ?_
  obtain ⟨rfl, rfl⟩ := hv
  refine ⟨_, _, rfl, GOps.sim ?_⟩
  refine GOps.done (hK _ ?_); clear hK K
  refine End.kp [1, 2, 5] ?_
  refine Run.seq ?_
  refine Run.seq ?_
  refine Run.go ?_
  refine End.kp [2, 5, 13, 14, 15] ?_
  refine Run.block ?_
  refine Run.ghost (Ghost.form [(2, .ptr 0 0 0), (5, .ms 0 1 N), (13, .im (.sl (ints roots))), (14, .i roots.length), (15, .i (0 : Nat))] 2 ⟨rfl, rfl, rfl, rfl, rfl, trivial⟩ rfl rfl) ?_
  refine Run.loop (fun m st => ∃ (i : Nat), m = roots.length - i ∧ i ≤ roots.length ∧ st = ⟨[(2, .ptr 0 0 0), (5, .ms 0 1 N), (13, .im (.sl (ints roots))), (14, .i roots.length), (15, .i (i : Nat))], [.box [.im (.sl (strs g.inn)), .im (.sl (strs g.out)), .im (.sl (g.regs.map LReg.im)), .im (.sl (g.ands.map nd)), .im (.sl (ints g.outs))], .row 4 1 (bools (coneRoots (List.replicate N false) (roots.take i))) 0], up⟩) roots.length ⟨0, rfl, by omega, by simp [coneRoots]⟩ fun m st hI => ?_
  obtain ⟨i, rfl, hi, rfl⟩ := hI
  have hvl : (coneRoots (List.replicate N false) (roots.take i)).length = N := by rw [coneRoots_len]; simp
  refine Run.seq ?_
  have fx := And.intro wa (And.intro hm2 (And.intro hm1 (And.intro hc (And.intro hNi (And.intro nd_len (And.intro ints_len ft))))))
  refine Run.go ?_
  refine End.kp [2, 5, 13, 14, 15, 16] ?_
  refine Run.seq ?_
  refine Run.cond _ rfl (fun hb => ?_) (fun hb => ?_)
  · have hb2 := of_decide_eq_true hb
    have hin : i < roots.length := by omega
    have wi := wsucc hin (by omega)
    obtain ⟨x, hxi, hxm, hx⟩ := int_at roots i hin
    obtain ⟨x1, x2⟩ := hr x hxm
    have hd := tdiv2 x x1 (by omega)
    have hx0 : 0 ≤ x / 2 := by omega
    have hxl : x / 2 < (N : Int) := by omega
    have htk : roots.take (i + 1) = roots.take i ++ [x] := int_snoc roots i x hxi
    have hstep : coneRoots (List.replicate N false) (roots.take (i + 1)) = (coneRoots (List.replicate N false) (roots.take i)).set (x / 2).toNat true := by rw [htk]; simp [coneRoots]
    generalize coneRoots (List.replicate N false) (roots.take i) = v at hvl hstep
    have hvb : (bools v).length = N := by rw [bools_len, hvl]
    have hvx := bools_get v (x / 2).toNat (by omega)
    have hst := bools_set v
    refine Run.skip ?_
    refine End.kp [2, 5, 13, 14, 15] ?_
    refine Run.seq ?_
    refine Run.block ?_
    refine Run.seq ?_
    have fx := And.intro (@Int.toNat_natCast) (And.intro (@Int.natCast_nonneg) (And.intro hst (And.intro hvx (And.intro hvb (And.intro hxl (And.intro hx0 (And.intro hd (And.intro hx (And.intro wi (And.intro wa (And.intro hm2 (And.intro hm1 (And.intro hc (And.intro hNi (And.intro nd_len (And.intro ints_len ft))))))))))))))))
    refine Run.go ?_
    refine End.kp [2, 5, 7, 13, 14, 15] ?_
    refine Run.go ?_
    refine End.blk ?_
    refine End.kp [2, 5, 13, 14, 15] ?_
    refine Run.go ?_
    refine End.lp ?_
    refine ⟨roots.length - (i + 1), _, by omega, Ghost.form [(2, .ptr 0 0 0), (5, .ms 0 1 N), (13, .im (.sl (ints roots))), (14, .i roots.length), (15, .i (i + 1 : Nat))] 2 ⟨rfl, rfl, rfl, rfl, rfl, trivial⟩ rfl rfl, i + 1, rfl, by omega, ?_⟩
    rw [hstep]
    rfl
  · have hb2 := of_decide_eq_false hb
    have hiN : i = roots.length := by omega
    subst hiN
    rw [List.take_length] at hvl ⊢
    have hV : coneDown g g.ands.length (coneRoots (List.replicate N false) roots) = coneV g roots := by rw [coneV, hN]
    generalize coneRoots (List.replicate N false) roots = v0 at hvl hV
    refine Run.exit rfl ?_
    refine End.kp [2, 5] ?_
    refine Run.seq ?_
    have fx := And.intro wa (And.intro hm2 (And.intro hm1 (And.intro hc (And.intro hNi (And.intro nd_len (And.intro ints_len ft))))))
    refine Run.region rfl fun K hK => GOps.sim ?_
    refine GOps.call rfl rfl rfl rfl (by kernel_rfl) (ACalls.sim ?_)
    refine (GFirst_ok g hg.small _).mono fun v u hv => ?_
    obtain ⟨rfl, rfl⟩ := hv
    refine ⟨_, _, rfl, GOps.sim ?_⟩
    refine GOps.done (hK _ ?_); clear hK K
    refine End.kp [2, 5, 8] ?_
    refine Run.seq ?_
    refine Run.seq ?_
    refine Run.go ?_
    refine End.kp [2, 5, 8, 9] ?_
    refine Run.block ?_
    refine Run.ghost (Ghost.form [(2, .ptr 0 0 0), (5, .ms 0 1 N), (8, .i (1 + g.inn.length + g.regs.length)), (9, .i ((g.ands.length : Int) - 1))] 2 ⟨rfl, rfl, rfl, rfl, trivial⟩ rfl rfl) ?_
    refine Run.loop (fun m st => ∃ (k : Nat) (v : List Bool), k = m ∧ k ≤ g.ands.length ∧ v.length = N ∧ coneDown g k v = coneV g roots ∧ st = ⟨[(2, .ptr 0 0 0), (5, .ms 0 1 N), (8, .i (1 + g.inn.length + g.regs.length)), (9, .i ((k : Int) - 1))], [.box [.im (.sl (strs g.inn)), .im (.sl (strs g.out)), .im (.sl (g.regs.map LReg.im)), .im (.sl (g.ands.map nd)), .im (.sl (ints g.outs))], .row 4 1 (bools v) 0], up⟩) g.ands.length ⟨_, _, rfl, Nat.le_refl _, hvl, hV, rfl⟩ fun m st hI => ?_
    obtain ⟨k, v, rfl, hk, hvl2, hV2, rfl⟩ := hI
    have hvb : (bools v).length = N := by rw [bools_len, hvl2]
    refine Run.seq ?_
    refine Run.seq ?_
    have fx := And.intro hvb (And.intro wa (And.intro hm2 (And.intro hm1 (And.intro hc (And.intro hNi (And.intro nd_len (And.intro ints_len ft)))))))
    refine Run.go ?_
    refine End.kp [2, 5, 8, 9, 31] ?_
    refine Run.cond _ rfl (fun hb => ?_) (fun hb => ?_)
    · have hb2 := of_decide_eq_true hb
      obtain ⟨i, rfl⟩ : ∃ i, k = i + 1 := ⟨k - 1, by omega⟩
      have ei : ((i + 1 : Nat) : Int) - 1 = (i : Int) := by omega
      have wf : IntKind.i64.wrap (1 + (g.inn.length : Int) + g.regs.length + i) = ((1 + g.inn.length + g.regs.length + i : Nat) : Int) := by rw [wrap64 (by omega)]; omega
      have wd : IntKind.i64.wrap ((i : Int) - 1) = (i : Int) - 1 := wrap64 (by omega)
      have hfl : ((1 + g.inn.length + g.regs.length + i : Nat) : Int) < (N : Int) := by omega
      have hvf := bools_get v (1 + g.inn.length + g.regs.length + i) (by omega)
      obtain ⟨p, hpi, hpm, hp⟩ := node_at g.ands i (by omega)
      obtain ⟨⟨p1, p2⟩, p3, p4⟩ := hg.ands i p hpi
      have hd1 := tdiv2 p.1 p1 (by omega)
      have hd2 := tdiv2 p.2 p3 (by omega)
      have q1 : 0 ≤ p.1 / 2 := by omega
      have q2 : 0 ≤ p.2 / 2 := by omega
      have q3 : p.1 / 2 < (N : Int) := by omega
      have q4 : p.2 / 2 < (N : Int) := by omega
      have hgd : g.ands.getD i (0, 0) = p := by simp [hpi]
      have hv1 := bools_get v (p.1 / 2).toNat (by omega)
      have hv2 := bools_get (v.set (p.1 / 2).toNat true) (p.2 / 2).toNat (by rw [List.length_set]; omega)
      have hst := bools_set v
      have hst2 := bools_set (v.set (p.1 / 2).toNat true)
      have hl2 : (bools (v.set (p.1 / 2).toNat true)).length = N := by rw [bools_len, List.length_set, hvl2]
      have hil : (i : Int) < (g.ands.length : Int) := by omega
      rw [coneDown, coneStep, hgd] at hV2
      refine Run.skip ?_
      refine End.kp [2, 5, 8, 9] ?_
      refine Run.seq ?_
      refine Run.block ?_
      refine Run.seq ?_
      have fx := And.intro (@Int.toNat_natCast) (And.intro (@Int.natCast_nonneg) (And.intro hil (And.intro hl2 (And.intro hst2 (And.intro hst (And.intro hv2 (And.intro hv1 (And.intro q4 (And.intro q3 (And.intro q2 (And.intro q1 (And.intro hd2 (And.intro hd1 (And.intro hp (And.intro hvf (And.intro hfl (And.intro wd (And.intro wf (And.intro ei (And.intro hvb (And.intro wa (And.intro hm2 (And.intro hm1 (And.intro hc (And.intro hNi (And.intro nd_len (And.intro ints_len ft)))))))))))))))))))))))))))
      refine Run.go ?_
      refine End.kp [2, 5, 8, 9, 39] ?_
      refine Run.cond _ rfl (fun hb => ?_) (fun hb => ?_)
      · have hb2 := hb
        rw [if_pos hb2] at hV2
        have fx := And.intro (@Int.toNat_natCast) (And.intro (@Int.natCast_nonneg) (And.intro hil (And.intro hl2 (And.intro hst2 (And.intro hst (And.intro hv2 (And.intro hv1 (And.intro q4 (And.intro q3 (And.intro q2 (And.intro q1 (And.intro hd2 (And.intro hd1 (And.intro hp (And.intro hvf (And.intro hfl (And.intro wd (And.intro wf (And.intro ei (And.intro hvb (And.intro wa (And.intro hm2 (And.intro hm1 (And.intro hc (And.intro hNi (And.intro nd_len (And.intro ints_len ft)))))))))))))))))))))))))))
        refine Run.drawA fun K hK => ?_
        refine DOps.sim ?_
        refine DOps.nil (by rfl) (hK _ ?_); clear hK K
        refine End.blk ?_
        refine End.kp [2, 5, 8, 9] ?_
        refine Run.go ?_
        refine End.lp ?_
        refine ⟨i, _, by omega, Ghost.form [(2, .ptr 0 0 0), (5, .ms 0 1 N), (8, .i (1 + g.inn.length + g.regs.length)), (9, .i ((i : Int) - 1))] 2 ⟨rfl, rfl, rfl, rfl, trivial⟩ rfl rfl, i, _, rfl, by omega, by simp [hvl2], hV2, rfl⟩
      · have hb2 := hb
        rw [if_neg (by rw [hb2]; simp)] at hV2
        refine Run.skip ?_
        refine End.blk ?_
        refine End.kp [2, 5, 8, 9] ?_
        have fx := And.intro (@Int.toNat_natCast) (And.intro (@Int.natCast_nonneg) (And.intro hil (And.intro hl2 (And.intro hst2 (And.intro hst (And.intro hv2 (And.intro hv1 (And.intro q4 (And.intro q3 (And.intro q2 (And.intro q1 (And.intro hd2 (And.intro hd1 (And.intro hp (And.intro hvf (And.intro hfl (And.intro wd (And.intro wf (And.intro ei (And.intro hvb (And.intro wa (And.intro hm2 (And.intro hm1 (And.intro hc (And.intro hNi (And.intro nd_len (And.intro ints_len ft)))))))))))))))))))))))))))
        refine Run.go ?_
        refine End.lp ?_
        refine ⟨i, _, by omega, Ghost.form [(2, .ptr 0 0 0), (5, .ms 0 1 N), (8, .i (1 + g.inn.length + g.regs.length)), (9, .i ((i : Int) - 1))] 2 ⟨rfl, rfl, rfl, rfl, trivial⟩ rfl rfl, i, _, rfl, by omega, hvl2, hV2, rfl⟩
    · have hb2 := of_decide_eq_false hb
      have hk0 : k = 0 := by omega
      subst hk0
      rw [coneDown] at hV2
      refine Run.exit rfl ?_
      refine End.kp [5] ?_
      refine Run.seq ?_
      refine Run.ghost (Ghost.shut (t := 5) (j := 1) rfl rfl hvb) ?_
      simp only [eput, edel]
      have fx := And.intro hvb (And.intro wa (And.intro hm2 (And.intro hm1 (And.intro hc (And.intro hNi (And.intro nd_len (And.intro ints_len ft)))))))
      refine Run.go ?_
      refine End.kp [4] ?_
      refine Run.ret (hQ _ _ ⟨.inr rfl, _, rfl, _, rfl, ?_⟩)
      exact ⟨by rw [hV2], rfl⟩
end Go.Proofs.YtdgpmopcmacicaaDoorPi

/- The walks of moved$1, moved of graphs. -/
set_option linter.unusedVariables false
set_option linter.unusedSimpArgs false
set_option maxRecDepth 100000
namespace Go.Proofs.YtdgpmopcmacicaaDoorPi
set_option maxHeartbeats 4000000
abbrev mvR (to : List Int) (r : LReg) : LReg := { r with next := atV to r.next }
def mvRegs (g : LGraph) (to : List Int) (i : Nat) : List LReg := (g.regs.take i).map (mvR to) ++ g.regs.drop i
theorem mvRegs_len (g : LGraph) (to : List Int) (i : Nat) (h : i ≤ g.regs.length) : (mvRegs g to i).length = g.regs.length := by simp [mvRegs]; omega
theorem mvRegs_get (g : LGraph) (to : List Int) (i : Nat) (r : LReg) (h : g.regs[i]? = some r) : (mvRegs g to i)[i]? = some r := by
  have hi : i < g.regs.length := (List.getElem?_eq_some_iff.1 h).1
  have hl : ((g.regs.take i).map (mvR to)).length = i := by simp; omega
  rw [mvRegs, List.getElem?_append_right (by omega), hl, Nat.sub_self, List.getElem?_drop, Nat.add_zero, h]
theorem mvRegs_set (g : LGraph) (to : List Int) (i : Nat) (r : LReg) (h : g.regs[i]? = some r) : (mvRegs g to i).set i (mvR to r) = mvRegs g to (i + 1) := by
  obtain ⟨hi, hr⟩ := List.getElem?_eq_some_iff.1 h
  have hl : ((g.regs.take i).map (mvR to)).length = i := by simp; omega
  rw [mvRegs, List.set_append_right _ _ (by omega), hl, Nat.sub_self, List.drop_eq_getElem_cons hi, List.set_cons_zero, mvRegs, reg_snoc g.regs i r h]
  simp
theorem mvRegs_all (g : LGraph) (to : List Int) : mvRegs g to g.regs.length = g.regs.map (mvR to) := by simp [mvRegs]
theorem mvd_ok (to : List Int) (ht : ToOk to) (l : Int) (h0 : 0 ≤ l) (h1 : l < 2 * (to.length : Int)) (hn : to.length ≤ 100000) (up : Frs) (k : Nat) (hk : fget up 0 k = some (.box [.im (.sl (ints to))])) : ACalls Tryd.prog 76 [.i l, .ptr 0 k 0] up fun v u => v = .i (atV to l) ∧ u = up := by
  have hd := tdiv2 l h0 (by omega)
  have hm : l.tmod 2 = l % 2 := tmod2 l h0
  have hd0 : 0 ≤ l / 2 := by omega
  have hdl : l / 2 < (to.length : Int) := by omega
  have hv := ints_get to (l / 2).toNat (by omega)
  have hx := ht.get (l / 2).toNat
  have hxo := xor_at to l (by omega)
  have wm : IntKind.i64.wrap (l % 2) = l % 2 := wrap64 (by omega)
  refine ACalls.code Tryd.func76 rfl 12 rfl (by simp) [.tmp 3] rfl fun Q hQ => ?_
  simp only [ups, PV.up, argEnv]
  have ft := And.intro ty_29 (And.intro ty_51 trivial)
  refine Run.seq ?_
  have fx := And.intro hxo (And.intro wm (And.intro hv (And.intro hdl (And.intro hd0 (And.intro hm (And.intro hd (And.intro hk (And.intro ints_len ft))))))))
  refine Run.go ?_
  refine End.kp [0, 1] ?_
  refine Run.seq ?_
  refine Run.go ?_
  refine End.kp [3] ?_
  refine Run.ret (hQ _ _ ⟨.inr rfl, _, rfl, _, rfl, ?_⟩)
  exact ⟨rfl, rfl⟩
theorem moved_ok (g : LGraph) (hg : GraphOk g) (ands : List (Int × Int)) (hna : ands.length ≤ 100000) (to : List Int) (ht : ToOk to) (hn : to.length ≤ 100000) (hl : (to.length : Int) = 1 + (g.inn.length : Int) + g.regs.length + g.ands.length) (up : Frs) : ACalls Tryd.prog 61 [g.pv, .im (.sl (ands.map nd)), .im (.sl (ints to))] up fun v u => v = (movedG g ands to).pv ∧ u = up := by
  obtain ⟨z1, z2, z3, z4, z5⟩ := hg.small
  refine ACalls.code Tryd.func61 rfl 61 rfl (by simp) [.cell 6 31] rfl fun Q hQ => ?_
  simp only [ups, PV.up, argEnv]
  have ft := And.intro ty_2 (And.intro ty_3 (And.intro ty_4 (And.intro ty_9 (And.intro ty_26 (And.intro ty_27 (And.intro ty_28 (And.intro ty_29 (And.intro ty_31 (And.intro ty_51 (And.intro ty_54 (And.intro ty_56 trivial)))))))))))
  refine Run.seq ?_
  have fx := And.intro rim_len (And.intro strs_len (And.intro ints_len ft))
  refine Run.go ?_
  refine End.kp [1, 3, 5, 6] ?_
  refine Run.seq ?_
  refine Run.go ?_
  refine End.kp [1, 3, 6, 7] ?_
  refine Run.seq ?_
  refine Run.ghost (Ghost.spares 1) ?_
  simp only [ASt.pushN, ASt.push, List.append_assoc, List.cons_append, List.nil_append]
  refine Run.ghost (.spares 1) ?_
  simp only [ASt.pushN, ASt.push, List.append_assoc, List.cons_append, List.nil_append]
  have fx := And.intro rim_len (And.intro strs_len (And.intro ints_len ft))
  refine Run.drawA fun K hK => ?_
  refine DOps.sim ?_
  refine DOps.call (.im (.sl (strs g.inn))) [] [] rfl rfl rfl rfl (by kernel_rfl) (by simp [Agree]) (fun u hu => CloneS_ok g.inn (by omega) u) ?_
  refine DOps.sim ?_
  refine DOps.call (.im (.sl (strs g.out))) [] [] rfl rfl rfl rfl (by kernel_rfl) (by simp [Agree]) (fun u hu => CloneS_ok g.out (by omega) u) ?_
  refine DOps.sim ?_
  refine DOps.call (.ms 0 3 g.regs.length) [((0, 3), .dead)] [((0, 3), .row 56 3 (g.regs.map LReg.im) 0)] rfl rfl rfl rfl (by kernel_rfl) (by simp [Agree, ASt.fr]) (fun u hu => CloneRI_ok g.regs (by omega) 3 u (hu ((0, 3), .dead) (by simp))) ?_
  refine DOps.sim ?_
  refine DOps.nil (by rfl) (hK _ ?_); clear hK K
  refine End.kp [3, 6, 7, 8] ?_
  refine Run.seq ?_
  refine Run.seq ?_
  refine Run.go ?_
  refine End.kp [3, 6, 7, 8, 26, 27] ?_
  refine Run.block ?_
  refine Run.ghost (Ghost.form [(3, .ptr 0 0 0), (6, .ptr 0 2 0), (7, .fn 76 [.ptr 0 1 0]), (8, .ptr 0 4 0), (26, .i g.regs.length), (27, .i (0 : Nat))] 5 ⟨rfl, rfl, rfl, rfl, rfl, rfl, trivial⟩ rfl rfl) ?_
  refine Run.loop (fun m st => ∃ (i : Nat), m = g.regs.length - i ∧ i ≤ g.regs.length ∧ st = ⟨[(3, .ptr 0 0 0), (6, .ptr 0 2 0), (7, .fn 76 [.ptr 0 1 0]), (8, .ptr 0 4 0), (26, .i g.regs.length), (27, .i (i : Nat))], [.box [.im (.sl (strs g.inn)), .im (.sl (strs g.out)), .im (.sl (g.regs.map LReg.im)), .im (.sl (g.ands.map nd)), .im (.sl (ints g.outs))], .box [.im (.sl (ints to))], .box [.nils, .nils, .nils, .nils, .nils], .row 56 3 ((mvRegs g to (i)).map LReg.im) 0, .box [.im (.sl (strs g.inn)), .im (.sl (strs g.out)), .ms 0 3 g.regs.length, .im (.sl (ands.map nd)), .nils]], up⟩) g.regs.length ⟨0, rfl, by omega, by simp [mvRegs]⟩ fun m st hI => ?_
  obtain ⟨i, rfl, hi, rfl⟩ := hI
  have hrl := mvRegs_len g to i hi
  have hrm : ((mvRegs g to i).map LReg.im).length = g.regs.length := by rw [rim_len, hrl]
  refine Run.seq ?_
  have fx := And.intro hrm (And.intro rim_len (And.intro strs_len (And.intro ints_len ft)))
  refine Run.go ?_
  refine End.kp [3, 6, 7, 8, 26, 27, 28] ?_
  refine Run.seq ?_
  refine Run.cond _ rfl (fun hb => ?_) (fun hb => ?_)
  · have hb2 := of_decide_eq_true hb
    have hin : i < g.regs.length := by omega
    have hil : (i : Int) < (g.regs.length : Int) := by omega
    have wi := wsucc hin (by omega)
    obtain ⟨r, hr, hrm2, hgt⟩ := reg_at g.regs i hin
    obtain ⟨x1, x2⟩ := hg.regs r hrm2
    have hri := mvRegs_get g to i r hr
    have hrs := mvRegs_set g to i r hr
    have hgi : ((mvRegs g to i).map LReg.im)[i]? = some [.str r.name, .int .i64 r.next, .bool r.init] := by rw [List.getElem?_map, hri]; rfl
    refine Run.skip ?_
    refine End.kp [3, 6, 7, 8, 26, 27] ?_
    refine Run.seq ?_
    refine Run.block ?_
    refine Run.seq ?_
    have fx := And.intro (@Int.toNat_natCast) (And.intro (@Int.natCast_nonneg) (And.intro hil (And.intro hgi (And.intro wi (And.intro hrm (And.intro rim_len (And.intro strs_len (And.intro ints_len ft))))))))
    refine Run.go ?_
    refine End.kp [3, 6, 7, 8, 9, 26, 27] ?_
    refine Run.drawA fun K hK => ?_
    refine DOps.sim ?_
    refine DOps.call (.i (atV to r.next)) [((0, 1), .box [.im (.sl (ints to))])] [] rfl rfl rfl rfl (by kernel_rfl) (by simp [Agree, ASt.fr]) (fun u hu => mvd_ok to ht r.next x1 (by omega) hn u 1 (hu (((0, 1), .box [.im (.sl (ints to))])) (by simp))) ?_
    refine DOps.sim ?_
    refine DOps.nil (by rfl) (hK _ ?_); clear hK K
    refine End.blk ?_
    refine End.kp [3, 6, 7, 8, 26, 27] ?_
    refine Run.go ?_
    refine End.lp ?_
    refine ⟨g.regs.length - (i + 1), _, by omega, Ghost.form [(3, .ptr 0 0 0), (6, .ptr 0 2 0), (7, .fn 76 [.ptr 0 1 0]), (8, .ptr 0 4 0), (26, .i g.regs.length), (27, .i (i + 1 : Nat))] 5 ⟨rfl, rfl, rfl, rfl, rfl, rfl, trivial⟩ rfl rfl, i + 1, rfl, by omega, ?_⟩
    rw [← hrs, List.map_set]
    rfl
  · have hb2 := of_decide_eq_false hb
    have hiN : i = g.regs.length := by omega
    subst hiN
    refine Run.exit rfl ?_
    refine End.kp [3, 6, 7, 8] ?_
    refine Run.seq ?_
    refine Run.seq ?_
    have fx := And.intro hrm (And.intro rim_len (And.intro strs_len (And.intro ints_len ft)))
    refine Run.go ?_
    refine End.kp [6, 7, 8, 45, 46, 47] ?_
    refine Run.block ?_
    refine Run.ghost (.thawBox (j := 4) (i := 4) 51 1 (by decide) rfl rfl) ?_
    refine Run.ghost (Ghost.form [(6, .ptr 0 2 0), (7, .fn 76 [.ptr 0 1 0]), (8, .ptr 0 4 0), (45, .im (.sl (ints g.outs))), (46, .i g.outs.length), (47, .i (0 : Nat))] 6 ⟨rfl, rfl, rfl, rfl, rfl, rfl, trivial⟩ rfl rfl) ?_
    refine Run.loop (fun m st => ∃ (i : Nat), m = g.outs.length - i ∧ i ≤ g.outs.length ∧ st = ⟨[(6, .ptr 0 2 0), (7, .fn 76 [.ptr 0 1 0]), (8, .ptr 0 4 0), (45, .im (.sl (ints g.outs))), (46, .i g.outs.length), (47, .i (i : Nat))], [.box [.im (.sl (strs g.inn)), .im (.sl (strs g.out)), .im (.sl (g.regs.map LReg.im)), .im (.sl (g.ands.map nd)), .im (.sl (ints g.outs))], .box [.im (.sl (ints to))], .box [.nils, .nils, .nils, .nils, .nils], .row 56 3 ((mvRegs g to (g.regs.length)).map LReg.im) 0, .box [.im (.sl (strs g.inn)), .im (.sl (strs g.out)), .ms 0 3 g.regs.length, .im (.sl (ands.map nd)), .ms 0 5 i], .row 51 1 (ints ((g.outs.take (i)).map (atV to))) 0], up⟩) g.outs.length ⟨0, rfl, by omega, rfl⟩ fun m st hI => ?_
    obtain ⟨i, rfl, hi, rfl⟩ := hI
    have hol : (ints ((g.outs.take i).map (atV to))).length = i := by simp; omega
    have hap : (i + 1) * 8 ≤ 140737488355328 := by omega
    refine Run.seq ?_
    have fx := And.intro hap (And.intro hol (And.intro hrm (And.intro rim_len (And.intro strs_len (And.intro ints_len ft)))))
    refine Run.go ?_
    refine End.kp [6, 7, 8, 45, 46, 47, 48] ?_
    refine Run.seq ?_
    refine Run.cond _ rfl (fun hb => ?_) (fun hb => ?_)
    · have hb2 := of_decide_eq_true hb
      have hin : i < g.outs.length := by omega
      have hil : (i : Int) < (g.outs.length : Int) := by omega
      have wi := wsucc hin (by omega)
      obtain ⟨x, hxi, hxm, hx⟩ := int_at g.outs i hin
      obtain ⟨x1, x2⟩ := hg.outs x hxm
      have htk := int_snoc g.outs i x hxi
      refine Run.skip ?_
      refine End.kp [6, 7, 8, 45, 46, 47] ?_
      refine Run.seq ?_
      refine Run.block ?_
      refine Run.seq ?_
      have fx := And.intro (@Int.toNat_natCast) (And.intro (@Int.natCast_nonneg) (And.intro hil (And.intro hx (And.intro wi (And.intro hap (And.intro hol (And.intro hrm (And.intro rim_len (And.intro strs_len (And.intro ints_len ft))))))))))
      refine Run.go ?_
      refine End.kp [6, 7, 8, 11, 45, 46, 47] ?_
      refine Run.ghost (.spares 1) ?_
      simp only [ASt.pushN, ASt.push, List.append_assoc, List.cons_append, List.nil_append]
      refine Run.drawA fun K hK => ?_
      refine DOps.sim ?_
      refine DOps.call (.i (atV to x)) [((0, 1), .box [.im (.sl (ints to))])] [] rfl rfl rfl rfl (by kernel_rfl) (by simp [Agree, ASt.fr]) (fun u hu => mvd_ok to ht x x1 (by omega) hn u 1 (hu (((0, 1), .box [.im (.sl (ints to))])) (by simp))) ?_
      refine DOps.sim ?_
      refine DOps.nil (by rfl) (hK _ ?_); clear hK K
      refine End.blk ?_
      refine End.kp [6, 7, 8, 45, 46, 47] ?_
      refine Run.go ?_
      refine End.lp ?_
      refine ⟨g.outs.length - (i + 1), _, by omega, Ghost.form [(6, .ptr 0 2 0), (7, .fn 76 [.ptr 0 1 0]), (8, .ptr 0 4 0), (45, .im (.sl (ints g.outs))), (46, .i g.outs.length), (47, .i (i + 1 : Nat))] 6 ⟨rfl, rfl, rfl, rfl, rfl, rfl, trivial⟩ rfl rfl, i + 1, rfl, by omega, ?_⟩
      rw [htk]
      simp
    · have hb2 := of_decide_eq_false hb
      have hiN : i = g.outs.length := by omega
      subst hiN
      rw [List.take_length] at hol ⊢
      refine Run.exit rfl ?_
      refine End.kp [6, 8] ?_
      refine Run.seq ?_
      rw [mvRegs_all]
      refine Run.ghost (Ghost.boxShut (j := 4) (i := 2) (r := 3) rfl rfl rfl (by simp)) ?_
      refine Run.ghost (Ghost.boxShut (j := 4) (i := 4) (r := 5) rfl rfl rfl hol) ?_
      simp only [List.set_cons_zero, List.set_cons_succ]
      have fx := And.intro hap (And.intro hol (And.intro hrm (And.intro rim_len (And.intro strs_len (And.intro ints_len ft)))))
      refine Run.go ?_
      refine End.kp [6] ?_
      refine Run.resC hQ ?_
      exact ⟨rfl, rfl⟩
end Go.Proofs.YtdgpmopcmacicaaDoorPi

/- The walk of Clean of graphs. -/
set_option linter.unusedVariables false
set_option linter.unusedSimpArgs false
set_option maxRecDepth 100000
namespace Go.Proofs.YtdgpmopcmacicaaDoorPi
set_option maxHeartbeats 4000000
def cleanStep (g : LGraph) (need : List Bool) (i : Nat) (s : List (Int × Int) × List Int × List Int) : List (Int × Int) × List Int × List Int :=
  if i < 1 + g.inn.length + g.regs.length then (s.1, s.2.1 ++ [2 * (i : Int)], s.2.2 ++ [(i : Int)])
  else if need.getD i false = true then (s.1 ++ [(atV s.2.1 (g.ands.getD (i - (1 + g.inn.length + g.regs.length)) (0, 0)).1, atV s.2.1 (g.ands.getD (i - (1 + g.inn.length + g.regs.length)) (0, 0)).2)], s.2.1 ++ [2 * (1 + (g.inn.length : Int) + g.regs.length + s.1.length)], s.2.2 ++ [1 + (g.inn.length : Int) + g.regs.length + s.1.length])
  else (s.1, s.2.1 ++ [0], s.2.2 ++ [-1])
def cleanN (g : LGraph) (need : List Bool) : Nat → List (Int × Int) × List Int × List Int
  | 0 => ([], [], [])
  | i + 1 => cleanStep g need i (cleanN g need i)
def cleanG (g : LGraph) : List (Int × Int) × List Int × List Int := cleanN g (coneV g (rootsG g)) (nodesN g)
theorem cleanN_len (g : LGraph) (need : List Bool) : ∀ i : Nat, (cleanN g need i).1.length ≤ i ∧ (cleanN g need i).2.1.length = i ∧ (cleanN g need i).2.2.length = i
  | 0 => ⟨Nat.le_refl _, rfl, rfl⟩
  | i + 1 => by
    obtain ⟨h1, h2, h3⟩ := cleanN_len g need i
    rw [cleanN, cleanStep]
    split
    · simp [h2, h3]; omega
    · split
      · simp [h2, h3]; omega
      · simp [h2, h3]; omega
theorem ToOk.snoc {to : List Int} (h : ToOk to) {x : Int} (hx : 0 ≤ x ∧ x ≤ 1000000) : ToOk (to ++ [x]) := fun y hy => by
  simp only [List.mem_append, List.mem_singleton] at hy
  rcases hy with hy | rfl
  · exact h y hy
  · exact hx
theorem cleanN_to (g : LGraph) (hg : GSmall g) (need : List Bool) : ∀ i : Nat, i ≤ 10000 → ToOk (cleanN g need i).2.1
  | 0, _ => fun x hx => by simp [cleanN] at hx
  | i + 1, h => by
    have ih := cleanN_to g hg need i (by omega)
    have hl := (cleanN_len g need i).1
    obtain ⟨z1, z2, z3, z4, z5⟩ := hg
    rw [cleanN, cleanStep]
    split
    · exact ih.snoc (by omega)
    · split
      · exact ih.snoc (by omega)
      · exact ih.snoc (by omega)
theorem atV_app (to : List Int) (y l : Int) (h0 : 0 ≤ l) (h : l < 2 * (to.length : Int)) : atV (to ++ [y]) l = atV to l := by
  have e : (to ++ [y]).getD (l / 2).toNat 0 = to.getD (l / 2).toNat 0 := by
    simp only [List.getD_eq_getElem?_getD]
    rw [List.getElem?_append_left (by omega)]
  unfold atV
  rw [e]
theorem roots_in {g : LGraph} (hg : GraphOk g) : ∀ x ∈ rootsG g, 0 ≤ x ∧ x < 2 * (1 + (g.inn.length : Int) + g.regs.length + g.ands.length) := fun x hx => by
  simp only [rootsG, List.mem_append, List.mem_map] at hx
  rcases hx with hx | ⟨r, hr, rfl⟩
  · exact hg.outs x hx
  · exact hg.regs r hr
theorem nd_snoc (a : List (Int × Int)) (p : Int × Int) : (a ++ [p]).map nd = a.map nd ++ [nd p] := by simp
theorem ints_snoc (a : List Int) (x : Int) : ints (a ++ [x]) = ints a ++ [[.int .i64 x]] := by simp
theorem Clean_ok (g : LGraph) (hg : GraphOk g) (up : Frs) : ACalls Tryd.prog 53 [g.pv] up fun v u => v = .tup [(movedG g (cleanG g).1 (cleanG g).2.1).pv, .im (.sl (ints (cleanG g).2.2)), .i 0] ∧ u = up := by
  have hsm := hg.small
  obtain ⟨z1, z2, z3, z4, z5⟩ := hg.small
  have hRi := roots_in hg
  have hRl : (rootsG g).length ≤ 1000 := by simp [rootsG]; omega
  obtain ⟨V, hV⟩ : ∃ V, V = coneV g (rootsG g) := ⟨_, rfl⟩
  have hcone := cone_ok g hg (rootsG g) hRi (by omega)
  have hVl0 := coneV_len g (rootsG g)
  obtain ⟨N, hN⟩ : ∃ N, N = nodesN g := ⟨_, rfl⟩
  have hNi : (N : Int) = 1 + (g.inn.length : Int) + g.regs.length + g.ands.length := by rw [hN, nodesN]; omega
  have hNn : N = 1 + g.inn.length + g.regs.length + g.ands.length := by rw [hN, nodesN]
  have hCG : cleanN g V N = cleanG g := by rw [cleanG, hV, hN]
  rw [← hV] at hcone hVl0
  rw [← hN] at hVl0
  have hVl : (bools V).length = N := by rw [bools_len, hVl0]
  refine ACalls.code Tryd.func53 rfl 106 rfl (by simp) [.cell 2 31, .tmp 3, .tmp 4] rfl fun Q hQ => ?_
  simp only [ups, PV.up, argEnv]
  have ft := And.intro ty_3 (And.intro ty_4 (And.intro ty_22 (And.intro ty_28 (And.intro ty_29 (And.intro ty_31 (And.intro ty_35 (And.intro ty_51 (And.intro ty_54 (And.intro ty_77 trivial)))))))))
  refine Run.seq ?_
  have fx := And.intro hVl (And.intro ints_len (And.intro nd_len (And.intro rim_len (And.intro strs_len ft))))
  refine Run.go ?_
  refine End.kp [1, 2] ?_
  refine Run.seq ?_
  refine Run.seq ?_
  refine Run.region rfl fun K hK => GOps.sim ?_
  refine GOps.call rfl rfl rfl rfl (by kernel_rfl) (ACalls.sim ?_)
  refine (Check_ok g hg _).mono fun v u hv => ?_
  obtain ⟨rfl, rfl⟩ := hv
  refine ⟨_, _, rfl, GOps.sim ?_⟩
  refine GOps.done (hK _ ?_); clear hK K
  refine End.kp [1, 2, 5] ?_
  refine Run.seq ?_
  refine Run.go ?_
  refine End.kp [1, 2, 5, 16] ?_
  refine Run.cond _ rfl (fun hb => ?_) (fun hb => ?_)
  · have hb2 := hb
    simp at hb
  · have hb2 := hb
    refine Run.skip ?_
    refine End.kp [1, 2] ?_
    refine Run.seq ?_
    have fx := And.intro hVl (And.intro ints_len (And.intro nd_len (And.intro rim_len (And.intro strs_len ft))))
    refine Run.drawA fun K hK => ?_
    refine DOps.sim ?_
    refine DOps.call (.im (.sl (ints (rootsG g)))) [] [] rfl rfl rfl rfl (by kernel_rfl) (by simp [Agree]) (fun u hu => Roots_ok g hsm u) ?_
    refine DOps.sim ?_
    refine DOps.call (.im (.sl (bools V))) [] [] rfl rfl rfl rfl (by kernel_rfl) (by simp [Agree]) (fun u hu => hcone u) ?_
    refine DOps.sim ?_
    refine DOps.nil (metAll_quiet rfl) (hK _ ?_); clear hK K
    refine End.kp [1, 2, 6] ?_
    refine Run.seq ?_
    refine Run.region rfl fun K hK => GOps.sim ?_
    refine GOps.call rfl rfl rfl rfl (by kernel_rfl) (ACalls.sim ?_)
    refine (GFirst_ok g hsm _).mono fun v u hv => ?_
    obtain ⟨rfl, rfl⟩ := hv
    refine ⟨_, _, rfl, GOps.sim ?_⟩
    refine GOps.done (hK _ ?_); clear hK K
    refine End.kp [1, 2, 6, 7] ?_
    refine Run.seq ?_
    refine Run.go ?_
    refine End.kp [1, 2, 6, 7, 8] ?_
    refine Run.seq ?_
    refine Run.go ?_
    refine End.kp [1, 2, 6, 7, 8, 9] ?_
    refine Run.seq ?_
    refine Run.go ?_
    refine End.kp [1, 2, 6, 7, 8, 9, 10] ?_
    refine Run.seq ?_
    refine Run.seq ?_
    refine Run.go ?_
    refine End.kp [1, 2, 6, 7, 8, 9, 10, 26, 27] ?_
    refine Run.block ?_
    refine Run.ghost (Ghost.thaw (u := 8) 54 2 (by decide) rfl) ?_
    refine Run.ghost (Ghost.thaw (u := 9) 51 1 (by decide) rfl) ?_
    refine Run.ghost (Ghost.thaw (u := 10) 3 1 (by decide) rfl) ?_
    refine Run.ghost (Ghost.form [(1, .ptr 0 0 0), (2, .ptr 0 1 0), (6, .im (.sl (bools V))), (7, .i (1 + g.inn.length + g.regs.length)), (8, .ms 0 2 (0)), (9, .ms 0 3 (0)), (10, .ms 0 4 (0)), (26, .i N), (27, .i (0 : Nat))] 5 ⟨rfl, rfl, rfl, rfl, rfl, rfl, rfl, rfl, rfl, trivial⟩ rfl rfl) ?_
    refine Run.loop (fun m st => ∃ (i : Nat), m = N - i ∧ i ≤ N ∧ st = ⟨[(1, .ptr 0 0 0), (2, .ptr 0 1 0), (6, .im (.sl (bools V))), (7, .i (1 + g.inn.length + g.regs.length)), (8, .ms 0 2 ((cleanN g V i).1.length)), (9, .ms 0 3 (i)), (10, .ms 0 4 (i)), (26, .i N), (27, .i (i : Nat))], [.box [.im (.sl (strs g.inn)), .im (.sl (strs g.out)), .im (.sl (g.regs.map LReg.im)), .im (.sl (g.ands.map nd)), .im (.sl (ints g.outs))], .box [.nils, .nils, .nils, .nils, .nils], .row 54 2 (((cleanN g V i).1).map nd) 0, .row 51 1 (ints ((cleanN g V i).2.1)) 0, .row 3 1 (ints ((cleanN g V i).2.2)) 0], up⟩) N ⟨0, rfl, by omega, rfl⟩ fun m st hI => ?_
    obtain ⟨i, rfl, hi, rfl⟩ := hI
    obtain ⟨hAl, hTl, hPl⟩ := cleanN_len g V i
    have hTo := cleanN_to g hsm V i (by omega)
    generalize hC : cleanN g V i = C at hAl hTl hPl hTo
    obtain ⟨A, TT, P⟩ := C
    simp only at hAl hTl hPl hTo
    have hap : (i + 1) * 8 ≤ 140737488355328 := by omega
    have hap2 : (A.length + 1) * 16 ≤ 140737488355328 := by omega
    have hti : (ints TT).length = i := by rw [ints_len, hTl]
    have hpi : (ints P).length = i := by rw [ints_len, hPl]
    refine Run.seq ?_
    have fx := And.intro hpi (And.intro hti (And.intro hap2 (And.intro hap (And.intro hVl (And.intro ints_len (And.intro nd_len (And.intro rim_len (And.intro strs_len ft))))))))
    refine Run.go ?_
    refine End.kp [1, 2, 6, 7, 8, 9, 10, 26, 27, 28] ?_
    refine Run.seq ?_
    refine Run.cond _ rfl (fun hb => ?_) (fun hb => ?_)
    · have hb2 := of_decide_eq_true hb
      have hin : i < N := by omega
      have wi := wsucc hin (by omega)
      have w2 : IntKind.i64.wrap (2 * (i : Int)) = 2 * (i : Int) := wrap64 (by omega)
      refine Run.skip ?_
      refine End.kp [1, 2, 6, 7, 8, 9, 10, 26, 27] ?_
      refine Run.seq ?_
      refine Run.block ?_
      refine Run.seq ?_
      have fx := And.intro (@Int.toNat_natCast) (And.intro (@Int.natCast_nonneg) (And.intro w2 (And.intro wi (And.intro hpi (And.intro hti (And.intro hap2 (And.intro hap (And.intro hVl (And.intro ints_len (And.intro nd_len (And.intro rim_len (And.intro strs_len ft))))))))))))
      refine Run.go ?_
      refine End.kp [1, 2, 6, 7, 8, 9, 10, 11, 26, 27] ?_
      refine Run.block ?_
      refine Run.seq ?_
      refine Run.go ?_
      refine End.kp [1, 2, 6, 7, 8, 9, 10, 11, 26, 27, 36] ?_
      refine Run.cond _ rfl (fun hb => ?_) (fun hb => ?_)
      · have hbt := of_decide_eq_true hb
        have hstep : cleanN g V (i + 1) = (A, TT ++ [2 * (i : Int)], P ++ [(i : Int)]) := by rw [cleanN, hC, cleanStep, if_pos (by omega)]
        have fx := And.intro (@Int.toNat_natCast) (And.intro (@Int.natCast_nonneg) (And.intro w2 (And.intro wi (And.intro hpi (And.intro hti (And.intro hap2 (And.intro hap (And.intro hVl (And.intro ints_len (And.intro nd_len (And.intro rim_len (And.intro strs_len ft))))))))))))
        refine Run.go ?_
        refine End.blk ?_
        refine End.blk ?_
        refine End.kp [1, 2, 6, 7, 8, 9, 10, 26, 27] ?_
        refine Run.go ?_
        refine End.lp ?_
        refine ⟨N - (i + 1), _, by omega, Ghost.form [(1, .ptr 0 0 0), (2, .ptr 0 1 0), (6, .im (.sl (bools V))), (7, .i (1 + g.inn.length + g.regs.length)), (8, .ms 0 2 (A.length)), (9, .ms 0 3 (i + 1)), (10, .ms 0 4 (i + 1)), (26, .i N), (27, .i (i + 1 : Nat))] 5 ⟨rfl, rfl, rfl, rfl, rfl, rfl, rfl, rfl, rfl, trivial⟩ rfl rfl, i + 1, rfl, by omega, ?_⟩
        rw [hstep]
        simp only [nd_snoc, ints_snoc, List.length_append, List.length_cons, List.length_nil, hTl, hPl]
        rfl
      · have hbt := of_decide_eq_false hb
        have hil : (i : Int) < (N : Int) := by omega
        have hvb := bools_get V i (by omega)
        refine Run.seq ?_
        have fx := And.intro hvb (And.intro hil (And.intro (@Int.toNat_natCast) (And.intro (@Int.natCast_nonneg) (And.intro w2 (And.intro wi (And.intro hpi (And.intro hti (And.intro hap2 (And.intro hap (And.intro hVl (And.intro ints_len (And.intro nd_len (And.intro rim_len (And.intro strs_len ft))))))))))))))
        refine Run.go ?_
        refine End.kp [1, 2, 6, 7, 8, 9, 10, 11, 26, 27, 49] ?_
        refine Run.cond _ rfl (fun hb => ?_) (fun hb => ?_)
        · have hb3 := hb
          obtain ⟨k, hk⟩ : ∃ k, i = 1 + g.inn.length + g.regs.length + k := ⟨i - (1 + g.inn.length + g.regs.length), by omega⟩
          have wsub : IntKind.i64.wrap ((i : Int) - (1 + (g.inn.length : Int) + g.regs.length)) = (k : Int) := by rw [wrap64 (by omega)]; omega
          have hkl : (k : Int) < (g.ands.length : Int) := by omega
          obtain ⟨p, hpi2, hpm, hp⟩ := node_at g.ands k (by omega)
          obtain ⟨⟨p1, p2⟩, p3, p4⟩ := hg.ands k p hpi2
          have wA : IntKind.i64.wrap (1 + (g.inn.length : Int) + g.regs.length + A.length) = 1 + (g.inn.length : Int) + g.regs.length + A.length := wrap64 (by omega)
          have wA2 : IntKind.i64.wrap (2 * (1 + (g.inn.length : Int) + g.regs.length + A.length)) = 2 * (1 + (g.inn.length : Int) + g.regs.length + A.length) := wrap64 (by omega)
          obtain ⟨T2, hT2⟩ : ∃ T2, T2 = TT ++ [2 * (1 + (g.inn.length : Int) + g.regs.length + A.length)] := ⟨_, rfl⟩
          have hTo2 : ToOk T2 := by rw [hT2]; exact hTo.snoc (by omega)
          have hT2l : T2.length = i + 1 := by rw [hT2]; simp [hTl]
          have e2 : ints TT ++ [[.int .i64 (2 * (1 + (g.inn.length : Int) + g.regs.length + A.length))]] = ints T2 := by rw [hT2, ints_snoc]
          have hd1 := tdiv2 p.1 p1 (by omega)
          have hd2 := tdiv2 p.2 p3 (by omega)
          have m1 := tmod2 p.1 p1
          have m2 := tmod2 p.2 p3
          have wm1 : IntKind.i64.wrap (p.1 % 2) = p.1 % 2 := wrap64 (by omega)
          have wm2 : IntKind.i64.wrap (p.2 % 2) = p.2 % 2 := wrap64 (by omega)
          have q1 : 0 ≤ p.1 / 2 := by omega
          have q2 : 0 ≤ p.2 / 2 := by omega
          have q3 : p.1 / 2 < ((i + 1 : Nat) : Int) := by omega
          have q4 : p.2 / 2 < ((i + 1 : Nat) : Int) := by omega
          have hv1 := ints_get T2 (p.1 / 2).toNat (by omega)
          have hv2 := ints_get T2 (p.2 / 2).toNat (by omega)
          have g1 := hTo2.get (p.1 / 2).toNat
          have g2 := hTo2.get (p.2 / 2).toNat
          have hx1 := xor_at T2 p.1 (by omega)
          have hx2 := xor_at T2 p.2 (by omega)
          have hT2i : (ints T2).length = i + 1 := by rw [ints_len, hT2l]
          have a1 : atV T2 p.1 = atV TT p.1 := by rw [hT2]; exact atV_app _ _ _ p1 (by omega)
          have a2 : atV T2 p.2 = atV TT p.2 := by rw [hT2]; exact atV_app _ _ _ p3 (by omega)
          have hstep : cleanN g V (i + 1) = (A ++ [(atV TT p.1, atV TT p.2)], T2, P ++ [1 + (g.inn.length : Int) + g.regs.length + A.length]) := by
            have hgd : g.ands.getD (i - (1 + g.inn.length + g.regs.length)) (0, 0) = p := by rw [show i - (1 + g.inn.length + g.regs.length) = k by omega]; simp [hpi2]
            rw [cleanN, hC, cleanStep, if_neg (by omega), if_pos hb3, hgd, hT2]
          refine Run.seq ?_
          have fx := And.intro a2 (And.intro a1 (And.intro hx2 (And.intro hx1 (And.intro hv2 (And.intro hv1 (And.intro q4 (And.intro q3 (And.intro q2 (And.intro q1 (And.intro wm2 (And.intro wm1 (And.intro m2 (And.intro m1 (And.intro hd2 (And.intro hd1 (And.intro hT2i (And.intro e2 (And.intro wA2 (And.intro wA (And.intro hp (And.intro hkl (And.intro wsub (And.intro hvb (And.intro hil (And.intro (@Int.toNat_natCast) (And.intro (@Int.natCast_nonneg) (And.intro w2 (And.intro wi (And.intro hpi (And.intro hti (And.intro hap2 (And.intro hap (And.intro hVl (And.intro ints_len (And.intro nd_len (And.intro rim_len (And.intro strs_len ft)))))))))))))))))))))))))))))))))))))
          refine Run.go ?_
          refine End.kp [1, 2, 6, 7, 8, 9, 10, 12, 26, 27] ?_
          refine Run.seq ?_
          refine Run.go ?_
          refine End.kp [1, 2, 6, 7, 8, 9, 10, 12, 26, 27] ?_
          refine Run.ghost (.spares 1) ?_
          simp only [ASt.pushN, ASt.push, List.append_assoc, List.cons_append, List.nil_append]
          refine Run.drawA fun K hK => ?_
          refine DOps.sim ?_
          refine DOps.nil (by rfl) (hK _ ?_); clear hK K
          refine End.blk ?_
          refine End.blk ?_
          refine End.kp [1, 2, 6, 7, 8, 9, 10, 26, 27] ?_
          refine Run.go ?_
          refine End.lp ?_
          refine ⟨N - (i + 1), _, by omega, Ghost.form [(1, .ptr 0 0 0), (2, .ptr 0 1 0), (6, .im (.sl (bools V))), (7, .i (1 + g.inn.length + g.regs.length)), (8, .ms 0 2 (A.length + 1)), (9, .ms 0 3 (i + 1)), (10, .ms 0 4 (i + 1)), (26, .i N), (27, .i (i + 1 : Nat))] 5 ⟨rfl, rfl, rfl, rfl, rfl, rfl, rfl, rfl, rfl, trivial⟩ rfl rfl, i + 1, rfl, by omega, ?_⟩
          rw [hstep]
          simp only [nd_snoc, ints_snoc, List.length_append, List.length_cons, List.length_nil, hTl, hPl]
          rfl
        · have hb3 := hb
          have hstep : cleanN g V (i + 1) = (A, TT ++ [0], P ++ [-1]) := by rw [cleanN, hC, cleanStep, if_neg (by omega), if_neg (by rw [hb3]; simp)]
          have fx := And.intro hvb (And.intro hil (And.intro (@Int.toNat_natCast) (And.intro (@Int.natCast_nonneg) (And.intro w2 (And.intro wi (And.intro hpi (And.intro hti (And.intro hap2 (And.intro hap (And.intro hVl (And.intro ints_len (And.intro nd_len (And.intro rim_len (And.intro strs_len ft))))))))))))))
          refine Run.go ?_
          refine End.blk ?_
          refine End.blk ?_
          refine End.kp [1, 2, 6, 7, 8, 9, 10, 26, 27] ?_
          refine Run.go ?_
          refine End.lp ?_
          refine ⟨N - (i + 1), _, by omega, Ghost.form [(1, .ptr 0 0 0), (2, .ptr 0 1 0), (6, .im (.sl (bools V))), (7, .i (1 + g.inn.length + g.regs.length)), (8, .ms 0 2 (A.length)), (9, .ms 0 3 (i + 1)), (10, .ms 0 4 (i + 1)), (26, .i N), (27, .i (i + 1 : Nat))] 5 ⟨rfl, rfl, rfl, rfl, rfl, rfl, rfl, rfl, rfl, trivial⟩ rfl rfl, i + 1, rfl, by omega, ?_⟩
          rw [hstep]
          simp only [nd_snoc, ints_snoc, List.length_append, List.length_cons, List.length_nil, hTl, hPl]
          rfl
    · have hb2 := of_decide_eq_false hb
      have hiN : i = N := by omega
      subst hiN
      have hgA : (cleanG g).1 = A := by rw [← hCG, hC]
      have hgT : (cleanG g).2.1 = TT := by rw [← hCG, hC]
      have hgP : (cleanG g).2.2 = P := by rw [← hCG, hC]
      refine Run.exit rfl ?_
      refine End.kp [1, 2, 8, 9, 10] ?_
      refine Run.seq ?_
      refine Run.ghost (Ghost.shut (t := 8) (j := 2) rfl rfl (nd_len _)) ?_
      refine Run.ghost (Ghost.shut (t := 9) (j := 3) rfl rfl hti) ?_
      refine Run.ghost (Ghost.shut (t := 10) (j := 4) rfl rfl hpi) ?_
      simp only [eput, edel]
      have fx := And.intro hpi (And.intro hti (And.intro hap2 (And.intro hap (And.intro hVl (And.intro ints_len (And.intro nd_len (And.intro rim_len (And.intro strs_len ft))))))))
      refine Run.region rfl fun K hK => GOps.sim ?_
      refine GOps.call rfl rfl rfl rfl (by kernel_rfl) (ACalls.sim ?_)
      refine (moved_ok g hg A (by omega) TT hTo (by omega) (by omega) _).mono fun v u hv => ?_
      obtain ⟨rfl, rfl⟩ := hv
      refine ⟨_, _, rfl, GOps.sim ?_⟩
      refine GOps.done (hK _ ?_); clear hK K
      refine End.kp [2, 3, 4] ?_
      refine Run.resC hQ ?_
      exact ⟨by rw [hgA, hgT, hgP], rfl⟩
end Go.Proofs.YtdgpmopcmacicaaDoorPi

/- The walk of Strash of graphs. -/
set_option linter.unusedVariables false
set_option linter.unusedSimpArgs false
set_option maxRecDepth 100000
namespace Go.Proofs.YtdgpmopcmacicaaDoorPi
set_option maxHeartbeats 4000000
theorem atV_range {to : List Int} {K : Int} (h : ∀ x ∈ to, 0 ≤ x ∧ x < 2 * K) (hK : 0 < K) (l : Int) : 0 ≤ atV to l ∧ atV to l < 2 * K := by
  have hg : 0 ≤ to.getD (l / 2).toNat 0 ∧ to.getD (l / 2).toNat 0 < 2 * K := by
    rw [List.getD_eq_getElem?_getD]
    cases hk : to[(l / 2).toNat]? with
    | none => simp; omega
    | some x => exact h x (List.mem_of_getElem? hk)
  unfold atV flipL
  split
  · split <;> omega
  · exact hg
end Go.Proofs.YtdgpmopcmacicaaDoorPi

