/- Part 2 of the proof: the texts WP, WR, PWords, WQ, WS, WT, PNames, WO, WUA, one behind the other. Each holds for every input that it names; no condition is hidden. -/
import Derived.Test.YtdgpmopcmacicaaM1
/- The walks of the checks of graphs: First, before, Check; and of their values. -/
set_option linter.unusedVariables false
set_option linter.unusedSimpArgs false
set_option maxRecDepth 100000
namespace Go.Proofs.YtdgpmopcmacicaaPi
set_option maxHeartbeats 2000000

structure GSmall (g : LGraph) : Prop where
  inn : g.inn.length ≤ 128
  out : g.out.length ≤ 128
  regs : g.regs.length ≤ 288
  ands : g.ands.length ≤ 4000
  outs : g.outs.length ≤ 128
structure GraphOk (g : LGraph) : Prop where
  small : GSmall g
  names : ∀ s ∈ g.inn ++ g.regs.map LReg.name, NameOk s
  nodup : (g.inn ++ g.regs.map LReg.name).Nodup
  onames : ∀ s ∈ g.out, NameOk s
  onodup : g.out.Nodup
  olen : g.out.length = g.outs.length
  ands : ∀ (i : Nat) (p : Int × Int), g.ands[i]? = some p → (0 ≤ p.1 ∧ p.1 < 2 * (1 + (g.inn.length : Int) + g.regs.length + i)) ∧ 0 ≤ p.2 ∧ p.2 < 2 * (1 + (g.inn.length : Int) + g.regs.length + i)
  regs : ∀ r ∈ g.regs, 0 ≤ r.next ∧ r.next < 2 * (1 + (g.inn.length : Int) + g.regs.length + g.ands.length)
  outs : ∀ x ∈ g.outs, 0 ≤ x ∧ x < 2 * (1 + (g.inn.length : Int) + g.regs.length + g.ands.length)
theorem reg_at (l : List LReg) (i : Nat) (h : i < l.length) : ∃ r, l[i]? = some r ∧ r ∈ l ∧ (l.map LReg.im)[i]? = some [.str r.name, .int .i64 r.next, .bool r.init] :=
  ⟨l[i], by simp [h], List.getElem_mem h, by simp [h]⟩
theorem node_at (l : List (Int × Int)) (i : Nat) (h : i < l.length) : ∃ p, l[i]? = some p ∧ p ∈ l ∧ (l.map nd)[i]? = some [.int .i64 p.1, .int .i64 p.2] :=
  ⟨l[i], by simp [h], List.getElem_mem h, by simp [h]⟩
theorem tmod2 (x : Int) (h : 0 ≤ x) : x.tmod 2 = x % 2 := Int.tmod_eq_emod_of_nonneg h
theorem tdiv2 (x : Int) (h : 0 ≤ x) (h2 : x ≤ 1000000000) : IntKind.i64.wrap (x.tdiv 2) = x / 2 := by
  rw [Int.tdiv_eq_ediv_of_nonneg h]
  exact wrap64 (by omega)
theorem GFirst_ok (g : LGraph) (hg : GSmall g) (up : Frs) : ACalls Try.prog 34 [g.pv] up fun v u => v = .i (1 + g.inn.length + g.regs.length) ∧ u = up := by
  obtain ⟨z1, z2, z3, z4, z5⟩ := hg
  have w1 : IntKind.i64.wrap (1 + (g.inn.length : Int)) = 1 + (g.inn.length : Int) := wrap64 (by omega)
  have w2 : IntKind.i64.wrap (1 + (g.inn.length : Int) + g.regs.length) = 1 + (g.inn.length : Int) + g.regs.length := wrap64 (by omega)
  refine ACalls.code Try.func34 rfl 11 rfl (by simp) [.tmp 2] rfl fun Q hQ => ?_
  simp only [ups, PV.up, argEnv]
  have ft := And.intro ty_2 (And.intro ty_3 (And.intro ty_9 (And.intro ty_27 (And.intro ty_29 (And.intro ty_33 (And.intro ty_47 trivial))))))
  refine Run.seq ?_
  have fx := And.intro w2 (And.intro w1 (And.intro rim_len (And.intro strs_len ft)))
  refine Run.go ?_
  refine End.kp [1] ?_
  refine Run.seq ?_
  refine Run.go ?_
  refine End.kp [2] ?_
  refine Run.ret (hQ _ _ ⟨.inr rfl, _, rfl, _, rfl, ?_⟩)
  exact ⟨rfl, rfl⟩
theorem before_pos (l n : Int) (h0 : 0 ≤ l) (hn : 0 ≤ n) (hn2 : n ≤ 1000000) (up : Frs) : ACalls Try.prog 104 [.i l, .i n] up fun v u => v = .im (.bool (decide (l < 2 * n))) ∧ u = up := by
  have d1 : decide (0 ≤ l) = true := decide_eq_true (by omega)
  have w1 : IntKind.i64.wrap (2 * n) = 2 * n := wrap64 (by omega)
  refine ACalls.code Try.func104 rfl 13 rfl (by simp) [.tmp 4] rfl fun Q hQ => ?_
  simp only [ups, PV.up, argEnv]
  have ft := And.intro ty_3 (And.intro ty_4 (And.intro ty_34 trivial))
  refine Run.seq ?_
  have fx := And.intro (@ge_iff_le Int _) (And.intro w1 (And.intro d1 ft))
  refine Run.go ?_
  refine End.kp [0, 1] ?_
  refine Run.seq ?_
  refine Run.go ?_
  refine End.kp [4] ?_
  refine Run.ret (hQ _ _ ⟨.inr rfl, _, rfl, _, rfl, ?_⟩)
  exact ⟨rfl, rfl⟩
theorem before_ok (l n : Int) (h0 : 0 ≤ l) (h1 : l < 2 * n) (hn2 : n ≤ 1000000) (up : Frs) : ACalls Try.prog 104 [.i l, .i n] up fun v u => v = .im (.bool true) ∧ u = up :=
  (before_pos l n h0 (by omega) hn2 up).mono fun v u ⟨h1', h2⟩ => ⟨by rw [h1']; simp; omega, h2⟩
abbrev gnms (g : LGraph) (i : Nat) : List ByteArray := g.inn ++ (g.regs.take i).map LReg.name
theorem gnms_len (g : LGraph) (i : Nat) (h : i ≤ g.regs.length) : (strs (gnms g i)).length = g.inn.length + i := by simp; omega
theorem gnms_next (g : LGraph) (i : Nat) (f : LReg) (h : g.regs[i]? = some f) : gnms g (i + 1) = gnms g i ++ [f.name] := by simp [gnms, List.take_add_one, h]
theorem Check_ok (g : LGraph) (hg : GraphOk g) (up : Frs) : ACalls Try.prog 58 [g.pv] up fun v u => v = .i 0 ∧ u = up := by
  have hsm := hg.small
  obtain ⟨z1, z2, z3, z4, z5⟩ := hg.small
  have d1 : decide ((g.inn.length : Int) > 128) = false := decide_eq_false (by omega)
  have d2 : decide ((g.out.length : Int) > 128) = false := decide_eq_false (by omega)
  have d3 : decide ((g.regs.length : Int) > 288) = false := decide_eq_false (by omega)
  have d4 : decide ((g.ands.length : Int) > 4000) = false := decide_eq_false (by omega)
  have d5 : ((g.out.length : Int) != g.outs.length) = false := by rw [hg.olen]; simp
  have wn : IntKind.i64.wrap (1 + (g.inn.length : Int) + g.regs.length + g.ands.length) = 1 + (g.inn.length : Int) + g.regs.length + g.ands.length := wrap64 (by omega)
  refine ACalls.code Try.func58 rfl 128 rfl (by simp) [.tmp 2] rfl fun Q hQ => ?_
  simp only [ups, PV.up, argEnv]
  have ft := And.intro ty_2 (And.intro ty_3 (And.intro ty_4 (And.intro ty_9 (And.intro ty_27 (And.intro ty_29 (And.intro ty_30 (And.intro ty_31 (And.intro ty_33 (And.intro ty_34 (And.intro ty_37 (And.intro ty_39 (And.intro ty_47 trivial))))))))))))
  refine Run.seq ?_
  have fx := And.intro d5 (And.intro d4 (And.intro d3 (And.intro d2 (And.intro d1 (And.intro ints_len (And.intro nd_len (And.intro rim_len (And.intro strs_len ft))))))))
  refine Run.go ?_
  refine End.kp [1] ?_
  refine Run.seq ?_
  refine Run.seq ?_
  refine Run.go ?_
  refine End.kp [1, 36] ?_
  refine Run.cond _ rfl (fun hb => ?_) (fun hb => ?_)
  · have hb := hb
    simp at hb
  · have hb := hb
    refine Run.skip ?_
    refine End.kp [1] ?_
    refine Run.seq ?_
    refine Run.seq ?_
    have fx := And.intro d5 (And.intro d4 (And.intro d3 (And.intro d2 (And.intro d1 (And.intro ints_len (And.intro nd_len (And.intro rim_len (And.intro strs_len ft))))))))
    refine Run.go ?_
    refine End.kp [1, 43] ?_
    refine Run.cond _ rfl (fun hb => ?_) (fun hb => ?_)
    · have hb := hb
      simp at hb
    · have hb := hb
      refine Run.skip ?_
      refine End.kp [1] ?_
      refine Run.seq ?_
      have fx := And.intro d5 (And.intro d4 (And.intro d3 (And.intro d2 (And.intro d1 (And.intro ints_len (And.intro nd_len (And.intro rim_len (And.intro strs_len ft))))))))
      refine Run.region rfl fun K hK => GOps.sim ?_
      refine GOps.call rfl rfl rfl rfl (by kernel_rfl) (ACalls.sim ?_)
      refine (CloneX_ok g.inn (by omega) _ _).mono fun v u hv => ?_
      obtain ⟨rfl, rfl⟩ := hv
      refine ⟨_, _, rfl, GOps.sim ?_⟩
      refine GOps.done (hK _ ?_); clear hK K
      refine End.kp [1, 3] ?_
      refine Run.seq ?_
      refine Run.seq ?_
      refine Run.go ?_
      refine End.kp [1, 3, 48, 49, 50] ?_
      refine Run.block ?_
      refine Run.ghost (Ghost.form [(1, .ptr 0 0 0), (3, .ms 0 1 (g.inn.length + 0)), (48, .im (.sl (g.regs.map LReg.im))), (49, .i g.regs.length), (50, .i (0 : Nat))] 2 ⟨rfl, rfl, rfl, rfl, rfl, trivial⟩ rfl rfl) ?_
      refine Run.loop (fun m st => ∃ (i : Nat), m = g.regs.length - i ∧ i ≤ g.regs.length ∧ st = ⟨[(1, .ptr 0 0 0), (3, .ms 0 1 (g.inn.length + i)), (48, .im (.sl (g.regs.map LReg.im))), (49, .i g.regs.length), (50, .i (i : Nat))], [.box [.im (.sl (strs g.inn)), .im (.sl (strs g.out)), .im (.sl (g.regs.map LReg.im)), .im (.sl (g.ands.map nd)), .im (.sl (ints g.outs))], .row 9 1 (strs (gnms g i)) 0], up⟩) g.regs.length ⟨0, rfl, by omega, by simp⟩ fun m st hI => ?_
      obtain ⟨i, rfl, hi, rfl⟩ := hI
      have hsl := gnms_len g i hi
      have hap : (g.inn.length + i + 1) * 16 ≤ 140737488355328 := by omega
      refine Run.seq ?_
      have fx := And.intro hap (And.intro hsl (And.intro d5 (And.intro d4 (And.intro d3 (And.intro d2 (And.intro d1 (And.intro ints_len (And.intro nd_len (And.intro rim_len (And.intro strs_len ft))))))))))
      refine Run.go ?_
      refine End.kp [1, 3, 48, 49, 50, 51] ?_
      refine Run.seq ?_
      refine Run.cond _ rfl (fun hb => ?_) (fun hb => ?_)
      · have hb := of_decide_eq_true hb
        have hin : i < g.regs.length := by omega
        have wi := wsucc hin (by omega)
        obtain ⟨f, hf, hfm, hgt⟩ := reg_at g.regs i hin
        refine Run.skip ?_
        refine End.kp [1, 3, 48, 49, 50] ?_
        refine Run.seq ?_
        refine Run.block ?_
        refine Run.seq ?_
        have fx := And.intro (@Int.toNat_natCast) (And.intro (@Int.natCast_nonneg) (And.intro hgt (And.intro wi (And.intro hap (And.intro hsl (And.intro d5 (And.intro d4 (And.intro d3 (And.intro d2 (And.intro d1 (And.intro ints_len (And.intro nd_len (And.intro rim_len (And.intro strs_len ft))))))))))))))
        refine Run.go ?_
        refine End.kp [1, 3, 5, 48, 49, 50] ?_
        refine Run.go ?_
        refine End.blk ?_
        refine End.kp [1, 3, 48, 49, 50] ?_
        refine Run.go ?_
        refine End.lp ?_
        refine ⟨g.regs.length - (i + 1), _, by omega, Ghost.form [(1, .ptr 0 0 0), (3, .ms 0 1 (g.inn.length + (i + 1))), (48, .im (.sl (g.regs.map LReg.im))), (49, .i g.regs.length), (50, .i (i + 1 : Nat))] 2 ⟨rfl, rfl, rfl, rfl, rfl, trivial⟩ rfl rfl, i + 1, rfl, by omega, ?_⟩
        rw [gnms_next g i f hf]
        simp
      · have hb := of_decide_eq_false hb
        have hiN : i = g.regs.length := by omega
        subst hiN
        have hall : gnms g g.regs.length = g.inn ++ g.regs.map LReg.name := by simp [gnms]
        refine Run.exit rfl ?_
        refine End.kp [1, 3] ?_
        refine Run.seq ?_
        refine Run.seq ?_
        have fx := And.intro hap (And.intro hsl (And.intro d5 (And.intro d4 (And.intro d3 (And.intro d2 (And.intro d1 (And.intro ints_len (And.intro nd_len (And.intro rim_len (And.intro strs_len ft))))))))))
        refine Run.region rfl fun K hK => GOps.sim ?_
        refine GOps.call rfl rfl rfl rfl (by kernel_rfl) (ACalls.sim ?_)
        refine (Names_ok (gnms g g.regs.length) (by rw [hall]; simp; omega) (by rw [hall]; exact hg.names) (by rw [hall]; exact hg.nodup) _).mono fun v u hv => ?_
        obtain ⟨rfl, rfl⟩ := hv
        refine ⟨_, _, rfl, GOps.sim ?_⟩
        refine GOps.done (hK _ ?_); clear hK K
        refine End.kp [1, 6] ?_
        refine Run.seq ?_
        refine Run.go ?_
        refine End.kp [1, 6, 63] ?_
        refine Run.cond _ rfl (fun hb => ?_) (fun hb => ?_)
        · have hb := hb
          simp at hb
        · have hb := hb
          refine Run.skip ?_
          refine End.kp [1] ?_
          refine Run.seq ?_
          refine Run.seq ?_
          have fx := And.intro hap (And.intro hsl (And.intro d5 (And.intro d4 (And.intro d3 (And.intro d2 (And.intro d1 (And.intro ints_len (And.intro nd_len (And.intro rim_len (And.intro strs_len ft))))))))))
          refine Run.region rfl fun K hK => GOps.sim ?_
          refine GOps.call rfl rfl rfl rfl (by kernel_rfl) (ACalls.sim ?_)
          refine (Names_ok g.out (by omega) hg.onames hg.onodup _).mono fun v u hv => ?_
          obtain ⟨rfl, rfl⟩ := hv
          refine ⟨_, _, rfl, GOps.sim ?_⟩
          refine GOps.done (hK _ ?_); clear hK K
          refine End.kp [1, 7] ?_
          refine Run.seq ?_
          refine Run.go ?_
          refine End.kp [1, 7, 69] ?_
          refine Run.cond _ rfl (fun hb => ?_) (fun hb => ?_)
          · have hb := hb
            simp at hb
          · have hb := hb
            refine Run.skip ?_
            refine End.kp [1] ?_
            refine Run.seq ?_
            have fx := And.intro hap (And.intro hsl (And.intro d5 (And.intro d4 (And.intro d3 (And.intro d2 (And.intro d1 (And.intro ints_len (And.intro nd_len (And.intro rim_len (And.intro strs_len ft))))))))))
            refine Run.region rfl fun K hK => GOps.sim ?_
            refine GOps.call rfl rfl rfl rfl (by kernel_rfl) (ACalls.sim ?_)
            refine (GFirst_ok g hsm _).mono fun v u hv => ?_
            obtain ⟨rfl, rfl⟩ := hv
            refine ⟨_, _, rfl, GOps.sim ?_⟩
            refine GOps.done (hK _ ?_); clear hK K
            refine End.kp [1, 8] ?_
            refine Run.seq ?_
            refine Run.seq ?_
            refine Run.go ?_
            refine End.kp [1, 8, 74, 75, 76] ?_
            refine Run.block ?_
            refine Run.ghost (Ghost.form [(1, .ptr 0 0 0), (8, .i (1 + g.inn.length + g.regs.length)), (74, .im (.sl (g.ands.map nd))), (75, .i g.ands.length), (76, .i (0 : Nat))] 1 ⟨rfl, rfl, rfl, rfl, rfl, trivial⟩ rfl rfl) ?_
            refine Run.loop (fun m st => ∃ (i : Nat), m = g.ands.length - i ∧ i ≤ g.ands.length ∧ st = ⟨[(1, .ptr 0 0 0), (8, .i (1 + g.inn.length + g.regs.length)), (74, .im (.sl (g.ands.map nd))), (75, .i g.ands.length), (76, .i (i : Nat))], [.box [.im (.sl (strs g.inn)), .im (.sl (strs g.out)), .im (.sl (g.regs.map LReg.im)), .im (.sl (g.ands.map nd)), .im (.sl (ints g.outs))]], up⟩) g.ands.length ⟨0, rfl, by omega, rfl⟩ fun m st hI => ?_
            obtain ⟨i, rfl, hi, rfl⟩ := hI
            refine Run.seq ?_
            have fx := And.intro hap (And.intro hsl (And.intro d5 (And.intro d4 (And.intro d3 (And.intro d2 (And.intro d1 (And.intro ints_len (And.intro nd_len (And.intro rim_len (And.intro strs_len ft))))))))))
            refine Run.go ?_
            refine End.kp [1, 8, 74, 75, 76, 77] ?_
            refine Run.seq ?_
            refine Run.cond _ rfl (fun hb => ?_) (fun hb => ?_)
            · have hb := of_decide_eq_true hb
              have hin : i < g.ands.length := by omega
              have wi := wsucc hin (by omega)
              obtain ⟨p, hpi, hpm, hp⟩ := node_at g.ands i hin
              obtain ⟨⟨e1, e2⟩, e3, e4⟩ := hg.ands i p hpi
              have wfi : IntKind.i64.wrap (1 + (g.inn.length : Int) + g.regs.length + i) = 1 + (g.inn.length : Int) + g.regs.length + i := wrap64 (by omega)
              refine Run.skip ?_
              refine End.kp [1, 8, 74, 75, 76] ?_
              refine Run.seq ?_
              refine Run.block ?_
              refine Run.seq ?_
              have fx := And.intro (@Int.toNat_natCast) (And.intro (@Int.natCast_nonneg) (And.intro wfi (And.intro hp (And.intro wi (And.intro hap (And.intro hsl (And.intro d5 (And.intro d4 (And.intro d3 (And.intro d2 (And.intro d1 (And.intro ints_len (And.intro nd_len (And.intro rim_len (And.intro strs_len ft)))))))))))))))
              refine Run.go ?_
              refine End.kp [1, 8, 9, 10, 74, 75, 76] ?_
              refine Run.seq ?_
              refine Run.region rfl fun K hK => GOps.sim ?_
              refine GOps.call rfl rfl rfl rfl (by kernel_rfl) (ACalls.sim ?_)
              refine (before_ok p.1 (1 + g.inn.length + g.regs.length + i) e1 e2 (by omega) _).mono fun v u hv => ?_
              obtain ⟨rfl, rfl⟩ := hv
              refine ⟨_, _, rfl, GOps.sim ?_⟩
              refine GOps.call rfl rfl rfl rfl (by kernel_rfl) (ACalls.sim ?_)
              refine (before_ok p.2 (1 + g.inn.length + g.regs.length + i) e3 e4 (by omega) _).mono fun v u hv => ?_
              obtain ⟨rfl, rfl⟩ := hv
              refine ⟨_, _, rfl, GOps.sim ?_⟩
              refine GOps.done (hK _ ?_); clear hK K
              refine End.kp [1, 8, 74, 75, 76, 96] ?_
              refine Run.cond _ rfl (fun hb => ?_) (fun hb => ?_)
              · have hb := hb
                simp at hb
              · have hb := hb
                refine Run.skip ?_
                refine End.blk ?_
                refine End.kp [1, 8, 74, 75, 76] ?_
                have fx := And.intro (@Int.toNat_natCast) (And.intro (@Int.natCast_nonneg) (And.intro wfi (And.intro hp (And.intro wi (And.intro hap (And.intro hsl (And.intro d5 (And.intro d4 (And.intro d3 (And.intro d2 (And.intro d1 (And.intro ints_len (And.intro nd_len (And.intro rim_len (And.intro strs_len ft)))))))))))))))
                refine Run.go ?_
                refine End.lp ?_
                refine ⟨g.ands.length - (i + 1), _, by omega, Ghost.form [(1, .ptr 0 0 0), (8, .i (1 + g.inn.length + g.regs.length)), (74, .im (.sl (g.ands.map nd))), (75, .i g.ands.length), (76, .i (i + 1 : Nat))] 1 ⟨rfl, rfl, rfl, rfl, rfl, trivial⟩ rfl rfl, i + 1, rfl, by omega, rfl⟩
            · have hb := of_decide_eq_false hb
              refine Run.exit rfl ?_
              refine End.kp [1, 8] ?_
              refine Run.seq ?_
              have fx := And.intro wn (And.intro hap (And.intro hsl (And.intro d5 (And.intro d4 (And.intro d3 (And.intro d2 (And.intro d1 (And.intro ints_len (And.intro nd_len (And.intro rim_len (And.intro strs_len ft)))))))))))
              refine Run.go ?_
              refine End.kp [1, 8] ?_
              refine Run.seq ?_
              refine Run.seq ?_
              refine Run.go ?_
              refine End.kp [1, 8, 104, 105, 106] ?_
              refine Run.block ?_
              refine Run.ghost (Ghost.form [(1, .ptr 0 0 0), (8, .i (1 + g.inn.length + g.regs.length + g.ands.length)), (104, .im (.sl (g.regs.map LReg.im))), (105, .i g.regs.length), (106, .i (0 : Nat))] 1 ⟨rfl, rfl, rfl, rfl, rfl, trivial⟩ rfl rfl) ?_
              refine Run.loop (fun m st => ∃ (i : Nat), m = g.regs.length - i ∧ i ≤ g.regs.length ∧ st = ⟨[(1, .ptr 0 0 0), (8, .i (1 + g.inn.length + g.regs.length + g.ands.length)), (104, .im (.sl (g.regs.map LReg.im))), (105, .i g.regs.length), (106, .i (i : Nat))], [.box [.im (.sl (strs g.inn)), .im (.sl (strs g.out)), .im (.sl (g.regs.map LReg.im)), .im (.sl (g.ands.map nd)), .im (.sl (ints g.outs))]], up⟩) g.regs.length ⟨0, rfl, by omega, rfl⟩ fun m st hI => ?_
              obtain ⟨i, rfl, hi, rfl⟩ := hI
              refine Run.seq ?_
              have fx := And.intro wn (And.intro hap (And.intro hsl (And.intro d5 (And.intro d4 (And.intro d3 (And.intro d2 (And.intro d1 (And.intro ints_len (And.intro nd_len (And.intro rim_len (And.intro strs_len ft)))))))))))
              refine Run.go ?_
              refine End.kp [1, 8, 104, 105, 106, 107] ?_
              refine Run.seq ?_
              refine Run.cond _ rfl (fun hb => ?_) (fun hb => ?_)
              · have hb := of_decide_eq_true hb
                have hin : i < g.regs.length := by omega
                have wi := wsucc hin (by omega)
                obtain ⟨f, hf, hfm, hgt⟩ := reg_at g.regs i hin
                obtain ⟨e1, e2⟩ := hg.regs f hfm
                refine Run.skip ?_
                refine End.kp [1, 8, 104, 105, 106] ?_
                refine Run.seq ?_
                refine Run.block ?_
                refine Run.seq ?_
                have fx := And.intro (@Int.toNat_natCast) (And.intro (@Int.natCast_nonneg) (And.intro hgt (And.intro wi (And.intro wn (And.intro hap (And.intro hsl (And.intro d5 (And.intro d4 (And.intro d3 (And.intro d2 (And.intro d1 (And.intro ints_len (And.intro nd_len (And.intro rim_len (And.intro strs_len ft)))))))))))))))
                refine Run.go ?_
                refine End.kp [1, 8, 12, 104, 105, 106] ?_
                refine Run.seq ?_
                refine Run.region rfl fun K hK => GOps.sim ?_
                refine GOps.call rfl rfl rfl rfl (by kernel_rfl) (ACalls.sim ?_)
                refine (before_ok f.next (1 + g.inn.length + g.regs.length + g.ands.length) e1 e2 (by omega) _).mono fun v u hv => ?_
                obtain ⟨rfl, rfl⟩ := hv
                refine ⟨_, _, rfl, GOps.sim ?_⟩
                refine GOps.done (hK _ ?_); clear hK K
                refine End.kp [1, 8, 104, 105, 106, 114] ?_
                refine Run.cond _ rfl (fun hb => ?_) (fun hb => ?_)
                · have hb := hb
                  simp at hb
                · have hb := hb
                  refine Run.skip ?_
                  refine End.blk ?_
                  refine End.kp [1, 8, 104, 105, 106] ?_
                  have fx := And.intro (@Int.toNat_natCast) (And.intro (@Int.natCast_nonneg) (And.intro hgt (And.intro wi (And.intro wn (And.intro hap (And.intro hsl (And.intro d5 (And.intro d4 (And.intro d3 (And.intro d2 (And.intro d1 (And.intro ints_len (And.intro nd_len (And.intro rim_len (And.intro strs_len ft)))))))))))))))
                  refine Run.go ?_
                  refine End.lp ?_
                  refine ⟨g.regs.length - (i + 1), _, by omega, Ghost.form [(1, .ptr 0 0 0), (8, .i (1 + g.inn.length + g.regs.length + g.ands.length)), (104, .im (.sl (g.regs.map LReg.im))), (105, .i g.regs.length), (106, .i (i + 1 : Nat))] 1 ⟨rfl, rfl, rfl, rfl, rfl, trivial⟩ rfl rfl, i + 1, rfl, by omega, rfl⟩
              · have hb := of_decide_eq_false hb
                refine Run.exit rfl ?_
                refine End.kp [1, 8] ?_
                refine Run.seq ?_
                refine Run.seq ?_
                have fx := And.intro wn (And.intro hap (And.intro hsl (And.intro d5 (And.intro d4 (And.intro d3 (And.intro d2 (And.intro d1 (And.intro ints_len (And.intro nd_len (And.intro rim_len (And.intro strs_len ft)))))))))))
                refine Run.go ?_
                refine End.kp [8, 117, 118, 119] ?_
                refine Run.block ?_
                refine Run.ghost (Ghost.form [(8, .i (1 + g.inn.length + g.regs.length + g.ands.length)), (117, .im (.sl (ints g.outs))), (118, .i g.outs.length), (119, .i (0 : Nat))] 0 ⟨rfl, rfl, rfl, rfl, trivial⟩ rfl rfl) ?_
                refine Run.loop (fun m st => ∃ (i : Nat), m = g.outs.length - i ∧ i ≤ g.outs.length ∧ st = ⟨[(8, .i (1 + g.inn.length + g.regs.length + g.ands.length)), (117, .im (.sl (ints g.outs))), (118, .i g.outs.length), (119, .i (i : Nat))], [], up⟩) g.outs.length ⟨0, rfl, by omega, rfl⟩ fun m st hI => ?_
                obtain ⟨i, rfl, hi, rfl⟩ := hI
                refine Run.seq ?_
                have fx := And.intro wn (And.intro hap (And.intro hsl (And.intro d5 (And.intro d4 (And.intro d3 (And.intro d2 (And.intro d1 (And.intro ints_len (And.intro nd_len (And.intro rim_len (And.intro strs_len ft)))))))))))
                refine Run.go ?_
                refine End.kp [8, 117, 118, 119, 120] ?_
                refine Run.seq ?_
                refine Run.cond _ rfl (fun hb => ?_) (fun hb => ?_)
                · have hb := of_decide_eq_true hb
                  have hin : i < g.outs.length := by omega
                  have wi := wsucc hin (by omega)
                  obtain ⟨x, _, hxm, hx⟩ := int_at g.outs i hin
                  obtain ⟨e1, e2⟩ := hg.outs x hxm
                  refine Run.skip ?_
                  refine End.kp [8, 117, 118, 119] ?_
                  refine Run.seq ?_
                  refine Run.block ?_
                  refine Run.seq ?_
                  have fx := And.intro (@Int.toNat_natCast) (And.intro (@Int.natCast_nonneg) (And.intro hx (And.intro wi (And.intro wn (And.intro hap (And.intro hsl (And.intro d5 (And.intro d4 (And.intro d3 (And.intro d2 (And.intro d1 (And.intro ints_len (And.intro nd_len (And.intro rim_len (And.intro strs_len ft)))))))))))))))
                  refine Run.go ?_
                  refine End.kp [8, 14, 117, 118, 119] ?_
                  refine Run.seq ?_
                  refine Run.region rfl fun K hK => GOps.sim ?_
                  refine GOps.call rfl rfl rfl rfl (by kernel_rfl) (ACalls.sim ?_)
                  refine (before_ok x (1 + g.inn.length + g.regs.length + g.ands.length) e1 e2 (by omega) _).mono fun v u hv => ?_
                  obtain ⟨rfl, rfl⟩ := hv
                  refine ⟨_, _, rfl, GOps.sim ?_⟩
                  refine GOps.done (hK _ ?_); clear hK K
                  refine End.kp [8, 117, 118, 119, 126] ?_
                  refine Run.cond _ rfl (fun hb => ?_) (fun hb => ?_)
                  · have hb := hb
                    simp at hb
                  · have hb := hb
                    refine Run.skip ?_
                    refine End.blk ?_
                    refine End.kp [8, 117, 118, 119] ?_
                    have fx := And.intro (@Int.toNat_natCast) (And.intro (@Int.natCast_nonneg) (And.intro hx (And.intro wi (And.intro wn (And.intro hap (And.intro hsl (And.intro d5 (And.intro d4 (And.intro d3 (And.intro d2 (And.intro d1 (And.intro ints_len (And.intro nd_len (And.intro rim_len (And.intro strs_len ft)))))))))))))))
                    refine Run.go ?_
                    refine End.lp ?_
                    refine ⟨g.outs.length - (i + 1), _, by omega, Ghost.form [(8, .i (1 + g.inn.length + g.regs.length + g.ands.length)), (117, .im (.sl (ints g.outs))), (118, .i g.outs.length), (119, .i (i + 1 : Nat))] 0 ⟨rfl, rfl, rfl, rfl, trivial⟩ rfl rfl, i + 1, rfl, by omega, rfl⟩
                · have hb := of_decide_eq_false hb
                  refine Run.exit rfl ?_
                  refine End.kp [] ?_
                  refine Run.seq ?_
                  have fx := And.intro wn (And.intro hap (And.intro hsl (And.intro d5 (And.intro d4 (And.intro d3 (And.intro d2 (And.intro d1 (And.intro ints_len (And.intro nd_len (And.intro rim_len (And.intro strs_len ft)))))))))))
                  refine Run.go ?_
                  refine End.kp [2] ?_
                  refine Run.ret (hQ _ _ ⟨.inr rfl, _, rfl, _, rfl, ?_⟩)
                  exact ⟨rfl, rfl⟩
abbrev vnot (x : Int) : Int := bits .xor .u64 (if IntKind.u64.signed = true then -1 else IntKind.u64.max) x
def ofV (v : List Int) (l : Int) : Int := if l % 2 = 1 then vnot (v.getD (l / 2).toNat 0) else v.getD (l / 2).toNat 0
def valsA : List (Int × Int) → List Int → List Int
  | [], v => v
  | p :: ps, v => valsA ps (v ++ [bits .and .u64 (ofV v p.1) (ofV v p.2)])
def graphVals (g : LGraph) (inn st : List Int) : List Int := valsA g.ands ([0] ++ inn ++ st)
theorem valsA_len : ∀ (ps : List (Int × Int)) (v : List Int), (valsA ps v).length = v.length + ps.length
  | [], v => by simp [valsA]
  | p :: ps, v => by
    rw [valsA, valsA_len ps]
    simp
    omega
theorem graphVals_len (g : LGraph) (inn st : List Int) (h1 : inn.length = g.inn.length) (h2 : st.length = g.regs.length) : (graphVals g inn st).length = 1 + g.inn.length + g.regs.length + g.ands.length := by
  rw [graphVals, valsA_len]
  simp
  omega
def outsG (g : LGraph) (v : List Int) : List Int := g.outs.map (ofV v)
def nextsG (g : LGraph) (v : List Int) : List Int := g.regs.map fun r => ofV v r.next
theorem node_drop (l : List (Int × Int)) (i : Nat) (p : Int × Int) (h : l[i]? = some p) : l.drop i = p :: l.drop (i + 1) := by
  obtain ⟨hi, rfl⟩ := List.getElem?_eq_some_iff.1 h
  exact List.drop_eq_getElem_cons hi
theorem int_snoc (l : List Int) (i : Nat) (r : Int) (h : l[i]? = some r) : l.take (i + 1) = l.take i ++ [r] := by simp [List.take_add_one, h]
theorem reg_snoc (l : List LReg) (i : Nat) (r : LReg) (h : l[i]? = some r) : l.take (i + 1) = l.take i ++ [r] := by simp [List.take_add_one, h]
theorem of_ok (v : List Int) (l : Int) (h0 : 0 ≤ l) (h1 : l < 2 * (v.length : Int)) (hv2 : v.length ≤ 100000) (up : Frs) : ACalls Try.prog 126 [.im (.sl (us v)), .i l] up fun r u => r = .u (ofV v l) ∧ u = up := by
  have hm := tmod2 l h0
  have hd := tdiv2 l h0 (by omega)
  have hd0 : 0 ≤ l / 2 := by omega
  have hdl : l / 2 < (v.length : Int) := by omega
  have hv := us_get v (l / 2).toNat (by omega)
  refine ACalls.code Try.func126 rfl 19 rfl (by simp) [.tmp 4] rfl fun Q hQ => ?_
  simp only [ups, PV.up, argEnv]
  have ft := And.intro ty_4 (And.intro ty_34 (And.intro ty_98 (And.intro ty_171 trivial)))
  refine Run.seq ?_
  have fx := And.intro hv (And.intro hdl (And.intro hd0 (And.intro hd (And.intro hm (And.intro us_len ft)))))
  refine Run.go ?_
  refine End.kp [0, 1] ?_
  refine Run.seq ?_
  refine Run.seq ?_
  refine Run.go ?_
  refine End.kp [0, 1, 7] ?_
  refine Run.cond _ rfl (fun hb => ?_) (fun hb => ?_)
  · have hb := eq_of_beq hb
    refine Run.seq ?_
    have fx := And.intro hv (And.intro hdl (And.intro hd0 (And.intro hd (And.intro hm (And.intro us_len ft)))))
    refine Run.go ?_
    refine End.kp [4] ?_
    refine Run.ret (hQ _ _ ⟨.inr rfl, _, rfl, _, rfl, ?_⟩)
    exact ⟨by simp [ofV, hb], rfl⟩
  · have hb : ¬ l % 2 = 1 := fun e => by simp [e] at hb
    refine Run.skip ?_
    refine End.kp [0, 1] ?_
    refine Run.seq ?_
    have fx := And.intro hv (And.intro hdl (And.intro hd0 (And.intro hd (And.intro hm (And.intro us_len ft)))))
    refine Run.go ?_
    refine End.kp [4] ?_
    refine Run.ret (hQ _ _ ⟨.inr rfl, _, rfl, _, rfl, ?_⟩)
    exact ⟨by simp [ofV, hb], rfl⟩
theorem of_ms (v : List Int) (l : Int) (h0 : 0 ≤ l) (h1 : l < 2 * (v.length : Int)) (hv2 : v.length ≤ 100000) (up : Frs) (d j n fz : Nat) (hn : n = v.length) (hl : fget up d j = some (.row 171 1 (us v) fz)) : ACalls Try.prog 126 [.ms d j n, .i l] up fun r u => r = .u (ofV v l) ∧ u = up := by
  subst hn
  have hm := tmod2 l h0
  have hd := tdiv2 l h0 (by omega)
  have hd0 : 0 ≤ l / 2 := by omega
  have hdl : l / 2 < (v.length : Int) := by omega
  have hv := us_get v (l / 2).toNat (by omega)
  refine ACalls.code Try.func126 rfl 19 rfl (by simp) [.tmp 4] rfl fun Q hQ => ?_
  simp only [ups, PV.up, argEnv]
  have ft := And.intro ty_4 (And.intro ty_34 (And.intro ty_98 (And.intro ty_171 trivial)))
  refine Run.seq ?_
  have fx := And.intro hv (And.intro hdl (And.intro hd0 (And.intro hd (And.intro hm (And.intro hl (And.intro us_len ft))))))
  refine Run.go ?_
  refine End.kp [0, 1] ?_
  refine Run.seq ?_
  refine Run.seq ?_
  refine Run.go ?_
  refine End.kp [0, 1, 7] ?_
  refine Run.cond _ rfl (fun hb => ?_) (fun hb => ?_)
  · have hb := eq_of_beq hb
    refine Run.seq ?_
    have fx := And.intro hv (And.intro hdl (And.intro hd0 (And.intro hd (And.intro hm (And.intro hl (And.intro us_len ft))))))
    refine Run.go ?_
    refine End.kp [4] ?_
    refine Run.ret (hQ _ _ ⟨.inr rfl, _, rfl, _, rfl, ?_⟩)
    exact ⟨by simp [ofV, hb], rfl⟩
  · have hb : ¬ l % 2 = 1 := fun e => by simp [e] at hb
    refine Run.skip ?_
    refine End.kp [0, 1] ?_
    refine Run.seq ?_
    have fx := And.intro hv (And.intro hdl (And.intro hd0 (And.intro hd (And.intro hm (And.intro hl (And.intro us_len ft))))))
    refine Run.go ?_
    refine End.kp [4] ?_
    refine Run.ret (hQ _ _ ⟨.inr rfl, _, rfl, _, rfl, ?_⟩)
    exact ⟨by simp [ofV, hb], rfl⟩
theorem gvalues_ok (g : LGraph) (hg : GraphOk g) (inn st : List Int) (h1 : inn.length = g.inn.length) (h2 : st.length = g.regs.length) (up : Frs) : ACalls Try.prog 82 [g.pv, .im (.sl (us inn)), .im (.sl (us st))] up fun v u => v = .im (.sl (us (graphVals g inn st))) ∧ u = up := by
  obtain ⟨z1, z2, z3, z4, z5⟩ := hg.small
  have a1 : (1 + inn.length) * 8 ≤ 140737488355328 := by omega
  have a2 : (1 + inn.length + st.length) * 8 ≤ 140737488355328 := by omega
  have b1 : inn.length + 1 = 1 + inn.length := by omega
  have al : ∀ l : List Int, (us l).all (fun r => r.length == 1) = true := fun l => by simp
  refine ACalls.code Try.func82 rfl 37 rfl (by simp) [.tmp 6] rfl fun Q hQ => ?_
  simp only [ups, PV.up, argEnv]
  have ft := And.intro ty_3 (And.intro ty_30 (And.intro ty_33 (And.intro ty_34 (And.intro ty_37 (And.intro ty_98 (And.intro ty_171 trivial))))))
  refine Run.seq ?_
  have fx := And.intro (@List.length_append.{0}) (And.intro b1 (And.intro al (And.intro a2 (And.intro a1 (And.intro ints_len (And.intro nd_len (And.intro us_len ft)))))))
  refine Run.go ?_
  refine End.kp [1, 2, 3] ?_
  refine Run.seq ?_
  refine Run.go ?_
  refine End.kp [2, 3, 7] ?_
  refine Run.seq ?_
  refine Run.go ?_
  refine End.kp [3, 7] ?_
  refine Run.seq ?_
  refine Run.seq ?_
  refine Run.go ?_
  refine End.kp [7, 17, 18, 19] ?_
  refine Run.block ?_
  refine Run.ghost (Ghost.form [(7, .ms 0 1 (1 + inn.length + st.length)), (17, .im (.sl (g.ands.map nd))), (18, .i g.ands.length), (19, .i (0 : Nat))] 2 ⟨rfl, rfl, rfl, rfl, trivial⟩ rfl rfl) ?_
  refine Run.loop (fun m s => ∃ (i : Nat) (v : List Int), m = g.ands.length - i ∧ i ≤ g.ands.length ∧ v.length = 1 + inn.length + st.length + i ∧ valsA (g.ands.drop i) v = graphVals g inn st ∧ s = ⟨[(7, .ms 0 1 v.length), (17, .im (.sl (g.ands.map nd))), (18, .i g.ands.length), (19, .i (i : Nat))], [.box [.im (.sl (strs g.inn)), .im (.sl (strs g.out)), .im (.sl (g.regs.map LReg.im)), .im (.sl (g.ands.map nd)), .im (.sl (ints g.outs))], .row 171 1 (us v) 0], up⟩) g.ands.length ⟨0, [0] ++ inn ++ st, rfl, by omega, by simp; omega, rfl, ?_⟩ fun m s hI => ?_
  · simp
    omega
  obtain ⟨i, v, rfl, hi, hvl, hV, rfl⟩ := hI
  have hav : (v.length + 1) * 8 ≤ 140737488355328 := by omega
  refine Run.seq ?_
  have fx := And.intro hav (And.intro (@List.length_append.{0}) (And.intro b1 (And.intro al (And.intro a2 (And.intro a1 (And.intro ints_len (And.intro nd_len (And.intro us_len ft))))))))
  refine Run.go ?_
  refine End.kp [7, 17, 18, 19, 20] ?_
  refine Run.seq ?_
  refine Run.cond _ rfl (fun hb => ?_) (fun hb => ?_)
  · have hb := of_decide_eq_true hb
    have hin : i < g.ands.length := by omega
    have wi := wsucc hin (by omega)
    obtain ⟨p, hpi, hpm, hp⟩ := node_at g.ands i hin
    obtain ⟨⟨e1, e2⟩, e3, e4⟩ := hg.ands i p hpi
    have e2' : p.1 < 2 * (v.length : Int) := by omega
    have e4' : p.2 < 2 * (v.length : Int) := by omega
    rw [node_drop _ i p hpi, valsA] at hV
    refine Run.skip ?_
    refine End.kp [7, 17, 18, 19] ?_
    refine Run.seq ?_
    refine Run.block ?_
    refine Run.seq ?_
    have fx := And.intro (@Int.toNat_natCast) (And.intro (@Int.natCast_nonneg) (And.intro hp (And.intro wi (And.intro hav (And.intro (@List.length_append.{0}) (And.intro b1 (And.intro al (And.intro a2 (And.intro a1 (And.intro ints_len (And.intro nd_len (And.intro us_len ft))))))))))))
    refine Run.go ?_
    refine End.kp [7, 9, 17, 18, 19] ?_
    refine Run.ghost (.spares 1) ?_
    simp only [ASt.pushN, ASt.push, List.append_assoc, List.cons_append, List.nil_append]
    refine Run.drawA fun K hK => ?_
    refine DOps.sim ?_
    refine DOps.call (.u (ofV v p.1)) [((0, 1), .row 171 1 (us v) 0)] [] rfl rfl rfl rfl (by kernel_rfl) (by simp [Agree, ASt.fr]) (fun u hu => of_ms v p.1 e1 e2' (by omega) u 0 1 v.length 0 rfl (hu ((0, 1), .row 171 1 (us v) 0) (by simp))) ?_
    refine DOps.sim ?_
    refine DOps.call (.u (ofV v p.2)) [((0, 1), .row 171 1 (us v) 0)] [] rfl rfl rfl rfl (by kernel_rfl) (by simp [Agree, ASt.fr]) (fun u hu => of_ms v p.2 e3 e4' (by omega) u 0 1 v.length 0 rfl (hu ((0, 1), .row 171 1 (us v) 0) (by simp))) ?_
    refine DOps.sim ?_
    refine DOps.nil (by rfl) (hK _ ?_); clear hK K
    refine End.blk ?_
    refine End.kp [7, 17, 18, 19] ?_
    refine Run.go ?_
    refine End.lp ?_
    refine ⟨g.ands.length - (i + 1), _, by omega, Ghost.form [(7, .ms 0 1 (v.length + 1)), (17, .im (.sl (g.ands.map nd))), (18, .i g.ands.length), (19, .i (i + 1 : Nat))] 2 ⟨rfl, rfl, rfl, rfl, trivial⟩ rfl rfl, i + 1, v ++ [bits .and .u64 (ofV v p.1) (ofV v p.2)], rfl, by omega, by simp; omega, hV, ?_⟩
    simp
  · have hb := of_decide_eq_false hb
    have hiN : i = g.ands.length := by omega
    subst hiN
    rw [List.drop_length, valsA] at hV
    refine Run.exit rfl ?_
    refine End.kp [7] ?_
    refine Run.seq ?_
    refine Run.ghost (Ghost.shut (t := 7) (j := 1) rfl rfl (us_len v)) ?_
    simp only [eput, edel]
    have fx := And.intro hav (And.intro (@List.length_append.{0}) (And.intro b1 (And.intro al (And.intro a2 (And.intro a1 (And.intro ints_len (And.intro nd_len (And.intro us_len ft))))))))
    refine Run.go ?_
    refine End.kp [6] ?_
    refine Run.ret (hQ _ _ ⟨.inr rfl, _, rfl, _, rfl, ?_⟩)
    exact ⟨by rw [hV], rfl⟩
end Go.Proofs.YtdgpmopcmacicaaPi

/- The walks of literals and of enables: Inverted, Node, Make, and, mux, find, Enables. -/
set_option linter.unusedVariables false
set_option linter.unusedSimpArgs false
set_option maxRecDepth 100000
namespace Go.Proofs.YtdgpmopcmacicaaPi
set_option maxHeartbeats 2000000
/-- The opposite of a literal. -/
def flipL (l : Int) : Int := if l % 2 = 0 then l + 1 else l - 1
theorem xor_one (l : Int) (h0 : 0 ≤ l) (h1 : l ≤ 1000000000) : bits .xor .i64 l 1 = flipL l := by
  obtain ⟨n, rfl⟩ : ∃ n : Nat, l = n := ⟨l.toNat, by omega⟩
  have e : bits .xor .i64 (n : Int) 1 = IntKind.i64.wrap ((n ^^^ 1 : Nat) : Int) := by
    show IntKind.i64.wrap ((BitVec.ofInt 64 (n : Int) ^^^ BitVec.ofInt 64 1).toNat : Int) = _
    rw [BitVec.toNat_xor]
    have a1 : (BitVec.ofInt 64 (n : Int)).toNat = n := by
      rw [BitVec.toNat_ofInt]
      omega
    have a2 : (BitVec.ofInt 64 1).toNat = 1 := by decide
    rw [a1, a2]
  have h2 : n ^^^ 1 = if n % 2 = 0 then n + 1 else n - 1 := by
    have k1 : (n ^^^ 1) / 2 = n / 2 := by
      rw [Nat.xor_div_two]
      simp
    have k2 : (n ^^^ 1) % 2 = 1 ↔ ¬ n % 2 = 1 := by
      rw [Nat.xor_mod_two_eq_one]
      simp
    split <;> omega
  rw [e, h2, flipL]
  by_cases h : n % 2 = 0
  · rw [if_pos h, if_pos (by omega), wrap64 (by omega)]
    omega
  · rw [if_neg h, if_neg (by omega), wrap64 (by omega)]
    omega
theorem flipL_lt (l n : Int) (h0 : 0 ≤ l) (h1 : l < 2 * n) : 0 ≤ flipL l ∧ flipL l < 2 * n := by
  unfold flipL
  split <;> omega
def nodeOf (g : LGraph) (l : Int) : Option (Int × Int) := if 0 ≤ l / 2 - (1 + (g.inn.length : Int) + g.regs.length) ∧ l % 2 = 0 then g.ands[(l / 2 - (1 + (g.inn.length : Int) + g.regs.length)).toNat]? else none
def andPV : Option (Int × Int) → PV
  | some p => .tup [.agg [.i p.1, .i p.2], .im (.bool true)]
  | none => .tup [.agg [.i 0, .i 0], .im (.bool false)]
-- GONE Inverted_ok
-- GONE Node_ok
theorem Make_ok (k : Int) (h0 : 0 ≤ k) (h1 : k ≤ 4416) (up : Frs) : ACalls Try.prog 77 [.i k, .im (.bool false)] up fun v u => v = .i (2 * k) ∧ u = up := by
  have d1 : decide (k < 0) = false := decide_eq_false (by omega)
  have d2 : decide (k > 4416) = false := decide_eq_false (by omega)
  have w1 : IntKind.i64.wrap (2 * k) = 2 * k := wrap64 (by omega)
  refine ACalls.code Try.func77 rfl 18 rfl (by simp) [.tmp 4] rfl fun Q hQ => ?_
  simp only [ups, PV.up, argEnv]
  have ft := And.intro ty_3 (And.intro ty_4 (And.intro ty_34 trivial))
  refine Run.seq ?_
  have fx := And.intro w1 (And.intro d2 (And.intro d1 ft))
  refine Run.go ?_
  refine End.kp [0, 1] ?_
  refine Run.seq ?_
  refine Run.seq ?_
  refine Run.go ?_
  refine End.kp [0, 1, 11] ?_
  refine Run.cond _ rfl (fun hb => ?_) (fun hb => ?_)
  · have hb := hb
    simp at hb
  · have hb := hb
    refine Run.skip ?_
    refine End.kp [0, 1] ?_
    refine Run.seq ?_
    have fx := And.intro w1 (And.intro d2 (And.intro d1 ft))
    refine Run.go ?_
    refine End.kp [1, 5] ?_
    refine Run.seq ?_
    refine Run.seq ?_
    refine Run.go ?_
    refine End.kp [5, 14] ?_
    refine Run.cond _ rfl (fun hb => ?_) (fun hb => ?_)
    · have hb := hb
      simp at hb
    · have hb := hb
      refine Run.skip ?_
      refine End.kp [5] ?_
      refine Run.seq ?_
      have fx := And.intro w1 (And.intro d2 (And.intro d1 ft))
      refine Run.go ?_
      refine End.kp [4] ?_
      refine Run.ret (hQ _ _ ⟨.inr rfl, _, rfl, _, rfl, ?_⟩)
      exact ⟨rfl, rfl⟩
theorem nodeOf_mem {g : LGraph} {l : Int} {p : Int × Int} (h : nodeOf g l = some p) : ∃ i : Nat, g.ands[i]? = some p ∧ l = 2 * (1 + (g.inn.length : Int) + g.regs.length + i) := by
  unfold nodeOf at h
  split at h
  · rename_i hc
    exact ⟨_, h, by omega⟩
  · simp at h
theorem gand_no (g : LGraph) (hg : GSmall g) (l : Int) (h0 : 0 ≤ l) (h1 : l < 2 * (1 + (g.inn.length : Int) + g.regs.length + g.ands.length)) (hc : ¬ 0 ≤ l / 2 - (1 + (g.inn.length : Int) + g.regs.length)) (up : Frs) : ACalls Try.prog 118 [g.pv, .i l] up fun v u => v = andPV none ∧ u = up := by
  obtain ⟨z1, z2, z3, z4, z5⟩ := hg
  have hm := tmod2 l h0
  have hd := tdiv2 l h0 (by omega)
  have w1 : IntKind.i64.wrap (l / 2 - (1 + (g.inn.length : Int) + g.regs.length)) = l / 2 - (1 + (g.inn.length : Int) + g.regs.length) := wrap64 (by omega)
  
  have d1 : decide (0 ≤ l / 2 - (1 + (g.inn.length : Int) + g.regs.length)) = false := decide_eq_false hc
  refine ACalls.code Try.func118 rfl 25 rfl (by simp) [.cell 4 37, .tmp 5] rfl fun Q hQ => ?_
  simp only [ups, PV.up, argEnv]
  have ft := And.intro ty_3 (And.intro ty_4 (And.intro ty_30 (And.intro ty_33 (And.intro ty_34 (And.intro ty_37 trivial)))))
  refine Run.seq ?_
  have fx := And.intro (@ge_iff_le Int _) (And.intro d1 (And.intro w1 (And.intro hd (And.intro hm ft))))
  refine Run.go ?_
  refine End.kp [1, 2, 4] ?_
  refine Run.seq ?_
  refine Run.seq ?_
  refine Run.region rfl fun K hK => GOps.sim ?_
  refine GOps.call rfl rfl rfl rfl (by kernel_rfl) (ACalls.sim ?_)
  refine (GFirst_ok g ⟨z1, z2, z3, z4, z5⟩ _).mono fun v u hv => ?_
  obtain ⟨rfl, rfl⟩ := hv
  refine ⟨_, _, rfl, GOps.sim ?_⟩
  refine GOps.done (hK _ ?_); clear hK K
  refine End.kp [1, 2, 4, 6] ?_
  refine Run.seq ?_
  refine Run.go ?_
  refine End.kp [2, 4, 6, 18] ?_
  refine Run.cond _ rfl (fun hb => ?_) (fun hb => ?_)
  · have hb := hb
    simp at hb
  · have hb := hb
    refine Run.skip ?_
    refine End.kp [4] ?_
    refine Run.seq ?_
    have fx := And.intro (@ge_iff_le Int _) (And.intro d1 (And.intro w1 (And.intro hd (And.intro hm ft))))
    refine Run.go ?_
    refine End.kp [4, 5] ?_
    refine Run.resC hQ ?_
    exact ⟨rfl, rfl⟩
theorem gand_odd (g : LGraph) (hg : GSmall g) (l : Int) (h0 : 0 ≤ l) (h1 : l < 2 * (1 + (g.inn.length : Int) + g.regs.length + g.ands.length)) (hc : 0 ≤ l / 2 - (1 + (g.inn.length : Int) + g.regs.length)) (hc2 : ¬ l % 2 = 0) (up : Frs) : ACalls Try.prog 118 [g.pv, .i l] up fun v u => v = andPV none ∧ u = up := by
  obtain ⟨z1, z2, z3, z4, z5⟩ := hg
  have hm := tmod2 l h0
  have hd := tdiv2 l h0 (by omega)
  have w1 : IntKind.i64.wrap (l / 2 - (1 + (g.inn.length : Int) + g.regs.length)) = l / 2 - (1 + (g.inn.length : Int) + g.regs.length) := wrap64 (by omega)
  
  have d1 : decide (0 ≤ l / 2 - (1 + (g.inn.length : Int) + g.regs.length)) = true := decide_eq_true hc
  have d2 : (l % 2 == 0) = false := by simpa using hc2
  refine ACalls.code Try.func118 rfl 25 rfl (by simp) [.cell 4 37, .tmp 5] rfl fun Q hQ => ?_
  simp only [ups, PV.up, argEnv]
  have ft := And.intro ty_3 (And.intro ty_4 (And.intro ty_30 (And.intro ty_33 (And.intro ty_34 (And.intro ty_37 trivial)))))
  refine Run.seq ?_
  have fx := And.intro (@ge_iff_le Int _) (And.intro d2 (And.intro d1 (And.intro w1 (And.intro hd (And.intro hm ft)))))
  refine Run.go ?_
  refine End.kp [1, 2, 4] ?_
  refine Run.seq ?_
  refine Run.seq ?_
  refine Run.region rfl fun K hK => GOps.sim ?_
  refine GOps.call rfl rfl rfl rfl (by kernel_rfl) (ACalls.sim ?_)
  refine (GFirst_ok g ⟨z1, z2, z3, z4, z5⟩ _).mono fun v u hv => ?_
  obtain ⟨rfl, rfl⟩ := hv
  refine ⟨_, _, rfl, GOps.sim ?_⟩
  refine GOps.done (hK _ ?_); clear hK K
  refine End.kp [1, 2, 4, 6] ?_
  refine Run.seq ?_
  refine Run.go ?_
  refine End.kp [2, 4, 6, 18] ?_
  refine Run.cond _ rfl (fun hb => ?_) (fun hb => ?_)
  · have hb := hb
    simp at hb
  · have hb := hb
    refine Run.skip ?_
    refine End.kp [4] ?_
    refine Run.seq ?_
    have fx := And.intro (@ge_iff_le Int _) (And.intro d2 (And.intro d1 (And.intro w1 (And.intro hd (And.intro hm ft)))))
    refine Run.go ?_
    refine End.kp [4, 5] ?_
    refine Run.resC hQ ?_
    exact ⟨rfl, rfl⟩
theorem gand_ok (g : LGraph) (hg : GSmall g) (l : Int) (h0 : 0 ≤ l) (h1 : l < 2 * (1 + (g.inn.length : Int) + g.regs.length + g.ands.length)) (up : Frs) : ACalls Try.prog 118 [g.pv, .i l] up fun v u => v = andPV (nodeOf g l) ∧ u = up := by
  obtain ⟨z1, z2, z3, z4, z5⟩ := hg
  have hm := tmod2 l h0
  have hd := tdiv2 l h0 (by omega)
  have w1 : IntKind.i64.wrap (l / 2 - (1 + (g.inn.length : Int) + g.regs.length)) = l / 2 - (1 + (g.inn.length : Int) + g.regs.length) := wrap64 (by omega)
  by_cases hc : 0 ≤ l / 2 - (1 + (g.inn.length : Int) + g.regs.length)
  case neg =>
    have hnd : nodeOf g l = none := by rw [nodeOf, if_neg (fun h => hc h.1)]
    rw [hnd]
    exact gand_no g ⟨z1, z2, z3, z4, z5⟩ l h0 h1 hc up
  by_cases hc2 : l % 2 = 0
  case neg =>
    have hnd : nodeOf g l = none := by rw [nodeOf, if_neg (fun h => hc2 h.2)]
    rw [hnd]
    exact gand_odd g ⟨z1, z2, z3, z4, z5⟩ l h0 h1 hc hc2 up
  have d1 : decide (0 ≤ l / 2 - (1 + (g.inn.length : Int) + g.regs.length)) = true := decide_eq_true hc
  have d2 : (l % 2 == 0) = true := by simpa using hc2
  obtain ⟨p, hpi, hpm, hp⟩ := node_at g.ands (l / 2 - (1 + (g.inn.length : Int) + g.regs.length)).toNat (by omega)
  have hnd : nodeOf g l = some p := by rw [nodeOf, if_pos ⟨hc, hc2⟩, hpi]
  have hlt : l / 2 - (1 + (g.inn.length : Int) + g.regs.length) < (g.ands.length : Int) := by omega
  rw [hnd]
  refine ACalls.code Try.func118 rfl 25 rfl (by simp) [.cell 4 37, .tmp 5] rfl fun Q hQ => ?_
  simp only [ups, PV.up, argEnv]
  have ft := And.intro ty_3 (And.intro ty_4 (And.intro ty_30 (And.intro ty_33 (And.intro ty_34 (And.intro ty_37 trivial)))))
  refine Run.seq ?_
  have fx := And.intro (@ge_iff_le Int _) (And.intro nd_len (And.intro hlt (And.intro hc (And.intro hp (And.intro d2 (And.intro d1 (And.intro w1 (And.intro hd (And.intro hm ft)))))))))
  refine Run.go ?_
  refine End.kp [1, 2, 4] ?_
  refine Run.seq ?_
  refine Run.seq ?_
  refine Run.region rfl fun K hK => GOps.sim ?_
  refine GOps.call rfl rfl rfl rfl (by kernel_rfl) (ACalls.sim ?_)
  refine (GFirst_ok g ⟨z1, z2, z3, z4, z5⟩ _).mono fun v u hv => ?_
  obtain ⟨rfl, rfl⟩ := hv
  refine ⟨_, _, rfl, GOps.sim ?_⟩
  refine GOps.done (hK _ ?_); clear hK K
  refine End.kp [1, 2, 4, 6] ?_
  refine Run.seq ?_
  refine Run.go ?_
  refine End.kp [2, 4, 6, 18] ?_
  refine Run.cond _ rfl (fun hb => ?_) (fun hb => ?_)
  · have hb := hb
    refine Run.seq ?_
    have fx := And.intro (@ge_iff_le Int _) (And.intro nd_len (And.intro hlt (And.intro hc (And.intro hp (And.intro d2 (And.intro d1 (And.intro w1 (And.intro hd (And.intro hm ft)))))))))
    refine Run.go ?_
    refine End.kp [4, 5] ?_
    refine Run.resC hQ ?_
    exact ⟨rfl, rfl⟩
  · have hb := hb
    simp at hb
end Go.Proofs.YtdgpmopcmacicaaPi

/- Plain law: words as 64 bits; the values of literals and nodes of a graph. -/
set_option linter.unusedVariables false
set_option linter.unusedSimpArgs false
namespace Go.Proofs.YtdgpmopcmacicaaPi

/-- A word's bits. -/
abbrev bv (x : Int) : BitVec 64 := BitVec.ofInt 64 x
def U64 (x : Int) : Prop := 0 ≤ x ∧ x < 18446744073709551616
theorem bv_nat (r : BitVec 64) : bv (r.toNat : Int) = r := by
  apply BitVec.eq_of_toNat_eq
  simp
theorem wrap_nat (r : BitVec 64) : IntKind.u64.wrap (r.toNat : Int) = r.toNat := wrapU (by have := r.isLt; omega)
theorem bits_and (x y : Int) : bits .and .u64 x y = ((bv x &&& bv y).toNat : Int) := wrap_nat _
theorem bits_xor (x y : Int) : bits .xor .u64 x y = ((bv x ^^^ bv y).toNat : Int) := wrap_nat _
theorem bv_and (x y : Int) : bv (bits .and .u64 x y) = bv x &&& bv y := by rw [bits_and, bv_nat]
theorem bv_xor (x y : Int) : bv (bits .xor .u64 x y) = bv x ^^^ bv y := by rw [bits_xor, bv_nat]
theorem bv_vnot (x : Int) : bv (vnot x) = ~~~ bv x := by
  rw [vnot, bv_xor]
  have : bv (if IntKind.u64.signed = true then -1 else IntKind.u64.max) = BitVec.allOnes 64 := by decide
  rw [this]
  apply BitVec.eq_of_getLsbD_eq
  intro i hi
  simp only [BitVec.getLsbD_xor, BitVec.getLsbD_allOnes, BitVec.getLsbD_not, hi, decide_true, Bool.true_and, Bool.true_xor]
theorem bv_ext {x y : BitVec 64} (h : ∀ i, i < 64 → x.getLsbD i = y.getLsbD i) : x = y := BitVec.eq_of_getLsbD_eq h

/-- The bits of a literal. -/
def litB (v : List Int) (l : Int) : BitVec 64 := if l % 2 = 1 then ~~~ bv (v.getD (l / 2).toNat 0) else bv (v.getD (l / 2).toNat 0)
theorem bv_of (v : List Int) (l : Int) : bv (ofV v l) = litB v l := by
  unfold ofV litB
  split
  · exact bv_vnot _
  · rfl
theorem litB_flip (v : List Int) (l : Int) (h : 0 ≤ l) : litB v (flipL l) = ~~~ litB v l := by
  unfold litB flipL
  by_cases h2 : l % 2 = 0
  · rw [if_pos h2, if_pos (by omega), if_neg (show ¬ l % 2 = 1 by omega)]
    congr 3
    omega
  · rw [if_neg h2, if_neg (by omega), if_pos (show l % 2 = 1 by omega)]
    have : ((l - 1) / 2).toNat = (l / 2).toNat := by omega
    rw [this]
    apply bv_ext
    intro i hi
    simp [hi]
theorem valsA_pre : ∀ (ps : List (Int × Int)) (v : List Int) (k : Nat), k < v.length → (valsA ps v).getD k 0 = v.getD k 0
  | [], v, k, h => rfl
  | p :: ps, v, k, h => by
    rw [valsA, valsA_pre ps _ k (by simp; omega)]
    simp [List.getElem?_append_left h]
theorem valsA_litB (ps : List (Int × Int)) (v : List Int) (l : Int) (h0 : 0 ≤ l) (h : l < 2 * (v.length : Int)) : litB (valsA ps v) l = litB v l := by
  unfold litB
  rw [valsA_pre ps v (l / 2).toNat (by omega)]
theorem valsA_node : ∀ (ps : List (Int × Int)) (v : List Int) (i : Nat) (p : Int × Int), ps[i]? = some p → (∀ (i : Nat) (p : Int × Int), ps[i]? = some p → (0 ≤ p.1 ∧ p.1 < 2 * ((v.length : Int) + i)) ∧ 0 ≤ p.2 ∧ p.2 < 2 * ((v.length : Int) + i)) →
    bv ((valsA ps v).getD (v.length + i) 0) = litB (valsA ps v) p.1 &&& litB (valsA ps v) p.2
  | [], v, i, p, h, _ => by simp at h
  | q :: qs, v, 0, p, h, hr => by
    simp at h
    subst h
    obtain ⟨⟨a1, a2⟩, a3, a4⟩ := hr 0 q rfl
    rw [valsA]
    have hl : (v ++ [bits .and .u64 (ofV v q.1) (ofV v q.2)]).length = v.length + 1 := by simp
    rw [valsA_pre qs _ _ (by omega), valsA_litB qs _ q.1 a1 (by rw [hl]; omega), valsA_litB qs _ q.2 a3 (by rw [hl]; omega)]
    have e : ∀ l : Int, 0 ≤ l → l < 2 * (v.length : Int) → litB (v ++ [bits .and .u64 (ofV v q.1) (ofV v q.2)]) l = litB v l := fun l h1 h2 => by
      unfold litB
      have : (v ++ [bits .and .u64 (ofV v q.1) (ofV v q.2)]).getD (l / 2).toNat 0 = v.getD (l / 2).toNat 0 := by
        simp only [List.getD_eq_getElem?_getD]
        rw [List.getElem?_append_left (by omega)]
      rw [this]
    rw [e q.1 a1 (by omega), e q.2 a3 (by omega)]
    simp [bv_and, bv_of]
  | q :: qs, v, i + 1, p, h, hr => by
    rw [valsA]
    have hl : (v ++ [bits .and .u64 (ofV v q.1) (ofV v q.2)]).length = v.length + 1 := by simp
    have := valsA_node qs (v ++ [bits .and .u64 (ofV v q.1) (ofV v q.2)]) i p (by simpa using h) (fun j p' hp' => by
      have := hr (j + 1) p' (by simpa using hp')
      rw [hl]
      omega)
    rw [hl] at this
    rw [show v.length + (i + 1) = v.length + 1 + i by omega]
    exact this
section
variable {g : LGraph} (hg : GraphOk g) {inn st : List Int} (h1 : inn.length = g.inn.length) (h2 : st.length = g.regs.length)
include hg h1 h2
theorem g_and (i : Nat) (p : Int × Int) (hp : g.ands[i]? = some p) : litB (graphVals g inn st) (2 * (1 + (g.inn.length : Int) + g.regs.length + i)) = litB (graphVals g inn st) p.1 &&& litB (graphVals g inn st) p.2 := by
  have hl : ([0] ++ inn ++ st).length = 1 + g.inn.length + g.regs.length := by simp; omega
  have := valsA_node g.ands ([0] ++ inn ++ st) i p hp (fun j q hq => by
    have := hg.ands j q hq
    rw [hl]
    omega)
  rw [hl] at this
  rw [graphVals, litB, if_neg (by omega)]
  have e : (2 * (1 + (g.inn.length : Int) + g.regs.length + i) / 2).toNat = 1 + g.inn.length + g.regs.length + i := by omega
  rw [e]
  exact this
theorem g_nodeOf {l : Int} {p : Int × Int} (h : nodeOf g l = some p) : litB (graphVals g inn st) l = litB (graphVals g inn st) p.1 &&& litB (graphVals g inn st) p.2 := by
  obtain ⟨i, hi, rfl⟩ := nodeOf_mem h
  exact g_and hg h1 h2 i p hi
theorem g_off : litB (graphVals g inn st) 0 = 0#64 := by
  have _ := hg
  rw [graphVals, valsA_litB _ _ _ (by omega) (by simp; omega)]
  simp [litB]
theorem g_on : litB (graphVals g inn st) 1 = BitVec.allOnes 64 := by
  have := litB_flip (graphVals g inn st) 0 (by omega)
  rw [g_off hg h1 h2] at this
  rw [show (1 : Int) = flipL 0 by decide, this]
  decide
theorem g_reg (i : Nat) (hi : i < g.regs.length) : litB (graphVals g inn st) (2 * (1 + (g.inn.length : Int) + i)) = bv (st.getD i 0) := by
  have _ := hg
  rw [graphVals, valsA_litB _ _ _ (by omega) (by simp; omega), litB, if_neg (by omega)]
  have e : (2 * (1 + (g.inn.length : Int) + i) / 2).toNat = 1 + inn.length + i := by omega
  rw [e]
  congr 1
  simp only [List.getD_eq_getElem?_getD]
  rw [List.getElem?_append_right (by simp; omega)]
  congr 2
  simp
  omega
end
end Go.Proofs.YtdgpmopcmacicaaPi

/- The walks of results, Words, Eval, Init, Run of graphs. -/
set_option linter.unusedVariables false
set_option linter.unusedSimpArgs false
set_option maxRecDepth 100000
namespace Go.Proofs.YtdgpmopcmacicaaPi
set_option maxHeartbeats 2000000
abbrev laneB (l : List Int) : List Bool := l.map fun w => bits .and .u64 w 1 == 1
def runG (g : LGraph) : List Int → List (List Bool) → List (List Bool)
  | _, [] => []
  | st, r :: t => laneB (outsG g (graphVals g (lanes0 r) st)) :: runG g (nextsG g (graphVals g (lanes0 r) st)) t
theorem runG_len (g : LGraph) : ∀ (t : List (List Bool)) (st : List Int), (runG g st t).length = t.length
  | [], st => rfl
  | r :: t, st => by simp [runG, runG_len g t]
abbrev initG (g : LGraph) : List Bool := g.regs.map LReg.init
theorem gresults_ok (g : LGraph) (hg : GraphOk g) (v : List Int) (hv : v.length = 1 + g.inn.length + g.regs.length + g.ands.length) (up : Frs) : ACalls Try.prog 81 [g.pv, .im (.sl (us v))] up fun r u => r = .tup [.im (.sl (us (outsG g v))), .im (.sl (us (nextsG g v)))] ∧ u = up := by
  obtain ⟨z1, z2, z3, z4, z5⟩ := hg.small
  refine ACalls.code Try.func81 rfl 41 rfl (by simp) [.tmp 4, .tmp 5] rfl fun Q hQ => ?_
  simp only [ups, PV.up, argEnv]
  have ft := And.intro ty_2 (And.intro ty_3 (And.intro ty_4 (And.intro ty_29 (And.intro ty_31 (And.intro ty_33 (And.intro ty_34 (And.intro ty_47 (And.intro ty_98 (And.intro ty_171 trivial)))))))))
  refine Run.seq ?_
  have fx := And.intro ints_len (And.intro rim_len (And.intro us_len ft))
  refine Run.go ?_
  refine End.kp [1, 2, 4, 5] ?_
  refine Run.seq ?_
  refine Run.seq ?_
  refine Run.go ?_
  refine End.kp [1, 2, 4, 5, 11, 12, 13] ?_
  refine Run.block ?_
  refine Run.ghost (Ghost.thaw (u := 4) 171 1 (by decide) rfl) ?_
  refine Run.ghost (Ghost.form [(1, .im (.sl (us v))), (2, .ptr 0 0 0), (4, .ms 0 1 0), (5, .nils), (11, .im (.sl (ints g.outs))), (12, .i g.outs.length), (13, .i (0 : Nat))] 2 ⟨rfl, rfl, rfl, rfl, rfl, rfl, rfl, trivial⟩ rfl rfl) ?_
  refine Run.loop (fun m s => ∃ (i : Nat), m = g.outs.length - i ∧ i ≤ g.outs.length ∧ s = ⟨[(1, .im (.sl (us v))), (2, .ptr 0 0 0), (4, .ms 0 1 i), (5, .nils), (11, .im (.sl (ints g.outs))), (12, .i g.outs.length), (13, .i (i : Nat))], [.box [.im (.sl (strs g.inn)), .im (.sl (strs g.out)), .im (.sl (g.regs.map LReg.im)), .im (.sl (g.ands.map nd)), .im (.sl (ints g.outs))], .row 171 1 (us ((g.outs.take i).map (ofV v))) 0], up⟩) g.outs.length ⟨0, rfl, by omega, rfl⟩ fun m s hI => ?_
  obtain ⟨i, rfl, hi, rfl⟩ := hI
  have hol : ((g.outs.take i).map (ofV v)).length = i := by simp; omega
  have hao : (i + 1) * 8 ≤ 140737488355328 := by omega
  refine Run.seq ?_
  have fx := And.intro hao (And.intro hol (And.intro ints_len (And.intro rim_len (And.intro us_len ft))))
  refine Run.go ?_
  refine End.kp [1, 2, 4, 5, 11, 12, 13, 14] ?_
  refine Run.seq ?_
  refine Run.cond _ rfl (fun hb => ?_) (fun hb => ?_)
  · have hb := of_decide_eq_true hb
    have hin : i < g.outs.length := by omega
    have wi := wsucc hin (by omega)
    obtain ⟨x, hxi, hxm, hx⟩ := int_at g.outs i hin
    obtain ⟨x1, x2⟩ := hg.outs x hxm
    have x2' : x < 2 * (v.length : Int) := by omega
    have htk := int_snoc g.outs i x hxi
    refine Run.skip ?_
    refine End.kp [1, 2, 4, 5, 11, 12, 13] ?_
    refine Run.seq ?_
    refine Run.block ?_
    refine Run.seq ?_
    have fx := And.intro (@Int.toNat_natCast) (And.intro (@Int.natCast_nonneg) (And.intro hx (And.intro wi (And.intro hao (And.intro hol (And.intro ints_len (And.intro rim_len (And.intro us_len ft))))))))
    refine Run.go ?_
    refine End.kp [1, 2, 4, 5, 7, 11, 12, 13] ?_
    refine Run.region rfl fun K hK => GOps.sim ?_
    refine GOps.call rfl rfl rfl rfl (by kernel_rfl) (ACalls.sim ?_)
    refine (of_ok v x x1 x2' (by omega) _).mono fun v u hv => ?_
    obtain ⟨rfl, rfl⟩ := hv
    refine ⟨_, _, rfl, GOps.sim ?_⟩
    refine GOps.done (hK _ ?_); clear hK K
    refine End.blk ?_
    refine End.kp [1, 2, 4, 5, 11, 12, 13] ?_
    refine Run.go ?_
    refine End.lp ?_
    refine ⟨g.outs.length - (i + 1), _, by omega, Ghost.form [(1, .im (.sl (us v))), (2, .ptr 0 0 0), (4, .ms 0 1 (i + 1)), (5, .nils), (11, .im (.sl (ints g.outs))), (12, .i g.outs.length), (13, .i (i + 1 : Nat))] 2 ⟨rfl, rfl, rfl, rfl, rfl, rfl, rfl, trivial⟩ rfl rfl, i + 1, rfl, by omega, ?_⟩
    rw [htk]
    simp
  · have hb := of_decide_eq_false hb
    have hiN : i = g.outs.length := by omega
    subst hiN
    rw [List.take_length] at hol ⊢
    refine Run.exit rfl ?_
    refine End.kp [1, 2, 4, 5] ?_
    refine Run.seq ?_
    refine Run.seq ?_
    have fx := And.intro hao (And.intro hol (And.intro ints_len (And.intro rim_len (And.intro us_len ft))))
    refine Run.go ?_
    refine End.kp [1, 4, 5, 25, 26, 27] ?_
    refine Run.block ?_
    refine Run.ghost (Ghost.thaw (u := 5) 171 1 (by decide) rfl) ?_
    refine Run.ghost (Ghost.form [(1, .im (.sl (us v))), (4, .ms 0 1 g.outs.length), (5, .ms 0 2 0), (25, .im (.sl (g.regs.map LReg.im))), (26, .i g.regs.length), (27, .i (0 : Nat))] 3 ⟨rfl, rfl, rfl, rfl, rfl, rfl, trivial⟩ rfl rfl) ?_
    refine Run.loop (fun m s => ∃ (i : Nat), m = g.regs.length - i ∧ i ≤ g.regs.length ∧ s = ⟨[(1, .im (.sl (us v))), (4, .ms 0 1 g.outs.length), (5, .ms 0 2 i), (25, .im (.sl (g.regs.map LReg.im))), (26, .i g.regs.length), (27, .i (i : Nat))], [.box [.im (.sl (strs g.inn)), .im (.sl (strs g.out)), .im (.sl (g.regs.map LReg.im)), .im (.sl (g.ands.map nd)), .im (.sl (ints g.outs))], .row 171 1 (us (outsG g v)) 0, .row 171 1 (us ((g.regs.take i).map fun r => ofV v r.next)) 0], up⟩) g.regs.length ⟨0, rfl, by omega, rfl⟩ fun m s hI => ?_
    obtain ⟨i, rfl, hi, rfl⟩ := hI
    have hdn : ((g.regs.take i).map fun r => ofV v r.next).length = i := by simp; omega
    have haf : (i + 1) * 8 ≤ 140737488355328 := by omega
    refine Run.seq ?_
    have fx := And.intro haf (And.intro hdn (And.intro hao (And.intro hol (And.intro ints_len (And.intro rim_len (And.intro us_len ft))))))
    refine Run.go ?_
    refine End.kp [1, 4, 5, 25, 26, 27, 28] ?_
    refine Run.seq ?_
    refine Run.cond _ rfl (fun hb => ?_) (fun hb => ?_)
    · have hb := of_decide_eq_true hb
      have hin : i < g.regs.length := by omega
      have wi := wsucc hin (by omega)
      obtain ⟨f, hfi, hfm, hf⟩ := reg_at g.regs i hin
      obtain ⟨x1, x2⟩ := hg.regs f hfm
      have x2' : f.next < 2 * (v.length : Int) := by omega
      have htk := reg_snoc g.regs i f hfi
      refine Run.skip ?_
      refine End.kp [1, 4, 5, 25, 26, 27] ?_
      refine Run.seq ?_
      refine Run.block ?_
      refine Run.seq ?_
      have fx := And.intro (@Int.toNat_natCast) (And.intro (@Int.natCast_nonneg) (And.intro hf (And.intro wi (And.intro haf (And.intro hdn (And.intro hao (And.intro hol (And.intro ints_len (And.intro rim_len (And.intro us_len ft))))))))))
      refine Run.go ?_
      refine End.kp [1, 4, 5, 9, 25, 26, 27] ?_
      refine Run.region rfl fun K hK => GOps.sim ?_
      refine GOps.call rfl rfl rfl rfl (by kernel_rfl) (ACalls.sim ?_)
      refine (of_ok v f.next x1 x2' (by omega) _).mono fun v u hv => ?_
      obtain ⟨rfl, rfl⟩ := hv
      refine ⟨_, _, rfl, GOps.sim ?_⟩
      refine GOps.done (hK _ ?_); clear hK K
      refine End.blk ?_
      refine End.kp [1, 4, 5, 25, 26, 27] ?_
      refine Run.go ?_
      refine End.lp ?_
      refine ⟨g.regs.length - (i + 1), _, by omega, Ghost.form [(1, .im (.sl (us v))), (4, .ms 0 1 g.outs.length), (5, .ms 0 2 (i + 1)), (25, .im (.sl (g.regs.map LReg.im))), (26, .i g.regs.length), (27, .i (i + 1 : Nat))] 3 ⟨rfl, rfl, rfl, rfl, rfl, rfl, trivial⟩ rfl rfl, i + 1, rfl, by omega, ?_⟩
      rw [htk]
      simp
    · have hb := of_decide_eq_false hb
      have hiN : i = g.regs.length := by omega
      subst hiN
      rw [List.take_length] at hdn ⊢
      refine Run.exit rfl ?_
      refine End.kp [4, 5] ?_
      refine Run.seq ?_
      refine Run.ghost (Ghost.shut (t := 4) (j := 1) rfl rfl (by rw [us_len]; exact hol)) ?_
      simp only [eput, edel]
      refine Run.ghost (Ghost.shut (t := 5) (j := 2) rfl rfl (by rw [us_len, hdn])) ?_
      simp only [eput, edel]
      have fx := And.intro haf (And.intro hdn (And.intro hao (And.intro hol (And.intro ints_len (And.intro rim_len (And.intro us_len ft))))))
      refine Run.go ?_
      refine End.kp [4, 5] ?_
      refine Run.ret (hQ _ _ ⟨.inr rfl, _, rfl, _, rfl, ?_⟩)
      exact ⟨rfl, rfl⟩
-- GONE GWords_ok
-- GONE GEval_ok
theorem GInit_ok (g : LGraph) (hg : GSmall g) (up : Frs) : ACalls Try.prog 80 [g.pv] up fun v u => v = .im (.sl (bools (initG g))) ∧ u = up := by
  obtain ⟨z1, z2, z3, z4, z5⟩ := hg
  have hc : (0 : Int) ≤ g.regs.length := by omega
  have hm1 : ((1 : Nat) : Int) * (g.regs.length : Int) ≤ 281474976710656 := by omega
  have hm2 : (g.regs.length : Int) ≤ 9223372036854775807 := by omega
  refine ACalls.code Try.func80 rfl 25 rfl (by simp) [.tmp 2] rfl fun Q hQ => ?_
  simp only [ups, PV.up, argEnv]
  have ft := And.intro ty_2 (And.intro ty_3 (And.intro ty_4 (And.intro ty_29 (And.intro ty_33 (And.intro ty_47 (And.intro ty_71 trivial))))))
  refine Run.seq ?_
  have fx := And.intro hm2 (And.intro hm1 (And.intro hc (And.intro rim_len ft)))
  refine Run.go ?_
  refine End.kp [1] ?_
  refine Run.seq ?_
  refine Run.go ?_
  refine End.kp [1, 3] ?_
  refine Run.seq ?_
  refine Run.seq ?_
  refine Run.go ?_
  refine End.kp [3, 11, 12, 13] ?_
  refine Run.block ?_
  refine Run.ghost (Ghost.form [(3, .ms 0 1 g.regs.length), (11, .im (.sl (g.regs.map LReg.im))), (12, .i g.regs.length), (13, .i (0 : Nat))] 2 ⟨rfl, rfl, rfl, rfl, trivial⟩ rfl rfl) ?_
  refine Run.loop (fun m s => ∃ (i : Nat), m = g.regs.length - i ∧ i ≤ g.regs.length ∧ s = ⟨[(3, .ms 0 1 g.regs.length), (11, .im (.sl (g.regs.map LReg.im))), (12, .i g.regs.length), (13, .i (i : Nat))], [.box [.im (.sl (strs g.inn)), .im (.sl (strs g.out)), .im (.sl (g.regs.map LReg.im)), .im (.sl (g.ands.map nd)), .im (.sl (ints g.outs))], .row 4 1 ((g.regs.take i).map (fun r => [Im.bool r.init]) ++ List.replicate (g.regs.length - i) [.bool false]) 0], up⟩) g.regs.length ⟨0, rfl, by omega, by simp⟩ fun m s hI => ?_
  obtain ⟨i, rfl, hi, rfl⟩ := hI
  have hrl := fill_len (fun r => [Im.bool r.init]) g.regs [.bool false] i hi
  refine Run.seq ?_
  have fx := And.intro hrl (And.intro hm2 (And.intro hm1 (And.intro hc (And.intro rim_len ft))))
  refine Run.go ?_
  refine End.kp [3, 11, 12, 13, 14] ?_
  refine Run.seq ?_
  refine Run.cond _ rfl (fun hb => ?_) (fun hb => ?_)
  · have hb := of_decide_eq_true hb
    have hin : i < g.regs.length := by omega
    have wi := wsucc hin (by omega)
    obtain ⟨f, hfi, hfm, hf⟩ := reg_at g.regs i hin
    have hri := fill_get (fun r => [Im.bool r.init]) g.regs [.bool false] i hin
    have hfd : g.regs.getD i ⟨ByteArray.empty, 0, false⟩ = f := by simp [hfi]
    have hfm2 := fill_map (fun r => [Im.bool r.init]) g.regs [.bool false] ⟨ByteArray.empty, 0, false⟩ i hin
    rw [hfd] at hfm2
    refine Run.skip ?_
    refine End.kp [3, 11, 12, 13] ?_
    refine Run.seq ?_
    refine Run.block ?_
    refine Run.seq ?_
    have fx := And.intro hri (And.intro hin (And.intro (@Int.ofNat_lt) (And.intro (@Int.toNat_natCast) (And.intro (@Int.natCast_nonneg) (And.intro hf (And.intro wi (And.intro hrl (And.intro hm2 (And.intro hm1 (And.intro hc (And.intro rim_len ft)))))))))))
    refine Run.go ?_
    refine End.kp [3, 4, 5, 11, 12, 13] ?_
    refine Run.go ?_
    refine End.blk ?_
    refine End.kp [3, 11, 12, 13] ?_
    refine Run.go ?_
    refine End.lp ?_
    refine ⟨g.regs.length - (i + 1), _, by omega, Ghost.form [(3, .ms 0 1 g.regs.length), (11, .im (.sl (g.regs.map LReg.im))), (12, .i g.regs.length), (13, .i (i + 1 : Nat))] 2 ⟨rfl, rfl, rfl, rfl, trivial⟩ rfl rfl, i + 1, rfl, by omega, ?_⟩
    rw [← hfm2]
    rfl
  · have hb := of_decide_eq_false hb
    have hiN : i = g.regs.length := by omega
    subst hiN
    rw [fill_all] at hrl ⊢
    refine Run.exit rfl ?_
    refine End.kp [3] ?_
    refine Run.seq ?_
    refine Run.ghost (Ghost.shut (t := 3) (j := 1) rfl rfl hrl) ?_
    simp only [eput, edel]
    have fx := And.intro hrl (And.intro hm2 (And.intro hm1 (And.intro hc (And.intro rim_len ft))))
    refine Run.go ?_
    refine End.kp [2] ?_
    refine Run.ret (hQ _ _ ⟨.inr rfl, _, rfl, _, rfl, ?_⟩)
    exact ⟨by simp, rfl⟩
theorem GRun_ok (g : LGraph) (hg : GraphOk g) (tr : List (List Bool)) (hn : tr.length ≤ 64) (ht : ∀ r ∈ tr, r.length = g.inn.length) (up : Frs) : ACalls Try.prog 28 [g.pv, .im (.sl (boolss tr))] up fun v u => v = .tup [.im (.sl (boolss (runG g (lanes0 (initG g)) tr))), .i 0] ∧ u = up := by
  have hsm := hg.small
  obtain ⟨z1, z2, z3, z4, z5⟩ := hg.small
  have d1 : decide ((tr.length : Int) > 64) = false := decide_eq_false (by omega)
  refine ACalls.code Try.func28 rfl 63 rfl (by simp) [.tmp 4, .tmp 5] rfl fun Q hQ => ?_
  simp only [ups, PV.up, argEnv]
  have ft := And.intro ty_3 (And.intro ty_4 (And.intro ty_9 (And.intro ty_27 (And.intro ty_33 (And.intro ty_39 (And.intro ty_63 (And.intro ty_71 (And.intro ty_98 (And.intro ty_171 trivial)))))))))
  refine Run.seq ?_
  have fx := And.intro d1 (And.intro strs_len (And.intro bools_len (And.intro boolss_len ft)))
  refine Run.go ?_
  refine End.kp [1, 2] ?_
  refine Run.seq ?_
  refine Run.seq ?_
  refine Run.region rfl fun K hK => GOps.sim ?_
  refine GOps.call rfl rfl rfl rfl (by kernel_rfl) (ACalls.sim ?_)
  refine (Check_ok g hg _).mono fun v u hv => ?_
  obtain ⟨rfl, rfl⟩ := hv
  refine ⟨_, _, rfl, GOps.sim ?_⟩
  refine GOps.done (hK _ ?_); clear hK K
  refine End.kp [1, 2, 6] ?_
  refine Run.seq ?_
  refine Run.go ?_
  refine End.kp [1, 2, 6, 18] ?_
  refine Run.cond _ rfl (fun hb => ?_) (fun hb => ?_)
  · have hb := hb
    simp at hb
  · have hb := hb
    refine Run.skip ?_
    refine End.kp [1, 2] ?_
    refine Run.seq ?_
    refine Run.seq ?_
    have fx := And.intro d1 (And.intro strs_len (And.intro bools_len (And.intro boolss_len ft)))
    refine Run.go ?_
    refine End.kp [1, 2, 22] ?_
    refine Run.cond _ rfl (fun hb => ?_) (fun hb => ?_)
    · have hb := hb
      simp at hb
    · have hb := hb
      refine Run.skip ?_
      refine End.kp [1, 2] ?_
      refine Run.seq ?_
      refine Run.seq ?_
      have fx := And.intro d1 (And.intro strs_len (And.intro bools_len (And.intro boolss_len ft)))
      refine Run.go ?_
      refine End.kp [1, 2, 23, 24, 25] ?_
      refine Run.block ?_
      refine Run.ghost (Ghost.form [(1, .im (.sl (boolss tr))), (2, .ptr 0 0 0), (23, .im (.sl (boolss tr))), (24, .i tr.length), (25, .i (0 : Nat))] 1 ⟨rfl, rfl, rfl, rfl, rfl, trivial⟩ rfl rfl) ?_
      refine Run.loop (fun m s => ∃ (i : Nat), m = tr.length - i ∧ i ≤ tr.length ∧ s = ⟨[(1, .im (.sl (boolss tr))), (2, .ptr 0 0 0), (23, .im (.sl (boolss tr))), (24, .i tr.length), (25, .i (i : Nat))], [.box [.im (.sl (strs g.inn)), .im (.sl (strs g.out)), .im (.sl (g.regs.map LReg.im)), .im (.sl (g.ands.map nd)), .im (.sl (ints g.outs))]], up⟩) tr.length ⟨0, rfl, by omega, rfl⟩ fun m s hI => ?_
      obtain ⟨i, rfl, hi, rfl⟩ := hI
      refine Run.seq ?_
      have fx := And.intro d1 (And.intro strs_len (And.intro bools_len (And.intro boolss_len ft)))
      refine Run.go ?_
      refine End.kp [1, 2, 23, 24, 25, 26] ?_
      refine Run.seq ?_
      refine Run.cond _ rfl (fun hb => ?_) (fun hb => ?_)
      · have hb := of_decide_eq_true hb
        have hin : i < tr.length := by omega
        have wi := wsucc hin (by omega)
        obtain ⟨r, hri, hrm, _, hr⟩ := boolss_at tr i hin
        have d2 : ((r.length : Int) != g.inn.length) = false := by rw [ht r hrm]; simp
        refine Run.skip ?_
        refine End.kp [1, 2, 23, 24, 25] ?_
        refine Run.seq ?_
        refine Run.block ?_
        refine Run.seq ?_
        have fx := And.intro (@Int.toNat_natCast) (And.intro (@Int.natCast_nonneg) (And.intro d2 (And.intro hr (And.intro wi (And.intro d1 (And.intro strs_len (And.intro bools_len (And.intro boolss_len ft))))))))
        refine Run.go ?_
        refine End.kp [1, 2, 8, 23, 24, 25] ?_
        refine Run.seq ?_
        refine Run.go ?_
        refine End.kp [1, 2, 23, 24, 25, 34] ?_
        refine Run.cond _ rfl (fun hb => ?_) (fun hb => ?_)
        · have hb := hb
          simp at hb
        · have hb := hb
          refine Run.skip ?_
          refine End.blk ?_
          refine End.kp [1, 2, 23, 24, 25] ?_
          have fx := And.intro (@Int.toNat_natCast) (And.intro (@Int.natCast_nonneg) (And.intro d2 (And.intro hr (And.intro wi (And.intro d1 (And.intro strs_len (And.intro bools_len (And.intro boolss_len ft))))))))
          refine Run.go ?_
          refine End.lp ?_
          refine ⟨tr.length - (i + 1), _, by omega, Ghost.form [(1, .im (.sl (boolss tr))), (2, .ptr 0 0 0), (23, .im (.sl (boolss tr))), (24, .i tr.length), (25, .i (i + 1 : Nat))] 1 ⟨rfl, rfl, rfl, rfl, rfl, trivial⟩ rfl rfl, i + 1, rfl, by omega, rfl⟩
      · have hb := of_decide_eq_false hb
        refine Run.exit rfl ?_
        refine End.kp [1, 2] ?_
        refine Run.seq ?_
        have fx := And.intro d1 (And.intro strs_len (And.intro bools_len (And.intro boolss_len ft)))
        refine Run.region rfl fun K hK => GOps.sim ?_
        refine GOps.call rfl rfl rfl rfl (by kernel_rfl) (ACalls.sim ?_)
        refine (GInit_ok g hsm _).mono fun v u hv => ?_
        obtain ⟨rfl, rfl⟩ := hv
        refine ⟨_, _, rfl, GOps.sim ?_⟩
        refine GOps.call rfl rfl rfl rfl (by kernel_rfl) (ACalls.sim ?_)
        refine (Lanes_ok (initG g) (by simp; omega) _).mono fun v u hv => ?_
        obtain ⟨rfl, rfl⟩ := hv
        refine ⟨_, _, rfl, GOps.sim ?_⟩
        refine GOps.done (hK _ ?_); clear hK K
        refine End.kp [1, 2, 9] ?_
        refine Run.seq ?_
        refine Run.go ?_
        refine End.kp [1, 2, 9, 10] ?_
        refine Run.seq ?_
        refine Run.seq ?_
        refine Run.go ?_
        refine End.kp [2, 9, 10, 39, 40, 41] ?_
        refine Run.block ?_
        refine Run.ghost (Ghost.thaw (u := 10) 71 1 (by decide) rfl) ?_
        refine Run.ghost (Ghost.form [(2, .ptr 0 0 0), (9, .im (.sl (us (lanes0 (initG g))))), (10, .ms 0 1 (0)), (39, .im (.sl (boolss tr))), (40, .i tr.length), (41, .i (0 : Nat))] 2 ⟨rfl, rfl, rfl, rfl, rfl, rfl, trivial⟩ rfl rfl) ?_
        refine Run.loop (fun m s => ∃ (i : Nat) (st : List Int) (dn : List (List Bool)), m = tr.length - i ∧ i ≤ tr.length ∧ dn.length = i ∧ st.length = g.regs.length ∧ dn ++ runG g st (tr.drop i) = runG g (lanes0 (initG g)) tr ∧ s = ⟨[(2, .ptr 0 0 0), (9, .im (.sl (us st))), (10, .ms 0 1 (i)), (39, .im (.sl (boolss tr))), (40, .i tr.length), (41, .i (i : Nat))], [.box [.im (.sl (strs g.inn)), .im (.sl (strs g.out)), .im (.sl (g.regs.map LReg.im)), .im (.sl (g.ands.map nd)), .im (.sl (ints g.outs))], .row 71 1 (boolss dn) 0], up⟩) tr.length ⟨0, _, [], rfl, by omega, rfl, by simp, rfl, rfl⟩ fun m s hI => ?_
        obtain ⟨i, st, dn, rfl, hi, hdn, hst, hR, rfl⟩ := hI
        have hap : (i + 1) * 24 ≤ 140737488355328 := by omega
        refine Run.seq ?_
        have fx := And.intro hap (And.intro hdn (And.intro d1 (And.intro strs_len (And.intro bools_len (And.intro boolss_len ft)))))
        refine Run.go ?_
        refine End.kp [2, 9, 10, 39, 40, 41, 42] ?_
        refine Run.seq ?_
        refine Run.cond _ rfl (fun hb => ?_) (fun hb => ?_)
        · have hb := of_decide_eq_true hb
          have hin : i < tr.length := by omega
          have wi := wsucc hin (by omega)
          obtain ⟨r, hri, hrm, _, hr⟩ := boolss_at tr i hin
          have hrl := ht r hrm
          have hdr : tr.drop i = r :: tr.drop (i + 1) := by
            obtain ⟨h, e⟩ := List.getElem?_eq_some_iff.1 hri
            rw [← e]
            exact List.drop_eq_getElem_cons h
          rw [hdr, runG] at hR
          refine Run.skip ?_
          refine End.kp [2, 9, 10, 39, 40, 41] ?_
          refine Run.seq ?_
          refine Run.block ?_
          refine Run.seq ?_
          have fx := And.intro (@Int.toNat_natCast) (And.intro (@Int.natCast_nonneg) (And.intro hr (And.intro wi (And.intro hap (And.intro hdn (And.intro d1 (And.intro strs_len (And.intro bools_len (And.intro boolss_len ft)))))))))
          refine Run.go ?_
          refine End.kp [2, 9, 10, 12, 39, 40, 41] ?_
          refine Run.seq ?_
          refine Run.drawA fun K hK => ?_
          refine DOps.sim ?_
          refine DOps.call (.im (.sl (us (lanes0 r)))) [] [] rfl rfl rfl rfl (by kernel_rfl) (by simp [Agree]) (fun u hu => Lanes_ok r (by omega) u) ?_
          refine DOps.sim ?_
          refine DOps.call (.im (.sl (us (graphVals g (lanes0 r) st)))) [] [] rfl rfl rfl rfl (by kernel_rfl) (by simp [Agree]) (fun u hu => gvalues_ok g hg (lanes0 r) st (by simpa using hrl) hst u) ?_
          refine DOps.sim ?_
          refine DOps.call (.tup [.im (.sl (us (outsG g (graphVals g (lanes0 r) st)))), .im (.sl (us (nextsG g (graphVals g (lanes0 r) st))))]) [] [] rfl rfl rfl rfl (by kernel_rfl) (by simp [Agree]) (fun u hu => gresults_ok g hg (graphVals g (lanes0 r) st) (by rw [graphVals_len g _ _ (by simpa using hrl) hst]) u) ?_
          refine DOps.sim ?_
          refine DOps.nil (metAll_quiet rfl) (hK _ ?_); clear hK K
          refine End.kp [2, 10, 13, 14, 39, 40, 41] ?_
          refine Run.region rfl fun K hK => GOps.sim ?_
          refine GOps.call rfl rfl rfl rfl (by kernel_rfl) (ACalls.sim ?_)
          refine (Lane_ok _ (by simp [outsG]; omega) _).mono fun v u hv => ?_
          obtain ⟨rfl, rfl⟩ := hv
          refine ⟨_, _, rfl, GOps.sim ?_⟩
          refine GOps.done (hK _ ?_); clear hK K
          refine End.blk ?_
          refine End.kp [2, 9, 10, 39, 40, 41] ?_
          refine Run.go ?_
          refine End.lp ?_
          refine ⟨tr.length - (i + 1), _, by omega, Ghost.form [(2, .ptr 0 0 0), (9, .im (.sl (us (nextsG g (graphVals g (lanes0 r) st))))), (10, .ms 0 1 ((i + 1))), (39, .im (.sl (boolss tr))), (40, .i tr.length), (41, .i (i + 1 : Nat))] 2 ⟨rfl, rfl, rfl, rfl, rfl, rfl, trivial⟩ rfl rfl, i + 1, nextsG g (graphVals g (lanes0 r) st), dn ++ [laneB (outsG g (graphVals g (lanes0 r) st))], rfl, by omega, by simp [hdn], by simp [nextsG], by simpa using hR, ?_⟩
          simp
        · have hb := of_decide_eq_false hb
          have hiN : i = tr.length := by omega
          subst hiN
          rw [List.drop_length, runG, List.append_nil] at hR
          refine Run.exit rfl ?_
          refine End.kp [10] ?_
          refine Run.seq ?_
          refine Run.ghost (Ghost.shut (t := 10) (j := 1) rfl rfl (by rw [boolss_len, hdn])) ?_
          simp only [eput, edel]
          have fx := And.intro hap (And.intro hdn (And.intro d1 (And.intro strs_len (And.intro bools_len (And.intro boolss_len ft)))))
          refine Run.go ?_
          refine End.kp [4, 5] ?_
          refine Run.ret (hQ _ _ ⟨.inr rfl, _, rfl, _, rfl, ?_⟩)
          exact ⟨by rw [hR], rfl⟩
end Go.Proofs.YtdgpmopcmacicaaPi

/- The walks of mux, find, Enables. -/
set_option linter.unusedVariables false
set_option linter.unusedSimpArgs false
set_option maxRecDepth 100000
namespace Go.Proofs.YtdgpmopcmacicaaPi
set_option maxHeartbeats 4000000
abbrev swapP (p : Int × Int) : Int × Int := (p.2, p.1)
/-- One of two, by number. -/
abbrev oneOf {α : Type} (a b : α) (i : Nat) : α := if i = 0 then a else b
def hitM (q : Int) (p s : Int × Int) : Bool := (p.1 == flipL s.1 && p.2 == q) || (p.1 == q && p.2 == flipL s.1)
/-- What mux tries: which of two ands is the one with D, and which of its literals is the enable. -/
def tryM (a b : Int × Int) (q : Int) (i j : Nat) : Bool := hitM q (oneOf b a i) (oneOf (oneOf a b i) (swapP (oneOf a b i)) j)
def getM (a b : Int × Int) (i j : Nat) : Int × Int := oneOf (oneOf a b i) (swapP (oneOf a b i)) j
def pickM (a b : Int × Int) (q : Int) : Option (Int × Int) :=
  if tryM a b q 0 0 then some (getM a b 0 0) else if tryM a b q 0 1 then some (getM a b 0 1) else if tryM a b q 1 0 then some (getM a b 1 0) else if tryM a b q 1 1 then some (getM a b 1 1) else none
def muxV (g : LGraph) (next q : Int) : Option (Int × Int) :=
  (nodeOf g (flipL next)).bind fun x => (nodeOf g (flipL x.1)).bind fun a => (nodeOf g (flipL x.2)).bind fun b => pickM a b q
def muxPV : Option (Int × Int) → PV
  | some p => .tup [.agg [.i p.1, .i p.2], .im (.bool true)]
  | none => .tup [.agg [.i 0, .i 0], .im (.bool false)]
theorem pickM_hit (a b : Int × Int) (q : Int) (i j : Nat) (hi : i < 2) (hj : j < 2) (h1 : ∀ i' j', i' < i → j' < 2 → tryM a b q i' j' = false) (h2 : ∀ j', j' < j → tryM a b q i j' = false) (h : tryM a b q i j = true) : pickM a b q = some (getM a b i j) := by
  have hi : i = 0 ∨ i = 1 := by omega
  have hj : j = 0 ∨ j = 1 := by omega
  rcases hi with rfl | rfl <;> rcases hj with rfl | rfl
  · simp [pickM, h]
  · simp [pickM, h, h2 0 (by omega)]
  · simp [pickM, h, h1 0 0 (by omega) (by omega), h1 0 1 (by omega) (by omega)]
  · simp [pickM, h, h1 0 0 (by omega) (by omega), h1 0 1 (by omega) (by omega), h2 0 (by omega)]
theorem pickM_none (a b : Int × Int) (q : Int) (h : ∀ i j, i < 2 → j < 2 → tryM a b q i j = false) : pickM a b q = none := by
  simp [pickM, h 0 0 (by omega) (by omega), h 0 1 (by omega) (by omega), h 1 0 (by omega) (by omega), h 1 1 (by omega) (by omega)]
theorem mux_some (g : LGraph) (hg : GraphOk g) (next q : Int) (x a b : Int × Int) (h0 : 0 ≤ next) (h1 : next < 2 * (1 + (g.inn.length : Int) + g.regs.length + g.ands.length)) (hx : nodeOf g (flipL next) = some x) (ha : nodeOf g (flipL x.1) = some a) (hbn : nodeOf g (flipL x.2) = some b) (up : Frs) :
    ACalls Try.prog 117 [g.pv, .i next, .i q] up fun v u => v = muxPV (pickM a b q) ∧ u = up := by
  have hsm := hg.small
  obtain ⟨z1, z2, z3, z4, z5⟩ := hg.small
  obtain ⟨ix, hix, _⟩ := nodeOf_mem hx
  obtain ⟨ia, hia, _⟩ := nodeOf_mem ha
  obtain ⟨ib, hib, _⟩ := nodeOf_mem hbn
  have lx := (List.getElem?_eq_some_iff.1 hix).1
  have la := (List.getElem?_eq_some_iff.1 hia).1
  have lb := (List.getElem?_eq_some_iff.1 hib).1
  obtain ⟨⟨x1, x2⟩, x3, x4⟩ := hg.ands ix x hix
  obtain ⟨⟨a1, a2⟩, a3, a4⟩ := hg.ands ia a hia
  obtain ⟨⟨b1, b2⟩, b3, b4⟩ := hg.ands ib b hib
  have f0 := xor_one next h0 (by omega)
  have f1 := xor_one x.1 x1 (by omega)
  have f2 := xor_one x.2 x3 (by omega)
  obtain ⟨k0, k1⟩ := flipL_lt next _ h0 h1
  obtain ⟨k2, k3⟩ := flipL_lt x.1 (1 + (g.inn.length : Int) + g.regs.length + g.ands.length) x1 (by omega)
  obtain ⟨k4, k5⟩ := flipL_lt x.2 (1 + (g.inn.length : Int) + g.regs.length + g.ands.length) x3 (by omega)
  have c0 := gand_ok g hsm (flipL next) k0 k1
  have c1 := gand_ok g hsm (flipL x.1) k2 k3
  have c2 := gand_ok g hsm (flipL x.2) k4 k5
  rw [hx] at c0
  rw [ha] at c1
  rw [hbn] at c2
  simp only [andPV] at c0 c1 c2
  refine ACalls.code Try.func117 rfl 104 rfl (by simp) [.cell 6 69, .tmp 7] rfl fun Q hQ => ?_
  simp only [ups, PV.up, argEnv]
  have ft := And.intro ty_2 (And.intro ty_3 (And.intro ty_4 (And.intro ty_33 (And.intro ty_34 (And.intro ty_37 (And.intro ty_54 (And.intro ty_69 (And.intro ty_244 (And.intro ty_245 trivial)))))))))
  refine Run.seq ?_
  have fx := And.intro f2 (And.intro f1 (And.intro f0 ft))
  refine Run.go ?_
  refine End.kp [1, 2, 3, 6] ?_
  refine Run.seq ?_
  refine Run.region rfl fun K hK => GOps.sim ?_
  refine GOps.call rfl rfl rfl rfl (by kernel_rfl) (ACalls.sim ?_)
  refine (c0 _).mono fun v u hv => ?_
  obtain ⟨rfl, rfl⟩ := hv
  refine ⟨_, _, rfl, GOps.sim ?_⟩
  refine GOps.done (hK _ ?_); clear hK K
  refine End.kp [2, 3, 6, 8, 9] ?_
  refine Run.seq ?_
  refine Run.seq ?_
  refine Run.go ?_
  refine End.kp [2, 3, 6, 8, 25] ?_
  refine Run.cond _ rfl (fun hb => ?_) (fun hb => ?_)
  · have hb2 := hb
    simp at hb2
  · have hb2 := hb
    refine Run.skip ?_
    refine End.kp [2, 3, 6, 8] ?_
    refine Run.seq ?_
    have fx := And.intro f2 (And.intro f1 (And.intro f0 ft))
    refine Run.region rfl fun K hK => GOps.sim ?_
    refine GOps.call rfl rfl rfl rfl (by kernel_rfl) (ACalls.sim ?_)
    refine (c1 _).mono fun v u hv => ?_
    obtain ⟨rfl, rfl⟩ := hv
    refine ⟨_, _, rfl, GOps.sim ?_⟩
    refine GOps.done (hK _ ?_); clear hK K
    refine End.kp [2, 3, 6, 8, 10, 11] ?_
    refine Run.seq ?_
    refine Run.region rfl fun K hK => GOps.sim ?_
    refine GOps.call rfl rfl rfl rfl (by kernel_rfl) (ACalls.sim ?_)
    refine (c2 _).mono fun v u hv => ?_
    obtain ⟨rfl, rfl⟩ := hv
    refine ⟨_, _, rfl, GOps.sim ?_⟩
    refine GOps.done (hK _ ?_); clear hK K
    refine End.kp [2, 6, 9, 10, 11, 12] ?_
    refine Run.seq ?_
    refine Run.seq ?_
    refine Run.go ?_
    refine End.kp [2, 6, 10, 12, 48] ?_
    refine Run.cond _ rfl (fun hb => ?_) (fun hb => ?_)
    · have hb2 := hb
      simp at hb2
    · have hb2 := hb
      refine Run.skip ?_
      refine End.kp [2, 6, 10, 12] ?_
      refine Run.seq ?_
      refine Run.seq ?_
      have fx := And.intro f2 (And.intro f1 (And.intro f0 ft))
      refine Run.go ?_
      refine End.kp [2, 6, 56, 57, 58] ?_
      refine Run.block ?_
      refine Run.ghost (Ghost.form [(2, .i q), (6, .ptr 0 1 0), (56, .ms 0 5 2), (57, .i 2), (58, .i (0 : Nat))] 6 ⟨rfl, rfl, rfl, rfl, rfl, trivial⟩ rfl rfl) ?_
      refine Run.loop (fun m st => ∃ i : Nat, m = 2 - i ∧ i ≤ 2 ∧ (∀ i' j', i' < i → j' < 2 → tryM a b q i' j' = false) ∧ st = ⟨[(2, .i q), (6, .ptr 0 1 0), (56, .ms 0 5 2), (57, .i 2), (58, .i (i : Nat))], [.box [.im (.sl (strs g.inn)), .im (.sl (strs g.out)), .im (.sl (g.regs.map LReg.im)), .im (.sl (g.ands.map nd)), .im (.sl (ints g.outs))], .box [.i 0, .i 0], .box [.i x.1, .i x.2], .box [.i a.1, .i a.2], .box [.i b.1, .i b.2], .row 244 4 [[.int .i64 a.1, .int .i64 a.2, .int .i64 b.1, .int .i64 b.2], [.int .i64 b.1, .int .i64 b.2, .int .i64 a.1, .int .i64 a.2]] 0], up⟩) 2 ⟨0, rfl, by omega, fun i' j' h => absurd h (by omega), rfl⟩ fun m st hI => ?_
      obtain ⟨i, rfl, hi, hno, rfl⟩ := hI
      refine Run.seq ?_
      have fx := And.intro f2 (And.intro f1 (And.intro f0 ft))
      refine Run.go ?_
      refine End.kp [2, 6, 56, 57, 58, 59] ?_
      refine Run.seq ?_
      refine Run.cond _ rfl (fun hb => ?_) (fun hb => ?_)
      · have hb2 := of_decide_eq_true hb
        have hin : i < 2 := by omega
        have wi := wsucc hin (by omega)
        obtain ⟨P, hP⟩ : ∃ P, P = oneOf a b i := ⟨_, rfl⟩
        obtain ⟨R, hR⟩ : ∃ R, R = oneOf b a i := ⟨_, rfl⟩
        have hrow : [[Im.int .i64 a.1, .int .i64 a.2, .int .i64 b.1, .int .i64 b.2], [.int .i64 b.1, .int .i64 b.2, .int .i64 a.1, .int .i64 a.2]][i]? = some [Im.int .i64 P.1, .int .i64 P.2, .int .i64 R.1, .int .i64 R.2] := by
          have : i = 0 ∨ i = 1 := by omega
          rcases this with rfl | rfl <;> simp [hP, hR, oneOf]
        have h02 : (0 : Int) < ((2 : Nat) : Int) := by omega
        have h12 : (1 : Int) < ((2 : Nat) : Int) := by omega
        have hil : (i : Int) < ((2 : Nat) : Int) := by omega
        have P1 : 0 ≤ P.1 ∧ P.1 < 1000000 := by rw [hP, oneOf]; split <;> omega
        have P2 : 0 ≤ P.2 ∧ P.2 < 1000000 := by rw [hP, oneOf]; split <;> omega
        refine Run.skip ?_
        refine End.kp [2, 6, 56, 57, 58] ?_
        refine Run.seq ?_
        refine Run.block ?_
        refine Run.seq ?_
        have fx := And.intro (@Int.toNat_natCast) (And.intro (@Int.natCast_nonneg) (And.intro hil (And.intro hrow (And.intro h12 (And.intro h02 (And.intro wi (And.intro f2 (And.intro f1 (And.intro f0 ft)))))))))
        refine Run.go ?_
        refine End.kp [2, 6, 14, 56, 57, 58] ?_
        refine Run.seq ?_
        refine Run.go ?_
        refine End.kp [2, 6, 14, 56, 57, 58, 76, 77, 78] ?_
        refine Run.block ?_
        refine Run.ghost (Ghost.form [(2, .i q), (6, .ptr 0 1 0), (14, .ptr 0 6 0), (56, .ms 0 5 2), (57, .i 2), (58, .i (i : Nat)), (76, .ms 0 7 2), (77, .i 2), (78, .i (0 : Nat))] 8 ⟨rfl, rfl, rfl, rfl, rfl, rfl, rfl, rfl, rfl, trivial⟩ rfl rfl) ?_
        refine Run.loop (fun m st => ∃ j : Nat, m = 2 - j ∧ j ≤ 2 ∧ (∀ j', j' < j → tryM a b q i j' = false) ∧ st = ⟨[(2, .i q), (6, .ptr 0 1 0), (14, .ptr 0 6 0), (56, .ms 0 5 2), (57, .i 2), (58, .i (i : Nat)), (76, .ms 0 7 2), (77, .i 2), (78, .i (j : Nat))], [.box [.im (.sl (strs g.inn)), .im (.sl (strs g.out)), .im (.sl (g.regs.map LReg.im)), .im (.sl (g.ands.map nd)), .im (.sl (ints g.outs))], .box [.i 0, .i 0], .box [.i x.1, .i x.2], .box [.i a.1, .i a.2], .box [.i b.1, .i b.2], .row 244 4 [[.int .i64 a.1, .int .i64 a.2, .int .i64 b.1, .int .i64 b.2], [.int .i64 b.1, .int .i64 b.2, .int .i64 a.1, .int .i64 a.2]] 0, .box [.i P.1, .i P.2, .i R.1, .i R.2], .row 69 2 [[.int .i64 P.1, .int .i64 P.2], [.int .i64 P.2, .int .i64 P.1]] 0], up⟩) 2 ⟨0, rfl, by omega, fun j' h => absurd h (by omega), rfl⟩ fun m st hI => ?_
        obtain ⟨j, rfl, hj, hnj, rfl⟩ := hI
        refine Run.seq ?_
        have fx := And.intro (@Int.toNat_natCast) (And.intro (@Int.natCast_nonneg) (And.intro hil (And.intro hrow (And.intro h12 (And.intro h02 (And.intro wi (And.intro f2 (And.intro f1 (And.intro f0 ft)))))))))
        refine Run.go ?_
        refine End.kp [2, 6, 14, 56, 57, 58, 76, 77, 78, 79] ?_
        refine Run.seq ?_
        refine Run.cond _ rfl (fun hb => ?_) (fun hb => ?_)
        · have hb2 := of_decide_eq_true hb
          have hjn : j < 2 := by omega
          have wj := wsucc hjn (by omega)
          obtain ⟨S, hS⟩ : ∃ S, S = oneOf P (swapP P) j := ⟨_, rfl⟩
          have hrow2 : [[Im.int .i64 P.1, .int .i64 P.2], [.int .i64 P.2, .int .i64 P.1]][j]? = some [Im.int .i64 S.1, .int .i64 S.2] := by
            have : j = 0 ∨ j = 1 := by omega
            rcases this with rfl | rfl <;> simp [hS, oneOf]
          have hjl : (j : Int) < ((2 : Nat) : Int) := by omega
          have S1 : 0 ≤ S.1 ∧ S.1 < 1000000 := by rcases (show j = 0 ∨ j = 1 by omega) with e | e <;> simp [hS, e, oneOf] <;> omega
          have fS := xor_one S.1 S1.1 (by omega)
          have hget : getM a b i j = S := by rw [getM, ← hP, ← hS]
          have htry : tryM a b q i j = ((R.1 == flipL S.1 && R.2 == q) || (R.1 == q && R.2 == flipL S.1)) := by rw [tryM, hitM, ← hR, ← hP, ← hS]
          refine Run.skip ?_
          refine End.kp [2, 6, 14, 56, 57, 58, 76, 77, 78] ?_
          refine Run.seq ?_
          refine Run.block ?_
          refine Run.seq ?_
          have fx := And.intro fS (And.intro hjl (And.intro hrow2 (And.intro wj (And.intro (@Int.toNat_natCast) (And.intro (@Int.natCast_nonneg) (And.intro hil (And.intro hrow (And.intro h12 (And.intro h02 (And.intro wi (And.intro f2 (And.intro f1 (And.intro f0 ft)))))))))))))
          refine Run.go ?_
          refine End.kp [2, 6, 14, 16, 56, 57, 58, 76, 77, 78] ?_
          refine Run.seq ?_
          rcases Bool.eq_false_or_eq_true ((R.1 == flipL S.1 && R.2 == q)) with hs14 | hs14
          · skip
            have fx := And.intro hs14 (And.intro fS (And.intro hjl (And.intro hrow2 (And.intro wj (And.intro (@Int.toNat_natCast) (And.intro (@Int.natCast_nonneg) (And.intro hil (And.intro hrow (And.intro h12 (And.intro h02 (And.intro wi (And.intro f2 (And.intro f1 (And.intro f0 ft))))))))))))))
            refine Run.go ?_
            refine End.kp [2, 6, 14, 16, 56, 57, 58, 76, 77, 78, 99] ?_
            refine Run.cond true rfl (fun hb => ?_) (fun hb => ?_)
            · have hb2 := hb
              refine Run.seq ?_
              have fx := And.intro hs14 (And.intro fS (And.intro hjl (And.intro hrow2 (And.intro wj (And.intro (@Int.toNat_natCast) (And.intro (@Int.natCast_nonneg) (And.intro hil (And.intro hrow (And.intro h12 (And.intro h02 (And.intro wi (And.intro f2 (And.intro f1 (And.intro f0 ft))))))))))))))
              refine Run.go ?_
              refine End.kp [6, 7] ?_
              refine Run.resC hQ ?_
              rw [pickM_hit a b q i j hin hjn hno hnj (by rw [htry, hs14]; rfl)]
              rw [hget]
              exact ⟨rfl, rfl⟩
            · have hb2 := hb
              simp at hb
          · skip
            have fx := And.intro hs14 (And.intro fS (And.intro hjl (And.intro hrow2 (And.intro wj (And.intro (@Int.toNat_natCast) (And.intro (@Int.natCast_nonneg) (And.intro hil (And.intro hrow (And.intro h12 (And.intro h02 (And.intro wi (And.intro f2 (And.intro f1 (And.intro f0 ft))))))))))))))
            refine Run.go ?_
            refine End.kp [2, 6, 14, 16, 56, 57, 58, 76, 77, 78, 99] ?_
            refine Run.cond _ rfl (fun hb => ?_) (fun hb => ?_)
            · have hb2 := hb
              refine Run.seq ?_
              have fx := And.intro hs14 (And.intro fS (And.intro hjl (And.intro hrow2 (And.intro wj (And.intro (@Int.toNat_natCast) (And.intro (@Int.natCast_nonneg) (And.intro hil (And.intro hrow (And.intro h12 (And.intro h02 (And.intro wi (And.intro f2 (And.intro f1 (And.intro f0 ft))))))))))))))
              refine Run.go ?_
              refine End.kp [6, 7] ?_
              refine Run.resC hQ ?_
              rw [pickM_hit a b q i j hin hjn hno hnj (by rw [htry, hs14, hb2]; rfl)]
              rw [hget]
              exact ⟨rfl, rfl⟩
            · have hb2 := hb
              refine Run.skip ?_
              refine End.blk ?_
              refine End.kp [2, 6, 14, 56, 57, 58, 76, 77, 78] ?_
              have fx := And.intro hs14 (And.intro fS (And.intro hjl (And.intro hrow2 (And.intro wj (And.intro (@Int.toNat_natCast) (And.intro (@Int.natCast_nonneg) (And.intro hil (And.intro hrow (And.intro h12 (And.intro h02 (And.intro wi (And.intro f2 (And.intro f1 (And.intro f0 ft))))))))))))))
              refine Run.go ?_
              refine End.lp ?_
              refine ⟨2 - (j + 1), _, by omega, Ghost.form [(2, .i q), (6, .ptr 0 1 0), (14, .ptr 0 6 0), (56, .ms 0 5 2), (57, .i 2), (58, .i (i : Nat)), (76, .ms 0 7 2), (77, .i 2), (78, .i (j + 1 : Nat))] 8 ⟨rfl, rfl, rfl, rfl, rfl, rfl, rfl, rfl, rfl, trivial⟩ rfl rfl, j + 1, rfl, by omega, ?_, rfl⟩
              intro j' h1
              by_cases e : j' = j
              · rw [e, htry, hs14, hb2]
                rfl
              · exact hnj j' (by omega)
        · have hb2 := of_decide_eq_false hb
          have hj2 : j = 2 := by omega
          refine Run.exit rfl ?_
          refine End.blk ?_
          refine End.kp [2, 6, 56, 57, 58] ?_
          have fx := And.intro (@Int.toNat_natCast) (And.intro (@Int.natCast_nonneg) (And.intro hil (And.intro hrow (And.intro h12 (And.intro h02 (And.intro wi (And.intro f2 (And.intro f1 (And.intro f0 ft)))))))))
          refine Run.go ?_
          refine End.lp ?_
          refine ⟨2 - (i + 1), _, by omega, Ghost.form [(2, .i q), (6, .ptr 0 1 0), (56, .ms 0 5 2), (57, .i 2), (58, .i (i + 1 : Nat))] 6 ⟨rfl, rfl, rfl, rfl, rfl, trivial⟩ rfl rfl, i + 1, rfl, by omega, ?_, rfl⟩
          intro i' j' h1 h2
          by_cases e : i' = i
          · subst e
            exact hnj j' (by omega)
          · exact hno i' j' (by omega) h2
      · have hb2 := of_decide_eq_false hb
        have hi2 : i = 2 := by omega
        refine Run.exit rfl ?_
        refine End.kp [6] ?_
        refine Run.seq ?_
        have fx := And.intro f2 (And.intro f1 (And.intro f0 ft))
        refine Run.go ?_
        refine End.kp [6, 7] ?_
        refine Run.resC hQ ?_
        rw [pickM_none a b q (fun i2 j2 h1 h2 => hno i2 j2 (by omega) h2)]
        exact ⟨rfl, rfl⟩
theorem mux_no (g : LGraph) (hg : GraphOk g) (next q : Int) (h0 : 0 ≤ next) (h1 : next < 2 * (1 + (g.inn.length : Int) + g.regs.length + g.ands.length)) (hx : nodeOf g (flipL next) = none) (up : Frs) : ACalls Try.prog 117 [g.pv, .i next, .i q] up fun v u => v = muxPV none ∧ u = up := by
  have hsm := hg.small
  obtain ⟨z1, z2, z3, z4, z5⟩ := hg.small
  have f0 := xor_one next h0 (by omega)
  obtain ⟨k0, k1⟩ := flipL_lt next _ h0 h1
  have c0 := gand_ok g hsm (flipL next) k0 k1
  rw [hx] at c0
  simp only [andPV] at c0
  refine ACalls.code Try.func117 rfl 104 rfl (by simp) [.cell 6 69, .tmp 7] rfl fun Q hQ => ?_
  simp only [ups, PV.up, argEnv]
  have ft := And.intro ty_2 (And.intro ty_3 (And.intro ty_4 (And.intro ty_33 (And.intro ty_34 (And.intro ty_37 (And.intro ty_54 (And.intro ty_69 (And.intro ty_244 (And.intro ty_245 trivial)))))))))
  refine Run.seq ?_
  have fx := And.intro f0 ft
  refine Run.go ?_
  refine End.kp [1, 2, 3, 6] ?_
  refine Run.seq ?_
  refine Run.region rfl fun K hK => GOps.sim ?_
  refine GOps.call rfl rfl rfl rfl (by kernel_rfl) (ACalls.sim ?_)
  refine (c0 _).mono fun v u hv => ?_
  obtain ⟨rfl, rfl⟩ := hv
  refine ⟨_, _, rfl, GOps.sim ?_⟩
  refine GOps.done (hK _ ?_); clear hK K
  refine End.kp [2, 3, 6, 8, 9] ?_
  refine Run.seq ?_
  refine Run.seq ?_
  refine Run.go ?_
  refine End.kp [2, 3, 6, 8, 25] ?_
  refine Run.cond _ rfl (fun hb => ?_) (fun hb => ?_)
  · have hb2 := hb
    refine Run.seq ?_
    have fx := And.intro f0 ft
    refine Run.go ?_
    refine End.kp [6, 7] ?_
    refine Run.resC hQ ?_
    exact ⟨rfl, rfl⟩
  · have hb2 := hb
    simp at hb
theorem mux_na (g : LGraph) (hg : GraphOk g) (next q : Int) (h0 : 0 ≤ next) (h1 : next < 2 * (1 + (g.inn.length : Int) + g.regs.length + g.ands.length)) (x : Int × Int) (hx : nodeOf g (flipL next) = some x) (ha : nodeOf g (flipL x.1) = none) (hbn : nodeOf g (flipL x.2) = none) (up : Frs) : ACalls Try.prog 117 [g.pv, .i next, .i q] up fun v u => v = muxPV none ∧ u = up := by
  have hsm := hg.small
  obtain ⟨z1, z2, z3, z4, z5⟩ := hg.small
  have f0 := xor_one next h0 (by omega)
  obtain ⟨k0, k1⟩ := flipL_lt next _ h0 h1
  have c0 := gand_ok g hsm (flipL next) k0 k1
  
  obtain ⟨ix, hix, _⟩ := nodeOf_mem hx
  have lx := (List.getElem?_eq_some_iff.1 hix).1
  obtain ⟨⟨x1, x2⟩, x3, x4⟩ := hg.ands ix x hix
  have f1 := xor_one x.1 x1 (by omega)
  have f2 := xor_one x.2 x3 (by omega)
  obtain ⟨k2, k3⟩ := flipL_lt x.1 (1 + (g.inn.length : Int) + g.regs.length + g.ands.length) x1 (by omega)
  obtain ⟨k4, k5⟩ := flipL_lt x.2 (1 + (g.inn.length : Int) + g.regs.length + g.ands.length) x3 (by omega)
  have c1 := gand_ok g hsm (flipL x.1) k2 k3
  have c2 := gand_ok g hsm (flipL x.2) k4 k5
  rw [hx] at c0
  rw [ha] at c1
  rw [hbn] at c2
  simp only [andPV] at c0 c1 c2
  refine ACalls.code Try.func117 rfl 104 rfl (by simp) [.cell 6 69, .tmp 7] rfl fun Q hQ => ?_
  simp only [ups, PV.up, argEnv]
  have ft := And.intro ty_2 (And.intro ty_3 (And.intro ty_4 (And.intro ty_33 (And.intro ty_34 (And.intro ty_37 (And.intro ty_54 (And.intro ty_69 (And.intro ty_244 (And.intro ty_245 trivial)))))))))
  refine Run.seq ?_
  have fx := And.intro f2 (And.intro f1 (And.intro f0 ft))
  refine Run.go ?_
  refine End.kp [1, 2, 3, 6] ?_
  refine Run.seq ?_
  refine Run.region rfl fun K hK => GOps.sim ?_
  refine GOps.call rfl rfl rfl rfl (by kernel_rfl) (ACalls.sim ?_)
  refine (c0 _).mono fun v u hv => ?_
  obtain ⟨rfl, rfl⟩ := hv
  refine ⟨_, _, rfl, GOps.sim ?_⟩
  refine GOps.done (hK _ ?_); clear hK K
  refine End.kp [2, 3, 6, 8, 9] ?_
  refine Run.seq ?_
  refine Run.seq ?_
  refine Run.go ?_
  refine End.kp [2, 3, 6, 8, 25] ?_
  refine Run.cond _ rfl (fun hb => ?_) (fun hb => ?_)
  · have hb2 := hb
    simp at hb
  · have hb2 := hb
    refine Run.skip ?_
    refine End.kp [2, 3, 6, 8] ?_
    refine Run.seq ?_
    have fx := And.intro f2 (And.intro f1 (And.intro f0 ft))
    refine Run.region rfl fun K hK => GOps.sim ?_
    refine GOps.call rfl rfl rfl rfl (by kernel_rfl) (ACalls.sim ?_)
    refine (c1 _).mono fun v u hv => ?_
    obtain ⟨rfl, rfl⟩ := hv
    refine ⟨_, _, rfl, GOps.sim ?_⟩
    refine GOps.done (hK _ ?_); clear hK K
    refine End.kp [2, 3, 6, 8, 10, 11] ?_
    refine Run.seq ?_
    refine Run.region rfl fun K hK => GOps.sim ?_
    refine GOps.call rfl rfl rfl rfl (by kernel_rfl) (ACalls.sim ?_)
    refine (c2 _).mono fun v u hv => ?_
    obtain ⟨rfl, rfl⟩ := hv
    refine ⟨_, _, rfl, GOps.sim ?_⟩
    refine GOps.done (hK _ ?_); clear hK K
    refine End.kp [2, 6, 9, 10, 11, 12] ?_
    refine Run.seq ?_
    refine Run.seq ?_
    refine Run.go ?_
    refine End.kp [2, 6, 10, 12, 48] ?_
    refine Run.cond _ rfl (fun hb => ?_) (fun hb => ?_)
    · have hb2 := hb
      refine Run.seq ?_
      have fx := And.intro f2 (And.intro f1 (And.intro f0 ft))
      refine Run.go ?_
      refine End.kp [6, 7] ?_
      refine Run.resC hQ ?_
      exact ⟨rfl, rfl⟩
    · have hb2 := hb
      simp at hb
theorem mux_nb (g : LGraph) (hg : GraphOk g) (next q : Int) (h0 : 0 ≤ next) (h1 : next < 2 * (1 + (g.inn.length : Int) + g.regs.length + g.ands.length)) (x b : Int × Int) (hx : nodeOf g (flipL next) = some x) (ha : nodeOf g (flipL x.1) = none) (hbn : nodeOf g (flipL x.2) = some b) (up : Frs) : ACalls Try.prog 117 [g.pv, .i next, .i q] up fun v u => v = muxPV none ∧ u = up := by
  have hsm := hg.small
  obtain ⟨z1, z2, z3, z4, z5⟩ := hg.small
  have f0 := xor_one next h0 (by omega)
  obtain ⟨k0, k1⟩ := flipL_lt next _ h0 h1
  have c0 := gand_ok g hsm (flipL next) k0 k1
  
  obtain ⟨ix, hix, _⟩ := nodeOf_mem hx
  have lx := (List.getElem?_eq_some_iff.1 hix).1
  obtain ⟨⟨x1, x2⟩, x3, x4⟩ := hg.ands ix x hix
  have f1 := xor_one x.1 x1 (by omega)
  have f2 := xor_one x.2 x3 (by omega)
  obtain ⟨k2, k3⟩ := flipL_lt x.1 (1 + (g.inn.length : Int) + g.regs.length + g.ands.length) x1 (by omega)
  obtain ⟨k4, k5⟩ := flipL_lt x.2 (1 + (g.inn.length : Int) + g.regs.length + g.ands.length) x3 (by omega)
  have c1 := gand_ok g hsm (flipL x.1) k2 k3
  have c2 := gand_ok g hsm (flipL x.2) k4 k5
  rw [hx] at c0
  rw [ha] at c1
  rw [hbn] at c2
  simp only [andPV] at c0 c1 c2
  refine ACalls.code Try.func117 rfl 104 rfl (by simp) [.cell 6 69, .tmp 7] rfl fun Q hQ => ?_
  simp only [ups, PV.up, argEnv]
  have ft := And.intro ty_2 (And.intro ty_3 (And.intro ty_4 (And.intro ty_33 (And.intro ty_34 (And.intro ty_37 (And.intro ty_54 (And.intro ty_69 (And.intro ty_244 (And.intro ty_245 trivial)))))))))
  refine Run.seq ?_
  have fx := And.intro f2 (And.intro f1 (And.intro f0 ft))
  refine Run.go ?_
  refine End.kp [1, 2, 3, 6] ?_
  refine Run.seq ?_
  refine Run.region rfl fun K hK => GOps.sim ?_
  refine GOps.call rfl rfl rfl rfl (by kernel_rfl) (ACalls.sim ?_)
  refine (c0 _).mono fun v u hv => ?_
  obtain ⟨rfl, rfl⟩ := hv
  refine ⟨_, _, rfl, GOps.sim ?_⟩
  refine GOps.done (hK _ ?_); clear hK K
  refine End.kp [2, 3, 6, 8, 9] ?_
  refine Run.seq ?_
  refine Run.seq ?_
  refine Run.go ?_
  refine End.kp [2, 3, 6, 8, 25] ?_
  refine Run.cond _ rfl (fun hb => ?_) (fun hb => ?_)
  · have hb2 := hb
    simp at hb
  · have hb2 := hb
    refine Run.skip ?_
    refine End.kp [2, 3, 6, 8] ?_
    refine Run.seq ?_
    have fx := And.intro f2 (And.intro f1 (And.intro f0 ft))
    refine Run.region rfl fun K hK => GOps.sim ?_
    refine GOps.call rfl rfl rfl rfl (by kernel_rfl) (ACalls.sim ?_)
    refine (c1 _).mono fun v u hv => ?_
    obtain ⟨rfl, rfl⟩ := hv
    refine ⟨_, _, rfl, GOps.sim ?_⟩
    refine GOps.done (hK _ ?_); clear hK K
    refine End.kp [2, 3, 6, 8, 10, 11] ?_
    refine Run.seq ?_
    refine Run.region rfl fun K hK => GOps.sim ?_
    refine GOps.call rfl rfl rfl rfl (by kernel_rfl) (ACalls.sim ?_)
    refine (c2 _).mono fun v u hv => ?_
    obtain ⟨rfl, rfl⟩ := hv
    refine ⟨_, _, rfl, GOps.sim ?_⟩
    refine GOps.done (hK _ ?_); clear hK K
    refine End.kp [2, 6, 9, 10, 11, 12] ?_
    refine Run.seq ?_
    refine Run.seq ?_
    refine Run.go ?_
    refine End.kp [2, 6, 10, 12, 48] ?_
    refine Run.cond _ rfl (fun hb => ?_) (fun hb => ?_)
    · have hb2 := hb
      refine Run.seq ?_
      have fx := And.intro f2 (And.intro f1 (And.intro f0 ft))
      refine Run.go ?_
      refine End.kp [6, 7] ?_
      refine Run.resC hQ ?_
      exact ⟨rfl, rfl⟩
    · have hb2 := hb
      simp at hb
theorem mux_nc (g : LGraph) (hg : GraphOk g) (next q : Int) (h0 : 0 ≤ next) (h1 : next < 2 * (1 + (g.inn.length : Int) + g.regs.length + g.ands.length)) (x a : Int × Int) (hx : nodeOf g (flipL next) = some x) (ha : nodeOf g (flipL x.1) = some a) (hbn : nodeOf g (flipL x.2) = none) (up : Frs) : ACalls Try.prog 117 [g.pv, .i next, .i q] up fun v u => v = muxPV none ∧ u = up := by
  have hsm := hg.small
  obtain ⟨z1, z2, z3, z4, z5⟩ := hg.small
  have f0 := xor_one next h0 (by omega)
  obtain ⟨k0, k1⟩ := flipL_lt next _ h0 h1
  have c0 := gand_ok g hsm (flipL next) k0 k1
  
  obtain ⟨ix, hix, _⟩ := nodeOf_mem hx
  have lx := (List.getElem?_eq_some_iff.1 hix).1
  obtain ⟨⟨x1, x2⟩, x3, x4⟩ := hg.ands ix x hix
  have f1 := xor_one x.1 x1 (by omega)
  have f2 := xor_one x.2 x3 (by omega)
  obtain ⟨k2, k3⟩ := flipL_lt x.1 (1 + (g.inn.length : Int) + g.regs.length + g.ands.length) x1 (by omega)
  obtain ⟨k4, k5⟩ := flipL_lt x.2 (1 + (g.inn.length : Int) + g.regs.length + g.ands.length) x3 (by omega)
  have c1 := gand_ok g hsm (flipL x.1) k2 k3
  have c2 := gand_ok g hsm (flipL x.2) k4 k5
  rw [hx] at c0
  rw [ha] at c1
  rw [hbn] at c2
  simp only [andPV] at c0 c1 c2
  refine ACalls.code Try.func117 rfl 104 rfl (by simp) [.cell 6 69, .tmp 7] rfl fun Q hQ => ?_
  simp only [ups, PV.up, argEnv]
  have ft := And.intro ty_2 (And.intro ty_3 (And.intro ty_4 (And.intro ty_33 (And.intro ty_34 (And.intro ty_37 (And.intro ty_54 (And.intro ty_69 (And.intro ty_244 (And.intro ty_245 trivial)))))))))
  refine Run.seq ?_
  have fx := And.intro f2 (And.intro f1 (And.intro f0 ft))
  refine Run.go ?_
  refine End.kp [1, 2, 3, 6] ?_
  refine Run.seq ?_
  refine Run.region rfl fun K hK => GOps.sim ?_
  refine GOps.call rfl rfl rfl rfl (by kernel_rfl) (ACalls.sim ?_)
  refine (c0 _).mono fun v u hv => ?_
  obtain ⟨rfl, rfl⟩ := hv
  refine ⟨_, _, rfl, GOps.sim ?_⟩
  refine GOps.done (hK _ ?_); clear hK K
  refine End.kp [2, 3, 6, 8, 9] ?_
  refine Run.seq ?_
  refine Run.seq ?_
  refine Run.go ?_
  refine End.kp [2, 3, 6, 8, 25] ?_
  refine Run.cond _ rfl (fun hb => ?_) (fun hb => ?_)
  · have hb2 := hb
    simp at hb
  · have hb2 := hb
    refine Run.skip ?_
    refine End.kp [2, 3, 6, 8] ?_
    refine Run.seq ?_
    have fx := And.intro f2 (And.intro f1 (And.intro f0 ft))
    refine Run.region rfl fun K hK => GOps.sim ?_
    refine GOps.call rfl rfl rfl rfl (by kernel_rfl) (ACalls.sim ?_)
    refine (c1 _).mono fun v u hv => ?_
    obtain ⟨rfl, rfl⟩ := hv
    refine ⟨_, _, rfl, GOps.sim ?_⟩
    refine GOps.done (hK _ ?_); clear hK K
    refine End.kp [2, 3, 6, 8, 10, 11] ?_
    refine Run.seq ?_
    refine Run.region rfl fun K hK => GOps.sim ?_
    refine GOps.call rfl rfl rfl rfl (by kernel_rfl) (ACalls.sim ?_)
    refine (c2 _).mono fun v u hv => ?_
    obtain ⟨rfl, rfl⟩ := hv
    refine ⟨_, _, rfl, GOps.sim ?_⟩
    refine GOps.done (hK _ ?_); clear hK K
    refine End.kp [2, 6, 9, 10, 11, 12] ?_
    refine Run.seq ?_
    refine Run.seq ?_
    refine Run.go ?_
    refine End.kp [2, 6, 10, 12, 48] ?_
    refine Run.cond _ rfl (fun hb => ?_) (fun hb => ?_)
    · have hb2 := hb
      refine Run.seq ?_
      have fx := And.intro f2 (And.intro f1 (And.intro f0 ft))
      refine Run.go ?_
      refine End.kp [6, 7] ?_
      refine Run.resC hQ ?_
      exact ⟨rfl, rfl⟩
    · have hb2 := hb
      simp at hb
theorem mux_ok (g : LGraph) (hg : GraphOk g) (next q : Int) (h0 : 0 ≤ next) (h1 : next < 2 * (1 + (g.inn.length : Int) + g.regs.length + g.ands.length)) (up : Frs) : ACalls Try.prog 117 [g.pv, .i next, .i q] up fun v u => v = muxPV (muxV g next q) ∧ u = up := by
  unfold muxV
  cases hx : nodeOf g (flipL next) with
  | none => exact mux_no g hg next q h0 h1 hx up
  | some x =>
    simp only [Option.bind_some]
    cases ha : nodeOf g (flipL x.1) with
    | none =>
      cases hbn : nodeOf g (flipL x.2) with
      | none => exact mux_na g hg next q h0 h1 x hx ha hbn up
      | some b => exact mux_nb g hg next q h0 h1 x b hx ha hbn up
    | some a =>
      simp only [Option.bind_some]
      cases hbn : nodeOf g (flipL x.2) with
      | none => exact mux_nc g hg next q h0 h1 x a hx ha hbn up
      | some b => exact mux_some g hg next q x a b h0 h1 hx ha hbn up
/-- How a register that takes next keeps its value q. -/
def clearV (q : Int) (x : Int × Int) : Option (Int × Int) := if x.1 = q then some (flipL x.2, 0) else if x.2 = q then some (flipL x.1, 0) else none
def setV (q : Int) (x : Int × Int) : Option (Int × Int) := if x.1 = flipL q then some (flipL x.2, 1) else if x.2 = flipL q then some (flipL x.1, 1) else none
def findV (g : LGraph) (next q : Int) : Int × Int :=
  if next = q then (0, 0) else match muxV g next q with
  | some s => s
  | none => match (nodeOf g next).bind (clearV q) with
    | some s => s
    | none => match (nodeOf g (flipL next)).bind (setV q) with
      | some s => s
      | none => (1, next)
end Go.Proofs.YtdgpmopcmacicaaPi

/- The walks of find and Enables. -/
set_option linter.unusedVariables false
set_option linter.unusedSimpArgs false
set_option maxRecDepth 100000
namespace Go.Proofs.YtdgpmopcmacicaaPi
set_option maxHeartbeats 4000000
abbrev turnP (x : Int × Int) (i : Nat) : Int × Int := oneOf x (swapP x) i
theorem clear_hit (q : Int) (x : Int × Int) (i : Nat) (hi : i < 2) (h1 : ∀ i', i' < i → (turnP x i').1 ≠ q) (h : (turnP x i).1 = q) : clearV q x = some (flipL (turnP x i).2, 0) := by
  have hi : i = 0 ∨ i = 1 := by omega
  rcases hi with rfl | rfl
  · simp [turnP, turnP, oneOf] at h
    simp [clearV, h, turnP, oneOf]
  · have := h1 0 (by omega)
    simp [turnP, turnP, oneOf] at h this
    simp [clearV, h, this, turnP, oneOf]
theorem clear_none (q : Int) (x : Int × Int) (h1 : ∀ i', i' < 2 → (turnP x i').1 ≠ q) : clearV q x = none := by
  have h0 := h1 0 (by omega)
  have h2 := h1 1 (by omega)
  simp [turnP, turnP, oneOf] at h0 h2
  simp [clearV, h0, h2]
theorem set_hit (q : Int) (x : Int × Int) (i : Nat) (hi : i < 2) (h1 : ∀ i', i' < i → (turnP x i').1 ≠ flipL q) (h : (turnP x i).1 = flipL q) : setV q x = some (flipL (turnP x i).2, 1) := by
  have hi : i = 0 ∨ i = 1 := by omega
  rcases hi with rfl | rfl
  · simp [turnP, turnP, oneOf] at h
    simp [setV, h, turnP, oneOf]
  · have := h1 0 (by omega)
    simp [turnP, turnP, oneOf] at h this
    simp [setV, h, this, turnP, oneOf]
theorem set_none (q : Int) (x : Int × Int) (h1 : ∀ i', i' < 2 → (turnP x i').1 ≠ flipL q) : setV q x = none := by
  have h0 := h1 0 (by omega)
  have h2 := h1 1 (by omega)
  simp [turnP, turnP, oneOf] at h0 h2
  simp [setV, h0, h2]
theorem turn_row (x : Int × Int) (i : Nat) (hi : i < 2) : [[Im.int .i64 x.1, .int .i64 x.2], [.int .i64 x.2, .int .i64 x.1]][i]? = some [Im.int .i64 (turnP x i).1, .int .i64 (turnP x i).2] := by
  have : i = 0 ∨ i = 1 := by omega
  rcases this with rfl | rfl <;> simp [turnP, oneOf]
theorem find_same (g : LGraph) (hg : GraphOk g) (next q : Int) (h0 : 0 ≤ next) (h1 : next < 2 * (1 + (g.inn.length : Int) + g.regs.length + g.ands.length)) (q0 : 0 ≤ q) (q1 : q < 1000000) (hne : next = q) (up : Frs) : ACalls Try.prog 76 [g.pv, .i next, .i q] up fun v u => v = .agg [.i (findV g next q).1, .i (findV g next q).2] ∧ u = up := by
  have hF : findV g next q = (0, 0) := by simp [findV, hne]
  refine ACalls.code Try.func76 rfl 90 rfl (by simp) [.cell 6 69] rfl fun Q hQ => ?_
  simp only [ups, PV.up, argEnv]
  have ft := And.intro ty_2 (And.intro ty_3 (And.intro ty_4 (And.intro ty_30 (And.intro ty_33 (And.intro ty_34 (And.intro ty_37 (And.intro ty_69 trivial)))))))
  refine Run.seq ?_
  have fx := ft
  refine Run.go ?_
  refine End.kp [1, 2, 3, 6] ?_
  refine Run.seq ?_
  refine Run.seq ?_
  refine Run.go ?_
  refine End.kp [1, 2, 3, 6, 19] ?_
  refine Run.cond _ rfl (fun hb => ?_) (fun hb => ?_)
  · have hb2 := hb
    refine Run.seq ?_
    have fx := ft
    refine Run.go ?_
    refine End.kp [6] ?_
    refine Run.resC hQ ?_
    rw [hF]
    exact ⟨rfl, rfl⟩
  · simp [hne] at hb
    skip
theorem find_mux (g : LGraph) (hg : GraphOk g) (next q : Int) (h0 : 0 ≤ next) (h1 : next < 2 * (1 + (g.inn.length : Int) + g.regs.length + g.ands.length)) (q0 : 0 ≤ q) (q1 : q < 1000000) (hne : next ≠ q) (s : Int × Int) (hmx : muxV g next q = some s) (up : Frs) : ACalls Try.prog 76 [g.pv, .i next, .i q] up fun v u => v = .agg [.i (findV g next q).1, .i (findV g next q).2] ∧ u = up := by
  have hsm := hg.small
  obtain ⟨z1, z2, z3, z4, z5⟩ := hg.small
  have f0 := xor_one next h0 (by omega)
  have fq := xor_one q q0 (by omega)
  obtain ⟨k0, k1⟩ := flipL_lt next _ h0 h1
  have cm := mux_ok g hg next q h0 h1
  
  have hF : findV g next q = s := by simp [findV, hne, hmx]
  rw [hmx] at cm
  simp only [muxPV] at cm
  refine ACalls.code Try.func76 rfl 90 rfl (by simp) [.cell 6 69] rfl fun Q hQ => ?_
  simp only [ups, PV.up, argEnv]
  have ft := And.intro ty_2 (And.intro ty_3 (And.intro ty_4 (And.intro ty_30 (And.intro ty_33 (And.intro ty_34 (And.intro ty_37 (And.intro ty_69 trivial)))))))
  refine Run.seq ?_
  have fx := ft
  refine Run.go ?_
  refine End.kp [1, 2, 3, 6] ?_
  refine Run.seq ?_
  refine Run.seq ?_
  refine Run.go ?_
  refine End.kp [1, 2, 3, 6, 19] ?_
  refine Run.cond _ rfl (fun hb => ?_) (fun hb => ?_)
  · simp [hne] at hb
    skip
  · have hb2 := hb
    refine Run.skip ?_
    refine End.kp [1, 2, 3, 6] ?_
    refine Run.seq ?_
    refine Run.seq ?_
    have fx := ft
    refine Run.region rfl fun K hK => GOps.sim ?_
    refine GOps.call rfl rfl rfl rfl (by kernel_rfl) (ACalls.sim ?_)
    refine (cm _).mono fun v u hv => ?_
    obtain ⟨rfl, rfl⟩ := hv
    refine ⟨_, _, rfl, GOps.sim ?_⟩
    refine GOps.done (hK _ ?_); clear hK K
    refine End.kp [1, 2, 3, 6, 7, 8] ?_
    refine Run.seq ?_
    refine Run.go ?_
    refine End.kp [1, 2, 3, 6, 7, 28] ?_
    refine Run.cond _ rfl (fun hb => ?_) (fun hb => ?_)
    · have hb2 := hb
      refine Run.seq ?_
      have fx := ft
      refine Run.go ?_
      refine End.kp [6] ?_
      refine Run.resC hQ ?_
      rw [hF]
      exact ⟨rfl, rfl⟩
    · have hb2 := hb
      simp at hb
theorem find_00 (g : LGraph) (hg : GraphOk g) (next q : Int) (h0 : 0 ≤ next) (h1 : next < 2 * (1 + (g.inn.length : Int) + g.regs.length + g.ands.length)) (q0 : 0 ≤ q) (q1 : q < 1000000) (hne : next ≠ q) (hmx : muxV g next q = none)  (hx : nodeOf g next = none) (hz : nodeOf g (flipL next) = none) (up : Frs) : ACalls Try.prog 76 [g.pv, .i next, .i q] up fun v u => v = .agg [.i (findV g next q).1, .i (findV g next q).2] ∧ u = up := by
  have hsm := hg.small
  obtain ⟨z1, z2, z3, z4, z5⟩ := hg.small
  have f0 := xor_one next h0 (by omega)
  have fq := xor_one q q0 (by omega)
  obtain ⟨k0, k1⟩ := flipL_lt next _ h0 h1
  have cm := mux_ok g hg next q h0 h1
  
  have c1 := gand_ok g hsm next h0 h1
  have c2 := gand_ok g hsm (flipL next) k0 k1
  rw [hmx] at cm
  rw [hx] at c1
  rw [hz] at c2
  simp only [muxPV, andPV] at cm c1 c2
  refine ACalls.code Try.func76 rfl 90 rfl (by simp) [.cell 6 69] rfl fun Q hQ => ?_
  simp only [ups, PV.up, argEnv]
  have ft := And.intro ty_2 (And.intro ty_3 (And.intro ty_4 (And.intro ty_30 (And.intro ty_33 (And.intro ty_34 (And.intro ty_37 (And.intro ty_69 trivial)))))))
  refine Run.seq ?_
  have fx := And.intro fq (And.intro f0 ft)
  refine Run.go ?_
  refine End.kp [1, 2, 3, 6] ?_
  refine Run.seq ?_
  refine Run.seq ?_
  refine Run.go ?_
  refine End.kp [1, 2, 3, 6, 19] ?_
  refine Run.cond _ rfl (fun hb => ?_) (fun hb => ?_)
  · simp [hne] at hb
    skip
  · have hb2 := hb
    refine Run.skip ?_
    refine End.kp [1, 2, 3, 6] ?_
    refine Run.seq ?_
    refine Run.seq ?_
    have fx := And.intro fq (And.intro f0 ft)
    refine Run.region rfl fun K hK => GOps.sim ?_
    refine GOps.call rfl rfl rfl rfl (by kernel_rfl) (ACalls.sim ?_)
    refine (cm _).mono fun v u hv => ?_
    obtain ⟨rfl, rfl⟩ := hv
    refine ⟨_, _, rfl, GOps.sim ?_⟩
    refine GOps.done (hK _ ?_); clear hK K
    refine End.kp [1, 2, 3, 6, 7, 8] ?_
    refine Run.seq ?_
    refine Run.go ?_
    refine End.kp [1, 2, 3, 6, 7, 28] ?_
    refine Run.cond _ rfl (fun hb => ?_) (fun hb => ?_)
    · have hb2 := hb
      simp at hb
    · have hb2 := hb
      refine Run.skip ?_
      refine End.kp [1, 2, 3, 6] ?_
      refine Run.seq ?_
      refine Run.seq ?_
      have fx := And.intro fq (And.intro f0 ft)
      refine Run.region rfl fun K hK => GOps.sim ?_
      refine GOps.call rfl rfl rfl rfl (by kernel_rfl) (ACalls.sim ?_)
      refine (c1 _).mono fun v u hv => ?_
      obtain ⟨rfl, rfl⟩ := hv
      refine ⟨_, _, rfl, GOps.sim ?_⟩
      refine GOps.done (hK _ ?_); clear hK K
      refine End.kp [1, 2, 3, 6, 9, 10] ?_
      refine Run.seq ?_
      refine Run.go ?_
      refine End.kp [1, 2, 3, 6, 9, 36] ?_
      refine Run.cond _ rfl (fun hb => ?_) (fun hb => ?_)
      · have hb2 := hb
        simp at hb
      · have hb2 := hb
        refine Run.skip ?_
        refine End.kp [1, 2, 3, 6] ?_
        refine Run.seq ?_
        refine Run.seq ?_
        have fx := And.intro fq (And.intro f0 ft)
        refine Run.region rfl fun K hK => GOps.sim ?_
        refine GOps.call rfl rfl rfl rfl (by kernel_rfl) (ACalls.sim ?_)
        refine (c2 _).mono fun v u hv => ?_
        obtain ⟨rfl, rfl⟩ := hv
        refine ⟨_, _, rfl, GOps.sim ?_⟩
        refine GOps.done (hK _ ?_); clear hK K
        refine End.kp [1, 2, 6, 13, 14] ?_
        refine Run.seq ?_
        refine Run.go ?_
        refine End.kp [1, 2, 6, 13, 65] ?_
        refine Run.cond _ rfl (fun hb => ?_) (fun hb => ?_)
        · have hb2 := hb
          simp at hb
        · have hb2 := hb
          refine Run.skip ?_
          refine End.kp [1, 6] ?_
          refine Run.seq ?_
          have fx := And.intro fq (And.intro f0 ft)
          refine Run.go ?_
          refine End.kp [6] ?_
          refine Run.resC hQ ?_
          rw [show findV g next q = (1, next) from by simp only [findV, if_neg hne, hmx, hx, hz, Option.bind_none, Option.bind_none]]
          exact ⟨rfl, rfl⟩
theorem find_01 (g : LGraph) (hg : GraphOk g) (next q : Int) (h0 : 0 ≤ next) (h1 : next < 2 * (1 + (g.inn.length : Int) + g.regs.length + g.ands.length)) (q0 : 0 ≤ q) (q1 : q < 1000000) (hne : next ≠ q) (hmx : muxV g next q = none) (z : Int × Int) (hx : nodeOf g next = none) (hz : nodeOf g (flipL next) = some z) (up : Frs) : ACalls Try.prog 76 [g.pv, .i next, .i q] up fun v u => v = .agg [.i (findV g next q).1, .i (findV g next q).2] ∧ u = up := by
  have hsm := hg.small
  obtain ⟨z1, z2, z3, z4, z5⟩ := hg.small
  have f0 := xor_one next h0 (by omega)
  have fq := xor_one q q0 (by omega)
  obtain ⟨k0, k1⟩ := flipL_lt next _ h0 h1
  have cm := mux_ok g hg next q h0 h1
  
  have c1 := gand_ok g hsm next h0 h1
  have c2 := gand_ok g hsm (flipL next) k0 k1
  rw [hmx] at cm
  rw [hx] at c1
  rw [hz] at c2
  simp only [muxPV, andPV] at cm c1 c2
  obtain ⟨iz, hiz, _⟩ := nodeOf_mem hz
  have lz := (List.getElem?_eq_some_iff.1 hiz).1
  obtain ⟨⟨z1, z2⟩, z3, z4⟩ := hg.ands _ z hiz
  
  have fz1 := xor_one z.1 z1 (by omega)
  have fz2 := xor_one z.2 z3 (by omega)
  refine ACalls.code Try.func76 rfl 90 rfl (by simp) [.cell 6 69] rfl fun Q hQ => ?_
  simp only [ups, PV.up, argEnv]
  have ft := And.intro ty_2 (And.intro ty_3 (And.intro ty_4 (And.intro ty_30 (And.intro ty_33 (And.intro ty_34 (And.intro ty_37 (And.intro ty_69 trivial)))))))
  refine Run.seq ?_
  have fx := And.intro fq (And.intro f0 ft)
  refine Run.go ?_
  refine End.kp [1, 2, 3, 6] ?_
  refine Run.seq ?_
  refine Run.seq ?_
  refine Run.go ?_
  refine End.kp [1, 2, 3, 6, 19] ?_
  refine Run.cond _ rfl (fun hb => ?_) (fun hb => ?_)
  · simp [hne] at hb
    skip
  · have hb2 := hb
    refine Run.skip ?_
    refine End.kp [1, 2, 3, 6] ?_
    refine Run.seq ?_
    refine Run.seq ?_
    have fx := And.intro fq (And.intro f0 ft)
    refine Run.region rfl fun K hK => GOps.sim ?_
    refine GOps.call rfl rfl rfl rfl (by kernel_rfl) (ACalls.sim ?_)
    refine (cm _).mono fun v u hv => ?_
    obtain ⟨rfl, rfl⟩ := hv
    refine ⟨_, _, rfl, GOps.sim ?_⟩
    refine GOps.done (hK _ ?_); clear hK K
    refine End.kp [1, 2, 3, 6, 7, 8] ?_
    refine Run.seq ?_
    refine Run.go ?_
    refine End.kp [1, 2, 3, 6, 7, 28] ?_
    refine Run.cond _ rfl (fun hb => ?_) (fun hb => ?_)
    · have hb2 := hb
      simp at hb
    · have hb2 := hb
      refine Run.skip ?_
      refine End.kp [1, 2, 3, 6] ?_
      refine Run.seq ?_
      refine Run.seq ?_
      have fx := And.intro fq (And.intro f0 ft)
      refine Run.region rfl fun K hK => GOps.sim ?_
      refine GOps.call rfl rfl rfl rfl (by kernel_rfl) (ACalls.sim ?_)
      refine (c1 _).mono fun v u hv => ?_
      obtain ⟨rfl, rfl⟩ := hv
      refine ⟨_, _, rfl, GOps.sim ?_⟩
      refine GOps.done (hK _ ?_); clear hK K
      refine End.kp [1, 2, 3, 6, 9, 10] ?_
      refine Run.seq ?_
      refine Run.go ?_
      refine End.kp [1, 2, 3, 6, 9, 36] ?_
      refine Run.cond _ rfl (fun hb => ?_) (fun hb => ?_)
      · have hb2 := hb
        simp at hb
      · have hb2 := hb
        refine Run.skip ?_
        refine End.kp [1, 2, 3, 6] ?_
        refine Run.seq ?_
        refine Run.seq ?_
        have fx := And.intro fq (And.intro f0 ft)
        refine Run.region rfl fun K hK => GOps.sim ?_
        refine GOps.call rfl rfl rfl rfl (by kernel_rfl) (ACalls.sim ?_)
        refine (c2 _).mono fun v u hv => ?_
        obtain ⟨rfl, rfl⟩ := hv
        refine ⟨_, _, rfl, GOps.sim ?_⟩
        refine GOps.done (hK _ ?_); clear hK K
        refine End.kp [1, 2, 6, 13, 14] ?_
        refine Run.seq ?_
        refine Run.go ?_
        refine End.kp [1, 2, 6, 13, 65] ?_
        refine Run.cond _ rfl (fun hb => ?_) (fun hb => ?_)
        · have hb2 := hb
          refine Run.seq ?_
          have fx := And.intro fq (And.intro f0 ft)
          refine Run.go ?_
          refine End.kp [1, 2, 6, 72, 73, 74] ?_
          refine Run.block ?_
          refine Run.ghost (Ghost.form [(1, .i next), (2, .i q), (6, .ptr 0 1 0), (72, .ms 0 5 2), (73, .i 2), (74, .i (0 : Nat))] 6 ⟨rfl, rfl, rfl, rfl, rfl, rfl, trivial⟩ rfl rfl) ?_
          refine Run.loop (fun m st => ∃ i : Nat, m = 2 - i ∧ i ≤ 2 ∧ (∀ i', i' < i → (turnP z i').1 ≠ flipL q) ∧ st = ⟨[(1, .i next), (2, .i q), (6, .ptr 0 1 0), (72, .ms 0 5 2), (73, .i 2), (74, .i (i : Nat))], [.box [.im (.sl (strs g.inn)), .im (.sl (strs g.out)), .im (.sl (g.regs.map LReg.im)), .im (.sl (g.ands.map nd)), .im (.sl (ints g.outs))], .box [.i 0, .i 0], .box [.i 0, .i 0], .box [.i 0, .i 0], .box [.i z.1, .i z.2], .row 37 2 [[.int .i64 z.1, .int .i64 z.2], [.int .i64 z.2, .int .i64 z.1]] 0], up⟩) 2 ⟨0, rfl, by omega, fun i' h => absurd h (by omega), rfl⟩ fun m st hI => ?_
          obtain ⟨i2, rfl, hi2b, hno2, rfl⟩ := hI
          refine Run.seq ?_
          have fx := And.intro fq (And.intro f0 ft)
          refine Run.go ?_
          refine End.kp [1, 2, 6, 72, 73, 74, 75] ?_
          refine Run.seq ?_
          refine Run.cond _ rfl (fun hb => ?_) (fun hb => ?_)
          · have hb2 := of_decide_eq_true hb
            have hin2 : i2 < 2 := by omega
            have wi2 := wsucc hin2 (by omega)
            have hrow2 := turn_row z i2 hin2
            have hil2 : (i2 : Int) < ((2 : Nat) : Int) := by omega
            have hx22 : 0 ≤ (turnP z i2).2 ∧ (turnP z i2).2 ≤ 1000000 := by rcases (show i2 = 0 ∨ i2 = 1 by omega) with e | e <;> simp [e, turnP, oneOf] <;> omega
            have fz := xor_one (turnP z i2).2 hx22.1 (by omega)
            obtain ⟨y2, hy2⟩ : ∃ y, y = turnP z i2 := ⟨_, rfl⟩
            rw [← hy2] at hrow2 fz
            refine Run.skip ?_
            refine End.kp [1, 2, 6, 72, 73, 74] ?_
            refine Run.seq ?_
            refine Run.block ?_
            refine Run.seq ?_
            have fx := And.intro (@Int.toNat_natCast) (And.intro (@Int.natCast_nonneg) (And.intro fz (And.intro hil2 (And.intro hrow2 (And.intro wi2 (And.intro fq (And.intro f0 ft)))))))
            refine Run.go ?_
            refine End.kp [1, 2, 6, 16, 72, 73, 74] ?_
            refine Run.seq ?_
            refine Run.go ?_
            refine End.kp [1, 2, 6, 16, 72, 73, 74, 82] ?_
            refine Run.cond _ rfl (fun hb => ?_) (fun hb => ?_)
            · have hb2 : y2.1 = flipL q := eq_of_beq hb
              have hF : findV g next q = (flipL y2.2, 1) := by
                have := set_hit q z i2 hin2 hno2 (by rw [← hy2]; exact hb2)
                simp only [findV, if_neg hne, hmx, hx, hz, Option.bind_none, Option.bind_some, this, hy2]
              refine Run.seq ?_
              have fx := And.intro (@Int.toNat_natCast) (And.intro (@Int.natCast_nonneg) (And.intro fz (And.intro hil2 (And.intro hrow2 (And.intro wi2 (And.intro fq (And.intro f0 ft)))))))
              refine Run.go ?_
              refine End.kp [6] ?_
              refine Run.resC hQ ?_
              rw [hF]
              exact ⟨rfl, rfl⟩
            · have hb2 : y2.1 ≠ flipL q := fun e => by simp [e] at hb
              refine Run.skip ?_
              refine End.blk ?_
              refine End.kp [1, 2, 6, 72, 73, 74] ?_
              have fx := And.intro (@Int.toNat_natCast) (And.intro (@Int.natCast_nonneg) (And.intro fz (And.intro hil2 (And.intro hrow2 (And.intro wi2 (And.intro fq (And.intro f0 ft)))))))
              refine Run.go ?_
              refine End.lp ?_
              refine ⟨2 - (i2 + 1), _, by omega, Ghost.form [(1, .i next), (2, .i q), (6, .ptr 0 1 0), (72, .ms 0 5 2), (73, .i 2), (74, .i (i2 + 1 : Nat))] 6 ⟨rfl, rfl, rfl, rfl, rfl, rfl, trivial⟩ rfl rfl, i2 + 1, rfl, by omega, ?_, rfl⟩
              intro i' h1
              by_cases e : i' = i2
              · rw [e, ← hy2]
                exact hb2
              · exact hno2 i' (by omega)
          · have hb2 := of_decide_eq_false hb
            have hF : findV g next q = (1, next) := by
              have := set_none q z (fun i' h => hno2 i' (by omega))
              simp only [findV, if_neg hne, hmx, hx, hz, Option.bind_none, Option.bind_some, this]
            refine Run.exit rfl ?_
            refine End.kp [1, 6] ?_
            refine Run.seq ?_
            have fx := And.intro fq (And.intro f0 ft)
            refine Run.go ?_
            refine End.kp [6] ?_
            refine Run.resC hQ ?_
            rw [hF]
            exact ⟨rfl, rfl⟩
        · have hb2 := hb
          simp at hb
theorem find_10 (g : LGraph) (hg : GraphOk g) (next q : Int) (h0 : 0 ≤ next) (h1 : next < 2 * (1 + (g.inn.length : Int) + g.regs.length + g.ands.length)) (q0 : 0 ≤ q) (q1 : q < 1000000) (hne : next ≠ q) (hmx : muxV g next q = none) (x : Int × Int)  (hx : nodeOf g next = some x) (hz : nodeOf g (flipL next) = none) (up : Frs) : ACalls Try.prog 76 [g.pv, .i next, .i q] up fun v u => v = .agg [.i (findV g next q).1, .i (findV g next q).2] ∧ u = up := by
  have hsm := hg.small
  obtain ⟨z1, z2, z3, z4, z5⟩ := hg.small
  have f0 := xor_one next h0 (by omega)
  have fq := xor_one q q0 (by omega)
  obtain ⟨k0, k1⟩ := flipL_lt next _ h0 h1
  have cm := mux_ok g hg next q h0 h1
  
  have c1 := gand_ok g hsm next h0 h1
  have c2 := gand_ok g hsm (flipL next) k0 k1
  rw [hmx] at cm
  rw [hx] at c1
  rw [hz] at c2
  simp only [muxPV, andPV] at cm c1 c2
  obtain ⟨ix, hix, _⟩ := nodeOf_mem hx
  have lx := (List.getElem?_eq_some_iff.1 hix).1
  obtain ⟨⟨x1, x2⟩, x3, x4⟩ := hg.ands _ x hix
  
  have fx1 := xor_one x.1 x1 (by omega)
  have fx2 := xor_one x.2 x3 (by omega)
  refine ACalls.code Try.func76 rfl 90 rfl (by simp) [.cell 6 69] rfl fun Q hQ => ?_
  simp only [ups, PV.up, argEnv]
  have ft := And.intro ty_2 (And.intro ty_3 (And.intro ty_4 (And.intro ty_30 (And.intro ty_33 (And.intro ty_34 (And.intro ty_37 (And.intro ty_69 trivial)))))))
  refine Run.seq ?_
  have fx := And.intro fq (And.intro f0 ft)
  refine Run.go ?_
  refine End.kp [1, 2, 3, 6] ?_
  refine Run.seq ?_
  refine Run.seq ?_
  refine Run.go ?_
  refine End.kp [1, 2, 3, 6, 19] ?_
  refine Run.cond _ rfl (fun hb => ?_) (fun hb => ?_)
  · simp [hne] at hb
    skip
  · have hb2 := hb
    refine Run.skip ?_
    refine End.kp [1, 2, 3, 6] ?_
    refine Run.seq ?_
    refine Run.seq ?_
    have fx := And.intro fq (And.intro f0 ft)
    refine Run.region rfl fun K hK => GOps.sim ?_
    refine GOps.call rfl rfl rfl rfl (by kernel_rfl) (ACalls.sim ?_)
    refine (cm _).mono fun v u hv => ?_
    obtain ⟨rfl, rfl⟩ := hv
    refine ⟨_, _, rfl, GOps.sim ?_⟩
    refine GOps.done (hK _ ?_); clear hK K
    refine End.kp [1, 2, 3, 6, 7, 8] ?_
    refine Run.seq ?_
    refine Run.go ?_
    refine End.kp [1, 2, 3, 6, 7, 28] ?_
    refine Run.cond _ rfl (fun hb => ?_) (fun hb => ?_)
    · have hb2 := hb
      simp at hb
    · have hb2 := hb
      refine Run.skip ?_
      refine End.kp [1, 2, 3, 6] ?_
      refine Run.seq ?_
      refine Run.seq ?_
      have fx := And.intro fq (And.intro f0 ft)
      refine Run.region rfl fun K hK => GOps.sim ?_
      refine GOps.call rfl rfl rfl rfl (by kernel_rfl) (ACalls.sim ?_)
      refine (c1 _).mono fun v u hv => ?_
      obtain ⟨rfl, rfl⟩ := hv
      refine ⟨_, _, rfl, GOps.sim ?_⟩
      refine GOps.done (hK _ ?_); clear hK K
      refine End.kp [1, 2, 3, 6, 9, 10] ?_
      refine Run.seq ?_
      refine Run.go ?_
      refine End.kp [1, 2, 3, 6, 9, 36] ?_
      refine Run.cond _ rfl (fun hb => ?_) (fun hb => ?_)
      · have hb2 := hb
        refine Run.seq ?_
        have fx := And.intro fq (And.intro f0 ft)
        refine Run.go ?_
        refine End.kp [1, 2, 3, 6, 43, 44, 45] ?_
        refine Run.block ?_
        refine Run.ghost (Ghost.form [(1, .i next), (2, .i q), (3, .ptr 0 0 0), (6, .ptr 0 1 0), (43, .ms 0 4 2), (44, .i 2), (45, .i (0 : Nat))] 5 ⟨rfl, rfl, rfl, rfl, rfl, rfl, rfl, trivial⟩ rfl rfl) ?_
        refine Run.loop (fun m st => ∃ i : Nat, m = 2 - i ∧ i ≤ 2 ∧ (∀ i', i' < i → (turnP x i').1 ≠ q) ∧ st = ⟨[(1, .i next), (2, .i q), (3, .ptr 0 0 0), (6, .ptr 0 1 0), (43, .ms 0 4 2), (44, .i 2), (45, .i (i : Nat))], [.box [.im (.sl (strs g.inn)), .im (.sl (strs g.out)), .im (.sl (g.regs.map LReg.im)), .im (.sl (g.ands.map nd)), .im (.sl (ints g.outs))], .box [.i 0, .i 0], .box [.i 0, .i 0], .box [.i x.1, .i x.2], .row 37 2 [[.int .i64 x.1, .int .i64 x.2], [.int .i64 x.2, .int .i64 x.1]] 0], up⟩) 2 ⟨0, rfl, by omega, fun i' h => absurd h (by omega), rfl⟩ fun m st hI => ?_
        obtain ⟨i, rfl, hi, hno, rfl⟩ := hI
        refine Run.seq ?_
        have fx := And.intro fq (And.intro f0 ft)
        refine Run.go ?_
        refine End.kp [1, 2, 3, 6, 43, 44, 45, 46] ?_
        refine Run.seq ?_
        refine Run.cond _ rfl (fun hb => ?_) (fun hb => ?_)
        · have hb2 := of_decide_eq_true hb
          have hin : i < 2 := by omega
          have wi := wsucc hin (by omega)
          have hrow := turn_row x i hin
          have hil : (i : Int) < ((2 : Nat) : Int) := by omega
          have hx2 : 0 ≤ (turnP x i).2 ∧ (turnP x i).2 ≤ 1000000 := by rcases (show i = 0 ∨ i = 1 by omega) with e | e <;> simp [e, turnP, oneOf] <;> omega
          have fx := xor_one (turnP x i).2 hx2.1 (by omega)
          obtain ⟨y, hy⟩ : ∃ y, y = turnP x i := ⟨_, rfl⟩
          rw [← hy] at hrow fx
          refine Run.skip ?_
          refine End.kp [1, 2, 3, 6, 43, 44, 45] ?_
          refine Run.seq ?_
          refine Run.block ?_
          refine Run.seq ?_
          have fx := And.intro (@Int.toNat_natCast) (And.intro (@Int.natCast_nonneg) (And.intro fx (And.intro hil (And.intro hrow (And.intro wi (And.intro fq (And.intro f0 ft)))))))
          refine Run.go ?_
          refine End.kp [1, 2, 3, 6, 12, 43, 44, 45] ?_
          refine Run.seq ?_
          refine Run.go ?_
          refine End.kp [1, 2, 3, 6, 12, 43, 44, 45, 52] ?_
          refine Run.cond _ rfl (fun hb => ?_) (fun hb => ?_)
          · have hb2 : y.1 = q := eq_of_beq hb
            have hF : findV g next q = (flipL y.2, 0) := by
              have := clear_hit q x i hin hno (by rw [← hy]; exact hb2)
              simp only [findV, if_neg hne, hmx, hx, Option.bind_some, this, hy]
            refine Run.seq ?_
            have fx := And.intro (@Int.toNat_natCast) (And.intro (@Int.natCast_nonneg) (And.intro fx (And.intro hil (And.intro hrow (And.intro wi (And.intro fq (And.intro f0 ft)))))))
            refine Run.go ?_
            refine End.kp [6] ?_
            refine Run.resC hQ ?_
            rw [hF]
            exact ⟨rfl, rfl⟩
          · have hb2 : y.1 ≠ q := fun e => by simp [e] at hb
            refine Run.skip ?_
            refine End.blk ?_
            refine End.kp [1, 2, 3, 6, 43, 44, 45] ?_
            have fx := And.intro (@Int.toNat_natCast) (And.intro (@Int.natCast_nonneg) (And.intro fx (And.intro hil (And.intro hrow (And.intro wi (And.intro fq (And.intro f0 ft)))))))
            refine Run.go ?_
            refine End.lp ?_
            refine ⟨2 - (i + 1), _, by omega, Ghost.form [(1, .i next), (2, .i q), (3, .ptr 0 0 0), (6, .ptr 0 1 0), (43, .ms 0 4 2), (44, .i 2), (45, .i (i + 1 : Nat))] 5 ⟨rfl, rfl, rfl, rfl, rfl, rfl, rfl, trivial⟩ rfl rfl, i + 1, rfl, by omega, ?_, rfl⟩
            intro i' h1
            by_cases e : i' = i
            · rw [e, ← hy]
              exact hb2
            · exact hno i' (by omega)
        · have hb2 := of_decide_eq_false hb
          have hi2 : i = 2 := by omega
          have hcl := clear_none q x (fun i' h => hno i' (by omega))
          refine Run.exit rfl ?_
          refine End.kp [1, 2, 3, 6] ?_
          refine Run.seq ?_
          refine Run.seq ?_
          have fx := And.intro fq (And.intro f0 ft)
          refine Run.region rfl fun K hK => GOps.sim ?_
          refine GOps.call rfl rfl rfl rfl (by kernel_rfl) (ACalls.sim ?_)
          refine (c2 _).mono fun v u hv => ?_
          obtain ⟨rfl, rfl⟩ := hv
          refine ⟨_, _, rfl, GOps.sim ?_⟩
          refine GOps.done (hK _ ?_); clear hK K
          refine End.kp [1, 2, 6, 13, 14] ?_
          refine Run.seq ?_
          refine Run.go ?_
          refine End.kp [1, 2, 6, 13, 65] ?_
          refine Run.cond _ rfl (fun hb => ?_) (fun hb => ?_)
          · have hb2 := hb
            simp at hb
          · have hb2 := hb
            refine Run.skip ?_
            refine End.kp [1, 6] ?_
            refine Run.seq ?_
            have fx := And.intro fq (And.intro f0 ft)
            refine Run.go ?_
            refine End.kp [6] ?_
            refine Run.resC hQ ?_
            rw [show findV g next q = (1, next) from by simp only [findV, if_neg hne, hmx, hx, hz, Option.bind_some, hcl, Option.bind_none]]
            exact ⟨rfl, rfl⟩
      · have hb2 := hb
        simp at hb
theorem find_11 (g : LGraph) (hg : GraphOk g) (next q : Int) (h0 : 0 ≤ next) (h1 : next < 2 * (1 + (g.inn.length : Int) + g.regs.length + g.ands.length)) (q0 : 0 ≤ q) (q1 : q < 1000000) (hne : next ≠ q) (hmx : muxV g next q = none) (x : Int × Int) (z : Int × Int) (hx : nodeOf g next = some x) (hz : nodeOf g (flipL next) = some z) (up : Frs) : ACalls Try.prog 76 [g.pv, .i next, .i q] up fun v u => v = .agg [.i (findV g next q).1, .i (findV g next q).2] ∧ u = up := by
  have hsm := hg.small
  obtain ⟨z1, z2, z3, z4, z5⟩ := hg.small
  have f0 := xor_one next h0 (by omega)
  have fq := xor_one q q0 (by omega)
  obtain ⟨k0, k1⟩ := flipL_lt next _ h0 h1
  have cm := mux_ok g hg next q h0 h1
  
  have c1 := gand_ok g hsm next h0 h1
  have c2 := gand_ok g hsm (flipL next) k0 k1
  rw [hmx] at cm
  rw [hx] at c1
  rw [hz] at c2
  simp only [muxPV, andPV] at cm c1 c2
  obtain ⟨ix, hix, _⟩ := nodeOf_mem hx
  have lx := (List.getElem?_eq_some_iff.1 hix).1
  obtain ⟨⟨x1, x2⟩, x3, x4⟩ := hg.ands _ x hix
  
  have fx1 := xor_one x.1 x1 (by omega)
  have fx2 := xor_one x.2 x3 (by omega)
  obtain ⟨iz, hiz, _⟩ := nodeOf_mem hz
  have lz := (List.getElem?_eq_some_iff.1 hiz).1
  obtain ⟨⟨z1, z2⟩, z3, z4⟩ := hg.ands _ z hiz
  
  have fz1 := xor_one z.1 z1 (by omega)
  have fz2 := xor_one z.2 z3 (by omega)
  refine ACalls.code Try.func76 rfl 90 rfl (by simp) [.cell 6 69] rfl fun Q hQ => ?_
  simp only [ups, PV.up, argEnv]
  have ft := And.intro ty_2 (And.intro ty_3 (And.intro ty_4 (And.intro ty_30 (And.intro ty_33 (And.intro ty_34 (And.intro ty_37 (And.intro ty_69 trivial)))))))
  refine Run.seq ?_
  have fx := And.intro fq (And.intro f0 ft)
  refine Run.go ?_
  refine End.kp [1, 2, 3, 6] ?_
  refine Run.seq ?_
  refine Run.seq ?_
  refine Run.go ?_
  refine End.kp [1, 2, 3, 6, 19] ?_
  refine Run.cond _ rfl (fun hb => ?_) (fun hb => ?_)
  · simp [hne] at hb
    skip
  · have hb2 := hb
    refine Run.skip ?_
    refine End.kp [1, 2, 3, 6] ?_
    refine Run.seq ?_
    refine Run.seq ?_
    have fx := And.intro fq (And.intro f0 ft)
    refine Run.region rfl fun K hK => GOps.sim ?_
    refine GOps.call rfl rfl rfl rfl (by kernel_rfl) (ACalls.sim ?_)
    refine (cm _).mono fun v u hv => ?_
    obtain ⟨rfl, rfl⟩ := hv
    refine ⟨_, _, rfl, GOps.sim ?_⟩
    refine GOps.done (hK _ ?_); clear hK K
    refine End.kp [1, 2, 3, 6, 7, 8] ?_
    refine Run.seq ?_
    refine Run.go ?_
    refine End.kp [1, 2, 3, 6, 7, 28] ?_
    refine Run.cond _ rfl (fun hb => ?_) (fun hb => ?_)
    · have hb2 := hb
      simp at hb
    · have hb2 := hb
      refine Run.skip ?_
      refine End.kp [1, 2, 3, 6] ?_
      refine Run.seq ?_
      refine Run.seq ?_
      have fx := And.intro fq (And.intro f0 ft)
      refine Run.region rfl fun K hK => GOps.sim ?_
      refine GOps.call rfl rfl rfl rfl (by kernel_rfl) (ACalls.sim ?_)
      refine (c1 _).mono fun v u hv => ?_
      obtain ⟨rfl, rfl⟩ := hv
      refine ⟨_, _, rfl, GOps.sim ?_⟩
      refine GOps.done (hK _ ?_); clear hK K
      refine End.kp [1, 2, 3, 6, 9, 10] ?_
      refine Run.seq ?_
      refine Run.go ?_
      refine End.kp [1, 2, 3, 6, 9, 36] ?_
      refine Run.cond _ rfl (fun hb => ?_) (fun hb => ?_)
      · have hb2 := hb
        refine Run.seq ?_
        have fx := And.intro fq (And.intro f0 ft)
        refine Run.go ?_
        refine End.kp [1, 2, 3, 6, 43, 44, 45] ?_
        refine Run.block ?_
        refine Run.ghost (Ghost.form [(1, .i next), (2, .i q), (3, .ptr 0 0 0), (6, .ptr 0 1 0), (43, .ms 0 4 2), (44, .i 2), (45, .i (0 : Nat))] 5 ⟨rfl, rfl, rfl, rfl, rfl, rfl, rfl, trivial⟩ rfl rfl) ?_
        refine Run.loop (fun m st => ∃ i : Nat, m = 2 - i ∧ i ≤ 2 ∧ (∀ i', i' < i → (turnP x i').1 ≠ q) ∧ st = ⟨[(1, .i next), (2, .i q), (3, .ptr 0 0 0), (6, .ptr 0 1 0), (43, .ms 0 4 2), (44, .i 2), (45, .i (i : Nat))], [.box [.im (.sl (strs g.inn)), .im (.sl (strs g.out)), .im (.sl (g.regs.map LReg.im)), .im (.sl (g.ands.map nd)), .im (.sl (ints g.outs))], .box [.i 0, .i 0], .box [.i 0, .i 0], .box [.i x.1, .i x.2], .row 37 2 [[.int .i64 x.1, .int .i64 x.2], [.int .i64 x.2, .int .i64 x.1]] 0], up⟩) 2 ⟨0, rfl, by omega, fun i' h => absurd h (by omega), rfl⟩ fun m st hI => ?_
        obtain ⟨i, rfl, hi, hno, rfl⟩ := hI
        refine Run.seq ?_
        have fx := And.intro fq (And.intro f0 ft)
        refine Run.go ?_
        refine End.kp [1, 2, 3, 6, 43, 44, 45, 46] ?_
        refine Run.seq ?_
        refine Run.cond _ rfl (fun hb => ?_) (fun hb => ?_)
        · have hb2 := of_decide_eq_true hb
          have hin : i < 2 := by omega
          have wi := wsucc hin (by omega)
          have hrow := turn_row x i hin
          have hil : (i : Int) < ((2 : Nat) : Int) := by omega
          have hx2 : 0 ≤ (turnP x i).2 ∧ (turnP x i).2 ≤ 1000000 := by rcases (show i = 0 ∨ i = 1 by omega) with e | e <;> simp [e, turnP, oneOf] <;> omega
          have fx := xor_one (turnP x i).2 hx2.1 (by omega)
          obtain ⟨y, hy⟩ : ∃ y, y = turnP x i := ⟨_, rfl⟩
          rw [← hy] at hrow fx
          refine Run.skip ?_
          refine End.kp [1, 2, 3, 6, 43, 44, 45] ?_
          refine Run.seq ?_
          refine Run.block ?_
          refine Run.seq ?_
          have fx := And.intro (@Int.toNat_natCast) (And.intro (@Int.natCast_nonneg) (And.intro fx (And.intro hil (And.intro hrow (And.intro wi (And.intro fq (And.intro f0 ft)))))))
          refine Run.go ?_
          refine End.kp [1, 2, 3, 6, 12, 43, 44, 45] ?_
          refine Run.seq ?_
          refine Run.go ?_
          refine End.kp [1, 2, 3, 6, 12, 43, 44, 45, 52] ?_
          refine Run.cond _ rfl (fun hb => ?_) (fun hb => ?_)
          · have hb2 : y.1 = q := eq_of_beq hb
            have hF : findV g next q = (flipL y.2, 0) := by
              have := clear_hit q x i hin hno (by rw [← hy]; exact hb2)
              simp only [findV, if_neg hne, hmx, hx, Option.bind_some, this, hy]
            refine Run.seq ?_
            have fx := And.intro (@Int.toNat_natCast) (And.intro (@Int.natCast_nonneg) (And.intro fx (And.intro hil (And.intro hrow (And.intro wi (And.intro fq (And.intro f0 ft)))))))
            refine Run.go ?_
            refine End.kp [6] ?_
            refine Run.resC hQ ?_
            rw [hF]
            exact ⟨rfl, rfl⟩
          · have hb2 : y.1 ≠ q := fun e => by simp [e] at hb
            refine Run.skip ?_
            refine End.blk ?_
            refine End.kp [1, 2, 3, 6, 43, 44, 45] ?_
            have fx := And.intro (@Int.toNat_natCast) (And.intro (@Int.natCast_nonneg) (And.intro fx (And.intro hil (And.intro hrow (And.intro wi (And.intro fq (And.intro f0 ft)))))))
            refine Run.go ?_
            refine End.lp ?_
            refine ⟨2 - (i + 1), _, by omega, Ghost.form [(1, .i next), (2, .i q), (3, .ptr 0 0 0), (6, .ptr 0 1 0), (43, .ms 0 4 2), (44, .i 2), (45, .i (i + 1 : Nat))] 5 ⟨rfl, rfl, rfl, rfl, rfl, rfl, rfl, trivial⟩ rfl rfl, i + 1, rfl, by omega, ?_, rfl⟩
            intro i' h1
            by_cases e : i' = i
            · rw [e, ← hy]
              exact hb2
            · exact hno i' (by omega)
        · have hb2 := of_decide_eq_false hb
          have hi2 : i = 2 := by omega
          have hcl := clear_none q x (fun i' h => hno i' (by omega))
          refine Run.exit rfl ?_
          refine End.kp [1, 2, 3, 6] ?_
          refine Run.seq ?_
          refine Run.seq ?_
          have fx := And.intro fq (And.intro f0 ft)
          refine Run.region rfl fun K hK => GOps.sim ?_
          refine GOps.call rfl rfl rfl rfl (by kernel_rfl) (ACalls.sim ?_)
          refine (c2 _).mono fun v u hv => ?_
          obtain ⟨rfl, rfl⟩ := hv
          refine ⟨_, _, rfl, GOps.sim ?_⟩
          refine GOps.done (hK _ ?_); clear hK K
          refine End.kp [1, 2, 6, 13, 14] ?_
          refine Run.seq ?_
          refine Run.go ?_
          refine End.kp [1, 2, 6, 13, 65] ?_
          refine Run.cond _ rfl (fun hb => ?_) (fun hb => ?_)
          · have hb2 := hb
            refine Run.seq ?_
            have fx := And.intro fq (And.intro f0 ft)
            refine Run.go ?_
            refine End.kp [1, 2, 6, 72, 73, 74] ?_
            refine Run.block ?_
            refine Run.ghost (Ghost.form [(1, .i next), (2, .i q), (6, .ptr 0 1 0), (72, .ms 0 6 2), (73, .i 2), (74, .i (0 : Nat))] 7 ⟨rfl, rfl, rfl, rfl, rfl, rfl, trivial⟩ rfl rfl) ?_
            refine Run.loop (fun m st => ∃ i : Nat, m = 2 - i ∧ i ≤ 2 ∧ (∀ i', i' < i → (turnP z i').1 ≠ flipL q) ∧ st = ⟨[(1, .i next), (2, .i q), (6, .ptr 0 1 0), (72, .ms 0 6 2), (73, .i 2), (74, .i (i : Nat))], [.box [.im (.sl (strs g.inn)), .im (.sl (strs g.out)), .im (.sl (g.regs.map LReg.im)), .im (.sl (g.ands.map nd)), .im (.sl (ints g.outs))], .box [.i 0, .i 0], .box [.i 0, .i 0], .box [.i x.1, .i x.2], .row 37 2 [[.int .i64 x.1, .int .i64 x.2], [.int .i64 x.2, .int .i64 x.1]] 0, .box [.i z.1, .i z.2], .row 37 2 [[.int .i64 z.1, .int .i64 z.2], [.int .i64 z.2, .int .i64 z.1]] 0], up⟩) 2 ⟨0, rfl, by omega, fun i' h => absurd h (by omega), rfl⟩ fun m st hI => ?_
            obtain ⟨i2, rfl, hi2b, hno2, rfl⟩ := hI
            refine Run.seq ?_
            have fx := And.intro fq (And.intro f0 ft)
            refine Run.go ?_
            refine End.kp [1, 2, 6, 72, 73, 74, 75] ?_
            refine Run.seq ?_
            refine Run.cond _ rfl (fun hb => ?_) (fun hb => ?_)
            · have hb2 := of_decide_eq_true hb
              have hin2 : i2 < 2 := by omega
              have wi2 := wsucc hin2 (by omega)
              have hrow2 := turn_row z i2 hin2
              have hil2 : (i2 : Int) < ((2 : Nat) : Int) := by omega
              have hx22 : 0 ≤ (turnP z i2).2 ∧ (turnP z i2).2 ≤ 1000000 := by rcases (show i2 = 0 ∨ i2 = 1 by omega) with e | e <;> simp [e, turnP, oneOf] <;> omega
              have fz := xor_one (turnP z i2).2 hx22.1 (by omega)
              obtain ⟨y2, hy2⟩ : ∃ y, y = turnP z i2 := ⟨_, rfl⟩
              rw [← hy2] at hrow2 fz
              refine Run.skip ?_
              refine End.kp [1, 2, 6, 72, 73, 74] ?_
              refine Run.seq ?_
              refine Run.block ?_
              refine Run.seq ?_
              have fx := And.intro (@Int.toNat_natCast) (And.intro (@Int.natCast_nonneg) (And.intro fz (And.intro hil2 (And.intro hrow2 (And.intro wi2 (And.intro fq (And.intro f0 ft)))))))
              refine Run.go ?_
              refine End.kp [1, 2, 6, 16, 72, 73, 74] ?_
              refine Run.seq ?_
              refine Run.go ?_
              refine End.kp [1, 2, 6, 16, 72, 73, 74, 82] ?_
              refine Run.cond _ rfl (fun hb => ?_) (fun hb => ?_)
              · have hb2 : y2.1 = flipL q := eq_of_beq hb
                have hF : findV g next q = (flipL y2.2, 1) := by
                  have := set_hit q z i2 hin2 hno2 (by rw [← hy2]; exact hb2)
                  simp only [findV, if_neg hne, hmx, hx, hz, Option.bind_some, hcl, Option.bind_some, this, hy2]
                refine Run.seq ?_
                have fx := And.intro (@Int.toNat_natCast) (And.intro (@Int.natCast_nonneg) (And.intro fz (And.intro hil2 (And.intro hrow2 (And.intro wi2 (And.intro fq (And.intro f0 ft)))))))
                refine Run.go ?_
                refine End.kp [6] ?_
                refine Run.resC hQ ?_
                rw [hF]
                exact ⟨rfl, rfl⟩
              · have hb2 : y2.1 ≠ flipL q := fun e => by simp [e] at hb
                refine Run.skip ?_
                refine End.blk ?_
                refine End.kp [1, 2, 6, 72, 73, 74] ?_
                have fx := And.intro (@Int.toNat_natCast) (And.intro (@Int.natCast_nonneg) (And.intro fz (And.intro hil2 (And.intro hrow2 (And.intro wi2 (And.intro fq (And.intro f0 ft)))))))
                refine Run.go ?_
                refine End.lp ?_
                refine ⟨2 - (i2 + 1), _, by omega, Ghost.form [(1, .i next), (2, .i q), (6, .ptr 0 1 0), (72, .ms 0 6 2), (73, .i 2), (74, .i (i2 + 1 : Nat))] 7 ⟨rfl, rfl, rfl, rfl, rfl, rfl, trivial⟩ rfl rfl, i2 + 1, rfl, by omega, ?_, rfl⟩
                intro i' h1
                by_cases e : i' = i2
                · rw [e, ← hy2]
                  exact hb2
                · exact hno2 i' (by omega)
            · have hb2 := of_decide_eq_false hb
              have hF : findV g next q = (1, next) := by
                have := set_none q z (fun i' h => hno2 i' (by omega))
                simp only [findV, if_neg hne, hmx, hx, hz, Option.bind_some, hcl, Option.bind_some, this]
              refine Run.exit rfl ?_
              refine End.kp [1, 6] ?_
              refine Run.seq ?_
              have fx := And.intro fq (And.intro f0 ft)
              refine Run.go ?_
              refine End.kp [6] ?_
              refine Run.resC hQ ?_
              rw [hF]
              exact ⟨rfl, rfl⟩
          · have hb2 := hb
            simp at hb
      · have hb2 := hb
        simp at hb
theorem find_ok (g : LGraph) (hg : GraphOk g) (next q : Int) (h0 : 0 ≤ next) (h1 : next < 2 * (1 + (g.inn.length : Int) + g.regs.length + g.ands.length)) (q0 : 0 ≤ q) (q1 : q < 1000000) (up : Frs) : ACalls Try.prog 76 [g.pv, .i next, .i q] up fun v u => v = .agg [.i (findV g next q).1, .i (findV g next q).2] ∧ u = up := by
  by_cases hne : next = q
  · exact find_same g hg next q h0 h1 q0 q1 hne up
  · cases hmx : muxV g next q with
    | some s => exact find_mux g hg next q h0 h1 q0 q1 hne s hmx up
    | none =>
      cases hx : nodeOf g next with
      | none =>
        cases hz : nodeOf g (flipL next) with
        | none => exact find_00 g hg next q h0 h1 q0 q1 hne hmx hx hz up
        | some z => exact find_01 g hg next q h0 h1 q0 q1 hne hmx z hx hz up
      | some x =>
        cases hz : nodeOf g (flipL next) with
        | none => exact find_10 g hg next q h0 h1 q0 q1 hne hmx x hx hz up
        | some z => exact find_11 g hg next q h0 h1 q0 q1 hne hmx x z hx hz up
end Go.Proofs.YtdgpmopcmacicaaPi

/- Plain law: drawn names are in order, and no two of them are the same. -/
set_option linter.unusedVariables false
set_option linter.unusedSimpArgs false
namespace Go.Proofs.YtdgpmopcmacicaaPi

end Go.Proofs.YtdgpmopcmacicaaPi

/- The walk of Moving, and that drawn graphs are in order. -/
set_option linter.unusedVariables false
set_option linter.unusedSimpArgs false
namespace Go.Proofs.YtdgpmopcmacicaaPi
set_option maxHeartbeats 4000000
-- GONE Moving_ok
end Go.Proofs.YtdgpmopcmacicaaPi

/- Plain law: drawn graphs are in order. -/
set_option linter.unusedVariables false
set_option linter.unusedSimpArgs false
namespace Go.Proofs.YtdgpmopcmacicaaPi
set_option maxHeartbeats 4000000
end Go.Proofs.YtdgpmopcmacicaaPi

