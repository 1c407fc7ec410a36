/- The walks of the checks of graphs: First, before, Check; and of their values. -/
import Derived.Test.YtkmnmokjlpenhaaWH
import Derived.Test.YtkmnmokjlpenhaaWM
set_option linter.unusedVariables false
set_option linter.unusedSimpArgs false
set_option maxRecDepth 100000
namespace Go.Proofs.YtkmnmokjlpenhaaPi
set_option maxHeartbeats 2000000

structure GSmall (g : LGraph) : Prop where
  inn : g.inn.length ≤ 128
  out : g.out.length ≤ 128
  regs : g.regs.length ≤ 288
  ands : g.ands.length ≤ 4000
  outs : g.outs.length ≤ 128
abbrev firstG (g : LGraph) : Int := 1 + g.inn.length + g.regs.length
abbrev nodesG (g : LGraph) : Int := 1 + g.inn.length + g.regs.length + g.ands.length
structure GraphOk (g : LGraph) : Prop where
  small : GSmall g
  names : ∀ s ∈ g.inn ++ g.regs.map LReg.name, NameOk s
  nodup : (g.inn ++ g.regs.map LReg.name).Nodup
  onames : ∀ s ∈ g.out, NameOk s
  onodup : g.out.Nodup
  olen : g.out.length = g.outs.length
  ands : ∀ (i : Nat) (p : Int × Int), g.ands[i]? = some p → (0 ≤ p.1 ∧ p.1 < 2 * (1 + (g.inn.length : Int) + g.regs.length + i)) ∧ 0 ≤ p.2 ∧ p.2 < 2 * (1 + (g.inn.length : Int) + g.regs.length + i)
  regs : ∀ r ∈ g.regs, 0 ≤ r.next ∧ r.next < 2 * (1 + (g.inn.length : Int) + g.regs.length + g.ands.length)
  outs : ∀ x ∈ g.outs, 0 ≤ x ∧ x < 2 * (1 + (g.inn.length : Int) + g.regs.length + g.ands.length)
theorem reg_at (l : List LReg) (i : Nat) (h : i < l.length) : ∃ r, l[i]? = some r ∧ r ∈ l ∧ (l.map LReg.im)[i]? = some [.str r.name, .int .i64 r.next, .bool r.init] :=
  ⟨l[i], by simp [h], List.getElem_mem h, by simp [h]⟩
theorem node_at (l : List (Int × Int)) (i : Nat) (h : i < l.length) : ∃ p, l[i]? = some p ∧ p ∈ l ∧ (l.map nd)[i]? = some [.int .i64 p.1, .int .i64 p.2] :=
  ⟨l[i], by simp [h], List.getElem_mem h, by simp [h]⟩
theorem tmod2 (x : Int) (h : 0 ≤ x) : x.tmod 2 = x % 2 := Int.tmod_eq_emod_of_nonneg h
theorem tdiv2 (x : Int) (h : 0 ≤ x) (h2 : x ≤ 1000000000) : IntKind.i64.wrap (x.tdiv 2) = x / 2 := by
  rw [Int.tdiv_eq_ediv_of_nonneg h]
  exact wrap64 (by omega)
theorem GFirst_ok (g : LGraph) (hg : GSmall g) (up : Frs) : ACalls Try.prog 120 [g.pv] up fun v u => v = .i (1 + g.inn.length + g.regs.length) ∧ u = up := by
  obtain ⟨z1, z2, z3, z4, z5⟩ := hg
  have w1 : IntKind.i64.wrap (1 + (g.inn.length : Int)) = 1 + (g.inn.length : Int) := wrap64 (by omega)
  have w2 : IntKind.i64.wrap (1 + (g.inn.length : Int) + g.regs.length) = 1 + (g.inn.length : Int) + g.regs.length := wrap64 (by omega)
  refine ACalls.code Try.func120 rfl 11 rfl (by simp) [.tmp 2] rfl fun Q hQ => ?_
  simp only [ups, PV.up, argEnv]
  have ft := And.intro ty_2 (And.intro ty_3 (And.intro ty_9 (And.intro ty_26 (And.intro ty_47 (And.intro ty_51 (And.intro ty_69 trivial))))))
  refine Run.seq ?_
  have fx := And.intro w2 (And.intro w1 (And.intro rim_len (And.intro strs_len ft)))
  refine Run.go ?_
  refine End.kp [1] ?_
  refine Run.seq ?_
  refine Run.go ?_
  refine End.kp [2] ?_
  refine Run.ret (hQ _ _ ⟨.inr rfl, _, rfl, _, rfl, ?_⟩)
  exact ⟨rfl, rfl⟩
theorem before_neg (l n : Int) (h0 : l < 0) (up : Frs) : ACalls Try.prog 137 [.i l, .i n] up fun v u => v = .im (.bool false) ∧ u = up := by
  have d1 : decide (0 ≤ l) = false := decide_eq_false (by omega)
  refine ACalls.code Try.func137 rfl 13 rfl (by simp) [.tmp 4] rfl fun Q hQ => ?_
  simp only [ups, PV.up, argEnv]
  have ft := And.intro ty_3 (And.intro ty_4 (And.intro ty_62 trivial))
  refine Run.seq ?_
  have fx := And.intro (@ge_iff_le Int _) (And.intro d1 ft)
  refine Run.go ?_
  refine End.kp [0, 1] ?_
  refine Run.seq ?_
  refine Run.go ?_
  refine End.kp [4] ?_
  refine Run.ret (hQ _ _ ⟨.inr rfl, _, rfl, _, rfl, ?_⟩)
  exact ⟨rfl, rfl⟩
theorem before_pos (l n : Int) (h0 : 0 ≤ l) (hn : 0 ≤ n) (hn2 : n ≤ 1000000) (up : Frs) : ACalls Try.prog 137 [.i l, .i n] up fun v u => v = .im (.bool (decide (l < 2 * n))) ∧ u = up := by
  have d1 : decide (0 ≤ l) = true := decide_eq_true (by omega)
  have w1 : IntKind.i64.wrap (2 * n) = 2 * n := wrap64 (by omega)
  refine ACalls.code Try.func137 rfl 13 rfl (by simp) [.tmp 4] rfl fun Q hQ => ?_
  simp only [ups, PV.up, argEnv]
  have ft := And.intro ty_3 (And.intro ty_4 (And.intro ty_62 trivial))
  refine Run.seq ?_
  have fx := And.intro (@ge_iff_le Int _) (And.intro w1 (And.intro d1 ft))
  refine Run.go ?_
  refine End.kp [0, 1] ?_
  refine Run.seq ?_
  refine Run.go ?_
  refine End.kp [4] ?_
  refine Run.ret (hQ _ _ ⟨.inr rfl, _, rfl, _, rfl, ?_⟩)
  exact ⟨rfl, rfl⟩
theorem before_ok (l n : Int) (h0 : 0 ≤ l) (h1 : l < 2 * n) (hn2 : n ≤ 1000000) (up : Frs) : ACalls Try.prog 137 [.i l, .i n] up fun v u => v = .im (.bool true) ∧ u = up :=
  (before_pos l n h0 (by omega) hn2 up).mono fun v u ⟨h1', h2⟩ => ⟨by rw [h1']; simp; omega, h2⟩
abbrev gnms (g : LGraph) (i : Nat) : List ByteArray := g.inn ++ (g.regs.take i).map LReg.name
theorem gnms_len (g : LGraph) (i : Nat) (h : i ≤ g.regs.length) : (strs (gnms g i)).length = g.inn.length + i := by simp; omega
theorem gnms_next (g : LGraph) (i : Nat) (f : LReg) (h : g.regs[i]? = some f) : gnms g (i + 1) = gnms g i ++ [f.name] := by simp [gnms, List.take_add_one, h]
theorem Check_ok (g : LGraph) (hg : GraphOk g) (up : Frs) : ACalls Try.prog 86 [g.pv] up fun v u => v = .i 0 ∧ u = up := by
  have hsm := hg.small
  obtain ⟨z1, z2, z3, z4, z5⟩ := hg.small
  have d1 : decide ((g.inn.length : Int) > 128) = false := decide_eq_false (by omega)
  have d2 : decide ((g.out.length : Int) > 128) = false := decide_eq_false (by omega)
  have d3 : decide ((g.regs.length : Int) > 288) = false := decide_eq_false (by omega)
  have d4 : decide ((g.ands.length : Int) > 4000) = false := decide_eq_false (by omega)
  have d5 : ((g.out.length : Int) != g.outs.length) = false := by rw [hg.olen]; simp
  have wn : IntKind.i64.wrap (1 + (g.inn.length : Int) + g.regs.length + g.ands.length) = 1 + (g.inn.length : Int) + g.regs.length + g.ands.length := wrap64 (by omega)
  refine ACalls.code Try.func86 rfl 128 rfl (by simp) [.tmp 2] rfl fun Q hQ => ?_
  simp only [ups, PV.up, argEnv]
  have ft := And.intro ty_2 (And.intro ty_3 (And.intro ty_4 (And.intro ty_9 (And.intro ty_26 (And.intro ty_34 (And.intro ty_47 (And.intro ty_48 (And.intro ty_49 (And.intro ty_51 (And.intro ty_62 (And.intro ty_69 (And.intro ty_137 trivial))))))))))))
  refine Run.seq ?_
  have fx := And.intro d5 (And.intro d4 (And.intro d3 (And.intro d2 (And.intro d1 (And.intro ints_len (And.intro nd_len (And.intro rim_len (And.intro strs_len ft))))))))
  refine Run.go ?_
  refine End.kp [1] ?_
  refine Run.seq ?_
  refine Run.seq ?_
  refine Run.go ?_
  refine End.kp [1, 36] ?_
  refine Run.cond _ rfl (fun hb => ?_) (fun hb => ?_)
  · have hb := hb
    simp at hb
  · have hb := hb
    refine Run.skip ?_
    refine End.kp [1] ?_
    refine Run.seq ?_
    refine Run.seq ?_
    have fx := And.intro d5 (And.intro d4 (And.intro d3 (And.intro d2 (And.intro d1 (And.intro ints_len (And.intro nd_len (And.intro rim_len (And.intro strs_len ft))))))))
    refine Run.go ?_
    refine End.kp [1, 43] ?_
    refine Run.cond _ rfl (fun hb => ?_) (fun hb => ?_)
    · have hb := hb
      simp at hb
    · have hb := hb
      refine Run.skip ?_
      refine End.kp [1] ?_
      refine Run.seq ?_
      have fx := And.intro d5 (And.intro d4 (And.intro d3 (And.intro d2 (And.intro d1 (And.intro ints_len (And.intro nd_len (And.intro rim_len (And.intro strs_len ft))))))))
      refine Run.region rfl fun K hK => GOps.sim ?_
      refine GOps.call rfl rfl rfl rfl (by kernel_rfl) (ACalls.sim ?_)
      refine (CloneX_ok g.inn (by omega) _ _).mono fun v u hv => ?_
      obtain ⟨rfl, rfl⟩ := hv
      refine ⟨_, _, rfl, GOps.sim ?_⟩
      refine GOps.done (hK _ ?_); clear hK K
      refine End.kp [1, 3] ?_
      refine Run.seq ?_
      refine Run.seq ?_
      refine Run.go ?_
      refine End.kp [1, 3, 48, 49, 50] ?_
      refine Run.block ?_
      refine Run.ghost (Ghost.form [(1, .ptr 0 0 0), (3, .ms 0 1 (g.inn.length + 0)), (48, .im (.sl (g.regs.map LReg.im))), (49, .i g.regs.length), (50, .i (0 : Nat))] 2 ⟨rfl, rfl, rfl, rfl, rfl, trivial⟩ rfl rfl) ?_
      refine Run.loop (fun m st => ∃ (i : Nat), m = g.regs.length - i ∧ i ≤ g.regs.length ∧ st = ⟨[(1, .ptr 0 0 0), (3, .ms 0 1 (g.inn.length + i)), (48, .im (.sl (g.regs.map LReg.im))), (49, .i g.regs.length), (50, .i (i : Nat))], [.box [.im (.sl (strs g.inn)), .im (.sl (strs g.out)), .im (.sl (g.regs.map LReg.im)), .im (.sl (g.ands.map nd)), .im (.sl (ints g.outs))], .row 9 1 (strs (gnms g i)) 0], up⟩) g.regs.length ⟨0, rfl, by omega, by simp⟩ fun m st hI => ?_
      obtain ⟨i, rfl, hi, rfl⟩ := hI
      have hsl := gnms_len g i hi
      have hap : (g.inn.length + i + 1) * 16 ≤ 140737488355328 := by omega
      refine Run.seq ?_
      have fx := And.intro hap (And.intro hsl (And.intro d5 (And.intro d4 (And.intro d3 (And.intro d2 (And.intro d1 (And.intro ints_len (And.intro nd_len (And.intro rim_len (And.intro strs_len ft))))))))))
      refine Run.go ?_
      refine End.kp [1, 3, 48, 49, 50, 51] ?_
      refine Run.seq ?_
      refine Run.cond _ rfl (fun hb => ?_) (fun hb => ?_)
      · have hb := of_decide_eq_true hb
        have hin : i < g.regs.length := by omega
        have wi := wsucc hin (by omega)
        obtain ⟨f, hf, hfm, hgt⟩ := reg_at g.regs i hin
        refine Run.skip ?_
        refine End.kp [1, 3, 48, 49, 50] ?_
        refine Run.seq ?_
        refine Run.block ?_
        refine Run.seq ?_
        have fx := And.intro (@Int.toNat_natCast) (And.intro (@Int.natCast_nonneg) (And.intro hgt (And.intro wi (And.intro hap (And.intro hsl (And.intro d5 (And.intro d4 (And.intro d3 (And.intro d2 (And.intro d1 (And.intro ints_len (And.intro nd_len (And.intro rim_len (And.intro strs_len ft))))))))))))))
        refine Run.go ?_
        refine End.kp [1, 3, 5, 48, 49, 50] ?_
        refine Run.go ?_
        refine End.blk ?_
        refine End.kp [1, 3, 48, 49, 50] ?_
        refine Run.go ?_
        refine End.lp ?_
        refine ⟨g.regs.length - (i + 1), _, by omega, Ghost.form [(1, .ptr 0 0 0), (3, .ms 0 1 (g.inn.length + (i + 1))), (48, .im (.sl (g.regs.map LReg.im))), (49, .i g.regs.length), (50, .i (i + 1 : Nat))] 2 ⟨rfl, rfl, rfl, rfl, rfl, trivial⟩ rfl rfl, i + 1, rfl, by omega, ?_⟩
        rw [gnms_next g i f hf]
        simp
      · have hb := of_decide_eq_false hb
        have hiN : i = g.regs.length := by omega
        subst hiN
        have hall : gnms g g.regs.length = g.inn ++ g.regs.map LReg.name := by simp [gnms]
        refine Run.exit rfl ?_
        refine End.kp [1, 3] ?_
        refine Run.seq ?_
        refine Run.seq ?_
        have fx := And.intro hap (And.intro hsl (And.intro d5 (And.intro d4 (And.intro d3 (And.intro d2 (And.intro d1 (And.intro ints_len (And.intro nd_len (And.intro rim_len (And.intro strs_len ft))))))))))
        refine Run.region rfl fun K hK => GOps.sim ?_
        refine GOps.call rfl rfl rfl rfl (by kernel_rfl) (ACalls.sim ?_)
        refine (Names_ok (gnms g g.regs.length) (by rw [hall]; simp; omega) (by rw [hall]; exact hg.names) (by rw [hall]; exact hg.nodup) _).mono fun v u hv => ?_
        obtain ⟨rfl, rfl⟩ := hv
        refine ⟨_, _, rfl, GOps.sim ?_⟩
        refine GOps.done (hK _ ?_); clear hK K
        refine End.kp [1, 6] ?_
        refine Run.seq ?_
        refine Run.go ?_
        refine End.kp [1, 6, 63] ?_
        refine Run.cond _ rfl (fun hb => ?_) (fun hb => ?_)
        · have hb := hb
          simp at hb
        · have hb := hb
          refine Run.skip ?_
          refine End.kp [1] ?_
          refine Run.seq ?_
          refine Run.seq ?_
          have fx := And.intro hap (And.intro hsl (And.intro d5 (And.intro d4 (And.intro d3 (And.intro d2 (And.intro d1 (And.intro ints_len (And.intro nd_len (And.intro rim_len (And.intro strs_len ft))))))))))
          refine Run.region rfl fun K hK => GOps.sim ?_
          refine GOps.call rfl rfl rfl rfl (by kernel_rfl) (ACalls.sim ?_)
          refine (Names_ok g.out (by omega) hg.onames hg.onodup _).mono fun v u hv => ?_
          obtain ⟨rfl, rfl⟩ := hv
          refine ⟨_, _, rfl, GOps.sim ?_⟩
          refine GOps.done (hK _ ?_); clear hK K
          refine End.kp [1, 7] ?_
          refine Run.seq ?_
          refine Run.go ?_
          refine End.kp [1, 7, 69] ?_
          refine Run.cond _ rfl (fun hb => ?_) (fun hb => ?_)
          · have hb := hb
            simp at hb
          · have hb := hb
            refine Run.skip ?_
            refine End.kp [1] ?_
            refine Run.seq ?_
            have fx := And.intro hap (And.intro hsl (And.intro d5 (And.intro d4 (And.intro d3 (And.intro d2 (And.intro d1 (And.intro ints_len (And.intro nd_len (And.intro rim_len (And.intro strs_len ft))))))))))
            refine Run.region rfl fun K hK => GOps.sim ?_
            refine GOps.call rfl rfl rfl rfl (by kernel_rfl) (ACalls.sim ?_)
            refine (GFirst_ok g hsm _).mono fun v u hv => ?_
            obtain ⟨rfl, rfl⟩ := hv
            refine ⟨_, _, rfl, GOps.sim ?_⟩
            refine GOps.done (hK _ ?_); clear hK K
            refine End.kp [1, 8] ?_
            refine Run.seq ?_
            refine Run.seq ?_
            refine Run.go ?_
            refine End.kp [1, 8, 74, 75, 76] ?_
            refine Run.block ?_
            refine Run.ghost (Ghost.form [(1, .ptr 0 0 0), (8, .i (1 + g.inn.length + g.regs.length)), (74, .im (.sl (g.ands.map nd))), (75, .i g.ands.length), (76, .i (0 : Nat))] 1 ⟨rfl, rfl, rfl, rfl, rfl, trivial⟩ rfl rfl) ?_
            refine Run.loop (fun m st => ∃ (i : Nat), m = g.ands.length - i ∧ i ≤ g.ands.length ∧ st = ⟨[(1, .ptr 0 0 0), (8, .i (1 + g.inn.length + g.regs.length)), (74, .im (.sl (g.ands.map nd))), (75, .i g.ands.length), (76, .i (i : Nat))], [.box [.im (.sl (strs g.inn)), .im (.sl (strs g.out)), .im (.sl (g.regs.map LReg.im)), .im (.sl (g.ands.map nd)), .im (.sl (ints g.outs))]], up⟩) g.ands.length ⟨0, rfl, by omega, rfl⟩ fun m st hI => ?_
            obtain ⟨i, rfl, hi, rfl⟩ := hI
            refine Run.seq ?_
            have fx := And.intro hap (And.intro hsl (And.intro d5 (And.intro d4 (And.intro d3 (And.intro d2 (And.intro d1 (And.intro ints_len (And.intro nd_len (And.intro rim_len (And.intro strs_len ft))))))))))
            refine Run.go ?_
            refine End.kp [1, 8, 74, 75, 76, 77] ?_
            refine Run.seq ?_
            refine Run.cond _ rfl (fun hb => ?_) (fun hb => ?_)
            · have hb := of_decide_eq_true hb
              have hin : i < g.ands.length := by omega
              have wi := wsucc hin (by omega)
              obtain ⟨p, hpi, hpm, hp⟩ := node_at g.ands i hin
              obtain ⟨⟨e1, e2⟩, e3, e4⟩ := hg.ands i p hpi
              have wfi : IntKind.i64.wrap (1 + (g.inn.length : Int) + g.regs.length + i) = 1 + (g.inn.length : Int) + g.regs.length + i := wrap64 (by omega)
              refine Run.skip ?_
              refine End.kp [1, 8, 74, 75, 76] ?_
              refine Run.seq ?_
              refine Run.block ?_
              refine Run.seq ?_
              have fx := And.intro (@Int.toNat_natCast) (And.intro (@Int.natCast_nonneg) (And.intro wfi (And.intro hp (And.intro wi (And.intro hap (And.intro hsl (And.intro d5 (And.intro d4 (And.intro d3 (And.intro d2 (And.intro d1 (And.intro ints_len (And.intro nd_len (And.intro rim_len (And.intro strs_len ft)))))))))))))))
              refine Run.go ?_
              refine End.kp [1, 8, 9, 10, 74, 75, 76] ?_
              refine Run.seq ?_
              refine Run.region rfl fun K hK => GOps.sim ?_
              refine GOps.call rfl rfl rfl rfl (by kernel_rfl) (ACalls.sim ?_)
              refine (before_ok p.1 (1 + g.inn.length + g.regs.length + i) e1 e2 (by omega) _).mono fun v u hv => ?_
              obtain ⟨rfl, rfl⟩ := hv
              refine ⟨_, _, rfl, GOps.sim ?_⟩
              refine GOps.call rfl rfl rfl rfl (by kernel_rfl) (ACalls.sim ?_)
              refine (before_ok p.2 (1 + g.inn.length + g.regs.length + i) e3 e4 (by omega) _).mono fun v u hv => ?_
              obtain ⟨rfl, rfl⟩ := hv
              refine ⟨_, _, rfl, GOps.sim ?_⟩
              refine GOps.done (hK _ ?_); clear hK K
              refine End.kp [1, 8, 74, 75, 76, 96] ?_
              refine Run.cond _ rfl (fun hb => ?_) (fun hb => ?_)
              · have hb := hb
                simp at hb
              · have hb := hb
                refine Run.skip ?_
                refine End.blk ?_
                refine End.kp [1, 8, 74, 75, 76] ?_
                have fx := And.intro (@Int.toNat_natCast) (And.intro (@Int.natCast_nonneg) (And.intro wfi (And.intro hp (And.intro wi (And.intro hap (And.intro hsl (And.intro d5 (And.intro d4 (And.intro d3 (And.intro d2 (And.intro d1 (And.intro ints_len (And.intro nd_len (And.intro rim_len (And.intro strs_len ft)))))))))))))))
                refine Run.go ?_
                refine End.lp ?_
                refine ⟨g.ands.length - (i + 1), _, by omega, Ghost.form [(1, .ptr 0 0 0), (8, .i (1 + g.inn.length + g.regs.length)), (74, .im (.sl (g.ands.map nd))), (75, .i g.ands.length), (76, .i (i + 1 : Nat))] 1 ⟨rfl, rfl, rfl, rfl, rfl, trivial⟩ rfl rfl, i + 1, rfl, by omega, rfl⟩
            · have hb := of_decide_eq_false hb
              refine Run.exit rfl ?_
              refine End.kp [1, 8] ?_
              refine Run.seq ?_
              have fx := And.intro wn (And.intro hap (And.intro hsl (And.intro d5 (And.intro d4 (And.intro d3 (And.intro d2 (And.intro d1 (And.intro ints_len (And.intro nd_len (And.intro rim_len (And.intro strs_len ft)))))))))))
              refine Run.go ?_
              refine End.kp [1, 8] ?_
              refine Run.seq ?_
              refine Run.seq ?_
              refine Run.go ?_
              refine End.kp [1, 8, 104, 105, 106] ?_
              refine Run.block ?_
              refine Run.ghost (Ghost.form [(1, .ptr 0 0 0), (8, .i (1 + g.inn.length + g.regs.length + g.ands.length)), (104, .im (.sl (g.regs.map LReg.im))), (105, .i g.regs.length), (106, .i (0 : Nat))] 1 ⟨rfl, rfl, rfl, rfl, rfl, trivial⟩ rfl rfl) ?_
              refine Run.loop (fun m st => ∃ (i : Nat), m = g.regs.length - i ∧ i ≤ g.regs.length ∧ st = ⟨[(1, .ptr 0 0 0), (8, .i (1 + g.inn.length + g.regs.length + g.ands.length)), (104, .im (.sl (g.regs.map LReg.im))), (105, .i g.regs.length), (106, .i (i : Nat))], [.box [.im (.sl (strs g.inn)), .im (.sl (strs g.out)), .im (.sl (g.regs.map LReg.im)), .im (.sl (g.ands.map nd)), .im (.sl (ints g.outs))]], up⟩) g.regs.length ⟨0, rfl, by omega, rfl⟩ fun m st hI => ?_
              obtain ⟨i, rfl, hi, rfl⟩ := hI
              refine Run.seq ?_
              have fx := And.intro wn (And.intro hap (And.intro hsl (And.intro d5 (And.intro d4 (And.intro d3 (And.intro d2 (And.intro d1 (And.intro ints_len (And.intro nd_len (And.intro rim_len (And.intro strs_len ft)))))))))))
              refine Run.go ?_
              refine End.kp [1, 8, 104, 105, 106, 107] ?_
              refine Run.seq ?_
              refine Run.cond _ rfl (fun hb => ?_) (fun hb => ?_)
              · have hb := of_decide_eq_true hb
                have hin : i < g.regs.length := by omega
                have wi := wsucc hin (by omega)
                obtain ⟨f, hf, hfm, hgt⟩ := reg_at g.regs i hin
                obtain ⟨e1, e2⟩ := hg.regs f hfm
                refine Run.skip ?_
                refine End.kp [1, 8, 104, 105, 106] ?_
                refine Run.seq ?_
                refine Run.block ?_
                refine Run.seq ?_
                have fx := And.intro (@Int.toNat_natCast) (And.intro (@Int.natCast_nonneg) (And.intro hgt (And.intro wi (And.intro wn (And.intro hap (And.intro hsl (And.intro d5 (And.intro d4 (And.intro d3 (And.intro d2 (And.intro d1 (And.intro ints_len (And.intro nd_len (And.intro rim_len (And.intro strs_len ft)))))))))))))))
                refine Run.go ?_
                refine End.kp [1, 8, 12, 104, 105, 106] ?_
                refine Run.seq ?_
                refine Run.region rfl fun K hK => GOps.sim ?_
                refine GOps.call rfl rfl rfl rfl (by kernel_rfl) (ACalls.sim ?_)
                refine (before_ok f.next (1 + g.inn.length + g.regs.length + g.ands.length) e1 e2 (by omega) _).mono fun v u hv => ?_
                obtain ⟨rfl, rfl⟩ := hv
                refine ⟨_, _, rfl, GOps.sim ?_⟩
                refine GOps.done (hK _ ?_); clear hK K
                refine End.kp [1, 8, 104, 105, 106, 114] ?_
                refine Run.cond _ rfl (fun hb => ?_) (fun hb => ?_)
                · have hb := hb
                  simp at hb
                · have hb := hb
                  refine Run.skip ?_
                  refine End.blk ?_
                  refine End.kp [1, 8, 104, 105, 106] ?_
                  have fx := And.intro (@Int.toNat_natCast) (And.intro (@Int.natCast_nonneg) (And.intro hgt (And.intro wi (And.intro wn (And.intro hap (And.intro hsl (And.intro d5 (And.intro d4 (And.intro d3 (And.intro d2 (And.intro d1 (And.intro ints_len (And.intro nd_len (And.intro rim_len (And.intro strs_len ft)))))))))))))))
                  refine Run.go ?_
                  refine End.lp ?_
                  refine ⟨g.regs.length - (i + 1), _, by omega, Ghost.form [(1, .ptr 0 0 0), (8, .i (1 + g.inn.length + g.regs.length + g.ands.length)), (104, .im (.sl (g.regs.map LReg.im))), (105, .i g.regs.length), (106, .i (i + 1 : Nat))] 1 ⟨rfl, rfl, rfl, rfl, rfl, trivial⟩ rfl rfl, i + 1, rfl, by omega, rfl⟩
              · have hb := of_decide_eq_false hb
                refine Run.exit rfl ?_
                refine End.kp [1, 8] ?_
                refine Run.seq ?_
                refine Run.seq ?_
                have fx := And.intro wn (And.intro hap (And.intro hsl (And.intro d5 (And.intro d4 (And.intro d3 (And.intro d2 (And.intro d1 (And.intro ints_len (And.intro nd_len (And.intro rim_len (And.intro strs_len ft)))))))))))
                refine Run.go ?_
                refine End.kp [8, 117, 118, 119] ?_
                refine Run.block ?_
                refine Run.ghost (Ghost.form [(8, .i (1 + g.inn.length + g.regs.length + g.ands.length)), (117, .im (.sl (ints g.outs))), (118, .i g.outs.length), (119, .i (0 : Nat))] 0 ⟨rfl, rfl, rfl, rfl, trivial⟩ rfl rfl) ?_
                refine Run.loop (fun m st => ∃ (i : Nat), m = g.outs.length - i ∧ i ≤ g.outs.length ∧ st = ⟨[(8, .i (1 + g.inn.length + g.regs.length + g.ands.length)), (117, .im (.sl (ints g.outs))), (118, .i g.outs.length), (119, .i (i : Nat))], [], up⟩) g.outs.length ⟨0, rfl, by omega, rfl⟩ fun m st hI => ?_
                obtain ⟨i, rfl, hi, rfl⟩ := hI
                refine Run.seq ?_
                have fx := And.intro wn (And.intro hap (And.intro hsl (And.intro d5 (And.intro d4 (And.intro d3 (And.intro d2 (And.intro d1 (And.intro ints_len (And.intro nd_len (And.intro rim_len (And.intro strs_len ft)))))))))))
                refine Run.go ?_
                refine End.kp [8, 117, 118, 119, 120] ?_
                refine Run.seq ?_
                refine Run.cond _ rfl (fun hb => ?_) (fun hb => ?_)
                · have hb := of_decide_eq_true hb
                  have hin : i < g.outs.length := by omega
                  have wi := wsucc hin (by omega)
                  obtain ⟨x, _, hxm, hx⟩ := int_at g.outs i hin
                  obtain ⟨e1, e2⟩ := hg.outs x hxm
                  refine Run.skip ?_
                  refine End.kp [8, 117, 118, 119] ?_
                  refine Run.seq ?_
                  refine Run.block ?_
                  refine Run.seq ?_
                  have fx := And.intro (@Int.toNat_natCast) (And.intro (@Int.natCast_nonneg) (And.intro hx (And.intro wi (And.intro wn (And.intro hap (And.intro hsl (And.intro d5 (And.intro d4 (And.intro d3 (And.intro d2 (And.intro d1 (And.intro ints_len (And.intro nd_len (And.intro rim_len (And.intro strs_len ft)))))))))))))))
                  refine Run.go ?_
                  refine End.kp [8, 14, 117, 118, 119] ?_
                  refine Run.seq ?_
                  refine Run.region rfl fun K hK => GOps.sim ?_
                  refine GOps.call rfl rfl rfl rfl (by kernel_rfl) (ACalls.sim ?_)
                  refine (before_ok x (1 + g.inn.length + g.regs.length + g.ands.length) e1 e2 (by omega) _).mono fun v u hv => ?_
                  obtain ⟨rfl, rfl⟩ := hv
                  refine ⟨_, _, rfl, GOps.sim ?_⟩
                  refine GOps.done (hK _ ?_); clear hK K
                  refine End.kp [8, 117, 118, 119, 126] ?_
                  refine Run.cond _ rfl (fun hb => ?_) (fun hb => ?_)
                  · have hb := hb
                    simp at hb
                  · have hb := hb
                    refine Run.skip ?_
                    refine End.blk ?_
                    refine End.kp [8, 117, 118, 119] ?_
                    have fx := And.intro (@Int.toNat_natCast) (And.intro (@Int.natCast_nonneg) (And.intro hx (And.intro wi (And.intro wn (And.intro hap (And.intro hsl (And.intro d5 (And.intro d4 (And.intro d3 (And.intro d2 (And.intro d1 (And.intro ints_len (And.intro nd_len (And.intro rim_len (And.intro strs_len ft)))))))))))))))
                    refine Run.go ?_
                    refine End.lp ?_
                    refine ⟨g.outs.length - (i + 1), _, by omega, Ghost.form [(8, .i (1 + g.inn.length + g.regs.length + g.ands.length)), (117, .im (.sl (ints g.outs))), (118, .i g.outs.length), (119, .i (i + 1 : Nat))] 0 ⟨rfl, rfl, rfl, rfl, trivial⟩ rfl rfl, i + 1, rfl, by omega, rfl⟩
                · have hb := of_decide_eq_false hb
                  refine Run.exit rfl ?_
                  refine End.kp [] ?_
                  refine Run.seq ?_
                  have fx := And.intro wn (And.intro hap (And.intro hsl (And.intro d5 (And.intro d4 (And.intro d3 (And.intro d2 (And.intro d1 (And.intro ints_len (And.intro nd_len (And.intro rim_len (And.intro strs_len ft)))))))))))
                  refine Run.go ?_
                  refine End.kp [2] ?_
                  refine Run.ret (hQ _ _ ⟨.inr rfl, _, rfl, _, rfl, ?_⟩)
                  exact ⟨rfl, rfl⟩
abbrev vnot (x : Int) : Int := bits .xor .u64 (if IntKind.u64.signed = true then -1 else IntKind.u64.max) x
def ofV (v : List Int) (l : Int) : Int := if l % 2 = 1 then vnot (v.getD (l / 2).toNat 0) else v.getD (l / 2).toNat 0
def valsA : List (Int × Int) → List Int → List Int
  | [], v => v
  | p :: ps, v => valsA ps (v ++ [bits .and .u64 (ofV v p.1) (ofV v p.2)])
def graphVals (g : LGraph) (inn st : List Int) : List Int := valsA g.ands ([0] ++ inn ++ st)
theorem valsA_len : ∀ (ps : List (Int × Int)) (v : List Int), (valsA ps v).length = v.length + ps.length
  | [], v => by simp [valsA]
  | p :: ps, v => by
    rw [valsA, valsA_len ps]
    simp
    omega
theorem graphVals_len (g : LGraph) (inn st : List Int) (h1 : inn.length = g.inn.length) (h2 : st.length = g.regs.length) : (graphVals g inn st).length = 1 + g.inn.length + g.regs.length + g.ands.length := by
  rw [graphVals, valsA_len]
  simp
  omega
def outsG (g : LGraph) (v : List Int) : List Int := g.outs.map (ofV v)
def nextsG (g : LGraph) (v : List Int) : List Int := g.regs.map fun r => ofV v r.next
theorem node_drop (l : List (Int × Int)) (i : Nat) (p : Int × Int) (h : l[i]? = some p) : l.drop i = p :: l.drop (i + 1) := by
  obtain ⟨hi, rfl⟩ := List.getElem?_eq_some_iff.1 h
  exact List.drop_eq_getElem_cons hi
theorem int_snoc (l : List Int) (i : Nat) (r : Int) (h : l[i]? = some r) : l.take (i + 1) = l.take i ++ [r] := by simp [List.take_add_one, h]
theorem reg_snoc (l : List LReg) (i : Nat) (r : LReg) (h : l[i]? = some r) : l.take (i + 1) = l.take i ++ [r] := by simp [List.take_add_one, h]
theorem of_ok (v : List Int) (l : Int) (h0 : 0 ≤ l) (h1 : l < 2 * (v.length : Int)) (hv2 : v.length ≤ 100000) (up : Frs) : ACalls Try.prog 140 [.im (.sl (us v)), .i l] up fun r u => r = .u (ofV v l) ∧ u = up := by
  have hm := tmod2 l h0
  have hd := tdiv2 l h0 (by omega)
  have hd0 : 0 ≤ l / 2 := by omega
  have hdl : l / 2 < (v.length : Int) := by omega
  have hv := us_get v (l / 2).toNat (by omega)
  refine ACalls.code Try.func140 rfl 19 rfl (by simp) [.tmp 4] rfl fun Q hQ => ?_
  simp only [ups, PV.up, argEnv]
  have ft := And.intro ty_4 (And.intro ty_37 (And.intro ty_56 (And.intro ty_62 trivial)))
  refine Run.seq ?_
  have fx := And.intro hv (And.intro hdl (And.intro hd0 (And.intro hd (And.intro hm (And.intro us_len ft)))))
  refine Run.go ?_
  refine End.kp [0, 1] ?_
  refine Run.seq ?_
  refine Run.seq ?_
  refine Run.go ?_
  refine End.kp [0, 1, 7] ?_
  refine Run.cond _ rfl (fun hb => ?_) (fun hb => ?_)
  · have hb := eq_of_beq hb
    refine Run.seq ?_
    have fx := And.intro hv (And.intro hdl (And.intro hd0 (And.intro hd (And.intro hm (And.intro us_len ft)))))
    refine Run.go ?_
    refine End.kp [4] ?_
    refine Run.ret (hQ _ _ ⟨.inr rfl, _, rfl, _, rfl, ?_⟩)
    exact ⟨by simp [ofV, hb], rfl⟩
  · have hb : ¬ l % 2 = 1 := fun e => by simp [e] at hb
    refine Run.skip ?_
    refine End.kp [0, 1] ?_
    refine Run.seq ?_
    have fx := And.intro hv (And.intro hdl (And.intro hd0 (And.intro hd (And.intro hm (And.intro us_len ft)))))
    refine Run.go ?_
    refine End.kp [4] ?_
    refine Run.ret (hQ _ _ ⟨.inr rfl, _, rfl, _, rfl, ?_⟩)
    exact ⟨by simp [ofV, hb], rfl⟩
theorem of_ms (v : List Int) (l : Int) (h0 : 0 ≤ l) (h1 : l < 2 * (v.length : Int)) (hv2 : v.length ≤ 100000) (up : Frs) (d j n fz : Nat) (hn : n = v.length) (hl : fget up d j = some (.row 37 1 (us v) fz)) : ACalls Try.prog 140 [.ms d j n, .i l] up fun r u => r = .u (ofV v l) ∧ u = up := by
  subst hn
  have hm := tmod2 l h0
  have hd := tdiv2 l h0 (by omega)
  have hd0 : 0 ≤ l / 2 := by omega
  have hdl : l / 2 < (v.length : Int) := by omega
  have hv := us_get v (l / 2).toNat (by omega)
  refine ACalls.code Try.func140 rfl 19 rfl (by simp) [.tmp 4] rfl fun Q hQ => ?_
  simp only [ups, PV.up, argEnv]
  have ft := And.intro ty_4 (And.intro ty_37 (And.intro ty_56 (And.intro ty_62 trivial)))
  refine Run.seq ?_
  have fx := And.intro hv (And.intro hdl (And.intro hd0 (And.intro hd (And.intro hm (And.intro hl (And.intro us_len ft))))))
  refine Run.go ?_
  refine End.kp [0, 1] ?_
  refine Run.seq ?_
  refine Run.seq ?_
  refine Run.go ?_
  refine End.kp [0, 1, 7] ?_
  refine Run.cond _ rfl (fun hb => ?_) (fun hb => ?_)
  · have hb := eq_of_beq hb
    refine Run.seq ?_
    have fx := And.intro hv (And.intro hdl (And.intro hd0 (And.intro hd (And.intro hm (And.intro hl (And.intro us_len ft))))))
    refine Run.go ?_
    refine End.kp [4] ?_
    refine Run.ret (hQ _ _ ⟨.inr rfl, _, rfl, _, rfl, ?_⟩)
    exact ⟨by simp [ofV, hb], rfl⟩
  · have hb : ¬ l % 2 = 1 := fun e => by simp [e] at hb
    refine Run.skip ?_
    refine End.kp [0, 1] ?_
    refine Run.seq ?_
    have fx := And.intro hv (And.intro hdl (And.intro hd0 (And.intro hd (And.intro hm (And.intro hl (And.intro us_len ft))))))
    refine Run.go ?_
    refine End.kp [4] ?_
    refine Run.ret (hQ _ _ ⟨.inr rfl, _, rfl, _, rfl, ?_⟩)
    exact ⟨by simp [ofV, hb], rfl⟩
theorem gvalues_ok (g : LGraph) (hg : GraphOk g) (inn st : List Int) (h1 : inn.length = g.inn.length) (h2 : st.length = g.regs.length) (up : Frs) : ACalls Try.prog 89 [g.pv, .im (.sl (us inn)), .im (.sl (us st))] up fun v u => v = .im (.sl (us (graphVals g inn st))) ∧ u = up := by
  obtain ⟨z1, z2, z3, z4, z5⟩ := hg.small
  have a1 : (1 + inn.length) * 8 ≤ 140737488355328 := by omega
  have a2 : (1 + inn.length + st.length) * 8 ≤ 140737488355328 := by omega
  have b1 : inn.length + 1 = 1 + inn.length := by omega
  have al : ∀ l : List Int, (us l).all (fun r => r.length == 1) = true := fun l => by simp
  refine ACalls.code Try.func89 rfl 37 rfl (by simp) [.tmp 6] rfl fun Q hQ => ?_
  simp only [ups, PV.up, argEnv]
  have ft := And.intro ty_3 (And.intro ty_37 (And.intro ty_48 (And.intro ty_51 (And.intro ty_56 (And.intro ty_62 (And.intro ty_137 trivial))))))
  refine Run.seq ?_
  have fx := And.intro (@List.length_append.{0}) (And.intro b1 (And.intro al (And.intro a2 (And.intro a1 (And.intro ints_len (And.intro nd_len (And.intro us_len ft)))))))
  refine Run.go ?_
  refine End.kp [1, 2, 3] ?_
  refine Run.seq ?_
  refine Run.go ?_
  refine End.kp [2, 3, 7] ?_
  refine Run.seq ?_
  refine Run.go ?_
  refine End.kp [3, 7] ?_
  refine Run.seq ?_
  refine Run.seq ?_
  refine Run.go ?_
  refine End.kp [7, 17, 18, 19] ?_
  refine Run.block ?_
  refine Run.ghost (Ghost.form [(7, .ms 0 1 (1 + inn.length + st.length)), (17, .im (.sl (g.ands.map nd))), (18, .i g.ands.length), (19, .i (0 : Nat))] 2 ⟨rfl, rfl, rfl, rfl, trivial⟩ rfl rfl) ?_
  refine Run.loop (fun m s => ∃ (i : Nat) (v : List Int), m = g.ands.length - i ∧ i ≤ g.ands.length ∧ v.length = 1 + inn.length + st.length + i ∧ valsA (g.ands.drop i) v = graphVals g inn st ∧ s = ⟨[(7, .ms 0 1 v.length), (17, .im (.sl (g.ands.map nd))), (18, .i g.ands.length), (19, .i (i : Nat))], [.box [.im (.sl (strs g.inn)), .im (.sl (strs g.out)), .im (.sl (g.regs.map LReg.im)), .im (.sl (g.ands.map nd)), .im (.sl (ints g.outs))], .row 37 1 (us v) 0], up⟩) g.ands.length ⟨0, [0] ++ inn ++ st, rfl, by omega, by simp; omega, rfl, ?_⟩ fun m s hI => ?_
  · simp
    omega
  obtain ⟨i, v, rfl, hi, hvl, hV, rfl⟩ := hI
  have hav : (v.length + 1) * 8 ≤ 140737488355328 := by omega
  refine Run.seq ?_
  have fx := And.intro hav (And.intro (@List.length_append.{0}) (And.intro b1 (And.intro al (And.intro a2 (And.intro a1 (And.intro ints_len (And.intro nd_len (And.intro us_len ft))))))))
  refine Run.go ?_
  refine End.kp [7, 17, 18, 19, 20] ?_
  refine Run.seq ?_
  refine Run.cond _ rfl (fun hb => ?_) (fun hb => ?_)
  · have hb := of_decide_eq_true hb
    have hin : i < g.ands.length := by omega
    have wi := wsucc hin (by omega)
    obtain ⟨p, hpi, hpm, hp⟩ := node_at g.ands i hin
    obtain ⟨⟨e1, e2⟩, e3, e4⟩ := hg.ands i p hpi
    have e2' : p.1 < 2 * (v.length : Int) := by omega
    have e4' : p.2 < 2 * (v.length : Int) := by omega
    rw [node_drop _ i p hpi, valsA] at hV
    refine Run.skip ?_
    refine End.kp [7, 17, 18, 19] ?_
    refine Run.seq ?_
    refine Run.block ?_
    refine Run.seq ?_
    have fx := And.intro (@Int.toNat_natCast) (And.intro (@Int.natCast_nonneg) (And.intro hp (And.intro wi (And.intro hav (And.intro (@List.length_append.{0}) (And.intro b1 (And.intro al (And.intro a2 (And.intro a1 (And.intro ints_len (And.intro nd_len (And.intro us_len ft))))))))))))
    refine Run.go ?_
    refine End.kp [7, 9, 17, 18, 19] ?_
    refine Run.ghost (.spares 1) ?_
    simp only [ASt.pushN, ASt.push, List.append_assoc, List.cons_append, List.nil_append]
    refine Run.drawA fun K hK => ?_
    refine DOps.sim ?_
    refine DOps.call (.u (ofV v p.1)) [((0, 1), .row 37 1 (us v) 0)] [] rfl rfl rfl rfl (by kernel_rfl) (by simp [Agree, ASt.fr]) (fun u hu => of_ms v p.1 e1 e2' (by omega) u 0 1 v.length 0 rfl (hu ((0, 1), .row 37 1 (us v) 0) (by simp))) ?_
    refine DOps.sim ?_
    refine DOps.call (.u (ofV v p.2)) [((0, 1), .row 37 1 (us v) 0)] [] rfl rfl rfl rfl (by kernel_rfl) (by simp [Agree, ASt.fr]) (fun u hu => of_ms v p.2 e3 e4' (by omega) u 0 1 v.length 0 rfl (hu ((0, 1), .row 37 1 (us v) 0) (by simp))) ?_
    refine DOps.sim ?_
    refine DOps.nil (by rfl) (hK _ ?_); clear hK K
    refine End.blk ?_
    refine End.kp [7, 17, 18, 19] ?_
    refine Run.go ?_
    refine End.lp ?_
    refine ⟨g.ands.length - (i + 1), _, by omega, Ghost.form [(7, .ms 0 1 (v.length + 1)), (17, .im (.sl (g.ands.map nd))), (18, .i g.ands.length), (19, .i (i + 1 : Nat))] 2 ⟨rfl, rfl, rfl, rfl, trivial⟩ rfl rfl, i + 1, v ++ [bits .and .u64 (ofV v p.1) (ofV v p.2)], rfl, by omega, by simp; omega, hV, ?_⟩
    simp
  · have hb := of_decide_eq_false hb
    have hiN : i = g.ands.length := by omega
    subst hiN
    rw [List.drop_length, valsA] at hV
    refine Run.exit rfl ?_
    refine End.kp [7] ?_
    refine Run.seq ?_
    refine Run.ghost (Ghost.shut (t := 7) (j := 1) rfl rfl (us_len v)) ?_
    simp only [eput, edel]
    have fx := And.intro hav (And.intro (@List.length_append.{0}) (And.intro b1 (And.intro al (And.intro a2 (And.intro a1 (And.intro ints_len (And.intro nd_len (And.intro us_len ft))))))))
    refine Run.go ?_
    refine End.kp [6] ?_
    refine Run.ret (hQ _ _ ⟨.inr rfl, _, rfl, _, rfl, ?_⟩)
    exact ⟨by rw [hV], rfl⟩
theorem GValues_ok (g : LGraph) (hg : GraphOk g) (inn st : List Int) (h1 : inn.length = g.inn.length) (h2 : st.length = g.regs.length) (up : Frs) : ACalls Try.prog 25 [g.pv, .im (.sl (us inn)), .im (.sl (us st))] up fun v u => v = .tup [.im (.sl (us (graphVals g inn st))), .i 0] ∧ u = up := by
  have d1 : ((inn.length : Int) != g.inn.length) = false := by rw [h1]; simp
  have d2 : ((st.length : Int) != g.regs.length) = false := by rw [h2]; simp
  refine ACalls.code Try.func25 rfl 32 rfl (by simp) [.tmp 6, .tmp 7] rfl fun Q hQ => ?_
  simp only [ups, PV.up, argEnv]
  have ft := And.intro ty_2 (And.intro ty_3 (And.intro ty_4 (And.intro ty_9 (And.intro ty_26 (And.intro ty_34 (And.intro ty_37 (And.intro ty_47 (And.intro ty_51 (And.intro ty_56 (And.intro ty_69 trivial))))))))))
  refine Run.seq ?_
  have fx := And.intro d2 (And.intro d1 (And.intro rim_len (And.intro strs_len (And.intro us_len ft))))
  refine Run.go ?_
  refine End.kp [1, 2, 3] ?_
  refine Run.seq ?_
  refine Run.seq ?_
  refine Run.region rfl fun K hK => GOps.sim ?_
  refine GOps.call rfl rfl rfl rfl (by kernel_rfl) (ACalls.sim ?_)
  refine (Check_ok g hg _).mono fun v u hv => ?_
  obtain ⟨rfl, rfl⟩ := hv
  refine ⟨_, _, rfl, GOps.sim ?_⟩
  refine GOps.done (hK _ ?_); clear hK K
  refine End.kp [1, 2, 3, 8] ?_
  refine Run.seq ?_
  refine Run.go ?_
  refine End.kp [1, 2, 3, 8, 12] ?_
  refine Run.cond _ rfl (fun hb => ?_) (fun hb => ?_)
  · have hb := hb
    simp at hb
  · have hb := hb
    refine Run.skip ?_
    refine End.kp [1, 2, 3] ?_
    refine Run.seq ?_
    refine Run.seq ?_
    have fx := And.intro d2 (And.intro d1 (And.intro rim_len (And.intro strs_len (And.intro us_len ft))))
    refine Run.go ?_
    refine End.kp [1, 2, 3, 27] ?_
    refine Run.cond _ rfl (fun hb => ?_) (fun hb => ?_)
    · have hb := hb
      simp at hb
    · have hb := hb
      refine Run.skip ?_
      refine End.kp [1, 2, 3] ?_
      refine Run.seq ?_
      have fx := And.intro d2 (And.intro d1 (And.intro rim_len (And.intro strs_len (And.intro us_len ft))))
      refine Run.region rfl fun K hK => GOps.sim ?_
      refine GOps.call rfl rfl rfl rfl (by kernel_rfl) (ACalls.sim ?_)
      refine (gvalues_ok g hg inn st h1 h2 _).mono fun v u hv => ?_
      obtain ⟨rfl, rfl⟩ := hv
      refine ⟨_, _, rfl, GOps.sim ?_⟩
      refine GOps.done (hK _ ?_); clear hK K
      refine End.kp [6, 7] ?_
      refine Run.ret (hQ _ _ ⟨.inr rfl, _, rfl, _, rfl, ?_⟩)
      exact ⟨rfl, rfl⟩
end Go.Proofs.YtkmnmokjlpenhaaPi
