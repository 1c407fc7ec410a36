/- Part 2 of the proof: the texts WI, PNet, WJ, WK, WL, WJA, WJB, WJC, one behind the other. Each holds for every input that it names; no condition is hidden. -/
import Derived.Test.YtkmnmokjlpenhaaM1
import Derived.Test.YtkmnmokjlpenhaaPiGrid
import Derived.Test.YtkmnmokjlpenhaaPiRes
/- The walk of Form: a netlist whose parts are in order is accepted. -/
set_option linter.unusedVariables false
set_option linter.unusedSimpArgs false
set_option maxRecDepth 100000
namespace Go.Proofs.YtkmnmokjlpenhaaPi

structure NetOk (n : LNet) : Prop where
  small : NetSmall n
  names : ∀ s ∈ n.inn ++ n.flops.map LFlop.name, NameOk s
  nodup : (n.inn ++ n.flops.map LFlop.name).Nodup
  onames : ∀ s ∈ n.out, NameOk s
  onodup : n.out.Nodup
  olen : n.out.length = n.outs.length
  gates : ∀ (i : Nat) (g : LGate), n.gates[i]? = some g → g.ins.length ≤ 6 ∧ bits .andNot .u64 g.table (2 ^ ((2 : Int) ^ g.ins.length).toNat - 1) = 0 ∧ ∀ k ∈ g.ins, 0 ≤ k ∧ k < 2 + n.inn.length + n.flops.length + i
  ends : EndsOk n
abbrev nms (n : LNet) (i : Nat) : List ByteArray := n.inn ++ (n.flops.take i).map LFlop.name
theorem nms_len (n : LNet) (i : Nat) (h : i ≤ n.flops.length) : (strs (nms n i)).length = n.inn.length + i := by simp; omega
theorem nms_next (n : LNet) (i : Nat) (f : LFlop) (h : n.flops[i]? = some f) : nms n (i + 1) = nms n i ++ [f.name] := by simp [nms, List.take_add_one, h]
theorem Form_ok (n : LNet) (hn : NetOk n) (up : Frs) : ACalls Try.prog 78 [n.pv] up fun v u => v = .i 0 ∧ u = up := by
  have hsm := hn.small
  obtain ⟨z1, z2, z3, z4, z5⟩ := hn.small
  have d1 : decide ((n.inn.length : Int) > 128) = false := decide_eq_false (by omega)
  have d2 : decide ((n.out.length : Int) > 128) = false := decide_eq_false (by omega)
  have d3 : decide ((n.flops.length : Int) > 288) = false := decide_eq_false (by omega)
  have d4 : decide ((n.gates.length : Int) > 1200) = false := decide_eq_false (by omega)
  have d5 : ((n.out.length : Int) != n.outs.length) = false := by rw [hn.olen]; simp
  refine ACalls.code Try.func78 rfl 111 rfl (by simp) [.tmp 2] rfl fun Q hQ => ?_
  simp only [ups, PV.up, argEnv]
  have ft := And.intro ty_2 (And.intro ty_3 (And.intro ty_4 (And.intro ty_9 (And.intro ty_22 (And.intro ty_26 (And.intro ty_27 (And.intro ty_28 (And.intro ty_30 (And.intro ty_34 (And.intro ty_37 (And.intro ty_39 (And.intro ty_78 trivial))))))))))))
  refine Run.seq ?_
  have fx := And.intro d5 (And.intro d4 (And.intro d3 (And.intro d2 (And.intro d1 (And.intro ints_len (And.intro gim_len (And.intro fim_len (And.intro strs_len ft))))))))
  refine Run.go ?_
  refine End.kp [1] ?_
  refine Run.seq ?_
  refine Run.seq ?_
  refine Run.go ?_
  refine End.kp [1, 34] ?_
  refine Run.cond _ rfl (fun hb => ?_) (fun hb => ?_)
  · have hb := hb
    simp at hb
  · have hb := hb
    refine Run.skip ?_
    refine End.kp [1] ?_
    refine Run.seq ?_
    refine Run.seq ?_
    have fx := And.intro d5 (And.intro d4 (And.intro d3 (And.intro d2 (And.intro d1 (And.intro ints_len (And.intro gim_len (And.intro fim_len (And.intro strs_len ft))))))))
    refine Run.go ?_
    refine End.kp [1, 41] ?_
    refine Run.cond _ rfl (fun hb => ?_) (fun hb => ?_)
    · have hb := hb
      simp at hb
    · have hb := hb
      refine Run.skip ?_
      refine End.kp [1] ?_
      refine Run.seq ?_
      have fx := And.intro d5 (And.intro d4 (And.intro d3 (And.intro d2 (And.intro d1 (And.intro ints_len (And.intro gim_len (And.intro fim_len (And.intro strs_len ft))))))))
      refine Run.region rfl fun K hK => GOps.sim ?_
      refine GOps.call rfl rfl rfl rfl (by kernel_rfl) (ACalls.sim ?_)
      refine (CloneX_ok n.inn (by omega) _ _).mono fun v u hv => ?_
      obtain ⟨rfl, rfl⟩ := hv
      refine ⟨_, _, rfl, GOps.sim ?_⟩
      refine GOps.done (hK _ ?_); clear hK K
      refine End.kp [1, 3] ?_
      refine Run.seq ?_
      refine Run.seq ?_
      refine Run.go ?_
      refine End.kp [1, 3, 46, 47, 48] ?_
      refine Run.block ?_
      refine Run.ghost (Ghost.form [(1, .ptr 0 0 0), (3, .ms 0 1 (n.inn.length + 0)), (46, .im (.sl (n.flops.map LFlop.im))), (47, .i n.flops.length), (48, .i (0 : Nat))] 2 ⟨rfl, rfl, rfl, rfl, rfl, trivial⟩ rfl rfl) ?_
      refine Run.loop (fun m st => ∃ (i : Nat), m = n.flops.length - i ∧ i ≤ n.flops.length ∧ st = ⟨[(1, .ptr 0 0 0), (3, .ms 0 1 (n.inn.length + i)), (46, .im (.sl (n.flops.map LFlop.im))), (47, .i n.flops.length), (48, .i (i : Nat))], [.box [.im (.sl (strs n.inn)), .im (.sl (strs n.out)), .im (.sl (n.flops.map LFlop.im)), .im (.sl (n.gates.map LGate.im)), .im (.sl (ints n.outs))], .row 9 1 (strs (nms n i)) 0], up⟩) n.flops.length ⟨0, rfl, by omega, by simp⟩ fun m st hI => ?_
      obtain ⟨i, rfl, hi, rfl⟩ := hI
      have hsl := nms_len n i hi
      have hap : (n.inn.length + i + 1) * 16 ≤ 140737488355328 := by omega
      refine Run.seq ?_
      have fx := And.intro hap (And.intro hsl (And.intro d5 (And.intro d4 (And.intro d3 (And.intro d2 (And.intro d1 (And.intro ints_len (And.intro gim_len (And.intro fim_len (And.intro strs_len ft))))))))))
      refine Run.go ?_
      refine End.kp [1, 3, 46, 47, 48, 49] ?_
      refine Run.seq ?_
      refine Run.cond _ rfl (fun hb => ?_) (fun hb => ?_)
      · have hb := of_decide_eq_true hb
        have hin : i < n.flops.length := by omega
        have wi := wsucc hin (by omega)
        obtain ⟨f, hf, hfm, hg⟩ := flop_at n.flops i hin
        refine Run.skip ?_
        refine End.kp [1, 3, 46, 47, 48] ?_
        refine Run.seq ?_
        refine Run.block ?_
        refine Run.seq ?_
        have fx := And.intro (@Int.toNat_natCast) (And.intro (@Int.natCast_nonneg) (And.intro hg (And.intro wi (And.intro hap (And.intro hsl (And.intro d5 (And.intro d4 (And.intro d3 (And.intro d2 (And.intro d1 (And.intro ints_len (And.intro gim_len (And.intro fim_len (And.intro strs_len ft))))))))))))))
        refine Run.go ?_
        refine End.kp [1, 3, 5, 46, 47, 48] ?_
        refine Run.go ?_
        refine End.blk ?_
        refine End.kp [1, 3, 46, 47, 48] ?_
        refine Run.go ?_
        refine End.lp ?_
        refine ⟨n.flops.length - (i + 1), _, by omega, Ghost.form [(1, .ptr 0 0 0), (3, .ms 0 1 (n.inn.length + (i + 1))), (46, .im (.sl (n.flops.map LFlop.im))), (47, .i n.flops.length), (48, .i (i + 1 : Nat))] 2 ⟨rfl, rfl, rfl, rfl, rfl, trivial⟩ rfl rfl, i + 1, rfl, by omega, ?_⟩
        rw [nms_next n i f hf]
        simp
      · have hb := of_decide_eq_false hb
        have hiN : i = n.flops.length := by omega
        subst hiN
        have hall : nms n n.flops.length = n.inn ++ n.flops.map LFlop.name := by simp [nms]
        refine Run.exit rfl ?_
        refine End.kp [1, 3] ?_
        refine Run.seq ?_
        refine Run.seq ?_
        have fx := And.intro hap (And.intro hsl (And.intro d5 (And.intro d4 (And.intro d3 (And.intro d2 (And.intro d1 (And.intro ints_len (And.intro gim_len (And.intro fim_len (And.intro strs_len ft))))))))))
        refine Run.region rfl fun K hK => GOps.sim ?_
        refine GOps.call rfl rfl rfl rfl (by kernel_rfl) (ACalls.sim ?_)
        refine (Names_ok (nms n n.flops.length) (by rw [hall]; simp; omega) (by rw [hall]; exact hn.names) (by rw [hall]; exact hn.nodup) _).mono fun v u hv => ?_
        obtain ⟨rfl, rfl⟩ := hv
        refine ⟨_, _, rfl, GOps.sim ?_⟩
        refine GOps.done (hK _ ?_); clear hK K
        refine End.kp [1, 6] ?_
        refine Run.seq ?_
        refine Run.go ?_
        refine End.kp [1, 6, 61] ?_
        refine Run.cond _ rfl (fun hb => ?_) (fun hb => ?_)
        · have hb := hb
          simp at hb
        · have hb := hb
          refine Run.skip ?_
          refine End.kp [1] ?_
          refine Run.seq ?_
          refine Run.seq ?_
          have fx := And.intro hap (And.intro hsl (And.intro d5 (And.intro d4 (And.intro d3 (And.intro d2 (And.intro d1 (And.intro ints_len (And.intro gim_len (And.intro fim_len (And.intro strs_len ft))))))))))
          refine Run.region rfl fun K hK => GOps.sim ?_
          refine GOps.call rfl rfl rfl rfl (by kernel_rfl) (ACalls.sim ?_)
          refine (Names_ok n.out (by omega) hn.onames hn.onodup _).mono fun v u hv => ?_
          obtain ⟨rfl, rfl⟩ := hv
          refine ⟨_, _, rfl, GOps.sim ?_⟩
          refine GOps.done (hK _ ?_); clear hK K
          refine End.kp [1, 7] ?_
          refine Run.seq ?_
          refine Run.go ?_
          refine End.kp [1, 7, 67] ?_
          refine Run.cond _ rfl (fun hb => ?_) (fun hb => ?_)
          · have hb := hb
            simp at hb
          · have hb := hb
            refine Run.skip ?_
            refine End.kp [1] ?_
            refine Run.seq ?_
            have fx := And.intro hap (And.intro hsl (And.intro d5 (And.intro d4 (And.intro d3 (And.intro d2 (And.intro d1 (And.intro ints_len (And.intro gim_len (And.intro fim_len (And.intro strs_len ft))))))))))
            refine Run.region rfl fun K hK => GOps.sim ?_
            refine GOps.call rfl rfl rfl rfl (by kernel_rfl) (ACalls.sim ?_)
            refine (First_ok n hsm _).mono fun v u hv => ?_
            obtain ⟨rfl, rfl⟩ := hv
            refine ⟨_, _, rfl, GOps.sim ?_⟩
            refine GOps.done (hK _ ?_); clear hK K
            refine End.kp [1, 8] ?_
            refine Run.seq ?_
            refine Run.seq ?_
            refine Run.go ?_
            refine End.kp [1, 8, 72, 73, 74] ?_
            refine Run.block ?_
            refine Run.ghost (Ghost.form [(1, .ptr 0 0 0), (8, .i (2 + n.inn.length + n.flops.length)), (72, .im (.sl (n.gates.map LGate.im))), (73, .i n.gates.length), (74, .i (0 : Nat))] 1 ⟨rfl, rfl, rfl, rfl, rfl, trivial⟩ rfl rfl) ?_
            refine Run.loop (fun m st => ∃ (i : Nat), m = n.gates.length - i ∧ i ≤ n.gates.length ∧ st = ⟨[(1, .ptr 0 0 0), (8, .i (2 + n.inn.length + n.flops.length)), (72, .im (.sl (n.gates.map LGate.im))), (73, .i n.gates.length), (74, .i (i : Nat))], [.box [.im (.sl (strs n.inn)), .im (.sl (strs n.out)), .im (.sl (n.flops.map LFlop.im)), .im (.sl (n.gates.map LGate.im)), .im (.sl (ints n.outs))]], up⟩) n.gates.length ⟨0, rfl, by omega, rfl⟩ fun m st hI => ?_
            obtain ⟨i, rfl, hi, rfl⟩ := hI
            refine Run.seq ?_
            have fx := And.intro hap (And.intro hsl (And.intro d5 (And.intro d4 (And.intro d3 (And.intro d2 (And.intro d1 (And.intro ints_len (And.intro gim_len (And.intro fim_len (And.intro strs_len ft))))))))))
            refine Run.go ?_
            refine End.kp [1, 8, 72, 73, 74, 75] ?_
            refine Run.seq ?_
            refine Run.cond _ rfl (fun hb => ?_) (fun hb => ?_)
            · have hb := of_decide_eq_true hb
              have hin : i < n.gates.length := by omega
              have wi := wsucc hin (by omega)
              obtain ⟨g, hgi, hgm, hg⟩ := gate_at n.gates i hin
              obtain ⟨e1, e2, e3⟩ := hn.gates i g hgi
              have d6 : decide ((g.ins.length : Int) > 6) = false := decide_eq_false (by omega)
              have wfi : IntKind.i64.wrap (2 + (n.inn.length : Int) + n.flops.length + i) = 2 + (n.inn.length : Int) + n.flops.length + i := wrap64 (by omega)
              refine Run.skip ?_
              refine End.kp [1, 8, 72, 73, 74] ?_
              refine Run.seq ?_
              refine Run.block ?_
              refine Run.seq ?_
              have fx := And.intro (@Int.toNat_natCast) (And.intro (@Int.natCast_nonneg) (And.intro wfi (And.intro d6 (And.intro hg (And.intro wi (And.intro hap (And.intro hsl (And.intro d5 (And.intro d4 (And.intro d3 (And.intro d2 (And.intro d1 (And.intro ints_len (And.intro gim_len (And.intro fim_len (And.intro strs_len ft))))))))))))))))
              refine Run.go ?_
              refine End.kp [1, 8, 9, 10, 72, 73, 74] ?_
              refine Run.seq ?_
              refine Run.seq ?_
              refine Run.go ?_
              refine End.kp [1, 8, 9, 10, 72, 73, 74, 82] ?_
              refine Run.cond _ rfl (fun hb => ?_) (fun hb => ?_)
              · have hb := hb
                simp at hb
              · have hb := hb
                refine Run.skip ?_
                refine End.kp [1, 8, 9, 10, 72, 73, 74] ?_
                refine Run.seq ?_
                refine Run.seq ?_
                have fx := And.intro (@Int.toNat_natCast) (And.intro (@Int.natCast_nonneg) (And.intro wfi (And.intro d6 (And.intro hg (And.intro wi (And.intro hap (And.intro hsl (And.intro d5 (And.intro d4 (And.intro d3 (And.intro d2 (And.intro d1 (And.intro ints_len (And.intro gim_len (And.intro fim_len (And.intro strs_len ft))))))))))))))))
                refine Run.drawA fun K hK => ?_
                refine DOps.sim ?_
                refine DOps.call (.u (2 ^ ((2 : Int) ^ g.ins.length).toNat - 1)) [] [] rfl rfl rfl rfl (by kernel_rfl) (by simp [Agree]) (fun u hu => Mask_ok g.ins.length e1 u) ?_
                have fx := And.intro e2 (And.intro (@Int.toNat_natCast) (And.intro (@Int.natCast_nonneg) (And.intro wfi (And.intro d6 (And.intro hg (And.intro wi (And.intro hap (And.intro hsl (And.intro d5 (And.intro d4 (And.intro d3 (And.intro d2 (And.intro d1 (And.intro ints_len (And.intro gim_len (And.intro fim_len (And.intro strs_len ft)))))))))))))))))
                refine DOps.sim ?_
                refine DOps.nil (metAll_quiet rfl) (hK _ ?_); clear hK K
                refine End.kp [1, 8, 9, 10, 72, 73, 74, 90] ?_
                refine Run.cond _ rfl (fun hb => ?_) (fun hb => ?_)
                · have hb := hb
                  simp at hb
                · have hb := hb
                  refine Run.skip ?_
                  refine End.kp [1, 8, 9, 10, 72, 73, 74] ?_
                  refine Run.seq ?_
                  have fx := And.intro e2 (And.intro (@Int.toNat_natCast) (And.intro (@Int.natCast_nonneg) (And.intro wfi (And.intro d6 (And.intro hg (And.intro wi (And.intro hap (And.intro hsl (And.intro d5 (And.intro d4 (And.intro d3 (And.intro d2 (And.intro d1 (And.intro ints_len (And.intro gim_len (And.intro fim_len (And.intro strs_len ft)))))))))))))))))
                  refine Run.go ?_
                  refine End.kp [1, 8, 9, 72, 73, 74, 92, 93, 94] ?_
                  refine Run.block ?_
                  refine Run.ghost (Ghost.form [(1, .ptr 0 0 0), (8, .i (2 + n.inn.length + n.flops.length)), (9, .i (i : Nat)), (72, .im (.sl (n.gates.map LGate.im))), (73, .i n.gates.length), (74, .i (i : Nat)), (92, .im (.sl (ints g.ins))), (93, .i g.ins.length), (94, .i (0 : Nat))] 1 ⟨rfl, rfl, rfl, rfl, rfl, rfl, rfl, rfl, rfl, trivial⟩ rfl rfl) ?_
                  refine Run.loop (fun m st => ∃ (k : Nat), m = g.ins.length - k ∧ k ≤ g.ins.length ∧ st = ⟨[(1, .ptr 0 0 0), (8, .i (2 + n.inn.length + n.flops.length)), (9, .i (i : Nat)), (72, .im (.sl (n.gates.map LGate.im))), (73, .i n.gates.length), (74, .i (i : Nat)), (92, .im (.sl (ints g.ins))), (93, .i g.ins.length), (94, .i (k : Nat))], [.box [.im (.sl (strs n.inn)), .im (.sl (strs n.out)), .im (.sl (n.flops.map LFlop.im)), .im (.sl (n.gates.map LGate.im)), .im (.sl (ints n.outs))]], up⟩) g.ins.length ⟨0, rfl, by omega, rfl⟩ fun m st hI => ?_
                  obtain ⟨k, rfl, hk, rfl⟩ := hI
                  refine Run.seq ?_
                  have fx := And.intro e2 (And.intro (@Int.toNat_natCast) (And.intro (@Int.natCast_nonneg) (And.intro wfi (And.intro d6 (And.intro hg (And.intro wi (And.intro hap (And.intro hsl (And.intro d5 (And.intro d4 (And.intro d3 (And.intro d2 (And.intro d1 (And.intro ints_len (And.intro gim_len (And.intro fim_len (And.intro strs_len ft)))))))))))))))))
                  refine Run.go ?_
                  refine End.kp [1, 8, 9, 72, 73, 74, 92, 93, 94, 95] ?_
                  refine Run.seq ?_
                  refine Run.cond _ rfl (fun hb => ?_) (fun hb => ?_)
                  · have hb := of_decide_eq_true hb
                    have hkn : k < g.ins.length := by omega
                    have wk := wsucc hkn (by omega)
                    obtain ⟨x, _, hxm, hx⟩ := int_at g.ins k hkn
                    obtain ⟨x1, x2⟩ := e3 x hxm
                    have d7 : decide (x < 0) = false := decide_eq_false (by omega)
                    have d8 : decide (x ≥ 2 + (n.inn.length : Int) + n.flops.length + i) = false := decide_eq_false (by omega)
                    refine Run.skip ?_
                    refine End.kp [1, 8, 9, 72, 73, 74, 92, 93, 94] ?_
                    refine Run.seq ?_
                    refine Run.block ?_
                    refine Run.seq ?_
                    have fx := And.intro d8 (And.intro d7 (And.intro hx (And.intro wk (And.intro e2 (And.intro (@Int.toNat_natCast) (And.intro (@Int.natCast_nonneg) (And.intro wfi (And.intro d6 (And.intro hg (And.intro wi (And.intro hap (And.intro hsl (And.intro d5 (And.intro d4 (And.intro d3 (And.intro d2 (And.intro d1 (And.intro ints_len (And.intro gim_len (And.intro fim_len (And.intro strs_len ft)))))))))))))))))))))
                    refine Run.go ?_
                    refine End.kp [1, 8, 9, 12, 72, 73, 74, 92, 93, 94] ?_
                    refine Run.seq ?_
                    refine Run.go ?_
                    refine End.kp [1, 8, 9, 72, 73, 74, 92, 93, 94, 106] ?_
                    refine Run.cond _ rfl (fun hb => ?_) (fun hb => ?_)
                    · have hb := hb
                      simp at hb
                    · have hb := hb
                      refine Run.skip ?_
                      refine End.blk ?_
                      refine End.kp [1, 8, 9, 72, 73, 74, 92, 93, 94] ?_
                      have fx := And.intro d8 (And.intro d7 (And.intro hx (And.intro wk (And.intro e2 (And.intro (@Int.toNat_natCast) (And.intro (@Int.natCast_nonneg) (And.intro wfi (And.intro d6 (And.intro hg (And.intro wi (And.intro hap (And.intro hsl (And.intro d5 (And.intro d4 (And.intro d3 (And.intro d2 (And.intro d1 (And.intro ints_len (And.intro gim_len (And.intro fim_len (And.intro strs_len ft)))))))))))))))))))))
                      refine Run.go ?_
                      refine End.lp ?_
                      refine ⟨g.ins.length - (k + 1), _, by omega, Ghost.form [(1, .ptr 0 0 0), (8, .i (2 + n.inn.length + n.flops.length)), (9, .i (i : Nat)), (72, .im (.sl (n.gates.map LGate.im))), (73, .i n.gates.length), (74, .i (i : Nat)), (92, .im (.sl (ints g.ins))), (93, .i g.ins.length), (94, .i (k + 1 : Nat))] 1 ⟨rfl, rfl, rfl, rfl, rfl, rfl, rfl, rfl, rfl, trivial⟩ rfl rfl, k + 1, rfl, by omega, rfl⟩
                  · have hb := of_decide_eq_false hb
                    refine Run.exit rfl ?_
                    refine End.blk ?_
                    refine End.kp [1, 8, 72, 73, 74] ?_
                    have fx := And.intro e2 (And.intro (@Int.toNat_natCast) (And.intro (@Int.natCast_nonneg) (And.intro wfi (And.intro d6 (And.intro hg (And.intro wi (And.intro hap (And.intro hsl (And.intro d5 (And.intro d4 (And.intro d3 (And.intro d2 (And.intro d1 (And.intro ints_len (And.intro gim_len (And.intro fim_len (And.intro strs_len ft)))))))))))))))))
                    refine Run.go ?_
                    refine End.lp ?_
                    refine ⟨n.gates.length - (i + 1), _, by omega, Ghost.form [(1, .ptr 0 0 0), (8, .i (2 + n.inn.length + n.flops.length)), (72, .im (.sl (n.gates.map LGate.im))), (73, .i n.gates.length), (74, .i (i + 1 : Nat))] 1 ⟨rfl, rfl, rfl, rfl, rfl, trivial⟩ rfl rfl, i + 1, rfl, by omega, rfl⟩
            · have hb := of_decide_eq_false hb
              refine Run.exit rfl ?_
              refine End.kp [1] ?_
              refine Run.seq ?_
              have fx := And.intro hap (And.intro hsl (And.intro d5 (And.intro d4 (And.intro d3 (And.intro d2 (And.intro d1 (And.intro ints_len (And.intro gim_len (And.intro fim_len (And.intro strs_len ft))))))))))
              refine Run.region rfl fun K hK => GOps.sim ?_
              refine GOps.call rfl rfl rfl rfl (by kernel_rfl) (ACalls.sim ?_)
              refine (ends_ok n hsm hn.ends _).mono fun v u hv => ?_
              obtain ⟨rfl, rfl⟩ := hv
              refine ⟨_, _, rfl, GOps.sim ?_⟩
              refine GOps.done (hK _ ?_); clear hK K
              refine End.kp [2] ?_
              refine Run.ret (hQ _ _ ⟨.inr rfl, _, rfl, _, rfl, ?_⟩)
              exact ⟨rfl, rfl⟩
end Go.Proofs.YtkmnmokjlpenhaaPi

/- Plain law: a netlist that is drawn is in order. -/
set_option linter.unusedVariables false
set_option linter.unusedSimpArgs false
namespace Go.Proofs.YtkmnmokjlpenhaaPi

theorem andNot_zero (w m : Int) : bits .andNot .u64 (bits .and .u64 w m) m = 0 := by
  show IntKind.u64.wrap (BitVec.ofInt 64 (IntKind.u64.wrap (BitVec.ofInt 64 w &&& BitVec.ofInt 64 m).toNat) &&& ~~~(BitVec.ofInt 64 m)).toNat = 0
  rw [wrapU (x := ((BitVec.ofInt 64 w &&& BitVec.ofInt 64 m).toNat : Int)) (by have := (BitVec.ofInt 64 w &&& BitVec.ofInt 64 m).isLt; omega)]
  have e : BitVec.ofInt 64 ((BitVec.ofInt 64 w &&& BitVec.ofInt 64 m).toNat : Int) = BitVec.ofInt 64 w &&& BitVec.ofInt 64 m := by
    generalize BitVec.ofInt 64 w &&& BitVec.ofInt 64 m = r
    apply BitVec.eq_of_toNat_eq
    simp
  rw [e]
  have z : BitVec.ofInt 64 w &&& BitVec.ofInt 64 m &&& ~~~(BitVec.ofInt 64 m) = 0#64 := by
    apply BitVec.eq_of_getLsbD_eq
    intro i hi
    simp only [BitVec.getLsbD_and, BitVec.getLsbD_not, BitVec.getLsbD_zero]
    cases (BitVec.ofInt 64 m).getLsbD i <;> simp
  rw [z]
  rfl
theorem gates_ok (l : List Int) (first : Int) (hf : 1 ≤ first) : ∀ (k j : Nat) (a : Int) (i : Nat) (g : LGate), (gatesV l first k j a).1[i]? = some g →
    g.ins.length ≤ 6 ∧ bits .andNot .u64 g.table (2 ^ ((2 : Int) ^ g.ins.length).toNat - 1) = 0 ∧ ∀ x ∈ g.ins, 0 ≤ x ∧ x < first + ((j + i : Nat) : Int)
  | 0, j, a, i, g, h => by simp [gatesV] at h
  | k + 1, j, a, 0, g, h => by
    simp only [gatesV, List.getElem?_cons_zero, Option.some.injEq] at h
    subst h
    obtain ⟨h1, h2, h3⟩ := netsV_all l (first + j) (by omega) (gateN l a) (a + 1)
    have h4 := (gateN_le l a).1
    refine ⟨by simp only [gateV]; omega, ?_, ?_⟩
    · simp only [gateV, h2]
      exact andNot_zero _ _
    · simpa [gateV] using h3
  | k + 1, j, a, i + 1, g, h => by
    simp only [gatesV, List.getElem?_cons_succ] at h
    have := gates_ok l first hf k (j + 1) _ i g h
    rw [show j + 1 + i = j + (i + 1) by omega] at this
    exact this
theorem flops_ok (l : List Int) (most : Int) (hm : 2 ≤ most) : ∀ (ns : List ByteArray) (a : Int), (flopsV l most ns a).1.map LFlop.name = ns ∧ ∀ f ∈ (flopsV l most ns a).1, (0 ≤ f.d ∧ f.d < most) ∧ 0 ≤ f.en ∧ f.en < most
  | [], a => by simp [flopsV]
  | nm :: ns, a => by
    obtain ⟨h1, h2⟩ := flops_ok l most hm ns (flopV l a most nm).2
    have h3 := netV_range l a most (by omega)
    have h4 := netV_range l (a + 1 + 1 + 1 + 1) most (by omega)
    have h5 : (flopV l a most nm).1.name = nm ∧ (0 ≤ (flopV l a most nm).1.d ∧ (flopV l a most nm).1.d < most) ∧ 0 ≤ (flopV l a most nm).1.en ∧ (flopV l a most nm).1.en < most := by
      unfold flopV
      split
      · exact ⟨rfl, h3, h4⟩
      · exact ⟨rfl, h3, by simp only; omega, by simp only; omega⟩
    refine ⟨by simp only [flopsV, List.map_cons, h1, h5.1], fun f hf => ?_⟩
    simp only [flopsV, List.mem_cons] at hf
    rcases hf with rfl | hf
    · exact h5.2
    · exact h2 f hf
theorem drawn_ok (l : List Int) (ins flops gates outs : Nat) (a : Int) (b1 : ins ≤ 10) (b2 : flops ≤ 10) (b3 : gates ≤ 50) (b4 : outs ≤ 10) :
    NetOk (netlistV l a ins flops gates outs).1 ∧ 0 ≤ (netlistV l a ins flops gates outs).2 - a ∧ (netlistV l a ins flops gates outs).2 ≤ a + 1000 := by
  obtain ⟨p1, p2, p3⟩ := wordsV_pos l (ins + flops) 0 a
  obtain ⟨w1, _⟩ := words_ok l (ins + flops) 0 a
  have w2 := words_nodup l (ins + flops) a (by omega)
  simp only [netlistV]
  generalize wordsV l (ins + flops) 0 a = W at *
  obtain ⟨q1, q2, q3⟩ := wordsV_pos l outs 0 W.2
  obtain ⟨v1, _⟩ := words_ok l outs 0 W.2
  have v2 := words_nodup l outs W.2 (by omega)
  generalize wordsV l outs 0 W.2 = O at *
  have hfc : ((2 + ins + flops : Nat) : Int) = 2 + (ins : Int) + flops := by omega
  rw [hfc]
  obtain ⟨g1, g2, g3⟩ := gatesV_pos l (2 + (ins : Int) + flops) (by omega) gates 0 O.2
  have g4 := gates_ok l (2 + (ins : Int) + flops) (by omega) gates 0 O.2
  generalize gatesV l (2 + (ins : Int) + flops) gates 0 O.2 = G at *
  obtain ⟨f1, f2, f3⟩ := flopsV_pos l (2 + (ins : Int) + flops + gates) (W.1.drop ins) G.2
  obtain ⟨f4, f5⟩ := flops_ok l (2 + (ins : Int) + flops + gates) (by omega) (W.1.drop ins) G.2
  generalize flopsV l (2 + (ins : Int) + flops + gates) (W.1.drop ins) G.2 = V at *
  obtain ⟨o1, o2, o3⟩ := netsV_all l (2 + (ins : Int) + flops + gates) (by omega) outs V.2
  generalize netsV l (2 + (ins : Int) + flops + gates) outs V.2 = Z at *
  have hd : (W.1.drop ins).length = flops := by rw [List.length_drop]; omega
  have ht : (W.1.take ins).length = ins := by rw [List.length_take]; omega
  rw [hd] at f2 f3
  refine ⟨⟨⟨by simp only; omega, by simp only; omega, by simp only; omega, by simp only; omega, by simp only; omega⟩, ?_, ?_, v1, v2, by simp only; omega, fun i g hg => ?_, ⟨fun f hf => ?_, fun k hk => ?_⟩⟩, by omega, by omega⟩
  · rw [f4, List.take_append_drop]
    exact w1
  · rw [f4, List.take_append_drop]
    exact w2
  · have := g4 i g hg
    simp only [ht, f3]
    rw [Nat.zero_add] at this
    exact this
  · have := f5 f hf
    simp only [ht, f3, g3]
    exact this
  · have := o3 k hk
    simp only [ht, f3, g3]
    exact this
end Go.Proofs.YtkmnmokjlpenhaaPi

/- The walks of values and Values: what all nets have. -/
set_option linter.unusedVariables false
set_option linter.unusedSimpArgs false
set_option maxRecDepth 100000
namespace Go.Proofs.YtkmnmokjlpenhaaPi

def gateVal (g : LGate) (v : List Int) : Int := lookV g.table (g.ins.map fun k => v.getD k.toNat 0)
def valsN : List LGate → List Int → List Int
  | [], v => v
  | g :: gs, v => valsN gs (v ++ [gateVal g v])
def valuesV (n : LNet) (inn st : List Int) : List Int := valsN n.gates ([0, 18446744073709551615] ++ inn ++ st)
theorem gate_drop (l : List LGate) (i : Nat) (g : LGate) (h : l[i]? = some g) : l.drop i = g :: l.drop (i + 1) := by
  obtain ⟨hi, rfl⟩ := List.getElem?_eq_some_iff.1 h
  exact List.drop_eq_getElem_cons hi
theorem int_drop (l : List Int) (i : Nat) (g : Int) (h : l[i]? = some g) : l.take (i + 1) = l.take i ++ [g] := by simp [List.take_add_one, h]
theorem values_ok (n : LNet) (hn : NetOk n) (inn st : List Int) (h1 : inn.length = n.inn.length) (h2 : st.length = n.flops.length) (up : Frs) : ACalls Try.prog 90 [n.pv, .im (.sl (us inn)), .im (.sl (us st))] up fun v u => v = .im (.sl (us (valuesV n inn st))) ∧ u = up := by
  have hsm := hn.small
  obtain ⟨z1, z2, z3, z4, z5⟩ := hn.small
  have a1 : (2 + inn.length) * 8 ≤ 140737488355328 := by omega
  have a2 : (2 + inn.length + st.length) * 8 ≤ 140737488355328 := by omega
  have b1 : inn.length + 1 + 1 = 2 + inn.length := by omega
  have al : ∀ l : List Int, (us l).all (fun r => r.length == 1) = true := fun l => by simp
  refine ACalls.code Try.func90 rfl 50 rfl (by simp) [.tmp 6] rfl fun Q hQ => ?_
  simp only [ups, PV.up, argEnv]
  have ft := And.intro ty_2 (And.intro ty_3 (And.intro ty_22 (And.intro ty_28 (And.intro ty_30 (And.intro ty_37 (And.intro ty_39 (And.intro ty_56 trivial)))))))
  refine Run.seq ?_
  have fx := And.intro (@List.length_append.{0}) (And.intro b1 (And.intro al (And.intro a2 (And.intro a1 (And.intro ints_len (And.intro gim_len (And.intro us_len ft)))))))
  refine Run.go ?_
  refine End.kp [1, 2, 3] ?_
  refine Run.seq ?_
  refine Run.go ?_
  refine End.kp [2, 3, 7] ?_
  refine Run.seq ?_
  refine Run.go ?_
  refine End.kp [3, 7] ?_
  refine Run.seq ?_
  refine Run.seq ?_
  refine Run.go ?_
  refine End.kp [7, 20, 21, 22] ?_
  refine Run.block ?_
  refine Run.ghost (Ghost.form [(7, .ms 0 1 (2 + inn.length + st.length)), (20, .im (.sl (n.gates.map LGate.im))), (21, .i n.gates.length), (22, .i (0 : Nat))] 2 ⟨rfl, rfl, rfl, rfl, trivial⟩ rfl rfl) ?_
  refine Run.loop (fun m s => ∃ (i : Nat) (v : List Int), m = n.gates.length - i ∧ i ≤ n.gates.length ∧ v.length = 2 + inn.length + st.length + i ∧ valsN (n.gates.drop i) v = valuesV n inn st ∧ s = ⟨[(7, .ms 0 1 v.length), (20, .im (.sl (n.gates.map LGate.im))), (21, .i n.gates.length), (22, .i (i : Nat))], [.box [.im (.sl (strs n.inn)), .im (.sl (strs n.out)), .im (.sl (n.flops.map LFlop.im)), .im (.sl (n.gates.map LGate.im)), .im (.sl (ints n.outs))], .row 37 1 (us v) 0], up⟩) n.gates.length ⟨0, [0, 18446744073709551615] ++ inn ++ st, rfl, by omega, by simp; omega, rfl, ?_⟩ fun m s hI => ?_
  · simp
    omega
  obtain ⟨i, v, rfl, hi, hvl, hV, rfl⟩ := hI
  have hav : (v.length + 1) * 8 ≤ 140737488355328 := by omega
  refine Run.seq ?_
  have fx := And.intro hav (And.intro (@List.length_append.{0}) (And.intro b1 (And.intro al (And.intro a2 (And.intro a1 (And.intro ints_len (And.intro gim_len (And.intro us_len ft))))))))
  refine Run.go ?_
  refine End.kp [7, 20, 21, 22, 23] ?_
  refine Run.seq ?_
  refine Run.cond _ rfl (fun hb => ?_) (fun hb => ?_)
  · have hb := of_decide_eq_true hb
    have hin : i < n.gates.length := by omega
    have wi := wsucc hin (by omega)
    obtain ⟨g, hgi, hgm, hg⟩ := gate_at n.gates i hin
    obtain ⟨e1, e2, e3⟩ := hn.gates i g hgi
    rw [gate_drop _ i g hgi, valsN] at hV
    refine Run.skip ?_
    refine End.kp [7, 20, 21, 22] ?_
    refine Run.seq ?_
    refine Run.block ?_
    refine Run.seq ?_
    have fx := And.intro (@Int.toNat_natCast) (And.intro (@Int.natCast_nonneg) (And.intro hg (And.intro wi (And.intro hav (And.intro (@List.length_append.{0}) (And.intro b1 (And.intro al (And.intro a2 (And.intro a1 (And.intro ints_len (And.intro gim_len (And.intro us_len ft))))))))))))
    refine Run.go ?_
    refine End.kp [7, 9, 20, 21, 22] ?_
    refine Run.seq ?_
    refine Run.go ?_
    refine End.kp [7, 9, 10, 20, 21, 22] ?_
    refine Run.seq ?_
    refine Run.seq ?_
    refine Run.go ?_
    refine End.kp [7, 9, 10, 20, 21, 22, 27, 28, 29] ?_
    refine Run.block ?_
    refine Run.ghost (Ghost.thaw (u := 10) 37 1 (by decide) rfl) ?_
    refine Run.ghost (Ghost.form [(7, .ms 0 1 v.length), (9, .ptr 0 2 0), (10, .ms 0 3 0), (20, .im (.sl (n.gates.map LGate.im))), (21, .i n.gates.length), (22, .i (i : Nat)), (27, .im (.sl (ints g.ins))), (28, .i g.ins.length), (29, .i (0 : Nat))] 4 ⟨rfl, rfl, rfl, rfl, rfl, rfl, rfl, rfl, rfl, trivial⟩ rfl rfl) ?_
    refine Run.loop (fun m s => ∃ (q : Nat), m = g.ins.length - q ∧ q ≤ g.ins.length ∧ s = ⟨[(7, .ms 0 1 v.length), (9, .ptr 0 2 0), (10, .ms 0 3 q), (20, .im (.sl (n.gates.map LGate.im))), (21, .i n.gates.length), (22, .i (i : Nat)), (27, .im (.sl (ints g.ins))), (28, .i g.ins.length), (29, .i (q : Nat))], [.box [.im (.sl (strs n.inn)), .im (.sl (strs n.out)), .im (.sl (n.flops.map LFlop.im)), .im (.sl (n.gates.map LGate.im)), .im (.sl (ints n.outs))], .row 37 1 (us v) 0, .box [.im (.int .i64 (-1)), .im (.int .u64 g.table), .im (.sl (ints g.ins))], .row 37 1 (us ((g.ins.take q).map fun k => v.getD k.toNat 0)) 0], up⟩) g.ins.length ⟨0, rfl, by omega, rfl⟩ fun m s hI => ?_
    obtain ⟨q, rfl, hq, rfl⟩ := hI
    have hql : ((g.ins.take q).map fun k => v.getD k.toNat 0).length = q := by simp; omega
    have haq : (q + 1) * 8 ≤ 140737488355328 := by omega
    refine Run.seq ?_
    have fx := And.intro haq (And.intro hql (And.intro (@Int.toNat_natCast) (And.intro (@Int.natCast_nonneg) (And.intro hg (And.intro wi (And.intro hav (And.intro (@List.length_append.{0}) (And.intro b1 (And.intro al (And.intro a2 (And.intro a1 (And.intro ints_len (And.intro gim_len (And.intro us_len ft))))))))))))))
    refine Run.go ?_
    refine End.kp [7, 9, 10, 20, 21, 22, 27, 28, 29, 30] ?_
    refine Run.seq ?_
    refine Run.cond _ rfl (fun hb => ?_) (fun hb => ?_)
    · have hb := of_decide_eq_true hb
      have hqn : q < g.ins.length := by omega
      have wq := wsucc hqn (by omega)
      obtain ⟨x, hxi, hxm, hx⟩ := int_at g.ins q hqn
      obtain ⟨x1, x2⟩ := e3 x hxm
      have hxl : x < (v.length : Int) := by omega
      have hvx := us_get v x.toNat (by omega)
      have htk := int_drop g.ins q x hxi
      refine Run.skip ?_
      refine End.kp [7, 9, 10, 20, 21, 22, 27, 28, 29] ?_
      refine Run.seq ?_
      refine Run.block ?_
      refine Run.seq ?_
      have fx := And.intro hvx (And.intro hxl (And.intro x1 (And.intro hx (And.intro wq (And.intro haq (And.intro hql (And.intro (@Int.toNat_natCast) (And.intro (@Int.natCast_nonneg) (And.intro hg (And.intro wi (And.intro hav (And.intro (@List.length_append.{0}) (And.intro b1 (And.intro al (And.intro a2 (And.intro a1 (And.intro ints_len (And.intro gim_len (And.intro us_len ft)))))))))))))))))))
      refine Run.go ?_
      refine End.kp [7, 9, 10, 12, 20, 21, 22, 27, 28, 29] ?_
      refine Run.go ?_
      refine End.blk ?_
      refine End.kp [7, 9, 10, 20, 21, 22, 27, 28, 29] ?_
      refine Run.go ?_
      refine End.lp ?_
      refine ⟨g.ins.length - (q + 1), _, by omega, Ghost.form [(7, .ms 0 1 v.length), (9, .ptr 0 2 0), (10, .ms 0 3 (q + 1)), (20, .im (.sl (n.gates.map LGate.im))), (21, .i n.gates.length), (22, .i (i : Nat)), (27, .im (.sl (ints g.ins))), (28, .i g.ins.length), (29, .i (q + 1 : Nat))] 4 ⟨rfl, rfl, rfl, rfl, rfl, rfl, rfl, rfl, rfl, trivial⟩ rfl rfl, q + 1, rfl, by omega, ?_⟩
      rw [htk]
      simp
    · have hb := of_decide_eq_false hb
      have hqe : q = g.ins.length := by omega
      subst hqe
      rw [List.take_length] at hql ⊢
      refine Run.exit rfl ?_
      refine End.kp [7, 9, 10, 20, 21, 22] ?_
      have fx := And.intro haq (And.intro hql (And.intro (@Int.toNat_natCast) (And.intro (@Int.natCast_nonneg) (And.intro hg (And.intro wi (And.intro hav (And.intro (@List.length_append.{0}) (And.intro b1 (And.intro al (And.intro a2 (And.intro a1 (And.intro ints_len (And.intro gim_len (And.intro us_len ft))))))))))))))
      refine Run.region rfl fun K hK => GOps.sim ?_
      refine GOps.call rfl rfl rfl rfl (by kernel_rfl) (ACalls.sim ?_)
      refine (look_ok g.table (g.ins.map fun k => v.getD k.toNat 0) (by simpa using e1) _).mono fun v u hv => ?_
      obtain ⟨rfl, rfl⟩ := hv
      refine ⟨_, _, rfl, GOps.sim ?_⟩
      refine GOps.done (hK _ ?_); clear hK K
      refine End.blk ?_
      refine End.kp [7, 20, 21, 22] ?_
      refine Run.go ?_
      refine End.lp ?_
      refine ⟨n.gates.length - (i + 1), _, by omega, Ghost.form [(7, .ms 0 1 (v.length + 1)), (20, .im (.sl (n.gates.map LGate.im))), (21, .i n.gates.length), (22, .i (i + 1 : Nat))] 2 ⟨rfl, rfl, rfl, rfl, trivial⟩ rfl rfl, i + 1, v ++ [gateVal g v], rfl, by omega, by simp; omega, hV, ?_⟩
      simp [gateVal]
  · have hb := of_decide_eq_false hb
    have hiN : i = n.gates.length := by omega
    subst hiN
    rw [List.drop_length, valsN] at hV
    refine Run.exit rfl ?_
    refine End.kp [7] ?_
    refine Run.seq ?_
    refine Run.ghost (Ghost.shut (t := 7) (j := 1) rfl rfl (us_len v)) ?_
    simp only [eput, edel]
    have fx := And.intro hav (And.intro (@List.length_append.{0}) (And.intro b1 (And.intro al (And.intro a2 (And.intro a1 (And.intro ints_len (And.intro gim_len (And.intro us_len ft))))))))
    refine Run.go ?_
    refine End.kp [6] ?_
    refine Run.ret (hQ _ _ ⟨.inr rfl, _, rfl, _, rfl, ?_⟩)
    exact ⟨by rw [hV], rfl⟩
theorem NValues_ok (n : LNet) (hn : NetOk n) (inn st : List Int) (h1 : inn.length = n.inn.length) (h2 : st.length = n.flops.length) (up : Frs) : ACalls Try.prog 32 [n.pv, .im (.sl (us inn)), .im (.sl (us st))] up fun v u => v = .tup [.im (.sl (us (valuesV n inn st))), .i 0] ∧ u = up := by
  have d1 : ((inn.length : Int) != n.inn.length) = false := by rw [h1]; simp
  have d2 : ((st.length : Int) != n.flops.length) = false := by rw [h2]; simp
  refine ACalls.code Try.func32 rfl 32 rfl (by simp) [.tmp 6, .tmp 7] rfl fun Q hQ => ?_
  simp only [ups, PV.up, argEnv]
  have ft := And.intro ty_2 (And.intro ty_3 (And.intro ty_4 (And.intro ty_9 (And.intro ty_26 (And.intro ty_27 (And.intro ty_30 (And.intro ty_34 (And.intro ty_37 (And.intro ty_56 (And.intro ty_78 trivial))))))))))
  refine Run.seq ?_
  have fx := And.intro d2 (And.intro d1 (And.intro fim_len (And.intro strs_len (And.intro us_len ft))))
  refine Run.go ?_
  refine End.kp [1, 2, 3] ?_
  refine Run.seq ?_
  refine Run.seq ?_
  refine Run.region rfl fun K hK => GOps.sim ?_
  refine GOps.call rfl rfl rfl rfl (by kernel_rfl) (ACalls.sim ?_)
  refine (Form_ok n hn _).mono fun v u hv => ?_
  obtain ⟨rfl, rfl⟩ := hv
  refine ⟨_, _, rfl, GOps.sim ?_⟩
  refine GOps.done (hK _ ?_); clear hK K
  refine End.kp [1, 2, 3, 8] ?_
  refine Run.seq ?_
  refine Run.go ?_
  refine End.kp [1, 2, 3, 8, 12] ?_
  refine Run.cond _ rfl (fun hb => ?_) (fun hb => ?_)
  · have hb := hb
    simp at hb
  · have hb := hb
    refine Run.skip ?_
    refine End.kp [1, 2, 3] ?_
    refine Run.seq ?_
    refine Run.seq ?_
    have fx := And.intro d2 (And.intro d1 (And.intro fim_len (And.intro strs_len (And.intro us_len ft))))
    refine Run.go ?_
    refine End.kp [1, 2, 3, 27] ?_
    refine Run.cond _ rfl (fun hb => ?_) (fun hb => ?_)
    · have hb := hb
      simp at hb
    · have hb := hb
      refine Run.skip ?_
      refine End.kp [1, 2, 3] ?_
      refine Run.seq ?_
      have fx := And.intro d2 (And.intro d1 (And.intro fim_len (And.intro strs_len (And.intro us_len ft))))
      refine Run.region rfl fun K hK => GOps.sim ?_
      refine GOps.call rfl rfl rfl rfl (by kernel_rfl) (ACalls.sim ?_)
      refine (values_ok n hn inn st h1 h2 _).mono fun v u hv => ?_
      obtain ⟨rfl, rfl⟩ := hv
      refine ⟨_, _, rfl, GOps.sim ?_⟩
      refine GOps.done (hK _ ?_); clear hK K
      refine End.kp [6, 7] ?_
      refine Run.ret (hQ _ _ ⟨.inr rfl, _, rfl, _, rfl, ?_⟩)
      exact ⟨rfl, rfl⟩
end Go.Proofs.YtkmnmokjlpenhaaPi

/- The walks of results, Words and Eval. -/
set_option linter.unusedVariables false
set_option linter.unusedSimpArgs false
set_option maxRecDepth 100000
namespace Go.Proofs.YtkmnmokjlpenhaaPi

abbrev lanes0 (l : List Bool) : List Int := l.map fun b => if b = true then 1 else 0
def outV (n : LNet) (v : List Int) : List Int := n.outs.map fun k => v.getD k.toNat 0
def nextF (n : LNet) (v : List Int) (i : Nat) (f : LFlop) : Int :=
  bits .or .u64 (bits .and .u64 (v.getD f.en.toNat 0) (v.getD f.d.toNat 0)) (bits .and .u64 (bits .xor .u64 (if IntKind.u64.signed = true then -1 else IntKind.u64.max) (v.getD f.en.toNat 0)) (v.getD (2 + (n.inn.length : Int) + i).toNat 0))
def nextsF (n : LNet) (v : List Int) : Nat → List LFlop → List Int
  | _, [] => []
  | i, f :: fs => nextF n v i f :: nextsF n v (i + 1) fs
theorem nextsF_len (n : LNet) (v : List Int) : ∀ (fs : List LFlop) (i : Nat), (nextsF n v i fs).length = fs.length
  | [], i => rfl
  | f :: fs, i => by simp [nextsF, nextsF_len n v fs]
theorem flop_drop (l : List LFlop) (i : Nat) (g : LFlop) (h : l[i]? = some g) : l.drop i = g :: l.drop (i + 1) := by
  obtain ⟨hi, rfl⟩ := List.getElem?_eq_some_iff.1 h
  exact List.drop_eq_getElem_cons hi
theorem nresults_ok (n : LNet) (hn : NetOk n) (v : List Int) (hv : v.length = 2 + n.inn.length + n.flops.length + n.gates.length) (up : Frs) : ACalls Try.prog 105 [n.pv, .im (.sl (us v))] up fun r u => r = .tup [.im (.sl (us (outV n v))), .im (.sl (us (nextsF n v 0 n.flops)))] ∧ u = up := by
  obtain ⟨z1, z2, z3, z4, z5⟩ := hn.small
  refine ACalls.code Try.func105 rfl 69 rfl (by simp) [.tmp 4, .tmp 5] rfl fun Q hQ => ?_
  simp only [ups, PV.up, argEnv]
  have ft := And.intro ty_2 (And.intro ty_3 (And.intro ty_4 (And.intro ty_9 (And.intro ty_22 (And.intro ty_26 (And.intro ty_27 (And.intro ty_30 (And.intro ty_37 (And.intro ty_56 (And.intro ty_78 trivial))))))))))
  refine Run.seq ?_
  have fx := And.intro strs_len (And.intro ints_len (And.intro fim_len (And.intro us_len ft)))
  refine Run.go ?_
  refine End.kp [1, 2, 4, 5] ?_
  refine Run.seq ?_
  refine Run.seq ?_
  refine Run.go ?_
  refine End.kp [1, 2, 4, 5, 12, 13, 14] ?_
  refine Run.block ?_
  refine Run.ghost (Ghost.thaw (u := 4) 37 1 (by decide) rfl) ?_
  refine Run.ghost (Ghost.form [(1, .im (.sl (us v))), (2, .ptr 0 0 0), (4, .ms 0 1 0), (5, .nils), (12, .im (.sl (ints n.outs))), (13, .i n.outs.length), (14, .i (0 : Nat))] 2 ⟨rfl, rfl, rfl, rfl, rfl, rfl, rfl, trivial⟩ rfl rfl) ?_
  refine Run.loop (fun m s => ∃ (i : Nat), m = n.outs.length - i ∧ i ≤ n.outs.length ∧ s = ⟨[(1, .im (.sl (us v))), (2, .ptr 0 0 0), (4, .ms 0 1 i), (5, .nils), (12, .im (.sl (ints n.outs))), (13, .i n.outs.length), (14, .i (i : Nat))], [.box [.im (.sl (strs n.inn)), .im (.sl (strs n.out)), .im (.sl (n.flops.map LFlop.im)), .im (.sl (n.gates.map LGate.im)), .im (.sl (ints n.outs))], .row 37 1 (us ((n.outs.take i).map fun k => v.getD k.toNat 0)) 0], up⟩) n.outs.length ⟨0, rfl, by omega, rfl⟩ fun m s hI => ?_
  obtain ⟨i, rfl, hi, rfl⟩ := hI
  have hol : ((n.outs.take i).map fun k => v.getD k.toNat 0).length = i := by simp; omega
  have hao : (i + 1) * 8 ≤ 140737488355328 := by omega
  refine Run.seq ?_
  have fx := And.intro hao (And.intro hol (And.intro strs_len (And.intro ints_len (And.intro fim_len (And.intro us_len ft)))))
  refine Run.go ?_
  refine End.kp [1, 2, 4, 5, 12, 13, 14, 15] ?_
  refine Run.seq ?_
  refine Run.cond _ rfl (fun hb => ?_) (fun hb => ?_)
  · have hb := of_decide_eq_true hb
    have hin : i < n.outs.length := by omega
    have wi := wsucc hin (by omega)
    obtain ⟨x, hxi, hxm, hx⟩ := int_at n.outs i hin
    obtain ⟨x1, x2⟩ := hn.ends.outs x hxm
    have hvx := us_get v x.toNat (by omega)
    have htk := int_drop n.outs i x hxi
    refine Run.skip ?_
    refine End.kp [1, 2, 4, 5, 12, 13, 14] ?_
    refine Run.seq ?_
    refine Run.block ?_
    refine Run.seq ?_
    have fx := And.intro (@Int.toNat_natCast) (And.intro (@Int.natCast_nonneg) (And.intro hvx (And.intro x1 (And.intro hx (And.intro wi (And.intro hao (And.intro hol (And.intro strs_len (And.intro ints_len (And.intro fim_len (And.intro us_len ft)))))))))))
    refine Run.go ?_
    refine End.kp [1, 2, 4, 5, 7, 12, 13, 14] ?_
    refine Run.go ?_
    refine End.blk ?_
    refine End.kp [1, 2, 4, 5, 12, 13, 14] ?_
    refine Run.go ?_
    refine End.lp ?_
    refine ⟨n.outs.length - (i + 1), _, by omega, Ghost.form [(1, .im (.sl (us v))), (2, .ptr 0 0 0), (4, .ms 0 1 (i + 1)), (5, .nils), (12, .im (.sl (ints n.outs))), (13, .i n.outs.length), (14, .i (i + 1 : Nat))] 2 ⟨rfl, rfl, rfl, rfl, rfl, rfl, rfl, trivial⟩ rfl rfl, i + 1, rfl, by omega, ?_⟩
    rw [htk]
    simp
  · have hb := of_decide_eq_false hb
    have hiN : i = n.outs.length := by omega
    subst hiN
    rw [List.take_length] at hol ⊢
    refine Run.exit rfl ?_
    refine End.kp [1, 2, 4, 5] ?_
    refine Run.seq ?_
    refine Run.seq ?_
    have fx := And.intro hao (And.intro hol (And.intro strs_len (And.intro ints_len (And.intro fim_len (And.intro us_len ft)))))
    refine Run.go ?_
    refine End.kp [1, 2, 4, 5, 27, 28, 29] ?_
    refine Run.block ?_
    refine Run.ghost (Ghost.thaw (u := 5) 37 1 (by decide) rfl) ?_
    refine Run.ghost (Ghost.form [(1, .im (.sl (us v))), (2, .ptr 0 0 0), (4, .ms 0 1 n.outs.length), (5, .ms 0 2 0), (27, .im (.sl (n.flops.map LFlop.im))), (28, .i n.flops.length), (29, .i (0 : Nat))] 3 ⟨rfl, rfl, rfl, rfl, rfl, rfl, rfl, trivial⟩ rfl rfl) ?_
    refine Run.loop (fun m s => ∃ (i : Nat) (dn : List Int), m = n.flops.length - i ∧ i ≤ n.flops.length ∧ dn.length = i ∧ dn ++ nextsF n v i (n.flops.drop i) = nextsF n v 0 n.flops ∧ s = ⟨[(1, .im (.sl (us v))), (2, .ptr 0 0 0), (4, .ms 0 1 n.outs.length), (5, .ms 0 2 i), (27, .im (.sl (n.flops.map LFlop.im))), (28, .i n.flops.length), (29, .i (i : Nat))], [.box [.im (.sl (strs n.inn)), .im (.sl (strs n.out)), .im (.sl (n.flops.map LFlop.im)), .im (.sl (n.gates.map LGate.im)), .im (.sl (ints n.outs))], .row 37 1 (us (outV n v)) 0, .row 37 1 (us dn) 0], up⟩) n.flops.length ⟨0, [], rfl, by omega, rfl, rfl, rfl⟩ fun m s hI => ?_
    obtain ⟨i, dn, rfl, hi, hdn, hN, rfl⟩ := hI
    have haf : (i + 1) * 8 ≤ 140737488355328 := by omega
    refine Run.seq ?_
    have fx := And.intro haf (And.intro hdn (And.intro hao (And.intro hol (And.intro strs_len (And.intro ints_len (And.intro fim_len (And.intro us_len ft)))))))
    refine Run.go ?_
    refine End.kp [1, 2, 4, 5, 27, 28, 29, 30] ?_
    refine Run.seq ?_
    refine Run.cond _ rfl (fun hb => ?_) (fun hb => ?_)
    · have hb := of_decide_eq_true hb
      have hin : i < n.flops.length := by omega
      have wi := wsucc hin (by omega)
      obtain ⟨f, hfi, hfm, hf⟩ := flop_at n.flops i hin
      obtain ⟨⟨x1, x2⟩, x3, x4⟩ := hn.ends.flops f hfm
      have hvd := us_get v f.d.toNat (by omega)
      have hve := us_get v f.en.toNat (by omega)
      have w1 : IntKind.i64.wrap (2 + (n.inn.length : Int)) = 2 + (n.inn.length : Int) := wrap64 (by omega)
      have w2 : IntKind.i64.wrap (2 + (n.inn.length : Int) + i) = 2 + (n.inn.length : Int) + i := wrap64 (by omega)
      have hv0 : 0 ≤ 2 + (n.inn.length : Int) + i := by omega
      have hvo := us_get v (2 + (n.inn.length : Int) + i).toNat (by omega)
      rw [flop_drop _ i f hfi, nextsF] at hN
      refine Run.skip ?_
      refine End.kp [1, 2, 4, 5, 27, 28, 29] ?_
      refine Run.seq ?_
      refine Run.block ?_
      refine Run.seq ?_
      have fx := And.intro (@Int.toNat_natCast) (And.intro (@Int.natCast_nonneg) (And.intro w2 (And.intro w1 (And.intro hv0 (And.intro hvo (And.intro hve (And.intro hvd (And.intro x3 (And.intro x1 (And.intro hf (And.intro wi (And.intro haf (And.intro hdn (And.intro hao (And.intro hol (And.intro strs_len (And.intro ints_len (And.intro fim_len (And.intro us_len ft)))))))))))))))))))
      refine Run.go ?_
      refine End.kp [1, 2, 4, 5, 8, 9, 27, 28, 29] ?_
      refine Run.seq ?_
      refine Run.go ?_
      refine End.kp [1, 2, 4, 5, 9, 10, 27, 28, 29] ?_
      refine Run.ghost (.spares 1) ?_
      simp only [ASt.pushN, ASt.push, List.append_assoc, List.cons_append, List.nil_append]
      refine Run.drawA fun K hK => ?_
      refine DOps.sim ?_
      refine DOps.nil (by rfl) (hK _ ?_); clear hK K
      refine End.blk ?_
      refine End.kp [1, 2, 4, 5, 27, 28, 29] ?_
      refine Run.go ?_
      refine End.lp ?_
      refine ⟨n.flops.length - (i + 1), _, by omega, Ghost.form [(1, .im (.sl (us v))), (2, .ptr 0 0 0), (4, .ms 0 1 n.outs.length), (5, .ms 0 2 (i + 1)), (27, .im (.sl (n.flops.map LFlop.im))), (28, .i n.flops.length), (29, .i (i + 1 : Nat))] 3 ⟨rfl, rfl, rfl, rfl, rfl, rfl, rfl, trivial⟩ rfl rfl, i + 1, dn ++ [nextF n v i f], rfl, by omega, by simp [hdn], by simpa using hN, ?_⟩
      simp [nextF]
    · have hb := of_decide_eq_false hb
      have hiN : i = n.flops.length := by omega
      subst hiN
      rw [List.drop_length, nextsF, List.append_nil] at hN
      refine Run.exit rfl ?_
      refine End.kp [4, 5] ?_
      refine Run.seq ?_
      refine Run.ghost (Ghost.shut (t := 4) (j := 1) rfl rfl (by rw [us_len]; exact hol)) ?_
      simp only [eput, edel]
      refine Run.ghost (Ghost.shut (t := 5) (j := 2) rfl rfl (by rw [us_len, hdn])) ?_
      simp only [eput, edel]
      have fx := And.intro haf (And.intro hdn (And.intro hao (And.intro hol (And.intro strs_len (And.intro ints_len (And.intro fim_len (And.intro us_len ft)))))))
      refine Run.go ?_
      refine End.kp [4, 5] ?_
      refine Run.ret (hQ _ _ ⟨.inr rfl, _, rfl, _, rfl, ?_⟩)
      exact ⟨by rw [hN], rfl⟩
theorem valsN_len : ∀ (gs : List LGate) (v : List Int), (valsN gs v).length = v.length + gs.length
  | [], v => by simp [valsN]
  | g :: gs, v => by
    rw [valsN, valsN_len gs]
    simp
    omega
theorem valuesV_len (n : LNet) (inn st : List Int) (h1 : inn.length = n.inn.length) (h2 : st.length = n.flops.length) : (valuesV n inn st).length = 2 + n.inn.length + n.flops.length + n.gates.length := by
  rw [valuesV, valsN_len]
  simp
  omega
theorem NWords_ok (n : LNet) (hn : NetOk n) (inn st : List Int) (h1 : inn.length = n.inn.length) (h2 : st.length = n.flops.length) (up : Frs) : ACalls Try.prog 91 [n.pv, .im (.sl (us inn)), .im (.sl (us st))] up fun v u => v = .tup [.im (.sl (us (outV n (valuesV n inn st)))), .im (.sl (us (nextsF n (valuesV n inn st) 0 n.flops))), .i 0] ∧ u = up := by
  refine ACalls.code Try.func91 rfl 28 rfl (by simp) [.tmp 6, .tmp 7, .tmp 8] rfl fun Q hQ => ?_
  simp only [ups, PV.up, argEnv]
  have ft := And.intro ty_4 (And.intro ty_30 (And.intro ty_34 (And.intro ty_37 (And.intro ty_56 trivial))))
  refine Run.seq ?_
  have fx := ft
  refine Run.go ?_
  refine End.kp [1, 2, 3] ?_
  refine Run.seq ?_
  refine Run.region rfl fun K hK => GOps.sim ?_
  refine GOps.call rfl rfl rfl rfl (by kernel_rfl) (ACalls.sim ?_)
  refine (NValues_ok n hn inn st h1 h2 _).mono fun v u hv => ?_
  obtain ⟨rfl, rfl⟩ := hv
  refine ⟨_, _, rfl, GOps.sim ?_⟩
  refine GOps.done (hK _ ?_); clear hK K
  refine End.kp [3, 8, 9] ?_
  refine Run.seq ?_
  refine Run.seq ?_
  refine Run.go ?_
  refine End.kp [3, 8, 9, 18] ?_
  refine Run.cond _ rfl (fun hb => ?_) (fun hb => ?_)
  · have hb := hb
    simp at hb
  · have hb := hb
    refine Run.skip ?_
    refine End.kp [3, 9] ?_
    refine Run.seq ?_
    have fx := ft
    refine Run.region rfl fun K hK => GOps.sim ?_
    refine GOps.call rfl rfl rfl rfl (by kernel_rfl) (ACalls.sim ?_)
    refine (nresults_ok n hn (valuesV n inn st) (valuesV_len n inn st h1 h2) _).mono fun v u hv => ?_
    obtain ⟨rfl, rfl⟩ := hv
    refine ⟨_, _, rfl, GOps.sim ?_⟩
    refine GOps.done (hK _ ?_); clear hK K
    refine End.kp [6, 7] ?_
    refine Run.seq ?_
    refine Run.go ?_
    refine End.kp [6, 7, 8] ?_
    refine Run.ret (hQ _ _ ⟨.inr rfl, _, rfl, _, rfl, ?_⟩)
    exact ⟨rfl, rfl⟩
theorem NEval_ok (n : LNet) (hn : NetOk n) (inn st : List Bool) (h1 : inn.length = n.inn.length) (h2 : st.length = n.flops.length) (up : Frs) : ACalls Try.prog 34 [n.pv, .im (.sl (bools inn)), .im (.sl (bools st))] up fun v u => v = .tup [.im (.sl (bools ((outV n (valuesV n (lanes0 inn) (lanes0 st))).map fun w => bits .and .u64 w 1 == 1))), .im (.sl (bools ((nextsF n (valuesV n (lanes0 inn) (lanes0 st)) 0 n.flops).map fun w => bits .and .u64 w 1 == 1))), .i 0] ∧ u = up := by
  obtain ⟨z1, z2, z3, z4, z5⟩ := hn.small
  refine ACalls.code Try.func34 rfl 28 rfl (by simp) [.tmp 6, .tmp 7, .tmp 8] rfl fun Q hQ => ?_
  simp only [ups, PV.up, argEnv]
  have ft := And.intro ty_2 (And.intro ty_4 (And.intro ty_30 (And.intro ty_34 (And.intro ty_37 (And.intro ty_56 (And.intro ty_71 trivial))))))
  refine Run.seq ?_
  have fx := ft
  refine Run.go ?_
  refine End.kp [1, 2, 3] ?_
  refine Run.seq ?_
  refine Run.drawA fun K hK => ?_
  refine DOps.sim ?_
  refine DOps.call (.im (.sl (us (lanes0 inn)))) [] [] rfl rfl rfl rfl (by kernel_rfl) (by simp [Agree]) (fun u hu => Lanes_ok inn (by omega) u) ?_
  refine DOps.sim ?_
  refine DOps.call (.im (.sl (us (lanes0 st)))) [] [] rfl rfl rfl rfl (by kernel_rfl) (by simp [Agree]) (fun u hu => Lanes_ok st (by omega) u) ?_
  refine DOps.sim ?_
  refine DOps.call (.tup [.im (.sl (us (outV n (valuesV n (lanes0 inn) (lanes0 st))))), .im (.sl (us (nextsF n (valuesV n (lanes0 inn) (lanes0 st)) 0 n.flops))), .i 0]) [] [] rfl rfl rfl rfl (by kernel_rfl) (by simp [Agree]) (fun u hu => NWords_ok n hn (lanes0 inn) (lanes0 st) (by simpa using h1) (by simpa using h2) u) ?_
  refine DOps.sim ?_
  refine DOps.nil (metAll_quiet rfl) (hK _ ?_); clear hK K
  refine End.kp [8, 9, 10] ?_
  refine Run.seq ?_
  refine Run.seq ?_
  refine Run.go ?_
  refine End.kp [8, 9, 10, 22] ?_
  refine Run.cond _ rfl (fun hb => ?_) (fun hb => ?_)
  · have hb := hb
    simp at hb
  · have hb := hb
    refine Run.skip ?_
    refine End.kp [9, 10] ?_
    refine Run.seq ?_
    have fx := ft
    refine Run.region rfl fun K hK => GOps.sim ?_
    refine GOps.call rfl rfl rfl rfl (by kernel_rfl) (ACalls.sim ?_)
    refine (Lane_ok _ (by simp [outV]; omega) _).mono fun v u hv => ?_
    obtain ⟨rfl, rfl⟩ := hv
    refine ⟨_, _, rfl, GOps.sim ?_⟩
    refine GOps.call rfl rfl rfl rfl (by kernel_rfl) (ACalls.sim ?_)
    refine (Lane_ok _ (by rw [nextsF_len]; omega) _).mono fun v u hv => ?_
    obtain ⟨rfl, rfl⟩ := hv
    refine ⟨_, _, rfl, GOps.sim ?_⟩
    refine GOps.done (hK _ ?_); clear hK K
    refine End.kp [6, 7, 8] ?_
    refine Run.ret (hQ _ _ ⟨.inr rfl, _, rfl, _, rfl, ?_⟩)
    exact ⟨rfl, rfl⟩
end Go.Proofs.YtkmnmokjlpenhaaPi

/- The walk of NetlistHolds. -/
set_option linter.unusedVariables false
set_option linter.unusedSimpArgs false
set_option maxRecDepth 100000
namespace Go.Proofs.YtkmnmokjlpenhaaPi

/-- What the law asks of a netlist and its values: in plain words, no program in sight. -/
def HoldsAt (n : LNet) (inn st : List Bool) : Prop :=
  ∀ (i : Nat) (f : LFlop), n.flops[i]? = some f →
    ((nextsF n (valuesV n (lanes0 inn) (lanes0 st)) 0 n.flops).map fun w => bits .and .u64 w 1 == 1).getD i false =
      if bits .and .u64 ((valuesV n (lanes0 inn) (lanes0 st)).getD f.en.toNat 0) 1 == 1 then bits .and .u64 ((valuesV n (lanes0 inn) (lanes0 st)).getD f.d.toNat 0) 1 == 1 else st.getD i false
theorem Holds_walk (l : List Int) (hs : StmOk l 0)
    (hnet : ∀ (ins flops gates outs : Nat) (a : Int), ins ≤ 4 → flops ≤ 4 → gates ≤ 11 → outs ≤ 3 → NetOk (netlistV l a ins flops gates outs).1 ∧ 0 ≤ (netlistV l a ins flops gates outs).2 - a ∧ (netlistV l a ins flops gates outs).2 ≤ a + 1000)
    (hlaw : ∀ (n : LNet) (inn st : List Bool), NetOk n → inn.length = n.inn.length → st.length = n.flops.length → HoldsAt n inn st) (up : Frs) : ACalls Try.prog 5 [.im (.sl (ints l))] up fun v u => v = .im (.bool true) ∧ u = up := by
  obtain ⟨r1, s1⟩ := nextV_range l 0 5 (by omega)
  obtain ⟨r2, s2⟩ := nextV_range l (0 + 1) (4 - 1 + 1) (by omega)
  obtain ⟨r3, s3⟩ := nextV_range l (0 + 1 + 1) 12 (by omega)
  obtain ⟨r4, s4⟩ := nextV_range l (0 + 1 + 1 + 1) 4 (by omega)
  obtain ⟨ins, e1⟩ : ∃ k : Nat, nextV l 0 5 = k := ⟨(nextV l 0 5).toNat, by omega⟩
  obtain ⟨flops, e2⟩ : ∃ k : Nat, 1 + nextV l (0 + 1) (4 - 1 + 1) = k := ⟨(1 + nextV l (0 + 1) (4 - 1 + 1)).toNat, by omega⟩
  obtain ⟨gates, e3⟩ : ∃ k : Nat, nextV l (0 + 1 + 1) 12 = k := ⟨(nextV l (0 + 1 + 1) 12).toNat, by omega⟩
  obtain ⟨outs, e4⟩ : ∃ k : Nat, nextV l (0 + 1 + 1 + 1) 4 = k := ⟨(nextV l (0 + 1 + 1 + 1) 4).toNat, by omega⟩
  have ok : ∀ b : Int, 0 ≤ b → b ≤ 100000 → StmOk l b := fun b h1 h2 => ⟨hs.vals, hs.len, h1, by omega⟩
  obtain ⟨hn, hb1, hb2⟩ := hnet ins flops gates outs (0 + 1 + 1 + 1 + 1) (by omega) (by omega) (by omega) (by omega)
  have hNet := Netlist_ok ins flops gates outs (by omega) (by omega) (by omega) (by omega) l (0 + 1 + 1 + 1 + 1) (ok _ (by omega) (by omega)) (by omega)
  generalize netlistV l (0 + 1 + 1 + 1 + 1) ins flops gates outs = NV at hn hb1 hb2 hNet
  obtain ⟨n, b⟩ := NV
  simp only at hn hb1 hb2 hNet
  obtain ⟨z1, z2, z3, z4, z5⟩ := hn.small
  refine ACalls.code Try.func5 rfl 113 rfl (by simp) [.tmp 2] rfl fun Q hQ => ?_
  simp only [ups, PV.up, argEnv]
  have ft := And.intro ty_2 (And.intro ty_3 (And.intro ty_4 (And.intro ty_9 (And.intro ty_22 (And.intro ty_23 (And.intro ty_25 (And.intro ty_26 (And.intro ty_27 (And.intro ty_30 (And.intro ty_34 (And.intro ty_37 (And.intro ty_56 (And.intro ty_71 (And.intro ty_78 trivial))))))))))))))
  refine Run.seq ?_
  have fx := And.intro fim_len (And.intro strs_len (And.intro e4 (And.intro e3 (And.intro e2 (And.intro e1 ft)))))
  refine Run.go ?_
  refine End.kp [0] ?_
  refine Run.seq ?_
  refine Run.go ?_
  refine End.kp [3] ?_
  refine Run.seq ?_
  refine Run.region rfl fun K hK => GOps.sim ?_
  refine GOps.call rfl rfl rfl rfl (by kernel_rfl) (ACalls.sim ?_)
  refine (Next_ok l 0 5 hs (by omega) _ 0 0 rfl).mono fun v u hv => ?_
  obtain ⟨rfl, rfl⟩ := hv
  refine ⟨_, _, rfl, GOps.sim ?_⟩
  refine GOps.call rfl rfl rfl rfl (by kernel_rfl) (ACalls.sim ?_)
  refine (Range_ok 1 4 (by omega) (by omega) (by omega) l (0 + 1) (ok _ (by omega) (by omega)) (by omega) _ 0 0 rfl).mono fun v u hv => ?_
  obtain ⟨rfl, rfl⟩ := hv
  refine ⟨_, _, rfl, GOps.sim ?_⟩
  refine GOps.call rfl rfl rfl rfl (by kernel_rfl) (ACalls.sim ?_)
  refine (Next_ok l (0 + 1 + 1) 12 (ok _ (by omega) (by omega)) (by omega) _ 0 0 rfl).mono fun v u hv => ?_
  obtain ⟨rfl, rfl⟩ := hv
  refine ⟨_, _, rfl, GOps.sim ?_⟩
  refine GOps.call rfl rfl rfl rfl (by kernel_rfl) (ACalls.sim ?_)
  refine (Next_ok l (0 + 1 + 1 + 1) 4 (ok _ (by omega) (by omega)) (by omega) _ 0 0 rfl).mono fun v u hv => ?_
  obtain ⟨rfl, rfl⟩ := hv
  refine ⟨_, _, rfl, GOps.sim ?_⟩
  refine GOps.call rfl rfl rfl rfl (by kernel_rfl) (ACalls.sim ?_)
  refine (hNet _ 0 0 rfl).mono fun v u hv => ?_
  obtain ⟨rfl, rfl⟩ := hv
  refine ⟨_, _, rfl, GOps.sim ?_⟩
  refine GOps.done (hK _ ?_); clear hK K
  refine End.kp [3, 4] ?_
  refine Run.seq ?_
  refine Run.drawA fun K hK => ?_
  refine DOps.sim ?_
  refine DOps.call (.im (.sl (bools (valsV l n.inn.length b)))) [((0, 0), stm l b)] [((0, 0), stm l (b + n.inn.length))] rfl rfl rfl rfl (by kernel_rfl) (by simp [Agree, ASt.fr]) (fun u hu => Values_ok n.inn.length (by omega) l b (ok _ (by omega) (by omega)) (by omega) u 0 0 (hu ((0, 0), stm l b) (by simp))) ?_
  refine DOps.sim ?_
  refine DOps.call (.im (.sl (bools (valsV l n.flops.length (b + n.inn.length))))) [((0, 0), stm l (b + n.inn.length))] [((0, 0), stm l (b + n.inn.length + n.flops.length))] rfl rfl rfl rfl (by kernel_rfl) (by simp [Agree, ASt.fr]) (fun u hu => Values_ok n.flops.length (by omega) l (b + n.inn.length) (ok _ (by omega) (by omega)) (by omega) u 0 0 (hu ((0, 0), stm l (b + n.inn.length)) (by simp))) ?_
  refine DOps.sim ?_
  refine DOps.nil (by rfl) (hK _ ?_); clear hK K
  refine End.kp [4, 5, 6] ?_
  refine Run.seq ?_
  have hi1 := valsV_len l n.inn.length b
  have hi2 := valsV_len l n.flops.length (b + n.inn.length)
  generalize valsV l n.inn.length b = inn at hi1
  generalize valsV l n.flops.length (b + n.inn.length) = st at hi2
  have hbl : (bools st).length = n.flops.length := by rw [bools_len, hi2]
  have fx := And.intro fim_len (And.intro strs_len (And.intro e4 (And.intro e3 (And.intro e2 (And.intro e1 ft)))))
  refine Run.drawA fun K hK => ?_
  refine DOps.sim ?_
  refine DOps.call (.im (.sl (us (lanes0 inn)))) [] [] rfl rfl rfl rfl (by kernel_rfl) (by simp [Agree]) (fun u hu => Lanes_ok inn (by omega) u) ?_
  refine DOps.sim ?_
  refine DOps.call (.im (.sl (us (lanes0 st)))) [] [] rfl rfl rfl rfl (by kernel_rfl) (by simp [Agree]) (fun u hu => Lanes_ok st (by omega) u) ?_
  refine DOps.sim ?_
  refine DOps.call (.tup [.im (.sl (us (valuesV n (lanes0 inn) (lanes0 st)))), .i 0]) [] [] rfl rfl rfl rfl (by kernel_rfl) (by simp [Agree]) (fun u hu => NValues_ok n hn (lanes0 inn) (lanes0 st) (by simpa using hi1) (by simpa using hi2) u) ?_
  refine DOps.sim ?_
  refine DOps.nil (metAll_quiet rfl) (hK _ ?_); clear hK K
  refine End.kp [4, 5, 6, 7, 8] ?_
  refine Run.seq ?_
  refine Run.region rfl fun K hK => GOps.sim ?_
  refine GOps.call rfl rfl rfl rfl (by kernel_rfl) (ACalls.sim ?_)
  refine (NEval_ok n hn inn st hi1 hi2 _).mono fun v u hv => ?_
  obtain ⟨rfl, rfl⟩ := hv
  refine ⟨_, _, rfl, GOps.sim ?_⟩
  refine GOps.done (hK _ ?_); clear hK K
  refine End.kp [4, 6, 7, 8, 10, 11] ?_
  refine Run.seq ?_
  refine Run.seq ?_
  have hLaw := hlaw n inn st hn hi1 hi2
  unfold HoldsAt at hLaw
  have hVl := valuesV_len n (lanes0 inn) (lanes0 st) (by simpa using hi1) (by simpa using hi2)
  have hXl : ((nextsF n (valuesV n (lanes0 inn) (lanes0 st)) 0 n.flops).map fun w => bits .and .u64 w 1 == 1).length = n.flops.length := by rw [List.length_map, nextsF_len]
  generalize ((nextsF n (valuesV n (lanes0 inn) (lanes0 st)) 0 n.flops).map fun w => bits .and .u64 w 1 == 1) = X at hLaw hXl
  generalize valuesV n (lanes0 inn) (lanes0 st) = V at hLaw hVl
  have c1 : ((X.length : Int) != n.flops.length) = false := by rw [hXl]; simp
  have c2 : ((V.length : Int) != 2 + n.inn.length + n.flops.length + n.gates.length) = false := by
    have : (V.length : Int) = 2 + n.inn.length + n.flops.length + n.gates.length := by omega
    simp [this]
  have fx := And.intro c2 (And.intro c1 (And.intro bools_len (And.intro us_len (And.intro fim_len (And.intro strs_len (And.intro e4 (And.intro e3 (And.intro e2 (And.intro e1 ft)))))))))
  refine Run.region rfl fun K hK => GOps.sim ?_
  refine GOps.call rfl rfl rfl rfl (by kernel_rfl) (ACalls.sim ?_)
  refine (nets_ok _).mono fun v u hv => ?_
  obtain ⟨rfl, rfl⟩ := hv
  refine ⟨_, _, rfl, GOps.sim ?_⟩
  refine GOps.call rfl rfl rfl rfl (by kernel_rfl) (ACalls.sim ?_)
  refine (Nets_ok n hn.small _).mono fun v u hv => ?_
  obtain ⟨rfl, rfl⟩ := hv
  refine ⟨_, _, rfl, GOps.sim ?_⟩
  refine GOps.done (hK _ ?_); clear hK K
  refine End.kp [4, 6, 7, 10, 79] ?_
  refine Run.cond _ rfl (fun hb => ?_) (fun hb => ?_)
  · have hb := hb
    simp at hb
  · have hb := hb
    refine Run.skip ?_
    refine End.kp [4, 6, 7, 10] ?_
    refine Run.seq ?_
    refine Run.seq ?_
    have fx := And.intro c2 (And.intro c1 (And.intro bools_len (And.intro us_len (And.intro fim_len (And.intro strs_len (And.intro e4 (And.intro e3 (And.intro e2 (And.intro e1 ft)))))))))
    refine Run.go ?_
    refine End.kp [6, 7, 10, 81, 82, 83] ?_
    refine Run.block ?_
    refine Run.ghost (Ghost.form [(6, .im (.sl (bools st))), (7, .im (.sl (us V))), (10, .im (.sl (bools X))), (81, .im (.sl (n.flops.map LFlop.im))), (82, .i n.flops.length), (83, .i (0 : Nat))] 1 ⟨rfl, rfl, rfl, rfl, rfl, rfl, trivial⟩ rfl rfl) ?_
    refine Run.loop (fun m s => ∃ (i : Nat) (c : Int), m = n.flops.length - i ∧ i ≤ n.flops.length ∧ s = ⟨[(6, .im (.sl (bools st))), (7, .im (.sl (us V))), (10, .im (.sl (bools X))), (81, .im (.sl (n.flops.map LFlop.im))), (82, .i n.flops.length), (83, .i (i : Nat))], [stm l c], up⟩) n.flops.length ⟨0, _, rfl, by omega, rfl⟩ fun m s hI => ?_
    obtain ⟨i, c, rfl, hi, rfl⟩ := hI
    refine Run.seq ?_
    have fx := And.intro c2 (And.intro c1 (And.intro bools_len (And.intro us_len (And.intro fim_len (And.intro strs_len (And.intro e4 (And.intro e3 (And.intro e2 (And.intro e1 ft)))))))))
    refine Run.go ?_
    refine End.kp [6, 7, 10, 81, 82, 83, 84] ?_
    refine Run.seq ?_
    refine Run.cond _ rfl (fun hb => ?_) (fun hb => ?_)
    · have hb := of_decide_eq_true hb
      have hin : i < n.flops.length := by omega
      have wi := wsucc hin (by omega)
      obtain ⟨f, hfi, hfm, hf⟩ := flop_at n.flops i hin
      obtain ⟨⟨x1, x2⟩, x3, x4⟩ := hn.ends.flops f hfm
      have hvd := us_get V f.d.toNat (by omega)
      have hve := us_get V f.en.toNat (by omega)
      have hst := bools_get st i (by omega)
      have hx := bools_get X i (by omega)
      have hL := hLaw i f hfi
      refine Run.skip ?_
      refine End.kp [6, 7, 10, 81, 82, 83] ?_
      refine Run.seq ?_
      refine Run.block ?_
      refine Run.seq ?_
      have fx := And.intro (@Int.toNat_natCast) (And.intro (@Int.natCast_nonneg) (And.intro hx (And.intro hst (And.intro hve (And.intro hvd (And.intro x3 (And.intro x1 (And.intro hf (And.intro wi (And.intro c2 (And.intro c1 (And.intro bools_len (And.intro us_len (And.intro fim_len (And.intro strs_len (And.intro e4 (And.intro e3 (And.intro e2 (And.intro e1 ft)))))))))))))))))))
      refine Run.go ?_
      refine End.kp [6, 7, 10, 12, 13, 81, 82, 83] ?_
      refine Run.seq ?_
      refine Run.go ?_
      refine End.kp [6, 7, 10, 12, 13, 14, 81, 82, 83] ?_
      refine Run.seq ?_
      refine Run.seq ?_
      refine Run.go ?_
      refine End.kp [6, 7, 10, 12, 13, 14, 81, 82, 83, 98] ?_
      refine Run.cond _ rfl (fun hb => ?_) (fun hb => ?_)
      · have hb2 := hb
        rw [if_pos hb2] at hL
        have fx := And.intro (@Int.toNat_natCast) (And.intro (@Int.natCast_nonneg) (And.intro hx (And.intro hst (And.intro hve (And.intro hvd (And.intro x3 (And.intro x1 (And.intro hf (And.intro wi (And.intro c2 (And.intro c1 (And.intro bools_len (And.intro us_len (And.intro fim_len (And.intro strs_len (And.intro e4 (And.intro e3 (And.intro e2 (And.intro e1 ft)))))))))))))))))))
        refine Run.go ?_
        refine End.kp [6, 7, 10, 12, 14, 81, 82, 83] ?_
        refine Run.seq ?_
        refine Run.go ?_
        refine End.kp [6, 7, 10, 81, 82, 83, 111] ?_
        refine Run.cond _ rfl (fun hb => ?_) (fun hb => ?_)
        · have hb := hb
          rw [hL] at hb
          simp at hb
        · have hb := hb
          refine Run.skip ?_
          refine End.blk ?_
          refine End.kp [6, 7, 10, 81, 82, 83] ?_
          have fx := And.intro (@Int.toNat_natCast) (And.intro (@Int.natCast_nonneg) (And.intro hx (And.intro hst (And.intro hve (And.intro hvd (And.intro x3 (And.intro x1 (And.intro hf (And.intro wi (And.intro c2 (And.intro c1 (And.intro bools_len (And.intro us_len (And.intro fim_len (And.intro strs_len (And.intro e4 (And.intro e3 (And.intro e2 (And.intro e1 ft)))))))))))))))))))
          refine Run.go ?_
          refine End.lp ?_
          refine ⟨n.flops.length - (i + 1), _, by omega, Ghost.form [(6, .im (.sl (bools st))), (7, .im (.sl (us V))), (10, .im (.sl (bools X))), (81, .im (.sl (n.flops.map LFlop.im))), (82, .i n.flops.length), (83, .i (i + 1 : Nat))] 1 ⟨rfl, rfl, rfl, rfl, rfl, rfl, trivial⟩ rfl rfl, i + 1, c, rfl, by omega, rfl⟩
      · have hb2 := hb
        rw [if_neg (by rw [hb2]; simp)] at hL
        refine Run.skip ?_
        refine End.kp [6, 7, 10, 12, 14, 81, 82, 83] ?_
        refine Run.seq ?_
        have fx := And.intro (@Int.toNat_natCast) (And.intro (@Int.natCast_nonneg) (And.intro hx (And.intro hst (And.intro hve (And.intro hvd (And.intro x3 (And.intro x1 (And.intro hf (And.intro wi (And.intro c2 (And.intro c1 (And.intro bools_len (And.intro us_len (And.intro fim_len (And.intro strs_len (And.intro e4 (And.intro e3 (And.intro e2 (And.intro e1 ft)))))))))))))))))))
        refine Run.go ?_
        refine End.kp [6, 7, 10, 81, 82, 83, 111] ?_
        refine Run.cond _ rfl (fun hb => ?_) (fun hb => ?_)
        · have hb := hb
          rw [hL] at hb
          simp at hb
        · have hb := hb
          refine Run.skip ?_
          refine End.blk ?_
          refine End.kp [6, 7, 10, 81, 82, 83] ?_
          have fx := And.intro (@Int.toNat_natCast) (And.intro (@Int.natCast_nonneg) (And.intro hx (And.intro hst (And.intro hve (And.intro hvd (And.intro x3 (And.intro x1 (And.intro hf (And.intro wi (And.intro c2 (And.intro c1 (And.intro bools_len (And.intro us_len (And.intro fim_len (And.intro strs_len (And.intro e4 (And.intro e3 (And.intro e2 (And.intro e1 ft)))))))))))))))))))
          refine Run.go ?_
          refine End.lp ?_
          refine ⟨n.flops.length - (i + 1), _, by omega, Ghost.form [(6, .im (.sl (bools st))), (7, .im (.sl (us V))), (10, .im (.sl (bools X))), (81, .im (.sl (n.flops.map LFlop.im))), (82, .i n.flops.length), (83, .i (i + 1 : Nat))] 1 ⟨rfl, rfl, rfl, rfl, rfl, rfl, trivial⟩ rfl rfl, i + 1, c, rfl, by omega, rfl⟩
    · have hb := of_decide_eq_false hb
      refine Run.exit rfl ?_
      refine End.kp [] ?_
      refine Run.seq ?_
      have fx := And.intro c2 (And.intro c1 (And.intro bools_len (And.intro us_len (And.intro fim_len (And.intro strs_len (And.intro e4 (And.intro e3 (And.intro e2 (And.intro e1 ft)))))))))
      refine Run.go ?_
      refine End.kp [2] ?_
      refine Run.ret (hQ _ _ ⟨.inr rfl, _, rfl, _, rfl, ?_⟩)
      exact ⟨rfl, rfl⟩
end Go.Proofs.YtkmnmokjlpenhaaPi

/- The walks of the uses of nets: what one use is (used), and how it is laid behind the others of its net. -/
set_option linter.unusedVariables false
set_option linter.unusedSimpArgs false
set_option maxRecDepth 100000
namespace Go.Proofs.YtkmnmokjlpenhaaPi
set_option maxHeartbeats 4000000
theorem in_ok (i m : Nat) (h : i < m) (up : Frs) : ACalls Try.prog 83 [.i i, .i m] up fun v u => v = .im (.bool true) ∧ u = up := by
  have d1 : decide ((0 : Int) ≤ (i : Int)) = true := decide_eq_true (by omega)
  have d2 : decide ((i : Int) < (m : Int)) = true := decide_eq_true (by omega)
  refine ACalls.code Try.func83 rfl 12 rfl (by simp) [.tmp 4] rfl fun Q hQ => ?_
  simp only [ups, PV.up, argEnv]
  have ft := And.intro ty_3 (And.intro ty_4 trivial)
  refine Run.seq ?_
  have fx := And.intro (@ge_iff_le Int _) (And.intro d2 (And.intro d1 ft))
  refine Run.go ?_
  refine End.kp [0, 1] ?_
  refine Run.seq ?_
  refine Run.go ?_
  refine End.kp [4] ?_
  refine Run.ret (hQ _ _ ⟨.inr rfl, _, rfl, _, rfl, ?_⟩)
  exact ⟨rfl, rfl⟩
theorem used_pin (n : LNet) (a p : Nat) (g : LGate) (k : Int) (hg : n.gates[a]? = some g) (hk : g.ins[p]? = some k) (up : Frs) : ACalls Try.prog 20 [n.pv, .agg [.i 0, .i a, .i p]] up fun v u => v = .i k ∧ u = up := by
  have ha := (List.getElem?_eq_some_iff.1 hg).1
  have hp := (List.getElem?_eq_some_iff.1 hk).1
  have hgl : (n.gates.map LGate.im).length = n.gates.length := by simp
  have hgi : (n.gates.map LGate.im)[a]? = some [.int .i64 (-1), .int .u64 g.table, .sl (ints g.ins)] := by rw [List.getElem?_map, hg]; rfl
  have hki : (ints g.ins)[p]? = some [.int .i64 k] := by rw [List.getElem?_map, hk]; rfl
  have hal : (a : Int) < (n.gates.length : Int) := by omega
  have hpl : (p : Int) < (g.ins.length : Int) := by omega
  refine ACalls.code Try.func20 rfl 103 rfl (by simp) [.tmp 4] rfl fun Q hQ => ?_
  simp only [ups, PV.up, argEnv]
  have ft := And.intro ty_2 (And.intro ty_3 (And.intro ty_4 (And.intro ty_22 (And.intro ty_27 (And.intro ty_28 (And.intro ty_30 (And.intro ty_39 (And.intro ty_44 (And.intro ty_78 trivial)))))))))
  refine Run.seq ?_
  have fx := And.intro (@Int.toNat_natCast) (And.intro (@Int.natCast_nonneg) (And.intro ints_len (And.intro hpl (And.intro hal (And.intro hki (And.intro hgi (And.intro hgl ft)))))))
  refine Run.go ?_
  refine End.kp [2, 3] ?_
  refine Run.seq ?_
  refine Run.go ?_
  refine End.kp [2, 3, 5] ?_
  refine Run.seq ?_
  refine Run.block ?_
  refine Run.seq ?_
  refine Run.drawA fun K hK => ?_
  refine DOps.sim ?_
  refine DOps.call (.im (.bool true)) [] [] rfl rfl rfl rfl (by kernel_rfl) (by simp [Agree]) (fun u hu => in_ok a n.gates.length (by omega) u) ?_
  refine DOps.sim ?_
  refine DOps.call (.im (.bool true)) [] [] rfl rfl rfl rfl (by kernel_rfl) (by simp [Agree]) (fun u hu => in_ok p g.ins.length (by omega) u) ?_
  refine DOps.sim ?_
  refine DOps.nil (by rfl) (hK _ ?_); clear hK K
  refine End.kp [2, 3, 5, 6] ?_
  refine Run.cond _ rfl (fun hb => ?_) (fun hb => ?_)
  · have hb2 := hb
    refine Run.seq ?_
    have fx := And.intro (@Int.toNat_natCast) (And.intro (@Int.natCast_nonneg) (And.intro ints_len (And.intro hpl (And.intro hal (And.intro hki (And.intro hgi (And.intro hgl ft)))))))
    refine Run.drawA fun K hK => ?_
    refine DOps.sim ?_
    refine DOps.nil (by rfl) (hK _ ?_); clear hK K
    refine End.kp [4] ?_
    refine Run.ret (hQ _ _ ⟨.inr rfl, _, rfl, _, rfl, ?_⟩)
    exact ⟨rfl, rfl⟩
  · have hb2 := hb
    simp at hb
theorem used_data (n : LNet) (a : Nat) (f : LFlop) (hf : n.flops[a]? = some f) (up : Frs) : ACalls Try.prog 20 [n.pv, .agg [.i 1, .i a, .i 0]] up fun v u => v = .i f.d ∧ u = up := by
  have ha := (List.getElem?_eq_some_iff.1 hf).1
  have hfl : (n.flops.map LFlop.im).length = n.flops.length := by simp
  have hfi : (n.flops.map LFlop.im)[a]? = some [.str f.name, .int .i64 (-1), .int .i64 f.d, .int .i64 f.en, .bool f.init] := by rw [List.getElem?_map, hf]; rfl
  have hal : (a : Int) < (n.flops.length : Int) := by omega
  refine ACalls.code Try.func20 rfl 103 rfl (by simp) [.tmp 4] rfl fun Q hQ => ?_
  simp only [ups, PV.up, argEnv]
  have ft := And.intro ty_2 (And.intro ty_3 (And.intro ty_4 (And.intro ty_22 (And.intro ty_27 (And.intro ty_28 (And.intro ty_30 (And.intro ty_39 (And.intro ty_44 (And.intro ty_78 trivial)))))))))
  refine Run.seq ?_
  have fx := And.intro (@Int.toNat_natCast) (And.intro (@Int.natCast_nonneg) (And.intro hal (And.intro hfi (And.intro hfl ft))))
  refine Run.go ?_
  refine End.kp [2, 3] ?_
  refine Run.seq ?_
  refine Run.go ?_
  refine End.kp [2, 3, 5] ?_
  refine Run.seq ?_
  refine Run.block ?_
  refine Run.seq ?_
  refine Run.drawA fun K hK => ?_
  refine DOps.sim ?_
  refine DOps.nil (by rfl) (hK _ ?_); clear hK K
  refine End.kp [2, 3, 5, 6] ?_
  refine Run.cond _ rfl (fun hb => ?_) (fun hb => ?_)
  · have hb2 := hb
    simp at hb
  · have hb2 := hb
    refine Run.seq ?_
    have fx := And.intro (@Int.toNat_natCast) (And.intro (@Int.natCast_nonneg) (And.intro hal (And.intro hfi (And.intro hfl ft))))
    refine Run.region rfl fun K hK => GOps.sim ?_
    refine GOps.call rfl rfl rfl rfl (by kernel_rfl) (ACalls.sim ?_)
    refine (in_ok a n.flops.length (by omega) _).mono fun v u hv => ?_
    obtain ⟨rfl, rfl⟩ := hv
    refine ⟨_, _, rfl, GOps.sim ?_⟩
    refine GOps.done (hK _ ?_); clear hK K
    refine End.kp [2, 3, 5, 44] ?_
    refine Run.cond _ rfl (fun hb => ?_) (fun hb => ?_)
    · have hb3 := hb
      refine Run.seq ?_
      have fx := And.intro (@Int.toNat_natCast) (And.intro (@Int.natCast_nonneg) (And.intro hal (And.intro hfi (And.intro hfl ft))))
      refine Run.go ?_
      refine End.kp [4] ?_
      refine Run.ret (hQ _ _ ⟨.inr rfl, _, rfl, _, rfl, ?_⟩)
      exact ⟨rfl, rfl⟩
    · have hb3 := hb
      simp at hb
theorem used_en (n : LNet) (a : Nat) (f : LFlop) (hf : n.flops[a]? = some f) (up : Frs) : ACalls Try.prog 20 [n.pv, .agg [.i 2, .i a, .i 0]] up fun v u => v = .i f.en ∧ u = up := by
  have ha := (List.getElem?_eq_some_iff.1 hf).1
  have hfl : (n.flops.map LFlop.im).length = n.flops.length := by simp
  have hfi : (n.flops.map LFlop.im)[a]? = some [.str f.name, .int .i64 (-1), .int .i64 f.d, .int .i64 f.en, .bool f.init] := by rw [List.getElem?_map, hf]; rfl
  have hal : (a : Int) < (n.flops.length : Int) := by omega
  refine ACalls.code Try.func20 rfl 103 rfl (by simp) [.tmp 4] rfl fun Q hQ => ?_
  simp only [ups, PV.up, argEnv]
  have ft := And.intro ty_2 (And.intro ty_3 (And.intro ty_4 (And.intro ty_22 (And.intro ty_27 (And.intro ty_28 (And.intro ty_30 (And.intro ty_39 (And.intro ty_44 (And.intro ty_78 trivial)))))))))
  refine Run.seq ?_
  have fx := And.intro (@Int.toNat_natCast) (And.intro (@Int.natCast_nonneg) (And.intro hal (And.intro hfi (And.intro hfl ft))))
  refine Run.go ?_
  refine End.kp [2, 3] ?_
  refine Run.seq ?_
  refine Run.go ?_
  refine End.kp [2, 3, 5] ?_
  refine Run.seq ?_
  refine Run.block ?_
  refine Run.seq ?_
  refine Run.drawA fun K hK => ?_
  refine DOps.sim ?_
  refine DOps.nil (by rfl) (hK _ ?_); clear hK K
  refine End.kp [2, 3, 5, 6] ?_
  refine Run.cond _ rfl (fun hb => ?_) (fun hb => ?_)
  · have hb2 := hb
    simp at hb
  · have hb2 := hb
    refine Run.seq ?_
    have fx := And.intro (@Int.toNat_natCast) (And.intro (@Int.natCast_nonneg) (And.intro hal (And.intro hfi (And.intro hfl ft))))
    refine Run.region rfl fun K hK => GOps.sim ?_
    refine GOps.done (hK _ ?_); clear hK K
    refine End.kp [2, 3, 5, 44] ?_
    refine Run.cond _ rfl (fun hb => ?_) (fun hb => ?_)
    · have hb3 := hb
      simp at hb
    · have hb3 := hb
      refine Run.seq ?_
      have fx := And.intro (@Int.toNat_natCast) (And.intro (@Int.natCast_nonneg) (And.intro hal (And.intro hfi (And.intro hfl ft))))
      refine Run.region rfl fun K hK => GOps.sim ?_
      refine GOps.call rfl rfl rfl rfl (by kernel_rfl) (ACalls.sim ?_)
      refine (in_ok a n.flops.length (by omega) _).mono fun v u hv => ?_
      obtain ⟨rfl, rfl⟩ := hv
      refine ⟨_, _, rfl, GOps.sim ?_⟩
      refine GOps.done (hK _ ?_); clear hK K
      refine End.kp [2, 3, 5, 64] ?_
      refine Run.cond _ rfl (fun hb => ?_) (fun hb => ?_)
      · have hb4 := hb
        refine Run.seq ?_
        have fx := And.intro (@Int.toNat_natCast) (And.intro (@Int.natCast_nonneg) (And.intro hal (And.intro hfi (And.intro hfl ft))))
        refine Run.go ?_
        refine End.kp [4] ?_
        refine Run.ret (hQ _ _ ⟨.inr rfl, _, rfl, _, rfl, ?_⟩)
        exact ⟨rfl, rfl⟩
      · have hb4 := hb
        simp at hb
theorem used_port (n : LNet) (a : Nat) (k : Int) (hk : n.outs[a]? = some k) (up : Frs) : ACalls Try.prog 20 [n.pv, .agg [.i 3, .i a, .i 0]] up fun v u => v = .i k ∧ u = up := by
  have ha := (List.getElem?_eq_some_iff.1 hk).1
  have hki : (ints n.outs)[a]? = some [.int .i64 k] := by rw [List.getElem?_map, hk]; rfl
  have hal : (a : Int) < (n.outs.length : Int) := by omega
  refine ACalls.code Try.func20 rfl 103 rfl (by simp) [.tmp 4] rfl fun Q hQ => ?_
  simp only [ups, PV.up, argEnv]
  have ft := And.intro ty_2 (And.intro ty_3 (And.intro ty_4 (And.intro ty_22 (And.intro ty_27 (And.intro ty_28 (And.intro ty_30 (And.intro ty_39 (And.intro ty_44 (And.intro ty_78 trivial)))))))))
  refine Run.seq ?_
  have fx := And.intro (@Int.toNat_natCast) (And.intro (@Int.natCast_nonneg) (And.intro ints_len (And.intro hal (And.intro hki ft))))
  refine Run.go ?_
  refine End.kp [2, 3] ?_
  refine Run.seq ?_
  refine Run.go ?_
  refine End.kp [2, 3, 5] ?_
  refine Run.seq ?_
  refine Run.block ?_
  refine Run.seq ?_
  refine Run.drawA fun K hK => ?_
  refine DOps.sim ?_
  refine DOps.nil (by rfl) (hK _ ?_); clear hK K
  refine End.kp [2, 3, 5, 6] ?_
  refine Run.cond _ rfl (fun hb => ?_) (fun hb => ?_)
  · have hb2 := hb
    simp at hb
  · have hb2 := hb
    refine Run.seq ?_
    have fx := And.intro (@Int.toNat_natCast) (And.intro (@Int.natCast_nonneg) (And.intro ints_len (And.intro hal (And.intro hki ft))))
    refine Run.region rfl fun K hK => GOps.sim ?_
    refine GOps.done (hK _ ?_); clear hK K
    refine End.kp [2, 3, 5, 44] ?_
    refine Run.cond _ rfl (fun hb => ?_) (fun hb => ?_)
    · have hb3 := hb
      simp at hb
    · have hb3 := hb
      refine Run.seq ?_
      have fx := And.intro (@Int.toNat_natCast) (And.intro (@Int.natCast_nonneg) (And.intro ints_len (And.intro hal (And.intro hki ft))))
      refine Run.region rfl fun K hK => GOps.sim ?_
      refine GOps.done (hK _ ?_); clear hK K
      refine End.kp [2, 3, 5, 64] ?_
      refine Run.cond _ rfl (fun hb => ?_) (fun hb => ?_)
      · have hb4 := hb
        simp at hb
      · have hb4 := hb
        refine Run.seq ?_
        have fx := And.intro (@Int.toNat_natCast) (And.intro (@Int.natCast_nonneg) (And.intro ints_len (And.intro hal (And.intro hki ft))))
        refine Run.region rfl fun K hK => GOps.sim ?_
        refine GOps.call rfl rfl rfl rfl (by kernel_rfl) (ACalls.sim ?_)
        refine (in_ok a n.outs.length (by omega) _).mono fun v u hv => ?_
        obtain ⟨rfl, rfl⟩ := hv
        refine ⟨_, _, rfl, GOps.sim ?_⟩
        refine GOps.done (hK _ ?_); clear hK K
        refine End.kp [2, 3, 84] ?_
        refine Run.cond _ rfl (fun hb => ?_) (fun hb => ?_)
        · have hb5 := hb
          refine Run.seq ?_
          have fx := And.intro (@Int.toNat_natCast) (And.intro (@Int.natCast_nonneg) (And.intro ints_len (And.intro hal (And.intro hki ft))))
          refine Run.go ?_
          refine End.kp [4] ?_
          refine Run.ret (hQ _ _ ⟨.inr rfl, _, rfl, _, rfl, ?_⟩)
          exact ⟨rfl, rfl⟩
        · have hb5 := hb
          simp at hb
/-- A use: its kind, of which gate, flip-flop or output, and the input. -/
structure LUse where
  kind : Nat
  at_ : Nat
  pin : Nat
abbrev LUse.im (u : LUse) : List Im := [.int .i64 u.kind, .int .i64 u.at_, .int .i64 u.pin]
def cellsU (b : Nat) (U : List (List LUse)) : List PV := (List.range U.length).map fun k => .ms 0 (k + b) (U.getD k []).length
def rowsU (U : List (List LUse)) : List AObj := U.map fun u => .row 44 3 (u.map LUse.im) 0
/-- One use more of net k. -/
def addU (U : List (List LUse)) (k : Nat) (u : LUse) : List (List LUse) := U.set k (U.getD k [] ++ [u])
theorem addU_len (U : List (List LUse)) (k : Nat) (u : LUse) : (addU U k u).length = U.length := by simp [addU]
theorem cellsU_get (b : Nat) (U : List (List LUse)) (k : Nat) (h : k < U.length) : (cellsU b U)[k]? = some (.ms 0 (k + b) (U.getD k []).length) := by simp [cellsU, h]
theorem cellsU_len (b : Nat) (U : List (List LUse)) : (cellsU b U).length = U.length := by simp [cellsU]
theorem rowsU_get (U : List (List LUse)) (k : Nat) (h : k < U.length) : (rowsU U)[k]? = some (.row 44 3 ((U.getD k []).map LUse.im) 0) := by simp [rowsU, h]
theorem addU_at (U : List (List LUse)) (k : Nat) (u : LUse) (q : Nat) (h : k < U.length) : (addU U k u).getD q [] = if q = k then U.getD k [] ++ [u] else U.getD q [] := by
  simp only [addU, List.getD_eq_getElem?_getD, List.getElem?_set]
  by_cases e : q = k
  · subst e; simp [h]
  · rw [if_neg (fun x => e x.symm), if_neg e]
theorem cellsU_add (b : Nat) (U : List (List LUse)) (k : Nat) (u : LUse) (h : k < U.length) : (cellsU b U).set k (.ms 0 (k + b) ((U.getD k []).length + 1)) = cellsU b (addU U k u) := by
  refine List.ext_getElem? fun q => ?_
  rw [List.getElem?_set, cellsU_len]
  by_cases hq : q < U.length
  · rw [cellsU_get b (addU U k u) q (by rw [addU_len]; exact hq), addU_at U k u q h]
    by_cases e : k = q
    · subst e; simp [h]
    · rw [if_neg e, cellsU_get b U q hq, if_neg (fun x => e x.symm)]
  · rw [if_neg (by omega), List.getElem?_eq_none (by rw [cellsU_len]; omega), List.getElem?_eq_none (by rw [cellsU_len, addU_len]; omega)]
theorem rowsU_add (U : List (List LUse)) (k : Nat) (u : LUse) (h : k < U.length) : (rowsU U).set k (.row 44 3 ((U.getD k []).map LUse.im ++ [u.im]) 0) = rowsU (addU U k u) := by
  simp only [rowsU, addU, List.map_set, List.map_append, List.map_cons, List.map_nil]
theorem use_ok (k N m : Nat) (u : LUse) (M : List AObj) (cs : List PV) (rows : List (List Im)) (h2 : M[2]? = some (.box [.bs 0 1 N])) (h1 : M[1]? = some (.box cs)) (hc : cs[k]? = some (.ms 0 (k + 3) m)) (hr : M[k + 3]? = some (.row 44 3 rows 0)) (hm : rows.length = m) (hk : k < N) (hmm : m ≤ 100000) (rest : Frs) :
    ACalls Try.prog 79 [.i k, .agg [.i u.kind, .i u.at_, .i u.pin], .ptr 0 2 0] (M :: rest) fun v w => v = .tup [] ∧ w = ((M.set (k + 3) (.row 44 3 (rows ++ [u.im]) 0)).set 1 (.box (cs.set k (.ms 0 (k + 3) (m + 1))))) :: rest := by
  have hkN : (k : Int) < (N : Int) := by omega
  have hap : (m + 1) * 24 ≤ 140737488355328 := by omega
  have hset : (M.set (k + 3) (.row 44 3 (rows ++ [u.im]) 0))[1]? = some (.box cs) := by rw [List.getElem?_set_ne (by omega)]; exact h1
  have hcl := (List.getElem?_eq_some_iff.1 hc).1
  have hsp : ∀ x : PV, cs.take k ++ x :: cs.drop (k + 1) = cs.set k x := fun x => (List.set_eq_take_append_cons_drop.trans (if_pos hcl)).symm
  have hle : k + 1 ≤ cs.length := hcl
  refine ACalls.code Try.func79 rfl 15 rfl (by simp) [] rfl fun Q hQ => ?_
  simp only [ups, PV.up, argEnv]
  have ft := And.intro ty_3 (And.intro ty_33 (And.intro ty_42 (And.intro ty_44 trivial)))
  refine Run.seq ?_
  have fx := And.intro (@Int.toNat_natCast) (And.intro (@Int.natCast_nonneg) (And.intro (@Nat.mul_one) (And.intro downN_ms (And.intro upN_ms (And.intro upN_bs (And.intro hle (And.intro hsp (And.intro hset (And.intro hap (And.intro hkN (And.intro hm (And.intro hr (And.intro hc (And.intro h1 (And.intro h2 ft)))))))))))))))
  refine Run.go ?_
  refine End.kp [0, 2, 4] ?_
  refine Run.ghost (.spares 1) ?_
  simp only [ASt.pushN, ASt.push, List.append_assoc, List.cons_append, List.nil_append]
  refine Run.drawA fun K hK => ?_
  refine DOps.sim ?_
  refine DOps.nil (by rfl) (hK _ ?_); clear hK K
  refine End.all (hQ _ _ ⟨.inl rfl, _, rfl, _, rfl, ?_⟩)
  exact ⟨rfl, rfl⟩
end Go.Proofs.YtkmnmokjlpenhaaPi

/- The walk of netlist.Loads: rows of uses that grow, one of each net. -/
set_option linter.unusedVariables false
set_option linter.unusedSimpArgs false
set_option maxRecDepth 100000
namespace Go.Proofs.YtkmnmokjlpenhaaPi
set_option maxHeartbeats 4000000
/-- The objects of Loads: the netlist, the handles of the rows, where these lie, the rows. -/
def LF (n : LNet) (U : List (List LUse)) : List AObj := .box [.im (.sl (strs n.inn)), .im (.sl (strs n.out)), .im (.sl (n.flops.map LFlop.im)), .im (.sl (n.gates.map LGate.im)), .im (.sl (ints n.outs))] :: .box (cellsU 3 U) :: .box [.bs 0 1 U.length] :: rowsU U
theorem LF_len (n : LNet) (U : List (List LUse)) : (LF n U).length = U.length + 3 := by simp [LF, rowsU]
theorem LF_0 (n : LNet) (U : List (List LUse)) : (LF n U)[0]? = some (.box [.im (.sl (strs n.inn)), .im (.sl (strs n.out)), .im (.sl (n.flops.map LFlop.im)), .im (.sl (n.gates.map LGate.im)), .im (.sl (ints n.outs))]) := rfl
theorem LF_2 (n : LNet) (U : List (List LUse)) : (LF n U)[2]? = some (.box [.bs 0 1 U.length]) := rfl
theorem LF_0o (n : LNet) (U : List (List LUse)) (o : List AObj) : (LF n U ++ o)[0]? = some (.box [.im (.sl (strs n.inn)), .im (.sl (strs n.out)), .im (.sl (n.flops.map LFlop.im)), .im (.sl (n.gates.map LGate.im)), .im (.sl (ints n.outs))]) := rfl
theorem LF_last (n : LNet) (U : List (List LUse)) (o : AObj) (N : Nat) (h : U.length = N) : (LF n U ++ [o])[N + 3]? = some o := by rw [← h, ← LF_len n U]; simp
theorem LF_lset (n : LNet) (U : List (List LUse)) (o o' : AObj) (N : Nat) (h : U.length = N) : (LF n U ++ [o]).set (N + 3) o' = LF n U ++ [o'] := by rw [← h, ← LF_len n U]; simp
theorem useLF_ok (n : LNet) (U : List (List LUse)) (k : Nat) (u : LUse) (hk : k < U.length) (hm : (U.getD k []).length ≤ 100000) (o : List AObj) (rest : Frs) :
    ACalls Try.prog 79 [.i k, .agg [.i u.kind, .i u.at_, .i u.pin], .ptr 0 2 0] ((LF n U ++ o) :: rest) fun v w => v = .tup [] ∧ w = (LF n (addU U k u) ++ o) :: rest := by
  have hr : (LF n U ++ o)[k + 3]? = some (.row 44 3 ((U.getD k []).map LUse.im) 0) := by
    rw [List.getElem?_append_left (by rw [LF_len]; omega)]
    exact rowsU_get U k hk
  refine (use_ok k U.length (U.getD k []).length u _ (cellsU 3 U) _ rfl rfl (cellsU_get 3 U k hk) hr (by simp) hk hm rest).mono fun v w hv => ⟨hv.1, ?_⟩
  rw [hv.2]
  have e1 : (LF n U ++ o).set (k + 3) (.row 44 3 ((U.getD k []).map LUse.im ++ [u.im]) 0) = (.box [.im (.sl (strs n.inn)), .im (.sl (strs n.out)), .im (.sl (n.flops.map LFlop.im)), .im (.sl (n.gates.map LGate.im)), .im (.sl (ints n.outs))] :: .box (cellsU 3 U) :: .box [.bs 0 1 U.length] :: rowsU (addU U k u)) ++ o := by
    rw [List.set_append_left _ _ (by rw [LF_len]; omega), ← rowsU_add U k u hk]
    rfl
  rw [e1, cellsU_add 3 U k u hk]
  simp only [LF, addU_len, List.cons_append, List.set_cons_succ, List.set_cons_zero]
theorem useLF0_ok (n : LNet) (U : List (List LUse)) (k : Nat) (u : LUse) (hk : k < U.length) (hm : (U.getD k []).length ≤ 100000) (rest : Frs) :
    ACalls Try.prog 79 [.i k, .agg [.i u.kind, .i u.at_, .i u.pin], .ptr 0 2 0] (LF n U :: rest) fun v w => v = .tup [] ∧ w = LF n (addU U k u) :: rest := by
  have := useLF_ok n U k u hk hm [] rest
  simpa only [List.append_nil] using this
theorem LF_under (n : LNet) (U : List (List LUse)) : (LF n U).all (AObj.under (LF n U).length) = true := by
  rw [List.all_eq_true]
  intro o ho
  simp only [LF, List.mem_cons] at ho
  rcases ho with rfl | rfl | rfl | ho
  · rfl
  · simp only [AObj.under]
    rw [LF_len]
    have key : ∀ l : List PV, (∀ x ∈ l, x.under (U.length + 3) = true) → unders (U.length + 3) l = true := by
      intro l
      induction l with
      | nil => intro _; rfl
      | cons x l ih => intro h; simp only [unders, h x (by simp), ih (fun y hy => h y (by simp [hy])), Bool.and_self]
    refine key _ fun x hx => ?_
    simp only [cellsU, List.mem_map, List.mem_range] at hx
    obtain ⟨k, hk, rfl⟩ := hx
    simp [PV.under]
    omega
  · simp [AObj.under, unders, PV.under, LF_len]
  · simp only [rowsU, List.mem_map] at ho
    obtain ⟨u, _, rfl⟩ := ho
    rfl
/-- What a use must be: it names the net it is held under. -/
def GoodU (n : LNet) (k : Nat) (u : LUse) : Prop :=
  (u.kind = 0 ∧ ∃ g, n.gates[u.at_]? = some g ∧ g.ins[u.pin]? = some (k : Int)) ∨ (u.kind = 1 ∧ u.pin = 0 ∧ ∃ f, n.flops[u.at_]? = some f ∧ f.d = k) ∨ (u.kind = 2 ∧ u.pin = 0 ∧ ∃ f, n.flops[u.at_]? = some f ∧ f.en = k) ∨ (u.kind = 3 ∧ u.pin = 0 ∧ n.outs[u.at_]? = some (k : Int))
structure UOk (n : LNet) (N : Nat) (U : List (List LUse)) (c : Nat) : Prop where
  len : U.length = N
  good : ∀ k u, u ∈ U.getD k [] → GoodU n k u
  sum : (U.map List.length).sum = c
theorem sum_set (l : List Nat) (k x : Nat) (h : k < l.length) : (l.set k x).sum + l.getD k 0 = l.sum + x := by
  induction l generalizing k with
  | nil => simp at h
  | cons a l ih =>
    cases k with
    | zero => simp; omega
    | succ k =>
      have := ih k (by simpa using h)
      simp only [List.set_cons_succ, List.sum_cons, List.getD_cons_succ]
      omega
theorem sum_getD (l : List Nat) (k : Nat) : l.getD k 0 ≤ l.sum := by
  induction l generalizing k with
  | nil => simp
  | cons a l ih =>
    cases k with
    | zero => simp
    | succ k => have := ih k; simp only [List.getD_cons_succ, List.sum_cons]; omega
theorem getD_lens (U : List (List LUse)) (k : Nat) : (U.map List.length).getD k 0 = (U.getD k []).length := by
  simp only [List.getD_eq_getElem?_getD, List.getElem?_map]
  cases U[k]? <;> rfl
theorem UOk.le {n : LNet} {N : Nat} {U : List (List LUse)} {c : Nat} (h : UOk n N U c) (k : Nat) : (U.getD k []).length ≤ c := by
  rw [← getD_lens, ← h.sum]
  exact sum_getD _ k
theorem UOk.add {n : LNet} {N : Nat} {U : List (List LUse)} {c : Nat} (h : UOk n N U c) (k : Nat) (hk : k < N) (u : LUse) (hu : GoodU n k u) : UOk n N (addU U k u) (c + 1) := by
  have hkU : k < U.length := by rw [h.len]; exact hk
  refine ⟨by rw [addU_len]; exact h.len, fun q w hw => ?_, ?_⟩
  · rw [addU_at U k u q hkU] at hw
    split at hw
    · rename_i e
      subst e
      rcases List.mem_append.1 hw with hw | hw
      · exact h.good _ _ hw
      · rw [List.mem_singleton] at hw; subst hw; exact hu
    · exact h.good _ _ hw
  · rw [addU, List.map_set]
    have := sum_set (U.map List.length) k (U.getD k [] ++ [u]).length (by simpa using hkU)
    rw [getD_lens, List.length_append, h.sum] at this
    simp only [List.length_append, List.length_cons, List.length_nil] at this ⊢
    omega
theorem UOk.nil (n : LNet) (N : Nat) : UOk n N (List.replicate N []) 0 := by
  refine ⟨by simp, fun k u hu => ?_, ?_⟩
  · exfalso
    rw [List.getD_eq_getElem?_getD, List.getElem?_replicate] at hu
    split at hu <;> simp at hu
  · induction N with
    | zero => rfl
    | succ N ih => rw [List.replicate_succ, List.map_cons, List.sum_cons, ih]; rfl
/-- How many inputs the first i gates have. -/
def cntG (n : LNet) (i : Nat) : Nat := ((n.gates.take i).map fun g => g.ins.length).sum
theorem cntG_next (n : LNet) (i : Nat) (g : LGate) (h : n.gates[i]? = some g) : cntG n (i + 1) = cntG n i + g.ins.length := by simp [cntG, List.take_add_one, h]
theorem cntG_le (n : LNet) (hn : NetOk n) : ∀ i, cntG n i ≤ 6 * i
  | 0 => by simp [cntG]
  | i + 1 => by
    have := cntG_le n hn i
    cases h : n.gates[i]? with
    | none => have : n.gates.take (i + 1) = n.gates.take i := by simp [List.take_add_one, h]
              simp only [cntG] at *; rw [this]; omega
    | some g => have h2 := (hn.gates i g h).1
                rw [cntG_next n i g h]; omega
theorem box_new (N : Nat) : (List.range N).map (fun k => PV.ms 0 (3 + k) 0) = cellsU 3 (List.replicate N []) := by
  refine List.ext_getElem? fun k => ?_
  by_cases h : k < N
  · rw [cellsU_get _ _ _ (by simpa using h)]
    simp [h, List.getD_eq_getElem?_getD, List.getElem?_replicate, Nat.add_comm]
  · rw [List.getElem?_eq_none (by simp; omega), List.getElem?_eq_none (by rw [cellsU_len]; simp; omega)]
theorem LF_new (n : LNet) (N : Nat) : ([.box [.im (.sl (strs n.inn)), .im (.sl (strs n.out)), .im (.sl (n.flops.map LFlop.im)), .im (.sl (n.gates.map LGate.im)), .im (.sl (ints n.outs))], .box (List.replicate N .nils), .box [.bs 0 1 N]] : List AObj).set 1 (.box ((List.range N).map fun k => .ms 0 (3 + k) 0)) ++ List.replicate N (.row 44 3 [] 0) = LF n (List.replicate N []) := by
  rw [box_new, LF]
  simp only [List.set_cons_succ, List.set_cons_zero, List.cons_append, List.nil_append, List.length_replicate, rowsU, List.map_replicate, List.map_nil]
theorem Loads_ok (n : LNet) (hn : NetOk n) (f : List AObj) (rest : Frs) : ACalls Try.prog 17 [n.pv] (f :: rest) fun v u => ∃ (N : Nat) (U : List (List LUse)), (N : Int) = 2 + n.inn.length + n.flops.length + n.gates.length ∧ UOk n N U (cntG n n.gates.length + 2 * n.flops.length + n.outs.length) ∧ v = .tup [.bs 0 (f.length + 1) N, .i 0] ∧ u = (f ++ (LF n U).map (AObj.mg f.length)) :: rest := by
  obtain ⟨z1, z2, z3, z4, z5⟩ := hn.small
  obtain ⟨N, hN⟩ : ∃ N : Nat, (2 + n.inn.length + n.flops.length + n.gates.length : Int) = N := ⟨2 + n.inn.length + n.flops.length + n.gates.length, by omega⟩
  have cB := cntG_le n hn n.gates.length
  refine ACalls.codeX Try.func17 rfl 84 rfl (by simp) [.tmp 2, .tmp 3] rfl fun Q hQ => ?_
  simp only [ups, PV.up, argEnv]
  have ft := And.intro ty_2 (And.intro ty_3 (And.intro ty_4 (And.intro ty_22 (And.intro ty_27 (And.intro ty_28 (And.intro ty_30 (And.intro ty_33 (And.intro ty_34 (And.intro ty_39 (And.intro ty_42 (And.intro ty_44 (And.intro ty_78 trivial))))))))))))
  refine Run.seq ?_
  have fx := And.intro ints_len (And.intro gim_len (And.intro fim_len (And.intro strs_len ft)))
  refine Run.go ?_
  refine End.kp [1] ?_
  refine Run.seq ?_
  refine Run.seq ?_
  refine Run.region rfl fun K hK => GOps.sim ?_
  refine GOps.call rfl rfl rfl rfl (by kernel_rfl) (ACalls.sim ?_)
  refine (Form_ok n hn _).mono fun v u hv => ?_
  obtain ⟨rfl, rfl⟩ := hv
  refine ⟨_, _, rfl, GOps.sim ?_⟩
  refine GOps.done (hK _ ?_); clear hK K
  refine End.kp [1, 4] ?_
  refine Run.seq ?_
  refine Run.go ?_
  refine End.kp [1, 4, 18] ?_
  refine Run.cond _ rfl (fun hb => ?_) (fun hb => ?_)
  · have hb2 := hb
    simp at hb
  · have hb2 := hb
    refine Run.skip ?_
    refine End.kp [1] ?_
    refine Run.seq ?_
    have fx := And.intro ints_len (And.intro gim_len (And.intro fim_len (And.intro strs_len ft)))
    refine Run.region rfl fun K hK => GOps.sim ?_
    refine GOps.call rfl rfl rfl rfl (by kernel_rfl) (ACalls.sim ?_)
    refine (Nets_ok n hn.small _).mono fun v u hv => ?_
    obtain ⟨rfl, rfl⟩ := hv
    rw [hN]
    refine ⟨_, _, rfl, ?_⟩
    refine GOps.makeBox (by_ := (24 : Nat)) N (by omega) (show 24 * N ≤ 281474976710656 by omega) (GOps.sim ?_)
    refine GOps.done (hK _ ?_); clear hK K
    refine End.move (Ghost.thawAll (j := 1) (N := N) 44 3 (by decide) rfl) ?_
    simp only [List.length_cons, List.length_nil, Nat.zero_add, Nat.reduceAdd, LF_new]
    refine End.kp [1, 5] ?_
    refine Run.seq ?_
    have fx := And.intro ints_len (And.intro gim_len (And.intro fim_len (And.intro strs_len ft)))
    refine Run.go ?_
    refine End.kp [1, 5, 6] ?_
    refine Run.seq ?_
    refine Run.seq ?_
    have fx := And.intro LF_len (And.intro LF_0o (And.intro LF_2 (And.intro LF_0 (And.intro ints_len (And.intro gim_len (And.intro fim_len (And.intro strs_len ft)))))))
    refine Run.go ?_
    refine End.kp [1, 5, 6, 25, 26, 27] ?_
    refine Run.block ?_
    refine Run.ghost (.keepE (e := [(1, .ptr 0 0 0), (5, .ptr 0 2 0), (6, .fn 79 [.ptr 0 2 0]), (25, .im (.sl (n.gates.map LGate.im))), (26, .i n.gates.length), (27, .i (0 : Nat))]) ⟨rfl, rfl, rfl, rfl, rfl, rfl, trivial⟩) ?_
    refine Run.loop (fun m s => ∃ (U : List (List LUse)) (i : Nat), m = n.gates.length - i ∧ i ≤ n.gates.length ∧ UOk n N U (cntG n i) ∧ s = ⟨[(1, .ptr 0 0 0), (5, .ptr 0 2 0), (6, .fn 79 [.ptr 0 2 0]), (25, .im (.sl (n.gates.map LGate.im))), (26, .i n.gates.length), (27, .i (i : Nat))], LF n U, f :: rest⟩) n.gates.length ⟨_, 0, rfl, by omega, UOk.nil n N, rfl⟩ fun m s hI => ?_
    obtain ⟨U, i, rfl, hi, hU, rfl⟩ := hI
    refine Run.seq ?_
    have fx := And.intro LF_len (And.intro LF_0o (And.intro LF_2 (And.intro LF_0 (And.intro ints_len (And.intro gim_len (And.intro fim_len (And.intro strs_len ft)))))))
    refine Run.go ?_
    refine End.kp [1, 5, 6, 25, 26, 27, 28] ?_
    refine Run.seq ?_
    refine Run.cond _ rfl (fun hb => ?_) (fun hb => ?_)
    · have hb2 := of_decide_eq_true hb
      have hin : i < n.gates.length := by omega
      have wi := wsucc hin (by omega)
      have hUl := hU.len
      obtain ⟨g, hgi, hgm, hg⟩ := gate_at n.gates i hin
      have cg := cntG_next n i g hgi
      have cl := cntG_le n hn i
      obtain ⟨v1, v2, v3⟩ := hn.gates i g hgi
      have q1 := LF_last n U (.box [.i (-1), .im (.int .u64 g.table), .im (.sl (ints g.ins))]) N hUl
      have q0 := LF_last n U (.box [.i 0, .im (.int .u64 0), .nils]) N hUl
      have q3 := fun o o' => LF_lset n U o o' N hUl
      refine Run.skip ?_
      refine End.kp [1, 5, 6, 25, 26, 27] ?_
      refine Run.seq ?_
      refine Run.block ?_
      refine Run.seq ?_
      have fx := And.intro (@Int.toNat_natCast) (And.intro (@Int.natCast_nonneg) (And.intro q3 (And.intro q1 (And.intro q0 (And.intro hUl (And.intro hg (And.intro wi (And.intro LF_len (And.intro LF_0o (And.intro LF_2 (And.intro LF_0 (And.intro ints_len (And.intro gim_len (And.intro fim_len (And.intro strs_len ft)))))))))))))))
      refine Run.go ?_
      refine End.kp [1, 5, 6, 7, 8, 25, 26, 27] ?_
      refine Run.seq ?_
      refine Run.go ?_
      refine End.kp [1, 5, 6, 7, 25, 26, 27, 33, 34, 35] ?_
      refine Run.block ?_
      refine Run.ghost (.cut (e := [(1, .ptr 0 0 0), (5, .ptr 0 2 0), (6, .fn 79 [.ptr 0 2 0]), (7, .i (i : Nat)), (25, .im (.sl (n.gates.map LGate.im))), (26, .i n.gates.length), (27, .i (i : Nat)), (33, .im (.sl (ints g.ins))), (34, .i g.ins.length), (35, .i (0 : Nat))]) ⟨rfl, rfl, rfl, rfl, rfl, rfl, rfl, rfl, rfl, rfl, trivial⟩ (by simp [unders, PV.under, LF_len]) (LF_under n _)) ?_
      refine Run.loop (fun m s => ∃ (U : List (List LUse)) (p : Nat), m = g.ins.length - p ∧ p ≤ g.ins.length ∧ UOk n N U (cntG n i + p) ∧ s = ⟨[(1, .ptr 0 0 0), (5, .ptr 0 2 0), (6, .fn 79 [.ptr 0 2 0]), (7, .i (i : Nat)), (25, .im (.sl (n.gates.map LGate.im))), (26, .i n.gates.length), (27, .i (i : Nat)), (33, .im (.sl (ints g.ins))), (34, .i g.ins.length), (35, .i (p : Nat))], LF n U, f :: rest⟩) g.ins.length ⟨_, 0, rfl, by omega, hU, rfl⟩ fun m s hI => ?_
      obtain ⟨U, p, rfl, hp, hU, rfl⟩ := hI
      refine Run.seq ?_
      have fx := And.intro (@Int.toNat_natCast) (And.intro (@Int.natCast_nonneg) (And.intro q3 (And.intro q1 (And.intro q0 (And.intro hUl (And.intro hg (And.intro wi (And.intro LF_len (And.intro LF_0o (And.intro LF_2 (And.intro LF_0 (And.intro ints_len (And.intro gim_len (And.intro fim_len (And.intro strs_len ft)))))))))))))))
      refine Run.go ?_
      refine End.kp [1, 5, 6, 7, 25, 26, 27, 33, 34, 35, 36] ?_
      refine Run.seq ?_
      refine Run.cond _ rfl (fun hb => ?_) (fun hb => ?_)
      · have hb3 := of_decide_eq_true hb
        have hpn : p < g.ins.length := by omega
        have wp := wsucc hpn (by omega)
        have hUl := hU.len
        obtain ⟨x, hxi, hxm, hx⟩ := int_at g.ins p hpn
        obtain ⟨x1, x2⟩ := v3 x hxm
        obtain ⟨k, rfl⟩ : ∃ k : Nat, x = k := ⟨x.toNat, by omega⟩
        have hkN : k < N := by omega
        have hle := hU.le k
        have hU2 := hU.add k hkN ⟨0, i, p⟩ (.inl ⟨rfl, g, hgi, hxi⟩)
        refine Run.skip ?_
        refine End.kp [1, 5, 6, 7, 25, 26, 27, 33, 34, 35] ?_
        refine Run.seq ?_
        refine Run.block ?_
        refine Run.seq ?_
        have fx := And.intro hx (And.intro wp (And.intro (@Int.toNat_natCast) (And.intro (@Int.natCast_nonneg) (And.intro q3 (And.intro q1 (And.intro q0 (And.intro hUl (And.intro hg (And.intro wi (And.intro LF_len (And.intro LF_0o (And.intro LF_2 (And.intro LF_0 (And.intro ints_len (And.intro gim_len (And.intro fim_len (And.intro strs_len ft)))))))))))))))))
        refine Run.go ?_
        refine End.kp [1, 5, 6, 7, 9, 10, 25, 26, 27, 33, 34, 35] ?_
        refine Run.region rfl fun K hK => GOps.sim ?_
        refine GOps.call rfl rfl rfl rfl (by kernel_rfl) (ACalls.sim ?_)
        refine (useLF0_ok n U k ⟨0, i, p⟩ (by omega) (by omega) _).mono fun v u hv => ?_
        obtain ⟨rfl, rfl⟩ := hv
        refine ⟨_, _, rfl, GOps.sim ?_⟩
        refine GOps.done (hK _ ?_); clear hK K
        refine End.blk ?_
        refine End.kp [1, 5, 6, 7, 25, 26, 27, 33, 34, 35] ?_
        refine Run.go ?_
        refine End.lp ?_
        refine ⟨g.ins.length - (p + 1), _, by omega, .keepE (e := [(1, .ptr 0 0 0), (5, .ptr 0 2 0), (6, .fn 79 [.ptr 0 2 0]), (7, .i (i : Nat)), (25, .im (.sl (n.gates.map LGate.im))), (26, .i n.gates.length), (27, .i (i : Nat)), (33, .im (.sl (ints g.ins))), (34, .i g.ins.length), (35, .i (p + 1 : Nat))]) ⟨rfl, rfl, rfl, rfl, rfl, rfl, rfl, rfl, rfl, rfl, trivial⟩, _, p + 1, rfl, by omega, hU2, rfl⟩
      · have hb3 := of_decide_eq_false hb
        have hpe : p = g.ins.length := by omega
        have hU2 : UOk n N U (cntG n (i + 1)) := by rw [cg, ← hpe]; exact hU
        refine Run.exit rfl ?_
        refine End.blk ?_
        refine End.kp [1, 5, 6, 25, 26, 27] ?_
        have fx := And.intro (@Int.toNat_natCast) (And.intro (@Int.natCast_nonneg) (And.intro q3 (And.intro q1 (And.intro q0 (And.intro hUl (And.intro hg (And.intro wi (And.intro LF_len (And.intro LF_0o (And.intro LF_2 (And.intro LF_0 (And.intro ints_len (And.intro gim_len (And.intro fim_len (And.intro strs_len ft)))))))))))))))
        refine Run.go ?_
        refine End.lp ?_
        refine ⟨n.gates.length - (i + 1), _, by omega, .keepE (e := [(1, .ptr 0 0 0), (5, .ptr 0 2 0), (6, .fn 79 [.ptr 0 2 0]), (25, .im (.sl (n.gates.map LGate.im))), (26, .i n.gates.length), (27, .i (i + 1 : Nat))]) ⟨rfl, rfl, rfl, rfl, rfl, rfl, trivial⟩, _, i + 1, rfl, by omega, hU2, rfl⟩
    · have hb2 := of_decide_eq_false hb
      have hie : i = n.gates.length := by omega
      subst hie
      refine Run.exit rfl ?_
      refine End.kp [1, 5, 6] ?_
      refine Run.seq ?_
      refine Run.seq ?_
      have fx := And.intro LF_len (And.intro LF_0o (And.intro LF_2 (And.intro LF_0 (And.intro ints_len (And.intro gim_len (And.intro fim_len (And.intro strs_len ft)))))))
      refine Run.go ?_
      refine End.kp [1, 5, 6, 49, 50, 51] ?_
      refine Run.block ?_
      refine Run.ghost (.keepE (e := [(1, .ptr 0 0 0), (5, .ptr 0 2 0), (6, .fn 79 [.ptr 0 2 0]), (49, .im (.sl (n.flops.map LFlop.im))), (50, .i n.flops.length), (51, .i (0 : Nat))]) ⟨rfl, rfl, rfl, rfl, rfl, rfl, trivial⟩) ?_
      refine Run.loop (fun m s => ∃ (U : List (List LUse)) (i : Nat), m = n.flops.length - i ∧ i ≤ n.flops.length ∧ UOk n N U (cntG n n.gates.length + 2 * i) ∧ s = ⟨[(1, .ptr 0 0 0), (5, .ptr 0 2 0), (6, .fn 79 [.ptr 0 2 0]), (49, .im (.sl (n.flops.map LFlop.im))), (50, .i n.flops.length), (51, .i (i : Nat))], LF n U, f :: rest⟩) n.flops.length ⟨_, 0, rfl, by omega, hU, rfl⟩ fun m s hI => ?_
      clear hU hi
      obtain ⟨U, i, rfl, hi, hU, rfl⟩ := hI
      refine Run.seq ?_
      have fx := And.intro LF_len (And.intro LF_0o (And.intro LF_2 (And.intro LF_0 (And.intro ints_len (And.intro gim_len (And.intro fim_len (And.intro strs_len ft)))))))
      refine Run.go ?_
      refine End.kp [1, 5, 6, 49, 50, 51, 52] ?_
      refine Run.seq ?_
      refine Run.cond _ rfl (fun hb => ?_) (fun hb => ?_)
      · have hb3 := of_decide_eq_true hb
        have hin : i < n.flops.length := by omega
        have wi := wsucc hin (by omega)
        have hUl := hU.len
        obtain ⟨fl, hfi, hfm, hf⟩ := flop_at n.flops i hin
        obtain ⟨⟨x1, x2⟩, x3, x4⟩ := hn.ends.flops fl hfm
        obtain ⟨k1, hk1⟩ : ∃ k : Nat, fl.d = k := ⟨fl.d.toNat, by omega⟩
        obtain ⟨k2, hk2⟩ : ∃ k : Nat, fl.en = k := ⟨fl.en.toNat, by omega⟩
        have hle := hU.le k1
        have hU2 := hU.add k1 (by omega) ⟨1, i, 0⟩ (.inr (.inl ⟨rfl, rfl, fl, hfi, hk1⟩))
        have hle2 := hU2.le k2
        have hU3 := hU2.add k2 (by omega) ⟨2, i, 0⟩ (.inr (.inr (.inl ⟨rfl, rfl, fl, hfi, hk2⟩)))
        have hUl2 := hU2.len
        have hUl3 := hU3.len
        generalize hw1 : addU U k1 ⟨1, i, 0⟩ = U1 at hU2 hU3 hle2 hUl2 hUl3
        generalize hw2 : addU U1 k2 ⟨2, i, 0⟩ = U2 at hU3 hUl3
        have q1 := LF_last n U (.box [.im (.str fl.name), .i (-1), .i k1, .i k2, .im (.bool fl.init)]) N hUl
        have q0 := LF_last n U (.box [.im (.str ByteArray.empty), .i 0, .i 0, .i 0, .im (.bool false)]) N hUl
        have q3 := fun o o' => LF_lset n U o o' N hUl
        have q2 := LF_last n U1 (.box [.im (.str fl.name), .i (-1), .i k1, .i k2, .im (.bool fl.init)]) N hUl2
        refine Run.skip ?_
        refine End.kp [1, 5, 6, 49, 50, 51] ?_
        refine Run.seq ?_
        refine Run.block ?_
        refine Run.seq ?_
        have fx := And.intro (@Int.toNat_natCast) (And.intro (@Int.natCast_nonneg) (And.intro hk2 (And.intro hk1 (And.intro q3 (And.intro q2 (And.intro q1 (And.intro q0 (And.intro hUl2 (And.intro hUl (And.intro hf (And.intro wi (And.intro LF_len (And.intro LF_0o (And.intro LF_2 (And.intro LF_0 (And.intro ints_len (And.intro gim_len (And.intro fim_len (And.intro strs_len ft)))))))))))))))))))
        refine Run.go ?_
        refine End.kp [1, 5, 6, 11, 12, 49, 50, 51] ?_
        refine Run.seq ?_
        refine Run.region rfl fun K hK => GOps.sim ?_
        refine GOps.call rfl rfl rfl rfl (by kernel_rfl) (ACalls.sim ?_)
        refine (useLF_ok n U k1 ⟨1, i, 0⟩ (by omega) (by omega) [.box [.im (.str fl.name), .i (-1), .i k1, .i k2, .im (.bool fl.init)]] _).mono fun v u hv => ?_
        obtain ⟨rfl, rfl⟩ := hv
        rw [hw1]
        have fx := And.intro (@Int.toNat_natCast) (And.intro (@Int.natCast_nonneg) (And.intro hk2 (And.intro hk1 (And.intro q3 (And.intro q2 (And.intro q1 (And.intro q0 (And.intro hUl2 (And.intro hUl (And.intro hf (And.intro wi (And.intro LF_len (And.intro LF_0o (And.intro LF_2 (And.intro LF_0 (And.intro ints_len (And.intro gim_len (And.intro fim_len (And.intro strs_len ft)))))))))))))))))))
        refine ⟨_, _, rfl, GOps.sim ?_⟩
        refine GOps.done (hK _ ?_); clear hK K
        refine End.kp [1, 5, 6, 11, 12, 49, 50, 51] ?_
        refine Run.region rfl fun K hK => GOps.sim ?_
        refine GOps.call rfl rfl rfl rfl (by kernel_rfl) (ACalls.sim ?_)
        refine (useLF_ok n U1 k2 ⟨2, i, 0⟩ (by omega) (by omega) [.box [.im (.str fl.name), .i (-1), .i k1, .i k2, .im (.bool fl.init)]] _).mono fun v u hv => ?_
        obtain ⟨rfl, rfl⟩ := hv
        rw [hw2]
        have fx := And.intro (@Int.toNat_natCast) (And.intro (@Int.natCast_nonneg) (And.intro hk2 (And.intro hk1 (And.intro q3 (And.intro q2 (And.intro q1 (And.intro q0 (And.intro hUl2 (And.intro hUl (And.intro hf (And.intro wi (And.intro LF_len (And.intro LF_0o (And.intro LF_2 (And.intro LF_0 (And.intro ints_len (And.intro gim_len (And.intro fim_len (And.intro strs_len ft)))))))))))))))))))
        refine ⟨_, _, rfl, GOps.sim ?_⟩
        refine GOps.done (hK _ ?_); clear hK K
        refine End.blk ?_
        refine End.kp [1, 5, 6, 49, 50, 51] ?_
        refine Run.go ?_
        refine End.lp ?_
        refine ⟨n.flops.length - (i + 1), _, by omega, .cut (e := [(1, .ptr 0 0 0), (5, .ptr 0 2 0), (6, .fn 79 [.ptr 0 2 0]), (49, .im (.sl (n.flops.map LFlop.im))), (50, .i n.flops.length), (51, .i (i + 1 : Nat))]) ⟨rfl, rfl, rfl, rfl, rfl, rfl, trivial⟩ (by simp [unders, PV.under, LF_len]) (LF_under n _), _, i + 1, rfl, by omega, (show cntG n n.gates.length + 2 * (i + 1) = cntG n n.gates.length + 2 * i + 1 + 1 by omega) ▸ hU3, rfl⟩
      · have hb3 := of_decide_eq_false hb
        have hie : i = n.flops.length := by omega
        subst hie
        refine Run.exit rfl ?_
        refine End.kp [1, 5, 6] ?_
        refine Run.seq ?_
        refine Run.seq ?_
        have fx := And.intro LF_len (And.intro LF_0o (And.intro LF_2 (And.intro LF_0 (And.intro ints_len (And.intro gim_len (And.intro fim_len (And.intro strs_len ft)))))))
        refine Run.go ?_
        refine End.kp [5, 6, 70, 71, 72] ?_
        refine Run.block ?_
        refine Run.ghost (.keepE (e := [(5, .ptr 0 2 0), (6, .fn 79 [.ptr 0 2 0]), (70, .im (.sl (ints n.outs))), (71, .i n.outs.length), (72, .i (0 : Nat))]) ⟨rfl, rfl, rfl, rfl, rfl, trivial⟩) ?_
        refine Run.loop (fun m s => ∃ (U : List (List LUse)) (i : Nat), m = n.outs.length - i ∧ i ≤ n.outs.length ∧ UOk n N U (cntG n n.gates.length + 2 * n.flops.length + i) ∧ s = ⟨[(5, .ptr 0 2 0), (6, .fn 79 [.ptr 0 2 0]), (70, .im (.sl (ints n.outs))), (71, .i n.outs.length), (72, .i (i : Nat))], LF n U, f :: rest⟩) n.outs.length ⟨_, 0, rfl, by omega, hU, rfl⟩ fun m s hI => ?_
        clear hU hi
        obtain ⟨U, i, rfl, hi, hU, rfl⟩ := hI
        refine Run.seq ?_
        have fx := And.intro LF_len (And.intro LF_0o (And.intro LF_2 (And.intro LF_0 (And.intro ints_len (And.intro gim_len (And.intro fim_len (And.intro strs_len ft)))))))
        refine Run.go ?_
        refine End.kp [5, 6, 70, 71, 72, 73] ?_
        refine Run.seq ?_
        refine Run.cond _ rfl (fun hb => ?_) (fun hb => ?_)
        · have hb4 := of_decide_eq_true hb
          have hin : i < n.outs.length := by omega
          have wi := wsucc hin (by omega)
          have hUl := hU.len
          obtain ⟨x, hxi, hxm, hx⟩ := int_at n.outs i hin
          obtain ⟨x1, x2⟩ := hn.ends.outs x hxm
          obtain ⟨k, rfl⟩ : ∃ k : Nat, x = k := ⟨x.toNat, by omega⟩
          have hle := hU.le k
          have hU2 := hU.add k (by omega) ⟨3, i, 0⟩ (.inr (.inr (.inr ⟨rfl, rfl, hxi⟩)))
          refine Run.skip ?_
          refine End.kp [5, 6, 70, 71, 72] ?_
          refine Run.seq ?_
          refine Run.block ?_
          refine Run.seq ?_
          have fx := And.intro (@Int.toNat_natCast) (And.intro (@Int.natCast_nonneg) (And.intro hUl (And.intro hx (And.intro wi (And.intro LF_len (And.intro LF_0o (And.intro LF_2 (And.intro LF_0 (And.intro ints_len (And.intro gim_len (And.intro fim_len (And.intro strs_len ft))))))))))))
          refine Run.go ?_
          refine End.kp [5, 6, 13, 14, 70, 71, 72] ?_
          refine Run.region rfl fun K hK => GOps.sim ?_
          refine GOps.call rfl rfl rfl rfl (by kernel_rfl) (ACalls.sim ?_)
          refine (useLF0_ok n U k ⟨3, i, 0⟩ (by omega) (by omega) _).mono fun v u hv => ?_
          obtain ⟨rfl, rfl⟩ := hv
          refine ⟨_, _, rfl, GOps.sim ?_⟩
          refine GOps.done (hK _ ?_); clear hK K
          refine End.blk ?_
          refine End.kp [5, 6, 70, 71, 72] ?_
          refine Run.go ?_
          refine End.lp ?_
          refine ⟨n.outs.length - (i + 1), _, by omega, .keepE (e := [(5, .ptr 0 2 0), (6, .fn 79 [.ptr 0 2 0]), (70, .im (.sl (ints n.outs))), (71, .i n.outs.length), (72, .i (i + 1 : Nat))]) ⟨rfl, rfl, rfl, rfl, rfl, trivial⟩, _, i + 1, rfl, by omega, hU2, rfl⟩
        · have hb4 := of_decide_eq_false hb
          have hie : i = n.outs.length := by omega
          subst hie
          have hUl := hU.len
          refine Run.exit rfl ?_
          refine End.kp [5] ?_
          refine Run.seq ?_
          have fx := And.intro hUl (And.intro LF_len (And.intro LF_0o (And.intro LF_2 (And.intro LF_0 (And.intro ints_len (And.intro gim_len (And.intro fim_len (And.intro strs_len ft))))))))
          refine Run.go ?_
          refine End.kp [2, 3] ?_
          refine Run.ret (hQ _ _ ⟨.inr rfl, _, rfl, _, _, rfl, ?_⟩)
          exact ⟨N, U, hN.symm, hU, by simp [oneOrTup, PV.mg, mgs, Nat.add_comm], rfl⟩
end Go.Proofs.YtkmnmokjlpenhaaPi

/- The walk of NetlistUses. -/
set_option linter.unusedVariables false
set_option linter.unusedSimpArgs false
set_option maxRecDepth 100000
namespace Go.Proofs.YtkmnmokjlpenhaaPi
set_option maxHeartbeats 4000000
/-- The objects of the law, behind Loads: the stream, the netlist, what Loads made. -/
def LM (n : LNet) (S : AObj) (U : List (List LUse)) : List AObj := S :: .box [.im (.sl (strs n.inn)), .im (.sl (strs n.out)), .im (.sl (n.flops.map LFlop.im)), .im (.sl (n.gates.map LGate.im)), .im (.sl (ints n.outs))] :: .box [.im (.sl (strs n.inn)), .im (.sl (strs n.out)), .im (.sl (n.flops.map LFlop.im)), .im (.sl (n.gates.map LGate.im)), .im (.sl (ints n.outs))] :: .box (cellsU 5 U) :: .box [.bs 0 3 U.length] :: rowsU U
theorem mgs_map (m : Nat) : ∀ l : List PV, mgs m l = l.map (PV.mg m)
  | [] => rfl
  | x :: l => by simp only [mgs, List.map_cons, mgs_map m l]
theorem LM_of (n : LNet) (S : AObj) (U : List (List LUse)) : [S, .box [.im (.sl (strs n.inn)), .im (.sl (strs n.out)), .im (.sl (n.flops.map LFlop.im)), .im (.sl (n.gates.map LGate.im)), .im (.sl (ints n.outs))]] ++ (LF n U).map (AObj.mg ([S, .box [.im (.sl (strs n.inn)), .im (.sl (strs n.out)), .im (.sl (n.flops.map LFlop.im)), .im (.sl (n.gates.map LGate.im)), .im (.sl (ints n.outs))]] : List AObj).length) = LM n S U := by
  have e1 : mgs 2 (cellsU 3 U) = cellsU 5 U := by
    rw [mgs_map]
    simp only [cellsU, List.map_map]
    refine List.map_congr_left fun k _ => ?_
    show PV.ms 0 (2 + (k + 3)) _ = _
    rw [show 2 + (k + 3) = k + 5 by omega]
  have e2 : (rowsU U).map (AObj.mg 2) = rowsU U := by simp only [rowsU, List.map_map]; rfl
  simp only [LF, LM, List.length_cons, List.length_nil, Nat.zero_add, Nat.reduceAdd, List.map_cons, e2, List.cons_append, List.nil_append]
  show S :: .box [.im (.sl (strs n.inn)), .im (.sl (strs n.out)), .im (.sl (n.flops.map LFlop.im)), .im (.sl (n.gates.map LGate.im)), .im (.sl (ints n.outs))] :: .box [.im (.sl (strs n.inn)), .im (.sl (strs n.out)), .im (.sl (n.flops.map LFlop.im)), .im (.sl (n.gates.map LGate.im)), .im (.sl (ints n.outs))] :: .box (mgs 2 (cellsU 3 U)) :: _ = _
  rw [e1]
  rfl
theorem LM_len (n : LNet) (S : AObj) (U : List (List LUse)) : (LM n S U).length = U.length + 5 := by simp [LM, rowsU]
theorem LM_1 (n : LNet) (S : AObj) (U : List (List LUse)) : (LM n S U)[1]? = some (.box [.im (.sl (strs n.inn)), .im (.sl (strs n.out)), .im (.sl (n.flops.map LFlop.im)), .im (.sl (n.gates.map LGate.im)), .im (.sl (ints n.outs))]) := rfl
theorem LM_1o (n : LNet) (S : AObj) (U : List (List LUse)) (o : List AObj) : (LM n S U ++ o)[1]? = some (.box [.im (.sl (strs n.inn)), .im (.sl (strs n.out)), .im (.sl (n.flops.map LFlop.im)), .im (.sl (n.gates.map LGate.im)), .im (.sl (ints n.outs))]) := rfl
theorem LM_3 (n : LNet) (S : AObj) (U : List (List LUse)) : (LM n S U)[3]? = some (.box (cellsU 5 U)) := rfl
theorem LM_k (n : LNet) (S : AObj) (U : List (List LUse)) (k : Nat) (h : k < U.length) : (LM n S U)[k + 5]? = some (.row 44 3 ((U.getD k []).map LUse.im) 0) := rowsU_get U k h
theorem LM_ko (n : LNet) (S : AObj) (U : List (List LUse)) (o : List AObj) (k : Nat) (h : k < U.length) : (LM n S U ++ o)[k + 5]? = some (.row 44 3 ((U.getD k []).map LUse.im) 0) := by
  rw [List.getElem?_append_left (by rw [LM_len]; omega)]
  exact LM_k n S U k h
theorem LM_last (n : LNet) (S : AObj) (U : List (List LUse)) (o : AObj) (N : Nat) (h : U.length = N) : (LM n S U ++ [o])[N + 5]? = some o := by rw [← h, ← LM_len n S U]; simp
theorem LM_lset (n : LNet) (S : AObj) (U : List (List LUse)) (o o' : AObj) (N : Nat) (h : U.length = N) : (LM n S U ++ [o]).set (N + 5) o' = LM n S U ++ [o'] := by rw [← h, ← LM_len n S U]; simp
theorem LM_under (n : LNet) (l : List Int) (c : Int) (U : List (List LUse)) : (LM n (stm l c) U).all (AObj.under (LM n (stm l c) U).length) = true := by
  rw [List.all_eq_true]
  intro o ho
  simp only [LM, List.mem_cons] at ho
  rcases ho with rfl | rfl | rfl | rfl | rfl | ho
  · rfl
  · rfl
  · rfl
  · simp only [AObj.under]
    rw [LM_len]
    have key : ∀ l : List PV, (∀ x ∈ l, x.under (U.length + 5) = true) → unders (U.length + 5) l = true := by
      intro l
      induction l with
      | nil => intro _; rfl
      | cons x l ih => intro h; simp only [unders, h x (by simp), ih (fun y hy => h y (by simp [hy])), Bool.and_self]
    refine key _ fun x hx => ?_
    simp only [cellsU, List.mem_map, List.mem_range] at hx
    obtain ⟨k, hk, rfl⟩ := hx
    simp [PV.under]
    omega
  · simp [AObj.under, unders, PV.under, LM_len]
  · simp only [rowsU, List.mem_map] at ho
    obtain ⟨u, _, rfl⟩ := ho
    rfl
/-- How many uses the nets from k on have. -/
def remU (U : List (List LUse)) (k : Nat) : Nat := ((U.map List.length).drop k).sum
theorem remU_next (U : List (List LUse)) (k : Nat) (h : k < U.length) : remU U k = (U.getD k []).length + remU U (k + 1) := by
  have h2 : k < (U.map List.length).length := by simpa using h
  rw [remU, List.drop_eq_getElem_cons h2, List.sum_cons, ← getD_lens]
  congr 1
  simp [List.getD_eq_getElem?_getD, h]
theorem remU_end (U : List (List LUse)) : remU U U.length = 0 := by simp [remU, List.drop_eq_nil_of_le]
theorem sum_drop (l : List Nat) : ∀ k, (l.drop k).sum ≤ l.sum := by
  induction l with
  | nil => simp
  | cons a l ih =>
    intro k
    cases k with
    | zero => simp
    | succ k => have := ih k; simp only [List.drop_succ_cons, List.sum_cons]; omega
theorem remU_le (U : List (List LUse)) (k : Nat) : remU U k ≤ remU U 0 := by
  simp only [remU, List.drop_zero]
  exact sum_drop _ k
theorem used_ok (n : LNet) (k : Nat) (u : LUse) (h : GoodU n k u) (up : Frs) (hs : NetSmall n) (hg : ∀ (i : Nat) (g : LGate), n.gates[i]? = some g → g.ins.length ≤ 6) : ACalls Try.prog 20 [n.pv, .agg [.i u.kind, .i u.at_, .i u.pin]] up fun v w => v = .i k ∧ w = up := by
  obtain ⟨kd, a, p⟩ := u
  obtain ⟨z1, z2, z3, z4, z5⟩ := hs
  rcases h with ⟨h1, g, h2, h3⟩ | ⟨h1, h0, f, h2, h3⟩ | ⟨h1, h0, f, h2, h3⟩ | ⟨h1, h0, h2⟩
  · simp only at h1 h2 h3
    subst h1
    have := hg a g h2
    exact used_pin n a p g k h2 h3 up
  · simp only at h1 h2 h3 h0
    subst h1 h0
    rw [← h3]
    exact used_data n a f h2 up
  · simp only at h1 h2 h3 h0
    subst h1 h0
    rw [← h3]
    exact used_en n a f h2 up
  · simp only at h1 h2 h0
    subst h1 h0
    exact used_port n a k h2 up
theorem Uses_walk (l : List Int) (hs : StmOk l 0) (up : Frs) : ACalls Try.prog 3 [.im (.sl (ints l))] up fun v u => v = .im (.bool true) ∧ u = up := by
  obtain ⟨r1, s1⟩ := nextV_range l 0 5 (by omega)
  obtain ⟨r2, s2⟩ := nextV_range l (0 + 1) 4 (by omega)
  obtain ⟨r3, s3⟩ := nextV_range l (0 + 1 + 1) 20 (by omega)
  obtain ⟨r4, s4⟩ := nextV_range l (0 + 1 + 1 + 1) 4 (by omega)
  obtain ⟨ins, e1⟩ : ∃ k : Nat, nextV l 0 5 = k := ⟨(nextV l 0 5).toNat, by omega⟩
  obtain ⟨flops, e2⟩ : ∃ k : Nat, nextV l (0 + 1) 4 = k := ⟨(nextV l (0 + 1) 4).toNat, by omega⟩
  obtain ⟨gates, e3⟩ : ∃ k : Nat, nextV l (0 + 1 + 1) 20 = k := ⟨(nextV l (0 + 1 + 1) 20).toNat, by omega⟩
  obtain ⟨outs, e4⟩ : ∃ k : Nat, nextV l (0 + 1 + 1 + 1) 4 = k := ⟨(nextV l (0 + 1 + 1 + 1) 4).toNat, by omega⟩
  have ok : ∀ b : Int, 0 ≤ b → b ≤ 100000 → StmOk l b := fun b h1 h2 => ⟨hs.vals, hs.len, h1, by omega⟩
  obtain ⟨hn, hb1, hb2⟩ := drawn_ok l ins flops gates outs (0 + 1 + 1 + 1 + 1) (by omega) (by omega) (by omega) (by omega)
  have hNet := Netlist_ok ins flops gates outs (by omega) (by omega) (by omega) (by omega) l (0 + 1 + 1 + 1 + 1) (ok _ (by omega) (by omega)) (by omega)
  generalize netlistV l (0 + 1 + 1 + 1 + 1) ins flops gates outs = NV at hn hb1 hb2 hNet
  obtain ⟨n, b⟩ := NV
  simp only at hn hb1 hb2 hNet
  obtain ⟨z1, z2, z3, z4, z5⟩ := hn.small
  have cB := cntG_le n hn n.gates.length
  refine ACalls.code Try.func3 rfl 90 rfl (by simp) [.tmp 2] rfl fun Q hQ => ?_
  simp only [ups, PV.up, argEnv]
  have ft := And.intro ty_2 (And.intro ty_3 (And.intro ty_4 (And.intro ty_22 (And.intro ty_23 (And.intro ty_25 (And.intro ty_27 (And.intro ty_28 (And.intro ty_30 (And.intro ty_33 (And.intro ty_34 (And.intro ty_39 (And.intro ty_42 (And.intro ty_44 (And.intro ty_78 trivial))))))))))))))
  refine Run.seq ?_
  have fx := And.intro ints_len (And.intro gim_len (And.intro fim_len (And.intro strs_len (And.intro e4 (And.intro e3 (And.intro e2 (And.intro e1 ft)))))))
  refine Run.go ?_
  refine End.kp [0] ?_
  refine Run.seq ?_
  refine Run.go ?_
  refine End.kp [3] ?_
  refine Run.seq ?_
  refine Run.region rfl fun K hK => GOps.sim ?_
  refine GOps.call rfl rfl rfl rfl (by kernel_rfl) (ACalls.sim ?_)
  refine (Next_ok l 0 5 hs (by omega) _ 0 0 rfl).mono fun v u hv => ?_
  obtain ⟨rfl, rfl⟩ := hv
  refine ⟨_, _, rfl, GOps.sim ?_⟩
  refine GOps.call rfl rfl rfl rfl (by kernel_rfl) (ACalls.sim ?_)
  refine (Next_ok l (0 + 1) 4 (ok _ (by omega) (by omega)) (by omega) _ 0 0 rfl).mono fun v u hv => ?_
  obtain ⟨rfl, rfl⟩ := hv
  refine ⟨_, _, rfl, GOps.sim ?_⟩
  refine GOps.call rfl rfl rfl rfl (by kernel_rfl) (ACalls.sim ?_)
  refine (Next_ok l (0 + 1 + 1) 20 (ok _ (by omega) (by omega)) (by omega) _ 0 0 rfl).mono fun v u hv => ?_
  obtain ⟨rfl, rfl⟩ := hv
  refine ⟨_, _, rfl, GOps.sim ?_⟩
  refine GOps.call rfl rfl rfl rfl (by kernel_rfl) (ACalls.sim ?_)
  refine (Next_ok l (0 + 1 + 1 + 1) 4 (ok _ (by omega) (by omega)) (by omega) _ 0 0 rfl).mono fun v u hv => ?_
  obtain ⟨rfl, rfl⟩ := hv
  refine ⟨_, _, rfl, GOps.sim ?_⟩
  refine GOps.call rfl rfl rfl rfl (by kernel_rfl) (ACalls.sim ?_)
  refine (hNet _ 0 0 rfl).mono fun v u hv => ?_
  obtain ⟨rfl, rfl⟩ := hv
  refine ⟨_, _, rfl, GOps.sim ?_⟩
  refine GOps.done (hK _ ?_); clear hK K
  refine End.kp [4] ?_
  refine Run.seq ?_
  refine Run.region rfl fun K hK => GOps.sim ?_
  refine GOps.call rfl rfl rfl rfl (by kernel_rfl) (ACalls.sim ?_)
  refine (Loads_ok n hn _ _).mono fun v u hv => ?_
  obtain ⟨N, U, hN, hU, rfl, rfl⟩ := hv
  rw [LM_of n (stm l b) U]
  have hUl := hU.len
  simp only [List.length_cons, List.length_nil, Nat.zero_add, Nat.reduceAdd]
  have fx := And.intro ints_len (And.intro gim_len (And.intro fim_len (And.intro strs_len (And.intro e4 (And.intro e3 (And.intro e2 (And.intro e1 ft)))))))
  refine ⟨_, _, rfl, GOps.sim ?_⟩
  refine GOps.done (hK _ ?_); clear hK K
  refine End.kp [4, 5, 6] ?_
  refine Run.seq ?_
  have w1 : IntKind.i64.wrap (2 * (n.flops.length : Int)) = 2 * (n.flops.length : Int) := wrap64 (by omega)
  have w2 : IntKind.i64.wrap (2 * (n.flops.length : Int) + n.outs.length) = 2 * (n.flops.length : Int) + n.outs.length := wrap64 (by omega)
  have fx := And.intro hUl (And.intro LM_len (And.intro LM_3 (And.intro LM_1o (And.intro LM_1 (And.intro w2 (And.intro w1 (And.intro ints_len (And.intro gim_len (And.intro fim_len (And.intro strs_len (And.intro e4 (And.intro e3 (And.intro e2 (And.intro e1 ft))))))))))))))
  refine Run.go ?_
  refine End.kp [4, 5, 6, 7] ?_
  refine Run.seq ?_
  refine Run.seq ?_
  refine Run.go ?_
  refine End.kp [4, 5, 6, 7, 41, 42, 43] ?_
  refine Run.block ?_
  have ec : (2 * (n.flops.length : Int) + n.outs.length) = (2 * n.flops.length + n.outs.length + 0 : Nat) := by omega
  rw [ec]
  refine Run.ghost (.keepE (e := [(4, .ptr 0 1 0), (5, .bs 0 3 N), (6, .i 0), (7, .i (2 * n.flops.length + n.outs.length + 0 : Nat)), (41, .im (.sl (n.gates.map LGate.im))), (42, .i n.gates.length), (43, .i 0)]) ⟨rfl, rfl, rfl, rfl, rfl, rfl, rfl, trivial⟩) ?_
  refine Run.loop (fun m s => ∃ i : Nat, m = n.gates.length - i ∧ i ≤ n.gates.length ∧ s = ⟨[(4, .ptr 0 1 0), (5, .bs 0 3 N), (6, .i 0), (7, .i (2 * n.flops.length + n.outs.length + cntG n i : Nat)), (41, .im (.sl (n.gates.map LGate.im))), (42, .i n.gates.length), (43, .i (i : Nat))], LM n (stm l b) U, up⟩) n.gates.length ⟨0, rfl, by omega, rfl⟩ fun m s hI => ?_
  obtain ⟨i, rfl, hi, rfl⟩ := hI
  refine Run.seq ?_
  have fx := And.intro hUl (And.intro LM_len (And.intro LM_3 (And.intro LM_1o (And.intro LM_1 (And.intro w2 (And.intro w1 (And.intro ints_len (And.intro gim_len (And.intro fim_len (And.intro strs_len (And.intro e4 (And.intro e3 (And.intro e2 (And.intro e1 ft))))))))))))))
  refine Run.go ?_
  refine End.kp [4, 5, 6, 7, 41, 42, 43, 44] ?_
  refine Run.seq ?_
  refine Run.cond _ rfl (fun hb => ?_) (fun hb => ?_)
  · have hb2 := of_decide_eq_true hb
    have hin : i < n.gates.length := by omega
    have wi := wsucc hin (by omega)
    obtain ⟨g, hgi, hgm, hg⟩ := gate_at n.gates i hin
    have cg := cntG_next n i g hgi
    have cl := cntG_le n hn i
    obtain ⟨v1, v2, v3⟩ := hn.gates i g hgi
    have wc : IntKind.i64.wrap (((2 * n.flops.length + n.outs.length + cntG n i : Nat) : Int) + g.ins.length) = ((2 * n.flops.length + n.outs.length + cntG n (i + 1) : Nat) : Int) := by rw [wrap64 (by omega)]; omega
    have q1 := LM_last n (stm l b) U (.box [.i (-1), .im (.int .u64 g.table), .im (.sl (ints g.ins))]) N hUl
    have q0 := LM_last n (stm l b) U (.box [.i 0, .im (.int .u64 0), .nils]) N hUl
    have q3 := fun o o' => LM_lset n (stm l b) U o o' N hUl
    refine Run.skip ?_
    refine End.kp [4, 5, 6, 7, 41, 42, 43] ?_
    refine Run.seq ?_
    refine Run.block ?_
    refine Run.seq ?_
    have fx := And.intro (@Int.toNat_natCast) (And.intro (@Int.natCast_nonneg) (And.intro q3 (And.intro q1 (And.intro q0 (And.intro wc (And.intro hg (And.intro wi (And.intro hUl (And.intro LM_len (And.intro LM_3 (And.intro LM_1o (And.intro LM_1 (And.intro w2 (And.intro w1 (And.intro ints_len (And.intro gim_len (And.intro fim_len (And.intro strs_len (And.intro e4 (And.intro e3 (And.intro e2 (And.intro e1 ft))))))))))))))))))))))
    refine Run.go ?_
    refine End.kp [4, 5, 6, 7, 9, 41, 42, 43] ?_
    refine Run.go ?_
    refine End.blk ?_
    refine End.kp [4, 5, 6, 7, 41, 42, 43] ?_
    refine Run.go ?_
    refine End.lp ?_
    refine ⟨n.gates.length - (i + 1), _, by omega, .cut (e := [(4, .ptr 0 1 0), (5, .bs 0 3 N), (6, .i 0), (7, .i (2 * n.flops.length + n.outs.length + cntG n (i + 1) : Nat)), (41, .im (.sl (n.gates.map LGate.im))), (42, .i n.gates.length), (43, .i (i + 1 : Nat))]) ⟨rfl, rfl, rfl, rfl, rfl, rfl, rfl, trivial⟩ (by simp [unders, PV.under, LM_len] <;> omega) (LM_under n _ _ _), i + 1, rfl, by omega, rfl⟩
  · have hb2 := of_decide_eq_false hb
    have hie : i = n.gates.length := by omega
    subst hie
    have c2 : ((N : Int) != 2 + n.inn.length + n.flops.length + n.gates.length) = false := by simp [hN]
    have hrem : 2 * n.flops.length + n.outs.length + cntG n n.gates.length = remU U 0 := by
      have := hU.sum
      simp only [remU, List.drop_zero]
      omega
    refine Run.exit rfl ?_
    refine End.kp [4, 5, 6, 7] ?_
    refine Run.seq ?_
    refine Run.seq ?_
    have fx := And.intro hrem (And.intro c2 (And.intro hUl (And.intro LM_len (And.intro LM_3 (And.intro LM_1o (And.intro LM_1 (And.intro w2 (And.intro w1 (And.intro ints_len (And.intro gim_len (And.intro fim_len (And.intro strs_len (And.intro e4 (And.intro e3 (And.intro e2 (And.intro e1 ft))))))))))))))))
    refine Run.region rfl fun K hK => GOps.sim ?_
    refine GOps.call rfl rfl rfl rfl (by kernel_rfl) (ACalls.sim ?_)
    refine (nets_ok _).mono fun v u hv => ?_
    obtain ⟨rfl, rfl⟩ := hv
    refine ⟨_, _, rfl, GOps.sim ?_⟩
    refine GOps.call rfl rfl rfl rfl (by kernel_rfl) (ACalls.sim ?_)
    refine (Nets_ok n hn.small _).mono fun v u hv => ?_
    obtain ⟨rfl, rfl⟩ := hv
    refine ⟨_, _, rfl, GOps.sim ?_⟩
    refine GOps.done (hK _ ?_); clear hK K
    refine End.kp [4, 5, 7, 65] ?_
    refine Run.cond _ rfl (fun hb => ?_) (fun hb => ?_)
    · have hb := hb
      simp at hb
    · have hb := hb
      refine Run.skip ?_
      refine End.kp [4, 5, 7] ?_
      refine Run.seq ?_
      refine Run.seq ?_
      have fx := And.intro hrem (And.intro c2 (And.intro hUl (And.intro LM_len (And.intro LM_3 (And.intro LM_1o (And.intro LM_1 (And.intro w2 (And.intro w1 (And.intro ints_len (And.intro gim_len (And.intro fim_len (And.intro strs_len (And.intro e4 (And.intro e3 (And.intro e2 (And.intro e1 ft))))))))))))))))
      refine Run.go ?_
      refine End.kp [4, 7, 66, 67, 68] ?_
      refine Run.block ?_
      refine Run.ghost (.keepE (e := [(4, .ptr 0 1 0), (7, .i (remU U (0) : Nat)), (66, .bs 0 3 N), (67, .i N), (68, .i (0 : Nat))]) ⟨rfl, rfl, rfl, rfl, rfl, trivial⟩) ?_
      refine Run.loop (fun m s => ∃ i : Nat, m = N - i ∧ i ≤ N ∧ s = ⟨[(4, .ptr 0 1 0), (7, .i (remU U i : Nat)), (66, .bs 0 3 N), (67, .i N), (68, .i (i : Nat))], LM n (stm l b) U, up⟩) N ⟨0, rfl, by omega, rfl⟩ fun m s hI => ?_
      obtain ⟨i, rfl, hi, rfl⟩ := hI
      refine Run.seq ?_
      have fx := And.intro hrem (And.intro c2 (And.intro hUl (And.intro LM_len (And.intro LM_3 (And.intro LM_1o (And.intro LM_1 (And.intro w2 (And.intro w1 (And.intro ints_len (And.intro gim_len (And.intro fim_len (And.intro strs_len (And.intro e4 (And.intro e3 (And.intro e2 (And.intro e1 ft))))))))))))))))
      refine Run.go ?_
      refine End.kp [4, 7, 66, 67, 68, 69] ?_
      refine Run.seq ?_
      refine Run.cond _ rfl (fun hb => ?_) (fun hb => ?_)
      · have hb2 := of_decide_eq_true hb
        have hin : i < N := by omega
        have wi := wsucc hin (by omega)
        have hiU : i < U.length := by rw [hUl]; exact hin
        have hc := cellsU_get 5 U i hiU
        have hk := LM_k n (stm l b) U i hiU
        have hr := remU_next U i hiU
        have hrl := remU_le U i
        have hle := hU.le i
        have hcl := cellsU_len 5 U
        have hlt : (i : Int) < (N : Int) := by omega
        refine Run.skip ?_
        refine End.kp [4, 7, 66, 67, 68] ?_
        refine Run.seq ?_
        refine Run.block ?_
        refine Run.seq ?_
        have fx := And.intro (@Int.toNat_natCast) (And.intro (@Int.natCast_nonneg) (And.intro (@Nat.mul_one) (And.intro hlt (And.intro hcl (And.intro hk (And.intro hc (And.intro wi (And.intro hrem (And.intro c2 (And.intro hUl (And.intro LM_len (And.intro LM_3 (And.intro LM_1o (And.intro LM_1 (And.intro w2 (And.intro w1 (And.intro ints_len (And.intro gim_len (And.intro fim_len (And.intro strs_len (And.intro e4 (And.intro e3 (And.intro e2 (And.intro e1 ft))))))))))))))))))))))))
        refine Run.go ?_
        refine End.kp [4, 7, 10, 11, 66, 67, 68] ?_
        refine Run.seq ?_
        refine Run.go ?_
        refine End.kp [4, 7, 10, 66, 67, 68, 73, 74, 75] ?_
        refine Run.block ?_
        refine Run.ghost (.keepE (e := [(4, .ptr 0 1 0), (7, .i (remU U i - (0) : Nat)), (10, .i (i : Nat)), (66, .bs 0 3 N), (67, .i N), (68, .i (i : Nat)), (73, .ms 0 (i + 5) (U.getD i []).length), (74, .i (U.getD i []).length), (75, .i (0 : Nat))]) ⟨rfl, rfl, rfl, rfl, rfl, rfl, rfl, rfl, rfl, trivial⟩) ?_
        refine Run.loop (fun m s => ∃ p : Nat, m = (U.getD i []).length - p ∧ p ≤ (U.getD i []).length ∧ s = ⟨[(4, .ptr 0 1 0), (7, .i (remU U i - p : Nat)), (10, .i (i : Nat)), (66, .bs 0 3 N), (67, .i N), (68, .i (i : Nat)), (73, .ms 0 (i + 5) (U.getD i []).length), (74, .i (U.getD i []).length), (75, .i (p : Nat))], LM n (stm l b) U, up⟩) (U.getD i []).length ⟨0, rfl, by omega, rfl⟩ fun m s hI => ?_
        obtain ⟨p, rfl, hp, rfl⟩ := hI
        refine Run.seq ?_
        have fx := And.intro (@Int.toNat_natCast) (And.intro (@Int.natCast_nonneg) (And.intro (@Nat.mul_one) (And.intro hlt (And.intro hcl (And.intro hk (And.intro hc (And.intro wi (And.intro hrem (And.intro c2 (And.intro hUl (And.intro LM_len (And.intro LM_3 (And.intro LM_1o (And.intro LM_1 (And.intro w2 (And.intro w1 (And.intro ints_len (And.intro gim_len (And.intro fim_len (And.intro strs_len (And.intro e4 (And.intro e3 (And.intro e2 (And.intro e1 ft))))))))))))))))))))))))
        refine Run.go ?_
        refine End.kp [4, 7, 10, 66, 67, 68, 73, 74, 75, 76] ?_
        refine Run.seq ?_
        refine Run.cond _ rfl (fun hb => ?_) (fun hb => ?_)
        · have hb3 := of_decide_eq_true hb
          have hpn : p < (U.getD i []).length := by omega
          have wp := wsucc hpn (by omega)
          have hplt : (p : Int) < ((U.getD i []).length : Int) := by omega
          obtain ⟨u, hu⟩ : ∃ u, (U.getD i [])[p]? = some u := ⟨_, List.getElem?_eq_getElem hpn⟩
          have hui : ((U.getD i []).map LUse.im)[p]? = some [.int .i64 u.kind, .int .i64 u.at_, .int .i64 u.pin] := by rw [List.getElem?_map, hu]; rfl
          have hum := hU.good i u (List.mem_of_getElem? hu)
          have hlm : ((U.getD i []).map LUse.im).length = (U.getD i []).length := by simp
          have hko := fun o => LM_ko n (stm l b) U o i hiU
          have q1 := LM_last n (stm l b) U (.box [.i u.kind, .i u.at_, .i u.pin]) N hUl
          have q0 := LM_last n (stm l b) U (.box [.i 0, .i 0, .i 0]) N hUl
          have q3 := fun o o' => LM_lset n (stm l b) U o o' N hUl
          have wd : IntKind.i64.wrap (((remU U i - p : Nat) : Int) - 1) = ((remU U i - (p + 1) : Nat) : Int) := by rw [wrap64 (by omega)]; omega
          have ne : ((i : Int) != i) = false := by simp
          refine Run.skip ?_
          refine End.kp [4, 7, 10, 66, 67, 68, 73, 74, 75] ?_
          refine Run.seq ?_
          refine Run.block ?_
          refine Run.seq ?_
          have fx := And.intro ne (And.intro wd (And.intro q3 (And.intro q1 (And.intro q0 (And.intro hko (And.intro hlm (And.intro hui (And.intro hplt (And.intro wp (And.intro (@Int.toNat_natCast) (And.intro (@Int.natCast_nonneg) (And.intro (@Nat.mul_one) (And.intro hlt (And.intro hcl (And.intro hk (And.intro hc (And.intro wi (And.intro hrem (And.intro c2 (And.intro hUl (And.intro LM_len (And.intro LM_3 (And.intro LM_1o (And.intro LM_1 (And.intro w2 (And.intro w1 (And.intro ints_len (And.intro gim_len (And.intro fim_len (And.intro strs_len (And.intro e4 (And.intro e3 (And.intro e2 (And.intro e1 ft))))))))))))))))))))))))))))))))))
          refine Run.go ?_
          refine End.kp [4, 7, 10, 13, 66, 67, 68, 73, 74, 75] ?_
          refine Run.seq ?_
          refine Run.seq ?_
          refine Run.region rfl fun K hK => GOps.sim ?_
          refine GOps.call rfl rfl rfl rfl (by kernel_rfl) (ACalls.sim ?_)
          refine (used_ok n i u hum _ hn.small (fun i g h => (hn.gates i g h).1)).mono fun v u hv => ?_
          obtain ⟨rfl, rfl⟩ := hv
          refine ⟨_, _, rfl, GOps.sim ?_⟩
          refine GOps.done (hK _ ?_); clear hK K
          refine End.kp [4, 7, 10, 66, 67, 68, 73, 74, 75, 83] ?_
          refine Run.cond _ rfl (fun hb => ?_) (fun hb => ?_)
          · have hb4 := hb
            simp at hb
          · have hb4 := hb
            refine Run.skip ?_
            refine End.kp [4, 7, 10, 66, 67, 68, 73, 74, 75] ?_
            have fx := And.intro ne (And.intro wd (And.intro q3 (And.intro q1 (And.intro q0 (And.intro hko (And.intro hlm (And.intro hui (And.intro hplt (And.intro wp (And.intro (@Int.toNat_natCast) (And.intro (@Int.natCast_nonneg) (And.intro (@Nat.mul_one) (And.intro hlt (And.intro hcl (And.intro hk (And.intro hc (And.intro wi (And.intro hrem (And.intro c2 (And.intro hUl (And.intro LM_len (And.intro LM_3 (And.intro LM_1o (And.intro LM_1 (And.intro w2 (And.intro w1 (And.intro ints_len (And.intro gim_len (And.intro fim_len (And.intro strs_len (And.intro e4 (And.intro e3 (And.intro e2 (And.intro e1 ft))))))))))))))))))))))))))))))))))
            refine Run.go ?_
            refine End.blk ?_
            refine End.kp [4, 7, 10, 66, 67, 68, 73, 74, 75] ?_
            refine Run.go ?_
            refine End.lp ?_
            refine ⟨(U.getD i []).length - (p + 1), _, by omega, .cut (e := [(4, .ptr 0 1 0), (7, .i (remU U i - (p + 1) : Nat)), (10, .i (i : Nat)), (66, .bs 0 3 N), (67, .i N), (68, .i (i : Nat)), (73, .ms 0 (i + 5) (U.getD i []).length), (74, .i (U.getD i []).length), (75, .i (p + 1 : Nat))]) ⟨rfl, rfl, rfl, rfl, rfl, rfl, rfl, rfl, rfl, trivial⟩ (by simp [unders, PV.under, LM_len] <;> omega) (LM_under n _ _ _), p + 1, rfl, by omega, rfl⟩
        · have hb3 := of_decide_eq_false hb
          have hpe : p = (U.getD i []).length := by omega
          have hr2 : remU U i - p = remU U (i + 1) := by omega
          rw [hr2]
          refine Run.exit rfl ?_
          refine End.blk ?_
          refine End.kp [4, 7, 66, 67, 68] ?_
          have fx := And.intro (@Int.toNat_natCast) (And.intro (@Int.natCast_nonneg) (And.intro (@Nat.mul_one) (And.intro hlt (And.intro hcl (And.intro hk (And.intro hc (And.intro wi (And.intro hrem (And.intro c2 (And.intro hUl (And.intro LM_len (And.intro LM_3 (And.intro LM_1o (And.intro LM_1 (And.intro w2 (And.intro w1 (And.intro ints_len (And.intro gim_len (And.intro fim_len (And.intro strs_len (And.intro e4 (And.intro e3 (And.intro e2 (And.intro e1 ft))))))))))))))))))))))))
          refine Run.go ?_
          refine End.lp ?_
          refine ⟨N - (i + 1), _, by omega, .keepE (e := [(4, .ptr 0 1 0), (7, .i (remU U (i + 1) : Nat)), (66, .bs 0 3 N), (67, .i N), (68, .i (i + 1 : Nat))]) ⟨rfl, rfl, rfl, rfl, rfl, trivial⟩, i + 1, rfl, by omega, rfl⟩
      · have hb2 := of_decide_eq_false hb
        have hie : i = N := by omega
        have he : remU U i = 0 := by rw [hie, ← hUl]; exact remU_end U
        refine Run.exit rfl ?_
        refine End.kp [7] ?_
        refine Run.seq ?_
        have fx := And.intro he (And.intro hrem (And.intro c2 (And.intro hUl (And.intro LM_len (And.intro LM_3 (And.intro LM_1o (And.intro LM_1 (And.intro w2 (And.intro w1 (And.intro ints_len (And.intro gim_len (And.intro fim_len (And.intro strs_len (And.intro e4 (And.intro e3 (And.intro e2 (And.intro e1 ft)))))))))))))))))
        refine Run.go ?_
        refine End.kp [2] ?_
        refine Run.ret (hQ _ _ ⟨.inr rfl, _, rfl, _, rfl, ?_⟩)
        exact ⟨rfl, rfl⟩
end Go.Proofs.YtkmnmokjlpenhaaPi

