/- The walk of Form: a netlist whose parts are in order is accepted. -/
import Derived.Test.YtkmnmokjlpenhaaWH
set_option linter.unusedVariables false
set_option linter.unusedSimpArgs false
set_option maxRecDepth 100000
namespace Go.Proofs.YtkmnmokjlpenhaaPi

structure NetOk (n : LNet) : Prop where
  small : NetSmall n
  names : ∀ s ∈ n.inn ++ n.flops.map LFlop.name, NameOk s
  nodup : (n.inn ++ n.flops.map LFlop.name).Nodup
  onames : ∀ s ∈ n.out, NameOk s
  onodup : n.out.Nodup
  olen : n.out.length = n.outs.length
  gates : ∀ (i : Nat) (g : LGate), n.gates[i]? = some g → g.ins.length ≤ 6 ∧ bits .andNot .u64 g.table (2 ^ ((2 : Int) ^ g.ins.length).toNat - 1) = 0 ∧ ∀ k ∈ g.ins, 0 ≤ k ∧ k < 2 + n.inn.length + n.flops.length + i
  ends : EndsOk n
abbrev nms (n : LNet) (i : Nat) : List ByteArray := n.inn ++ (n.flops.take i).map LFlop.name
theorem nms_len (n : LNet) (i : Nat) (h : i ≤ n.flops.length) : (strs (nms n i)).length = n.inn.length + i := by simp; omega
theorem nms_next (n : LNet) (i : Nat) (f : LFlop) (h : n.flops[i]? = some f) : nms n (i + 1) = nms n i ++ [f.name] := by simp [nms, List.take_add_one, h]
theorem Form_ok (n : LNet) (hn : NetOk n) (up : Frs) : ACalls Try.prog 78 [n.pv] up fun v u => v = .i 0 ∧ u = up := by
  have hsm := hn.small
  obtain ⟨z1, z2, z3, z4, z5⟩ := hn.small
  have d1 : decide ((n.inn.length : Int) > 128) = false := decide_eq_false (by omega)
  have d2 : decide ((n.out.length : Int) > 128) = false := decide_eq_false (by omega)
  have d3 : decide ((n.flops.length : Int) > 288) = false := decide_eq_false (by omega)
  have d4 : decide ((n.gates.length : Int) > 1200) = false := decide_eq_false (by omega)
  have d5 : ((n.out.length : Int) != n.outs.length) = false := by rw [hn.olen]; simp
  refine ACalls.code Try.func78 rfl 111 rfl (by simp) [.tmp 2] rfl fun Q hQ => ?_
  simp only [ups, PV.up, argEnv]
  refine Run.seq ?_
  refine Run.region rfl fun K hK => GOps.run ?_
  simp only [lookupV, updateV, slicePV, pe0, pe1, pe2, pe3, pe4, pe5, pe6, pe7, pr0, pr1, Nat.reduceAdd, Nat.reduceMul, Nat.reduceLeDiff, Nat.reduceLT, Nat.reduceEqDiff, Nat.reduceBEq, Nat.reduceSub, reduceCtorEq, reduceIte, Int.reduceToNat, Int.reduceLE, Int.reduceEq, Int.reduceNe, Int.reduceBEq, Int.reduceBNe, Int.reduceLT, Int.reduceGT, Int.reduceGE, Int.reduceNeg, ty_2, ty_3, ty_4, ty_9, ty_22, ty_26, ty_27, ty_28, ty_30, ty_34, ty_37, ty_39, ty_78, strs_len, fim_len, gim_len, ints_len, d1, d2, d3, d4, d5]
  refine GOps.done (hK _ ?_); clear hK K
  refine End.keep [1] ?_
  simp only [pk0, Nat.reduceBEq, reduceIte]
  refine Run.seq ?_
  refine Run.seq ?_
  refine Run.region rfl fun K hK => GOps.run ?_
  simp only [lookupV, updateV, slicePV, pe0, pe1, pe2, pe3, pe4, pe5, pe6, pe7, pr0, pr1, Nat.reduceAdd, Nat.reduceMul, Nat.reduceLeDiff, Nat.reduceLT, Nat.reduceEqDiff, Nat.reduceBEq, Nat.reduceSub, reduceCtorEq, reduceIte, Int.reduceToNat, Int.reduceLE, Int.reduceEq, Int.reduceNe, Int.reduceBEq, Int.reduceBNe, Int.reduceLT, Int.reduceGT, Int.reduceGE, Int.reduceNeg, ty_2, ty_3, ty_4, ty_9, ty_22, ty_26, ty_27, ty_28, ty_30, ty_34, ty_37, ty_39, ty_78, strs_len, fim_len, gim_len, ints_len, d1, d2, d3, d4, d5]
  refine GOps.done (hK _ ?_); clear hK K
  refine End.keep [1, 34] ?_
  simp only [pk0, Nat.reduceBEq, reduceIte]
  refine Run.cond _ rfl (fun hb => ?_) (fun hb => ?_)
  · have hb := hb
    simp at hb
  · have hb := hb
    refine Run.skip ?_
    refine End.keep [1] ?_
    simp only [pk0, Nat.reduceBEq, reduceIte]
    refine Run.seq ?_
    refine Run.seq ?_
    refine Run.region rfl fun K hK => GOps.run ?_
    simp only [lookupV, updateV, slicePV, pe0, pe1, pe2, pe3, pe4, pe5, pe6, pe7, pr0, pr1, Nat.reduceAdd, Nat.reduceMul, Nat.reduceLeDiff, Nat.reduceLT, Nat.reduceEqDiff, Nat.reduceBEq, Nat.reduceSub, reduceCtorEq, reduceIte, Int.reduceToNat, Int.reduceLE, Int.reduceEq, Int.reduceNe, Int.reduceBEq, Int.reduceBNe, Int.reduceLT, Int.reduceGT, Int.reduceGE, Int.reduceNeg, ty_2, ty_3, ty_4, ty_9, ty_22, ty_26, ty_27, ty_28, ty_30, ty_34, ty_37, ty_39, ty_78, strs_len, fim_len, gim_len, ints_len, d1, d2, d3, d4, d5]
    refine GOps.done (hK _ ?_); clear hK K
    refine End.keep [1, 41] ?_
    simp only [pk0, Nat.reduceBEq, reduceIte]
    refine Run.cond _ rfl (fun hb => ?_) (fun hb => ?_)
    · have hb := hb
      simp at hb
    · have hb := hb
      refine Run.skip ?_
      refine End.keep [1] ?_
      simp only [pk0, Nat.reduceBEq, reduceIte]
      refine Run.seq ?_
      refine Run.region rfl fun K hK => GOps.run ?_
      simp only [lookupV, updateV, slicePV, pe0, pe1, pe2, pe3, pe4, pe5, pe6, pe7, pr0, pr1, Nat.reduceAdd, Nat.reduceMul, Nat.reduceLeDiff, Nat.reduceLT, Nat.reduceEqDiff, Nat.reduceBEq, Nat.reduceSub, reduceCtorEq, reduceIte, Int.reduceToNat, Int.reduceLE, Int.reduceEq, Int.reduceNe, Int.reduceBEq, Int.reduceBNe, Int.reduceLT, Int.reduceGT, Int.reduceGE, Int.reduceNeg, ty_2, ty_3, ty_4, ty_9, ty_22, ty_26, ty_27, ty_28, ty_30, ty_34, ty_37, ty_39, ty_78, strs_len, fim_len, gim_len, ints_len, d1, d2, d3, d4, d5]
      refine GOps.call rfl rfl rfl rfl (by kernel_rfl) ?_  -- call F111(t43)  26
      simp only [lookupV, updateV, slicePV, pe0, pe1, pe2, pe3, pe4, pe5, pe6, pe7, pr0, pr1, Nat.reduceAdd, Nat.reduceMul, Nat.reduceLeDiff, Nat.reduceLT, Nat.reduceEqDiff, Nat.reduceBEq, Nat.reduceSub, reduceCtorEq, reduceIte, Int.reduceToNat, Int.reduceLE, Int.reduceEq, Int.reduceNe, Int.reduceBEq, Int.reduceBNe, Int.reduceLT, Int.reduceGT, Int.reduceGE, Int.reduceNeg, ty_2, ty_3, ty_4, ty_9, ty_22, ty_26, ty_27, ty_28, ty_30, ty_34, ty_37, ty_39, ty_78, strs_len, fim_len, gim_len, ints_len, d1, d2, d3, d4, d5]
      refine (CloneX_ok n.inn (by omega) _ _).mono fun v u hv => ?_
      obtain ⟨rfl, rfl⟩ := hv
      refine ⟨_, _, rfl, GOps.run ?_⟩
      simp only [lookupV, updateV, slicePV, pe0, pe1, pe2, pe3, pe4, pe5, pe6, pe7, pr0, pr1, Nat.reduceAdd, Nat.reduceMul, Nat.reduceLeDiff, Nat.reduceLT, Nat.reduceEqDiff, Nat.reduceBEq, Nat.reduceSub, reduceCtorEq, reduceIte, Int.reduceToNat, Int.reduceLE, Int.reduceEq, Int.reduceNe, Int.reduceBEq, Int.reduceBNe, Int.reduceLT, Int.reduceGT, Int.reduceGE, Int.reduceNeg, ty_2, ty_3, ty_4, ty_9, ty_22, ty_26, ty_27, ty_28, ty_30, ty_34, ty_37, ty_39, ty_78, strs_len, fim_len, gim_len, ints_len, d1, d2, d3, d4, d5]
      refine GOps.done (hK _ ?_); clear hK K
      refine End.keep [1, 3] ?_
      simp only [pk0, Nat.reduceBEq, reduceIte]
      refine Run.seq ?_
      refine Run.seq ?_
      refine Run.region rfl fun K hK => GOps.run ?_
      simp only [lookupV, updateV, slicePV, pe0, pe1, pe2, pe3, pe4, pe5, pe6, pe7, pr0, pr1, Nat.reduceAdd, Nat.reduceMul, Nat.reduceLeDiff, Nat.reduceLT, Nat.reduceEqDiff, Nat.reduceBEq, Nat.reduceSub, reduceCtorEq, reduceIte, Int.reduceToNat, Int.reduceLE, Int.reduceEq, Int.reduceNe, Int.reduceBEq, Int.reduceBNe, Int.reduceLT, Int.reduceGT, Int.reduceGE, Int.reduceNeg, ty_2, ty_3, ty_4, ty_9, ty_22, ty_26, ty_27, ty_28, ty_30, ty_34, ty_37, ty_39, ty_78, strs_len, fim_len, gim_len, ints_len, d1, d2, d3, d4, d5]
      refine GOps.done (hK _ ?_); clear hK K
      refine End.keep [1, 3, 46, 47, 48] ?_
      simp only [pk0, Nat.reduceBEq, reduceIte]
      refine Run.block ?_
      refine Run.ghost (Ghost.form [(1, .ptr 0 0 0), (3, .ms 0 1 (n.inn.length + 0)), (46, .im (.sl (n.flops.map LFlop.im))), (47, .i n.flops.length), (48, .i (0 : Nat))] 2 ⟨rfl, rfl, rfl, rfl, rfl, trivial⟩ rfl rfl) ?_
      refine Run.loop (fun m st => ∃ (i : Nat), m = n.flops.length - i ∧ i ≤ n.flops.length ∧ st = ⟨[(1, .ptr 0 0 0), (3, .ms 0 1 (n.inn.length + i)), (46, .im (.sl (n.flops.map LFlop.im))), (47, .i n.flops.length), (48, .i (i : Nat))], [.box [.im (.sl (strs n.inn)), .im (.sl (strs n.out)), .im (.sl (n.flops.map LFlop.im)), .im (.sl (n.gates.map LGate.im)), .im (.sl (ints n.outs))], .row 9 1 (strs (nms n i)) 0], up⟩) n.flops.length ⟨0, rfl, by omega, by simp⟩ fun m st hI => ?_
      obtain ⟨i, rfl, hi, rfl⟩ := hI
      have hsl := nms_len n i hi
      have hap : (n.inn.length + i + 1) * 16 ≤ 140737488355328 := by omega
      refine Run.seq ?_
      refine Run.region rfl fun K hK => GOps.run ?_
      simp only [lookupV, updateV, slicePV, pe0, pe1, pe2, pe3, pe4, pe5, pe6, pe7, pr0, pr1, Nat.reduceAdd, Nat.reduceMul, Nat.reduceLeDiff, Nat.reduceLT, Nat.reduceEqDiff, Nat.reduceBEq, Nat.reduceSub, reduceCtorEq, reduceIte, Int.reduceToNat, Int.reduceLE, Int.reduceEq, Int.reduceNe, Int.reduceBEq, Int.reduceBNe, Int.reduceLT, Int.reduceGT, Int.reduceGE, Int.reduceNeg, ty_2, ty_3, ty_4, ty_9, ty_22, ty_26, ty_27, ty_28, ty_30, ty_34, ty_37, ty_39, ty_78, strs_len, fim_len, gim_len, ints_len, d1, d2, d3, d4, d5, hsl, hap]
      refine GOps.done (hK _ ?_); clear hK K
      refine End.keep [1, 3, 46, 47, 48, 49] ?_
      simp only [pk0, Nat.reduceBEq, reduceIte]
      refine Run.seq ?_
      refine Run.cond _ rfl (fun hb => ?_) (fun hb => ?_)
      · have hb := of_decide_eq_true hb
        have hin : i < n.flops.length := by omega
        have wi := wsucc hin (by omega)
        obtain ⟨f, hf, hfm, hg⟩ := flop_at n.flops i hin
        refine Run.skip ?_
        refine End.keep [1, 3, 46, 47, 48] ?_
        simp only [pk0, Nat.reduceBEq, reduceIte]
        refine Run.seq ?_
        refine Run.block ?_
        refine Run.seq ?_
        refine Run.region rfl fun K hK => GOps.run ?_
        simp only [lookupV, updateV, slicePV, pe0, pe1, pe2, pe3, pe4, pe5, pe6, pe7, pr0, pr1, Nat.reduceAdd, Nat.reduceMul, Nat.reduceLeDiff, Nat.reduceLT, Nat.reduceEqDiff, Nat.reduceBEq, Nat.reduceSub, reduceCtorEq, reduceIte, Int.reduceToNat, Int.reduceLE, Int.reduceEq, Int.reduceNe, Int.reduceBEq, Int.reduceBNe, Int.reduceLT, Int.reduceGT, Int.reduceGE, Int.reduceNeg, ty_2, ty_3, ty_4, ty_9, ty_22, ty_26, ty_27, ty_28, ty_30, ty_34, ty_37, ty_39, ty_78, strs_len, fim_len, gim_len, ints_len, d1, d2, d3, d4, d5, hsl, hap, wi, hg, Int.natCast_nonneg, Int.toNat_natCast]
        refine GOps.done (hK _ ?_); clear hK K
        refine End.keep [1, 3, 5, 46, 47, 48] ?_
        simp only [pk0, Nat.reduceBEq, reduceIte]
        refine Run.region rfl fun K hK => GOps.run ?_
        simp only [lookupV, updateV, slicePV, pe0, pe1, pe2, pe3, pe4, pe5, pe6, pe7, pr0, pr1, Nat.reduceAdd, Nat.reduceMul, Nat.reduceLeDiff, Nat.reduceLT, Nat.reduceEqDiff, Nat.reduceBEq, Nat.reduceSub, reduceCtorEq, reduceIte, Int.reduceToNat, Int.reduceLE, Int.reduceEq, Int.reduceNe, Int.reduceBEq, Int.reduceBNe, Int.reduceLT, Int.reduceGT, Int.reduceGE, Int.reduceNeg, ty_2, ty_3, ty_4, ty_9, ty_22, ty_26, ty_27, ty_28, ty_30, ty_34, ty_37, ty_39, ty_78, strs_len, fim_len, gim_len, ints_len, d1, d2, d3, d4, d5, hsl, hap, wi, hg, Int.natCast_nonneg, Int.toNat_natCast]
        refine GOps.done (hK _ ?_); clear hK K
        refine End.blk ?_
        refine End.keep [1, 3, 46, 47, 48] ?_
        simp only [pk0, Nat.reduceBEq, reduceIte]
        refine Run.region rfl fun K hK => GOps.run ?_
        simp only [lookupV, updateV, slicePV, pe0, pe1, pe2, pe3, pe4, pe5, pe6, pe7, pr0, pr1, Nat.reduceAdd, Nat.reduceMul, Nat.reduceLeDiff, Nat.reduceLT, Nat.reduceEqDiff, Nat.reduceBEq, Nat.reduceSub, reduceCtorEq, reduceIte, Int.reduceToNat, Int.reduceLE, Int.reduceEq, Int.reduceNe, Int.reduceBEq, Int.reduceBNe, Int.reduceLT, Int.reduceGT, Int.reduceGE, Int.reduceNeg, ty_2, ty_3, ty_4, ty_9, ty_22, ty_26, ty_27, ty_28, ty_30, ty_34, ty_37, ty_39, ty_78, strs_len, fim_len, gim_len, ints_len, d1, d2, d3, d4, d5, hsl, hap, wi, hg, Int.natCast_nonneg, Int.toNat_natCast]
        refine GOps.done (hK _ ?_); clear hK K
        refine End.lp ?_
        refine ⟨n.flops.length - (i + 1), _, by omega, Ghost.form [(1, .ptr 0 0 0), (3, .ms 0 1 (n.inn.length + (i + 1))), (46, .im (.sl (n.flops.map LFlop.im))), (47, .i n.flops.length), (48, .i (i + 1 : Nat))] 2 ⟨rfl, rfl, rfl, rfl, rfl, trivial⟩ rfl rfl, i + 1, rfl, by omega, ?_⟩
        rw [nms_next n i f hf]
        simp
      · have hb := of_decide_eq_false hb
        have hiN : i = n.flops.length := by omega
        subst hiN
        have hall : nms n n.flops.length = n.inn ++ n.flops.map LFlop.name := by simp [nms]
        refine Run.exit rfl ?_
        refine End.keep [1, 3] ?_
        simp only [pk0, Nat.reduceBEq, reduceIte]
        refine Run.seq ?_
        refine Run.seq ?_
        refine Run.region rfl fun K hK => GOps.run ?_
        simp only [lookupV, updateV, slicePV, pe0, pe1, pe2, pe3, pe4, pe5, pe6, pe7, pr0, pr1, Nat.reduceAdd, Nat.reduceMul, Nat.reduceLeDiff, Nat.reduceLT, Nat.reduceEqDiff, Nat.reduceBEq, Nat.reduceSub, reduceCtorEq, reduceIte, Int.reduceToNat, Int.reduceLE, Int.reduceEq, Int.reduceNe, Int.reduceBEq, Int.reduceBNe, Int.reduceLT, Int.reduceGT, Int.reduceGE, Int.reduceNeg, ty_2, ty_3, ty_4, ty_9, ty_22, ty_26, ty_27, ty_28, ty_30, ty_34, ty_37, ty_39, ty_78, strs_len, fim_len, gim_len, ints_len, d1, d2, d3, d4, d5, hsl, hap]
        refine GOps.call rfl rfl rfl rfl (by kernel_rfl) ?_  -- call F133(t58)  26
        simp only [lookupV, updateV, slicePV, pe0, pe1, pe2, pe3, pe4, pe5, pe6, pe7, pr0, pr1, Nat.reduceAdd, Nat.reduceMul, Nat.reduceLeDiff, Nat.reduceLT, Nat.reduceEqDiff, Nat.reduceBEq, Nat.reduceSub, reduceCtorEq, reduceIte, Int.reduceToNat, Int.reduceLE, Int.reduceEq, Int.reduceNe, Int.reduceBEq, Int.reduceBNe, Int.reduceLT, Int.reduceGT, Int.reduceGE, Int.reduceNeg, ty_2, ty_3, ty_4, ty_9, ty_22, ty_26, ty_27, ty_28, ty_30, ty_34, ty_37, ty_39, ty_78, strs_len, fim_len, gim_len, ints_len, d1, d2, d3, d4, d5, hsl, hap]
        refine (Names_ok (nms n n.flops.length) (by rw [hall]; simp; omega) (by rw [hall]; exact hn.names) (by rw [hall]; exact hn.nodup) _).mono fun v u hv => ?_
        obtain ⟨rfl, rfl⟩ := hv
        refine ⟨_, _, rfl, GOps.run ?_⟩
        simp only [lookupV, updateV, slicePV, pe0, pe1, pe2, pe3, pe4, pe5, pe6, pe7, pr0, pr1, Nat.reduceAdd, Nat.reduceMul, Nat.reduceLeDiff, Nat.reduceLT, Nat.reduceEqDiff, Nat.reduceBEq, Nat.reduceSub, reduceCtorEq, reduceIte, Int.reduceToNat, Int.reduceLE, Int.reduceEq, Int.reduceNe, Int.reduceBEq, Int.reduceBNe, Int.reduceLT, Int.reduceGT, Int.reduceGE, Int.reduceNeg, ty_2, ty_3, ty_4, ty_9, ty_22, ty_26, ty_27, ty_28, ty_30, ty_34, ty_37, ty_39, ty_78, strs_len, fim_len, gim_len, ints_len, d1, d2, d3, d4, d5, hsl, hap]
        refine GOps.done (hK _ ?_); clear hK K
        refine End.keep [1, 6] ?_
        simp only [pk0, Nat.reduceBEq, reduceIte]
        refine Run.seq ?_
        refine Run.region rfl fun K hK => GOps.run ?_
        simp only [lookupV, updateV, slicePV, pe0, pe1, pe2, pe3, pe4, pe5, pe6, pe7, pr0, pr1, Nat.reduceAdd, Nat.reduceMul, Nat.reduceLeDiff, Nat.reduceLT, Nat.reduceEqDiff, Nat.reduceBEq, Nat.reduceSub, reduceCtorEq, reduceIte, Int.reduceToNat, Int.reduceLE, Int.reduceEq, Int.reduceNe, Int.reduceBEq, Int.reduceBNe, Int.reduceLT, Int.reduceGT, Int.reduceGE, Int.reduceNeg, ty_2, ty_3, ty_4, ty_9, ty_22, ty_26, ty_27, ty_28, ty_30, ty_34, ty_37, ty_39, ty_78, strs_len, fim_len, gim_len, ints_len, d1, d2, d3, d4, d5, hsl, hap]
        refine GOps.done (hK _ ?_); clear hK K
        refine End.keep [1, 6, 61] ?_
        simp only [pk0, Nat.reduceBEq, reduceIte]
        refine Run.cond _ rfl (fun hb => ?_) (fun hb => ?_)
        · have hb := hb
          simp at hb
        · have hb := hb
          refine Run.skip ?_
          refine End.keep [1] ?_
          simp only [pk0, Nat.reduceBEq, reduceIte]
          refine Run.seq ?_
          refine Run.seq ?_
          refine Run.region rfl fun K hK => GOps.run ?_
          simp only [lookupV, updateV, slicePV, pe0, pe1, pe2, pe3, pe4, pe5, pe6, pe7, pr0, pr1, Nat.reduceAdd, Nat.reduceMul, Nat.reduceLeDiff, Nat.reduceLT, Nat.reduceEqDiff, Nat.reduceBEq, Nat.reduceSub, reduceCtorEq, reduceIte, Int.reduceToNat, Int.reduceLE, Int.reduceEq, Int.reduceNe, Int.reduceBEq, Int.reduceBNe, Int.reduceLT, Int.reduceGT, Int.reduceGE, Int.reduceNeg, ty_2, ty_3, ty_4, ty_9, ty_22, ty_26, ty_27, ty_28, ty_30, ty_34, ty_37, ty_39, ty_78, strs_len, fim_len, gim_len, ints_len, d1, d2, d3, d4, d5, hsl, hap]
          refine GOps.call rfl rfl rfl rfl (by kernel_rfl) ?_  -- call F133(t64)  26
          simp only [lookupV, updateV, slicePV, pe0, pe1, pe2, pe3, pe4, pe5, pe6, pe7, pr0, pr1, Nat.reduceAdd, Nat.reduceMul, Nat.reduceLeDiff, Nat.reduceLT, Nat.reduceEqDiff, Nat.reduceBEq, Nat.reduceSub, reduceCtorEq, reduceIte, Int.reduceToNat, Int.reduceLE, Int.reduceEq, Int.reduceNe, Int.reduceBEq, Int.reduceBNe, Int.reduceLT, Int.reduceGT, Int.reduceGE, Int.reduceNeg, ty_2, ty_3, ty_4, ty_9, ty_22, ty_26, ty_27, ty_28, ty_30, ty_34, ty_37, ty_39, ty_78, strs_len, fim_len, gim_len, ints_len, d1, d2, d3, d4, d5, hsl, hap]
          refine (Names_ok n.out (by omega) hn.onames hn.onodup _).mono fun v u hv => ?_
          obtain ⟨rfl, rfl⟩ := hv
          refine ⟨_, _, rfl, GOps.run ?_⟩
          simp only [lookupV, updateV, slicePV, pe0, pe1, pe2, pe3, pe4, pe5, pe6, pe7, pr0, pr1, Nat.reduceAdd, Nat.reduceMul, Nat.reduceLeDiff, Nat.reduceLT, Nat.reduceEqDiff, Nat.reduceBEq, Nat.reduceSub, reduceCtorEq, reduceIte, Int.reduceToNat, Int.reduceLE, Int.reduceEq, Int.reduceNe, Int.reduceBEq, Int.reduceBNe, Int.reduceLT, Int.reduceGT, Int.reduceGE, Int.reduceNeg, ty_2, ty_3, ty_4, ty_9, ty_22, ty_26, ty_27, ty_28, ty_30, ty_34, ty_37, ty_39, ty_78, strs_len, fim_len, gim_len, ints_len, d1, d2, d3, d4, d5, hsl, hap]
          refine GOps.done (hK _ ?_); clear hK K
          refine End.keep [1, 7] ?_
          simp only [pk0, Nat.reduceBEq, reduceIte]
          refine Run.seq ?_
          refine Run.region rfl fun K hK => GOps.run ?_
          simp only [lookupV, updateV, slicePV, pe0, pe1, pe2, pe3, pe4, pe5, pe6, pe7, pr0, pr1, Nat.reduceAdd, Nat.reduceMul, Nat.reduceLeDiff, Nat.reduceLT, Nat.reduceEqDiff, Nat.reduceBEq, Nat.reduceSub, reduceCtorEq, reduceIte, Int.reduceToNat, Int.reduceLE, Int.reduceEq, Int.reduceNe, Int.reduceBEq, Int.reduceBNe, Int.reduceLT, Int.reduceGT, Int.reduceGE, Int.reduceNeg, ty_2, ty_3, ty_4, ty_9, ty_22, ty_26, ty_27, ty_28, ty_30, ty_34, ty_37, ty_39, ty_78, strs_len, fim_len, gim_len, ints_len, d1, d2, d3, d4, d5, hsl, hap]
          refine GOps.done (hK _ ?_); clear hK K
          refine End.keep [1, 7, 67] ?_
          simp only [pk0, Nat.reduceBEq, reduceIte]
          refine Run.cond _ rfl (fun hb => ?_) (fun hb => ?_)
          · have hb := hb
            simp at hb
          · have hb := hb
            refine Run.skip ?_
            refine End.keep [1] ?_
            simp only [pk0, Nat.reduceBEq, reduceIte]
            refine Run.seq ?_
            refine Run.region rfl fun K hK => GOps.run ?_
            simp only [lookupV, updateV, slicePV, pe0, pe1, pe2, pe3, pe4, pe5, pe6, pe7, pr0, pr1, Nat.reduceAdd, Nat.reduceMul, Nat.reduceLeDiff, Nat.reduceLT, Nat.reduceEqDiff, Nat.reduceBEq, Nat.reduceSub, reduceCtorEq, reduceIte, Int.reduceToNat, Int.reduceLE, Int.reduceEq, Int.reduceNe, Int.reduceBEq, Int.reduceBNe, Int.reduceLT, Int.reduceGT, Int.reduceGE, Int.reduceNeg, ty_2, ty_3, ty_4, ty_9, ty_22, ty_26, ty_27, ty_28, ty_30, ty_34, ty_37, ty_39, ty_78, strs_len, fim_len, gim_len, ints_len, d1, d2, d3, d4, d5, hsl, hap]
            refine GOps.call rfl rfl rfl rfl (by kernel_rfl) ?_  -- call F82(t69)  30
            simp only [lookupV, updateV, slicePV, pe0, pe1, pe2, pe3, pe4, pe5, pe6, pe7, pr0, pr1, Nat.reduceAdd, Nat.reduceMul, Nat.reduceLeDiff, Nat.reduceLT, Nat.reduceEqDiff, Nat.reduceBEq, Nat.reduceSub, reduceCtorEq, reduceIte, Int.reduceToNat, Int.reduceLE, Int.reduceEq, Int.reduceNe, Int.reduceBEq, Int.reduceBNe, Int.reduceLT, Int.reduceGT, Int.reduceGE, Int.reduceNeg, ty_2, ty_3, ty_4, ty_9, ty_22, ty_26, ty_27, ty_28, ty_30, ty_34, ty_37, ty_39, ty_78, strs_len, fim_len, gim_len, ints_len, d1, d2, d3, d4, d5, hsl, hap]
            refine (First_ok n hsm _).mono fun v u hv => ?_
            obtain ⟨rfl, rfl⟩ := hv
            refine ⟨_, _, rfl, GOps.run ?_⟩
            simp only [lookupV, updateV, slicePV, pe0, pe1, pe2, pe3, pe4, pe5, pe6, pe7, pr0, pr1, Nat.reduceAdd, Nat.reduceMul, Nat.reduceLeDiff, Nat.reduceLT, Nat.reduceEqDiff, Nat.reduceBEq, Nat.reduceSub, reduceCtorEq, reduceIte, Int.reduceToNat, Int.reduceLE, Int.reduceEq, Int.reduceNe, Int.reduceBEq, Int.reduceBNe, Int.reduceLT, Int.reduceGT, Int.reduceGE, Int.reduceNeg, ty_2, ty_3, ty_4, ty_9, ty_22, ty_26, ty_27, ty_28, ty_30, ty_34, ty_37, ty_39, ty_78, strs_len, fim_len, gim_len, ints_len, d1, d2, d3, d4, d5, hsl, hap]
            refine GOps.done (hK _ ?_); clear hK K
            refine End.keep [1, 8] ?_
            simp only [pk0, Nat.reduceBEq, reduceIte]
            refine Run.seq ?_
            refine Run.seq ?_
            refine Run.region rfl fun K hK => GOps.run ?_
            simp only [lookupV, updateV, slicePV, pe0, pe1, pe2, pe3, pe4, pe5, pe6, pe7, pr0, pr1, Nat.reduceAdd, Nat.reduceMul, Nat.reduceLeDiff, Nat.reduceLT, Nat.reduceEqDiff, Nat.reduceBEq, Nat.reduceSub, reduceCtorEq, reduceIte, Int.reduceToNat, Int.reduceLE, Int.reduceEq, Int.reduceNe, Int.reduceBEq, Int.reduceBNe, Int.reduceLT, Int.reduceGT, Int.reduceGE, Int.reduceNeg, ty_2, ty_3, ty_4, ty_9, ty_22, ty_26, ty_27, ty_28, ty_30, ty_34, ty_37, ty_39, ty_78, strs_len, fim_len, gim_len, ints_len, d1, d2, d3, d4, d5, hsl, hap]
            refine GOps.done (hK _ ?_); clear hK K
            refine End.keep [1, 8, 72, 73, 74] ?_
            simp only [pk0, Nat.reduceBEq, reduceIte]
            refine Run.block ?_
            refine Run.ghost (Ghost.form [(1, .ptr 0 0 0), (8, .i (2 + n.inn.length + n.flops.length)), (72, .im (.sl (n.gates.map LGate.im))), (73, .i n.gates.length), (74, .i (0 : Nat))] 1 ⟨rfl, rfl, rfl, rfl, rfl, trivial⟩ rfl rfl) ?_
            refine Run.loop (fun m st => ∃ (i : Nat), m = n.gates.length - i ∧ i ≤ n.gates.length ∧ st = ⟨[(1, .ptr 0 0 0), (8, .i (2 + n.inn.length + n.flops.length)), (72, .im (.sl (n.gates.map LGate.im))), (73, .i n.gates.length), (74, .i (i : Nat))], [.box [.im (.sl (strs n.inn)), .im (.sl (strs n.out)), .im (.sl (n.flops.map LFlop.im)), .im (.sl (n.gates.map LGate.im)), .im (.sl (ints n.outs))]], up⟩) n.gates.length ⟨0, rfl, by omega, rfl⟩ fun m st hI => ?_
            obtain ⟨i, rfl, hi, rfl⟩ := hI
            refine Run.seq ?_
            refine Run.region rfl fun K hK => GOps.run ?_
            simp only [lookupV, updateV, slicePV, pe0, pe1, pe2, pe3, pe4, pe5, pe6, pe7, pr0, pr1, Nat.reduceAdd, Nat.reduceMul, Nat.reduceLeDiff, Nat.reduceLT, Nat.reduceEqDiff, Nat.reduceBEq, Nat.reduceSub, reduceCtorEq, reduceIte, Int.reduceToNat, Int.reduceLE, Int.reduceEq, Int.reduceNe, Int.reduceBEq, Int.reduceBNe, Int.reduceLT, Int.reduceGT, Int.reduceGE, Int.reduceNeg, ty_2, ty_3, ty_4, ty_9, ty_22, ty_26, ty_27, ty_28, ty_30, ty_34, ty_37, ty_39, ty_78, strs_len, fim_len, gim_len, ints_len, d1, d2, d3, d4, d5, hsl, hap]
            refine GOps.done (hK _ ?_); clear hK K
            refine End.keep [1, 8, 72, 73, 74, 75] ?_
            simp only [pk0, Nat.reduceBEq, reduceIte]
            refine Run.seq ?_
            refine Run.cond _ rfl (fun hb => ?_) (fun hb => ?_)
            · have hb := of_decide_eq_true hb
              have hin : i < n.gates.length := by omega
              have wi := wsucc hin (by omega)
              obtain ⟨g, hgi, hgm, hg⟩ := gate_at n.gates i hin
              obtain ⟨e1, e2, e3⟩ := hn.gates i g hgi
              have d6 : decide ((g.ins.length : Int) > 6) = false := decide_eq_false (by omega)
              have wfi : IntKind.i64.wrap (2 + (n.inn.length : Int) + n.flops.length + i) = 2 + (n.inn.length : Int) + n.flops.length + i := wrap64 (by omega)
              refine Run.skip ?_
              refine End.keep [1, 8, 72, 73, 74] ?_
              simp only [pk0, Nat.reduceBEq, reduceIte]
              refine Run.seq ?_
              refine Run.block ?_
              refine Run.seq ?_
              refine Run.region rfl fun K hK => GOps.run ?_
              simp only [lookupV, updateV, slicePV, pe0, pe1, pe2, pe3, pe4, pe5, pe6, pe7, pr0, pr1, Nat.reduceAdd, Nat.reduceMul, Nat.reduceLeDiff, Nat.reduceLT, Nat.reduceEqDiff, Nat.reduceBEq, Nat.reduceSub, reduceCtorEq, reduceIte, Int.reduceToNat, Int.reduceLE, Int.reduceEq, Int.reduceNe, Int.reduceBEq, Int.reduceBNe, Int.reduceLT, Int.reduceGT, Int.reduceGE, Int.reduceNeg, ty_2, ty_3, ty_4, ty_9, ty_22, ty_26, ty_27, ty_28, ty_30, ty_34, ty_37, ty_39, ty_78, strs_len, fim_len, gim_len, ints_len, d1, d2, d3, d4, d5, hsl, hap, wi, hg, d6, wfi, Int.natCast_nonneg, Int.toNat_natCast]
              refine GOps.done (hK _ ?_); clear hK K
              refine End.keep [1, 8, 9, 10, 72, 73, 74] ?_
              simp only [pk0, Nat.reduceBEq, reduceIte]
              refine Run.seq ?_
              refine Run.seq ?_
              refine Run.region rfl fun K hK => GOps.run ?_
              simp only [lookupV, updateV, slicePV, pe0, pe1, pe2, pe3, pe4, pe5, pe6, pe7, pr0, pr1, Nat.reduceAdd, Nat.reduceMul, Nat.reduceLeDiff, Nat.reduceLT, Nat.reduceEqDiff, Nat.reduceBEq, Nat.reduceSub, reduceCtorEq, reduceIte, Int.reduceToNat, Int.reduceLE, Int.reduceEq, Int.reduceNe, Int.reduceBEq, Int.reduceBNe, Int.reduceLT, Int.reduceGT, Int.reduceGE, Int.reduceNeg, ty_2, ty_3, ty_4, ty_9, ty_22, ty_26, ty_27, ty_28, ty_30, ty_34, ty_37, ty_39, ty_78, strs_len, fim_len, gim_len, ints_len, d1, d2, d3, d4, d5, hsl, hap, wi, hg, d6, wfi, Int.natCast_nonneg, Int.toNat_natCast]
              refine GOps.done (hK _ ?_); clear hK K
              refine End.keep [1, 8, 9, 10, 72, 73, 74, 82] ?_
              simp only [pk0, Nat.reduceBEq, reduceIte]
              refine Run.cond _ rfl (fun hb => ?_) (fun hb => ?_)
              · have hb := hb
                simp at hb
              · have hb := hb
                refine Run.skip ?_
                refine End.keep [1, 8, 9, 10, 72, 73, 74] ?_
                simp only [pk0, Nat.reduceBEq, reduceIte]
                refine Run.seq ?_
                refine Run.seq ?_
                refine Run.draw [[], [0], [], [2], [2, 3], [2, 3, 4], [0, 1, 2, 3, 4, 5], [0, 1, 2, 3, 4, 5, 6]] (by kernel_rfl) rfl (by kernel_rfl) (by kernel_rfl) fun K hK => DOps.run ?_
                simp only [lookupV, updateV, slicePV, pe0, pe1, pe2, pe3, pe4, pe5, pe6, pe7, pr0, pr1, Nat.reduceAdd, Nat.reduceMul, Nat.reduceLeDiff, Nat.reduceLT, Nat.reduceEqDiff, Nat.reduceBEq, Nat.reduceSub, reduceCtorEq, reduceIte, Int.reduceToNat, Int.reduceLE, Int.reduceEq, Int.reduceNe, Int.reduceBEq, Int.reduceBNe, Int.reduceLT, Int.reduceGT, Int.reduceGE, Int.reduceNeg, ty_2, ty_3, ty_4, ty_9, ty_22, ty_26, ty_27, ty_28, ty_30, ty_34, ty_37, ty_39, ty_78, strs_len, fim_len, gim_len, ints_len, d1, d2, d3, d4, d5, hsl, hap, wi, hg, d6, wfi, Int.natCast_nonneg, Int.toNat_natCast]
                refine DOps.call (.u (2 ^ ((2 : Int) ^ g.ins.length).toNat - 1)) [] [] rfl rfl rfl rfl rfl (by kernel_rfl) (by simp [Agree]) (fun u hu => Mask_ok g.ins.length e1 u) ?_  -- call F80(t87)  3
                refine DOps.run ?_
                simp only [lookupV, updateV, slicePV, pe0, pe1, pe2, pe3, pe4, pe5, pe6, pe7, pr0, pr1, Nat.reduceAdd, Nat.reduceMul, Nat.reduceLeDiff, Nat.reduceLT, Nat.reduceEqDiff, Nat.reduceBEq, Nat.reduceSub, reduceCtorEq, reduceIte, Int.reduceToNat, Int.reduceLE, Int.reduceEq, Int.reduceNe, Int.reduceBEq, Int.reduceBNe, Int.reduceLT, Int.reduceGT, Int.reduceGE, Int.reduceNeg, ty_2, ty_3, ty_4, ty_9, ty_22, ty_26, ty_27, ty_28, ty_30, ty_34, ty_37, ty_39, ty_78, strs_len, fim_len, gim_len, ints_len, d1, d2, d3, d4, d5, hsl, hap, wi, hg, d6, wfi, Int.natCast_nonneg, Int.toNat_natCast, e2]
                refine DOps.nil (metAll_quiet rfl) (hK _ ?_); clear hK K
                refine End.keep [1, 8, 9, 10, 72, 73, 74, 90] ?_
                simp only [pk0, Nat.reduceBEq, reduceIte]
                refine Run.cond _ rfl (fun hb => ?_) (fun hb => ?_)
                · have hb := hb
                  simp at hb
                · have hb := hb
                  refine Run.skip ?_
                  refine End.keep [1, 8, 9, 10, 72, 73, 74] ?_
                  simp only [pk0, Nat.reduceBEq, reduceIte]
                  refine Run.seq ?_
                  refine Run.region rfl fun K hK => GOps.run ?_
                  simp only [lookupV, updateV, slicePV, pe0, pe1, pe2, pe3, pe4, pe5, pe6, pe7, pr0, pr1, Nat.reduceAdd, Nat.reduceMul, Nat.reduceLeDiff, Nat.reduceLT, Nat.reduceEqDiff, Nat.reduceBEq, Nat.reduceSub, reduceCtorEq, reduceIte, Int.reduceToNat, Int.reduceLE, Int.reduceEq, Int.reduceNe, Int.reduceBEq, Int.reduceBNe, Int.reduceLT, Int.reduceGT, Int.reduceGE, Int.reduceNeg, ty_2, ty_3, ty_4, ty_9, ty_22, ty_26, ty_27, ty_28, ty_30, ty_34, ty_37, ty_39, ty_78, strs_len, fim_len, gim_len, ints_len, d1, d2, d3, d4, d5, hsl, hap, wi, hg, d6, wfi, Int.natCast_nonneg, Int.toNat_natCast, e2]
                  refine GOps.done (hK _ ?_); clear hK K
                  refine End.keep [1, 8, 9, 72, 73, 74, 92, 93, 94] ?_
                  simp only [pk0, Nat.reduceBEq, reduceIte]
                  refine Run.block ?_
                  refine Run.ghost (Ghost.form [(1, .ptr 0 0 0), (8, .i (2 + n.inn.length + n.flops.length)), (9, .i (i : Nat)), (72, .im (.sl (n.gates.map LGate.im))), (73, .i n.gates.length), (74, .i (i : Nat)), (92, .im (.sl (ints g.ins))), (93, .i g.ins.length), (94, .i (0 : Nat))] 1 ⟨rfl, rfl, rfl, rfl, rfl, rfl, rfl, rfl, rfl, trivial⟩ rfl rfl) ?_
                  refine Run.loop (fun m st => ∃ (k : Nat), m = g.ins.length - k ∧ k ≤ g.ins.length ∧ st = ⟨[(1, .ptr 0 0 0), (8, .i (2 + n.inn.length + n.flops.length)), (9, .i (i : Nat)), (72, .im (.sl (n.gates.map LGate.im))), (73, .i n.gates.length), (74, .i (i : Nat)), (92, .im (.sl (ints g.ins))), (93, .i g.ins.length), (94, .i (k : Nat))], [.box [.im (.sl (strs n.inn)), .im (.sl (strs n.out)), .im (.sl (n.flops.map LFlop.im)), .im (.sl (n.gates.map LGate.im)), .im (.sl (ints n.outs))]], up⟩) g.ins.length ⟨0, rfl, by omega, rfl⟩ fun m st hI => ?_
                  obtain ⟨k, rfl, hk, rfl⟩ := hI
                  refine Run.seq ?_
                  refine Run.region rfl fun K hK => GOps.run ?_
                  simp only [lookupV, updateV, slicePV, pe0, pe1, pe2, pe3, pe4, pe5, pe6, pe7, pr0, pr1, Nat.reduceAdd, Nat.reduceMul, Nat.reduceLeDiff, Nat.reduceLT, Nat.reduceEqDiff, Nat.reduceBEq, Nat.reduceSub, reduceCtorEq, reduceIte, Int.reduceToNat, Int.reduceLE, Int.reduceEq, Int.reduceNe, Int.reduceBEq, Int.reduceBNe, Int.reduceLT, Int.reduceGT, Int.reduceGE, Int.reduceNeg, ty_2, ty_3, ty_4, ty_9, ty_22, ty_26, ty_27, ty_28, ty_30, ty_34, ty_37, ty_39, ty_78, strs_len, fim_len, gim_len, ints_len, d1, d2, d3, d4, d5, hsl, hap, wi, hg, d6, wfi, Int.natCast_nonneg, Int.toNat_natCast, e2]
                  refine GOps.done (hK _ ?_); clear hK K
                  refine End.keep [1, 8, 9, 72, 73, 74, 92, 93, 94, 95] ?_
                  simp only [pk0, Nat.reduceBEq, reduceIte]
                  refine Run.seq ?_
                  refine Run.cond _ rfl (fun hb => ?_) (fun hb => ?_)
                  · have hb := of_decide_eq_true hb
                    have hkn : k < g.ins.length := by omega
                    have wk := wsucc hkn (by omega)
                    obtain ⟨x, _, hxm, hx⟩ := int_at g.ins k hkn
                    obtain ⟨x1, x2⟩ := e3 x hxm
                    have d7 : decide (x < 0) = false := decide_eq_false (by omega)
                    have d8 : decide (x ≥ 2 + (n.inn.length : Int) + n.flops.length + i) = false := decide_eq_false (by omega)
                    refine Run.skip ?_
                    refine End.keep [1, 8, 9, 72, 73, 74, 92, 93, 94] ?_
                    simp only [pk0, Nat.reduceBEq, reduceIte]
                    refine Run.seq ?_
                    refine Run.block ?_
                    refine Run.seq ?_
                    refine Run.region rfl fun K hK => GOps.run ?_
                    simp only [lookupV, updateV, slicePV, pe0, pe1, pe2, pe3, pe4, pe5, pe6, pe7, pr0, pr1, Nat.reduceAdd, Nat.reduceMul, Nat.reduceLeDiff, Nat.reduceLT, Nat.reduceEqDiff, Nat.reduceBEq, Nat.reduceSub, reduceCtorEq, reduceIte, Int.reduceToNat, Int.reduceLE, Int.reduceEq, Int.reduceNe, Int.reduceBEq, Int.reduceBNe, Int.reduceLT, Int.reduceGT, Int.reduceGE, Int.reduceNeg, ty_2, ty_3, ty_4, ty_9, ty_22, ty_26, ty_27, ty_28, ty_30, ty_34, ty_37, ty_39, ty_78, strs_len, fim_len, gim_len, ints_len, d1, d2, d3, d4, d5, hsl, hap, wi, hg, d6, wfi, Int.natCast_nonneg, Int.toNat_natCast, e2, wk, hx, d7, d8]
                    refine GOps.done (hK _ ?_); clear hK K
                    refine End.keep [1, 8, 9, 12, 72, 73, 74, 92, 93, 94] ?_
                    simp only [pk0, Nat.reduceBEq, reduceIte]
                    refine Run.seq ?_
                    refine Run.region rfl fun K hK => GOps.run ?_
                    simp only [lookupV, updateV, slicePV, pe0, pe1, pe2, pe3, pe4, pe5, pe6, pe7, pr0, pr1, Nat.reduceAdd, Nat.reduceMul, Nat.reduceLeDiff, Nat.reduceLT, Nat.reduceEqDiff, Nat.reduceBEq, Nat.reduceSub, reduceCtorEq, reduceIte, Int.reduceToNat, Int.reduceLE, Int.reduceEq, Int.reduceNe, Int.reduceBEq, Int.reduceBNe, Int.reduceLT, Int.reduceGT, Int.reduceGE, Int.reduceNeg, ty_2, ty_3, ty_4, ty_9, ty_22, ty_26, ty_27, ty_28, ty_30, ty_34, ty_37, ty_39, ty_78, strs_len, fim_len, gim_len, ints_len, d1, d2, d3, d4, d5, hsl, hap, wi, hg, d6, wfi, Int.natCast_nonneg, Int.toNat_natCast, e2, wk, hx, d7, d8]
                    refine GOps.done (hK _ ?_); clear hK K
                    refine End.keep [1, 8, 9, 72, 73, 74, 92, 93, 94, 106] ?_
                    simp only [pk0, Nat.reduceBEq, reduceIte]
                    refine Run.cond _ rfl (fun hb => ?_) (fun hb => ?_)
                    · have hb := hb
                      simp at hb
                    · have hb := hb
                      refine Run.skip ?_
                      refine End.blk ?_
                      refine End.keep [1, 8, 9, 72, 73, 74, 92, 93, 94] ?_
                      simp only [pk0, Nat.reduceBEq, reduceIte]
                      refine Run.region rfl fun K hK => GOps.run ?_
                      simp only [lookupV, updateV, slicePV, pe0, pe1, pe2, pe3, pe4, pe5, pe6, pe7, pr0, pr1, Nat.reduceAdd, Nat.reduceMul, Nat.reduceLeDiff, Nat.reduceLT, Nat.reduceEqDiff, Nat.reduceBEq, Nat.reduceSub, reduceCtorEq, reduceIte, Int.reduceToNat, Int.reduceLE, Int.reduceEq, Int.reduceNe, Int.reduceBEq, Int.reduceBNe, Int.reduceLT, Int.reduceGT, Int.reduceGE, Int.reduceNeg, ty_2, ty_3, ty_4, ty_9, ty_22, ty_26, ty_27, ty_28, ty_30, ty_34, ty_37, ty_39, ty_78, strs_len, fim_len, gim_len, ints_len, d1, d2, d3, d4, d5, hsl, hap, wi, hg, d6, wfi, Int.natCast_nonneg, Int.toNat_natCast, e2, wk, hx, d7, d8]
                      refine GOps.done (hK _ ?_); clear hK K
                      refine End.lp ?_
                      refine ⟨g.ins.length - (k + 1), _, by omega, Ghost.form [(1, .ptr 0 0 0), (8, .i (2 + n.inn.length + n.flops.length)), (9, .i (i : Nat)), (72, .im (.sl (n.gates.map LGate.im))), (73, .i n.gates.length), (74, .i (i : Nat)), (92, .im (.sl (ints g.ins))), (93, .i g.ins.length), (94, .i (k + 1 : Nat))] 1 ⟨rfl, rfl, rfl, rfl, rfl, rfl, rfl, rfl, rfl, trivial⟩ rfl rfl, k + 1, rfl, by omega, rfl⟩
                  · have hb := of_decide_eq_false hb
                    refine Run.exit rfl ?_
                    refine End.blk ?_
                    refine End.keep [1, 8, 72, 73, 74] ?_
                    simp only [pk0, Nat.reduceBEq, reduceIte]
                    refine Run.region rfl fun K hK => GOps.run ?_
                    simp only [lookupV, updateV, slicePV, pe0, pe1, pe2, pe3, pe4, pe5, pe6, pe7, pr0, pr1, Nat.reduceAdd, Nat.reduceMul, Nat.reduceLeDiff, Nat.reduceLT, Nat.reduceEqDiff, Nat.reduceBEq, Nat.reduceSub, reduceCtorEq, reduceIte, Int.reduceToNat, Int.reduceLE, Int.reduceEq, Int.reduceNe, Int.reduceBEq, Int.reduceBNe, Int.reduceLT, Int.reduceGT, Int.reduceGE, Int.reduceNeg, ty_2, ty_3, ty_4, ty_9, ty_22, ty_26, ty_27, ty_28, ty_30, ty_34, ty_37, ty_39, ty_78, strs_len, fim_len, gim_len, ints_len, d1, d2, d3, d4, d5, hsl, hap, wi, hg, d6, wfi, Int.natCast_nonneg, Int.toNat_natCast, e2]
                    refine GOps.done (hK _ ?_); clear hK K
                    refine End.lp ?_
                    refine ⟨n.gates.length - (i + 1), _, by omega, Ghost.form [(1, .ptr 0 0 0), (8, .i (2 + n.inn.length + n.flops.length)), (72, .im (.sl (n.gates.map LGate.im))), (73, .i n.gates.length), (74, .i (i + 1 : Nat))] 1 ⟨rfl, rfl, rfl, rfl, rfl, trivial⟩ rfl rfl, i + 1, rfl, by omega, rfl⟩
            · have hb := of_decide_eq_false hb
              refine Run.exit rfl ?_
              refine End.keep [1] ?_
              simp only [pk0, Nat.reduceBEq, reduceIte]
              refine Run.seq ?_
              refine Run.region rfl fun K hK => GOps.run ?_
              simp only [lookupV, updateV, slicePV, pe0, pe1, pe2, pe3, pe4, pe5, pe6, pe7, pr0, pr1, Nat.reduceAdd, Nat.reduceMul, Nat.reduceLeDiff, Nat.reduceLT, Nat.reduceEqDiff, Nat.reduceBEq, Nat.reduceSub, reduceCtorEq, reduceIte, Int.reduceToNat, Int.reduceLE, Int.reduceEq, Int.reduceNe, Int.reduceBEq, Int.reduceBNe, Int.reduceLT, Int.reduceGT, Int.reduceGE, Int.reduceNeg, ty_2, ty_3, ty_4, ty_9, ty_22, ty_26, ty_27, ty_28, ty_30, ty_34, ty_37, ty_39, ty_78, strs_len, fim_len, gim_len, ints_len, d1, d2, d3, d4, d5, hsl, hap]
              refine GOps.call rfl rfl rfl rfl (by kernel_rfl) ?_  -- call F134(t109)  30
              simp only [lookupV, updateV, slicePV, pe0, pe1, pe2, pe3, pe4, pe5, pe6, pe7, pr0, pr1, Nat.reduceAdd, Nat.reduceMul, Nat.reduceLeDiff, Nat.reduceLT, Nat.reduceEqDiff, Nat.reduceBEq, Nat.reduceSub, reduceCtorEq, reduceIte, Int.reduceToNat, Int.reduceLE, Int.reduceEq, Int.reduceNe, Int.reduceBEq, Int.reduceBNe, Int.reduceLT, Int.reduceGT, Int.reduceGE, Int.reduceNeg, ty_2, ty_3, ty_4, ty_9, ty_22, ty_26, ty_27, ty_28, ty_30, ty_34, ty_37, ty_39, ty_78, strs_len, fim_len, gim_len, ints_len, d1, d2, d3, d4, d5, hsl, hap]
              refine (ends_ok n hsm hn.ends _).mono fun v u hv => ?_
              obtain ⟨rfl, rfl⟩ := hv
              refine ⟨_, _, rfl, GOps.run ?_⟩
              simp only [lookupV, updateV, slicePV, pe0, pe1, pe2, pe3, pe4, pe5, pe6, pe7, pr0, pr1, Nat.reduceAdd, Nat.reduceMul, Nat.reduceLeDiff, Nat.reduceLT, Nat.reduceEqDiff, Nat.reduceBEq, Nat.reduceSub, reduceCtorEq, reduceIte, Int.reduceToNat, Int.reduceLE, Int.reduceEq, Int.reduceNe, Int.reduceBEq, Int.reduceBNe, Int.reduceLT, Int.reduceGT, Int.reduceGE, Int.reduceNeg, ty_2, ty_3, ty_4, ty_9, ty_22, ty_26, ty_27, ty_28, ty_30, ty_34, ty_37, ty_39, ty_78, strs_len, fim_len, gim_len, ints_len, d1, d2, d3, d4, d5, hsl, hap]
              refine GOps.done (hK _ ?_); clear hK K
              refine End.keep [2] ?_
              simp only [pk0, Nat.reduceBEq, reduceIte]
              refine Run.ret (hQ _ _ ⟨.inr rfl, _, rfl, _, rfl, ?_⟩)
              exact ⟨rfl, rfl⟩
end Go.Proofs.YtkmnmokjlpenhaaPi
