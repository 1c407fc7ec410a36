/- The walks of results, Words and Eval. -/
import Derived.Test.YtkmnmokjlpenhaaWJ
set_option linter.unusedVariables false
set_option linter.unusedSimpArgs false
set_option maxRecDepth 100000
namespace Go.Proofs.YtkmnmokjlpenhaaPi

abbrev lanes0 (l : List Bool) : List Int := l.map fun b => if b = true then 1 else 0
def outV (n : LNet) (v : List Int) : List Int := n.outs.map fun k => v.getD k.toNat 0
def nextF (n : LNet) (v : List Int) (i : Nat) (f : LFlop) : Int :=
  bits .or .u64 (bits .and .u64 (v.getD f.en.toNat 0) (v.getD f.d.toNat 0)) (bits .and .u64 (bits .xor .u64 (if IntKind.u64.signed = true then -1 else IntKind.u64.max) (v.getD f.en.toNat 0)) (v.getD (2 + (n.inn.length : Int) + i).toNat 0))
def nextsF (n : LNet) (v : List Int) : Nat → List LFlop → List Int
  | _, [] => []
  | i, f :: fs => nextF n v i f :: nextsF n v (i + 1) fs
theorem nextsF_len (n : LNet) (v : List Int) : ∀ (fs : List LFlop) (i : Nat), (nextsF n v i fs).length = fs.length
  | [], i => rfl
  | f :: fs, i => by simp [nextsF, nextsF_len n v fs]
theorem flop_drop (l : List LFlop) (i : Nat) (g : LFlop) (h : l[i]? = some g) : l.drop i = g :: l.drop (i + 1) := by
  obtain ⟨hi, rfl⟩ := List.getElem?_eq_some_iff.1 h
  exact List.drop_eq_getElem_cons hi
theorem nresults_ok (n : LNet) (hn : NetOk n) (v : List Int) (hv : v.length = 2 + n.inn.length + n.flops.length + n.gates.length) (up : Frs) : ACalls Try.prog 105 [n.pv, .im (.sl (us v))] up fun r u => r = .tup [.im (.sl (us (outV n v))), .im (.sl (us (nextsF n v 0 n.flops)))] ∧ u = up := by
  obtain ⟨z1, z2, z3, z4, z5⟩ := hn.small
  refine ACalls.code Try.func105 rfl 69 rfl (by simp) [.tmp 4, .tmp 5] rfl fun Q hQ => ?_
  simp only [ups, PV.up, argEnv]
  refine Run.seq ?_
  refine Run.region rfl fun K hK => GOps.run ?_
  simp only [lookupV, updateV, slicePV, pe0, pe1, pe2, pe3, pe4, pe5, pe6, pe7, pr0, pr1, Nat.reduceAdd, Nat.reduceMul, Nat.reduceLeDiff, Nat.reduceLT, Nat.reduceEqDiff, Nat.reduceBEq, Nat.reduceSub, reduceCtorEq, reduceIte, Int.reduceToNat, Int.reduceLE, Int.reduceEq, Int.reduceNe, Int.reduceBEq, Int.reduceBNe, Int.reduceLT, Int.reduceGT, Int.reduceGE, Int.reduceNeg, ty_2, ty_3, ty_4, ty_9, ty_22, ty_26, ty_27, ty_30, ty_37, ty_56, ty_78, us_len, fim_len, ints_len, strs_len]
  refine GOps.done (hK _ ?_); clear hK K
  refine End.keep [1, 2, 4, 5] ?_
  simp only [pk0, Nat.reduceBEq, reduceIte]
  refine Run.seq ?_
  refine Run.seq ?_
  refine Run.region rfl fun K hK => GOps.run ?_
  simp only [lookupV, updateV, slicePV, pe0, pe1, pe2, pe3, pe4, pe5, pe6, pe7, pr0, pr1, Nat.reduceAdd, Nat.reduceMul, Nat.reduceLeDiff, Nat.reduceLT, Nat.reduceEqDiff, Nat.reduceBEq, Nat.reduceSub, reduceCtorEq, reduceIte, Int.reduceToNat, Int.reduceLE, Int.reduceEq, Int.reduceNe, Int.reduceBEq, Int.reduceBNe, Int.reduceLT, Int.reduceGT, Int.reduceGE, Int.reduceNeg, ty_2, ty_3, ty_4, ty_9, ty_22, ty_26, ty_27, ty_30, ty_37, ty_56, ty_78, us_len, fim_len, ints_len, strs_len]
  refine GOps.done (hK _ ?_); clear hK K
  refine End.keep [1, 2, 4, 5, 12, 13, 14] ?_
  simp only [pk0, Nat.reduceBEq, reduceIte]
  refine Run.block ?_
  refine Run.ghost (Ghost.thaw (u := 4) 37 1 (by decide) rfl) ?_
  refine Run.ghost (Ghost.form [(1, .im (.sl (us v))), (2, .ptr 0 0 0), (4, .ms 0 1 0), (5, .nils), (12, .im (.sl (ints n.outs))), (13, .i n.outs.length), (14, .i (0 : Nat))] 2 ⟨rfl, rfl, rfl, rfl, rfl, rfl, rfl, trivial⟩ rfl rfl) ?_
  refine Run.loop (fun m s => ∃ (i : Nat), m = n.outs.length - i ∧ i ≤ n.outs.length ∧ s = ⟨[(1, .im (.sl (us v))), (2, .ptr 0 0 0), (4, .ms 0 1 i), (5, .nils), (12, .im (.sl (ints n.outs))), (13, .i n.outs.length), (14, .i (i : Nat))], [.box [.im (.sl (strs n.inn)), .im (.sl (strs n.out)), .im (.sl (n.flops.map LFlop.im)), .im (.sl (n.gates.map LGate.im)), .im (.sl (ints n.outs))], .row 37 1 (us ((n.outs.take i).map fun k => v.getD k.toNat 0)) 0], up⟩) n.outs.length ⟨0, rfl, by omega, rfl⟩ fun m s hI => ?_
  obtain ⟨i, rfl, hi, rfl⟩ := hI
  have hol : ((n.outs.take i).map fun k => v.getD k.toNat 0).length = i := by simp; omega
  have hao : (i + 1) * 8 ≤ 140737488355328 := by omega
  refine Run.seq ?_
  refine Run.region rfl fun K hK => GOps.run ?_
  simp only [lookupV, updateV, slicePV, pe0, pe1, pe2, pe3, pe4, pe5, pe6, pe7, pr0, pr1, Nat.reduceAdd, Nat.reduceMul, Nat.reduceLeDiff, Nat.reduceLT, Nat.reduceEqDiff, Nat.reduceBEq, Nat.reduceSub, reduceCtorEq, reduceIte, Int.reduceToNat, Int.reduceLE, Int.reduceEq, Int.reduceNe, Int.reduceBEq, Int.reduceBNe, Int.reduceLT, Int.reduceGT, Int.reduceGE, Int.reduceNeg, ty_2, ty_3, ty_4, ty_9, ty_22, ty_26, ty_27, ty_30, ty_37, ty_56, ty_78, us_len, fim_len, ints_len, strs_len, hol, hao]
  refine GOps.done (hK _ ?_); clear hK K
  refine End.keep [1, 2, 4, 5, 12, 13, 14, 15] ?_
  simp only [pk0, Nat.reduceBEq, reduceIte]
  refine Run.seq ?_
  refine Run.cond _ rfl (fun hb => ?_) (fun hb => ?_)
  · have hb := of_decide_eq_true hb
    have hin : i < n.outs.length := by omega
    have wi := wsucc hin (by omega)
    obtain ⟨x, hxi, hxm, hx⟩ := int_at n.outs i hin
    obtain ⟨x1, x2⟩ := hn.ends.outs x hxm
    have hvx := us_get v x.toNat (by omega)
    have htk := int_drop n.outs i x hxi
    refine Run.skip ?_
    refine End.keep [1, 2, 4, 5, 12, 13, 14] ?_
    simp only [pk0, Nat.reduceBEq, reduceIte]
    refine Run.seq ?_
    refine Run.block ?_
    refine Run.seq ?_
    refine Run.region rfl fun K hK => GOps.run ?_
    simp only [lookupV, updateV, slicePV, pe0, pe1, pe2, pe3, pe4, pe5, pe6, pe7, pr0, pr1, Nat.reduceAdd, Nat.reduceMul, Nat.reduceLeDiff, Nat.reduceLT, Nat.reduceEqDiff, Nat.reduceBEq, Nat.reduceSub, reduceCtorEq, reduceIte, Int.reduceToNat, Int.reduceLE, Int.reduceEq, Int.reduceNe, Int.reduceBEq, Int.reduceBNe, Int.reduceLT, Int.reduceGT, Int.reduceGE, Int.reduceNeg, ty_2, ty_3, ty_4, ty_9, ty_22, ty_26, ty_27, ty_30, ty_37, ty_56, ty_78, us_len, fim_len, ints_len, strs_len, hol, hao, wi, hx, x1, hvx, Int.natCast_nonneg, Int.toNat_natCast]
    refine GOps.done (hK _ ?_); clear hK K
    refine End.keep [1, 2, 4, 5, 7, 12, 13, 14] ?_
    simp only [pk0, Nat.reduceBEq, reduceIte]
    refine Run.region rfl fun K hK => GOps.run ?_
    simp only [lookupV, updateV, slicePV, pe0, pe1, pe2, pe3, pe4, pe5, pe6, pe7, pr0, pr1, Nat.reduceAdd, Nat.reduceMul, Nat.reduceLeDiff, Nat.reduceLT, Nat.reduceEqDiff, Nat.reduceBEq, Nat.reduceSub, reduceCtorEq, reduceIte, Int.reduceToNat, Int.reduceLE, Int.reduceEq, Int.reduceNe, Int.reduceBEq, Int.reduceBNe, Int.reduceLT, Int.reduceGT, Int.reduceGE, Int.reduceNeg, ty_2, ty_3, ty_4, ty_9, ty_22, ty_26, ty_27, ty_30, ty_37, ty_56, ty_78, us_len, fim_len, ints_len, strs_len, hol, hao, wi, hx, x1, hvx, Int.natCast_nonneg, Int.toNat_natCast]
    refine GOps.done (hK _ ?_); clear hK K
    refine End.blk ?_
    refine End.keep [1, 2, 4, 5, 12, 13, 14] ?_
    simp only [pk0, Nat.reduceBEq, reduceIte]
    refine Run.region rfl fun K hK => GOps.run ?_
    simp only [lookupV, updateV, slicePV, pe0, pe1, pe2, pe3, pe4, pe5, pe6, pe7, pr0, pr1, Nat.reduceAdd, Nat.reduceMul, Nat.reduceLeDiff, Nat.reduceLT, Nat.reduceEqDiff, Nat.reduceBEq, Nat.reduceSub, reduceCtorEq, reduceIte, Int.reduceToNat, Int.reduceLE, Int.reduceEq, Int.reduceNe, Int.reduceBEq, Int.reduceBNe, Int.reduceLT, Int.reduceGT, Int.reduceGE, Int.reduceNeg, ty_2, ty_3, ty_4, ty_9, ty_22, ty_26, ty_27, ty_30, ty_37, ty_56, ty_78, us_len, fim_len, ints_len, strs_len, hol, hao, wi, hx, x1, hvx, Int.natCast_nonneg, Int.toNat_natCast]
    refine GOps.done (hK _ ?_); clear hK K
    refine End.lp ?_
    refine ⟨n.outs.length - (i + 1), _, by omega, Ghost.form [(1, .im (.sl (us v))), (2, .ptr 0 0 0), (4, .ms 0 1 (i + 1)), (5, .nils), (12, .im (.sl (ints n.outs))), (13, .i n.outs.length), (14, .i (i + 1 : Nat))] 2 ⟨rfl, rfl, rfl, rfl, rfl, rfl, rfl, trivial⟩ rfl rfl, i + 1, rfl, by omega, ?_⟩
    rw [htk]
    simp
  · have hb := of_decide_eq_false hb
    have hiN : i = n.outs.length := by omega
    subst hiN
    rw [List.take_length] at hol ⊢
    refine Run.exit rfl ?_
    refine End.keep [1, 2, 4, 5] ?_
    simp only [pk0, Nat.reduceBEq, reduceIte]
    refine Run.seq ?_
    refine Run.seq ?_
    refine Run.region rfl fun K hK => GOps.run ?_
    simp only [lookupV, updateV, slicePV, pe0, pe1, pe2, pe3, pe4, pe5, pe6, pe7, pr0, pr1, Nat.reduceAdd, Nat.reduceMul, Nat.reduceLeDiff, Nat.reduceLT, Nat.reduceEqDiff, Nat.reduceBEq, Nat.reduceSub, reduceCtorEq, reduceIte, Int.reduceToNat, Int.reduceLE, Int.reduceEq, Int.reduceNe, Int.reduceBEq, Int.reduceBNe, Int.reduceLT, Int.reduceGT, Int.reduceGE, Int.reduceNeg, ty_2, ty_3, ty_4, ty_9, ty_22, ty_26, ty_27, ty_30, ty_37, ty_56, ty_78, us_len, fim_len, ints_len, strs_len, hol, hao]
    refine GOps.done (hK _ ?_); clear hK K
    refine End.keep [1, 2, 4, 5, 27, 28, 29] ?_
    simp only [pk0, Nat.reduceBEq, reduceIte]
    refine Run.block ?_
    refine Run.ghost (Ghost.thaw (u := 5) 37 1 (by decide) rfl) ?_
    refine Run.ghost (Ghost.form [(1, .im (.sl (us v))), (2, .ptr 0 0 0), (4, .ms 0 1 n.outs.length), (5, .ms 0 2 0), (27, .im (.sl (n.flops.map LFlop.im))), (28, .i n.flops.length), (29, .i (0 : Nat))] 3 ⟨rfl, rfl, rfl, rfl, rfl, rfl, rfl, trivial⟩ rfl rfl) ?_
    refine Run.loop (fun m s => ∃ (i : Nat) (dn : List Int), m = n.flops.length - i ∧ i ≤ n.flops.length ∧ dn.length = i ∧ dn ++ nextsF n v i (n.flops.drop i) = nextsF n v 0 n.flops ∧ s = ⟨[(1, .im (.sl (us v))), (2, .ptr 0 0 0), (4, .ms 0 1 n.outs.length), (5, .ms 0 2 i), (27, .im (.sl (n.flops.map LFlop.im))), (28, .i n.flops.length), (29, .i (i : Nat))], [.box [.im (.sl (strs n.inn)), .im (.sl (strs n.out)), .im (.sl (n.flops.map LFlop.im)), .im (.sl (n.gates.map LGate.im)), .im (.sl (ints n.outs))], .row 37 1 (us (outV n v)) 0, .row 37 1 (us dn) 0], up⟩) n.flops.length ⟨0, [], rfl, by omega, rfl, rfl, rfl⟩ fun m s hI => ?_
    obtain ⟨i, dn, rfl, hi, hdn, hN, rfl⟩ := hI
    have haf : (i + 1) * 8 ≤ 140737488355328 := by omega
    refine Run.seq ?_
    refine Run.region rfl fun K hK => GOps.run ?_
    simp only [lookupV, updateV, slicePV, pe0, pe1, pe2, pe3, pe4, pe5, pe6, pe7, pr0, pr1, Nat.reduceAdd, Nat.reduceMul, Nat.reduceLeDiff, Nat.reduceLT, Nat.reduceEqDiff, Nat.reduceBEq, Nat.reduceSub, reduceCtorEq, reduceIte, Int.reduceToNat, Int.reduceLE, Int.reduceEq, Int.reduceNe, Int.reduceBEq, Int.reduceBNe, Int.reduceLT, Int.reduceGT, Int.reduceGE, Int.reduceNeg, ty_2, ty_3, ty_4, ty_9, ty_22, ty_26, ty_27, ty_30, ty_37, ty_56, ty_78, us_len, fim_len, ints_len, strs_len, hol, hao, hdn, haf]
    refine GOps.done (hK _ ?_); clear hK K
    refine End.keep [1, 2, 4, 5, 27, 28, 29, 30] ?_
    simp only [pk0, Nat.reduceBEq, reduceIte]
    refine Run.seq ?_
    refine Run.cond _ rfl (fun hb => ?_) (fun hb => ?_)
    · have hb := of_decide_eq_true hb
      have hin : i < n.flops.length := by omega
      have wi := wsucc hin (by omega)
      obtain ⟨f, hfi, hfm, hf⟩ := flop_at n.flops i hin
      obtain ⟨⟨x1, x2⟩, x3, x4⟩ := hn.ends.flops f hfm
      have hvd := us_get v f.d.toNat (by omega)
      have hve := us_get v f.en.toNat (by omega)
      have w1 : IntKind.i64.wrap (2 + (n.inn.length : Int)) = 2 + (n.inn.length : Int) := wrap64 (by omega)
      have w2 : IntKind.i64.wrap (2 + (n.inn.length : Int) + i) = 2 + (n.inn.length : Int) + i := wrap64 (by omega)
      have hv0 : 0 ≤ 2 + (n.inn.length : Int) + i := by omega
      have hvo := us_get v (2 + (n.inn.length : Int) + i).toNat (by omega)
      rw [flop_drop _ i f hfi, nextsF] at hN
      refine Run.skip ?_
      refine End.keep [1, 2, 4, 5, 27, 28, 29] ?_
      simp only [pk0, Nat.reduceBEq, reduceIte]
      refine Run.seq ?_
      refine Run.block ?_
      refine Run.seq ?_
      refine Run.region rfl fun K hK => GOps.run ?_
      simp only [lookupV, updateV, slicePV, pe0, pe1, pe2, pe3, pe4, pe5, pe6, pe7, pr0, pr1, Nat.reduceAdd, Nat.reduceMul, Nat.reduceLeDiff, Nat.reduceLT, Nat.reduceEqDiff, Nat.reduceBEq, Nat.reduceSub, reduceCtorEq, reduceIte, Int.reduceToNat, Int.reduceLE, Int.reduceEq, Int.reduceNe, Int.reduceBEq, Int.reduceBNe, Int.reduceLT, Int.reduceGT, Int.reduceGE, Int.reduceNeg, ty_2, ty_3, ty_4, ty_9, ty_22, ty_26, ty_27, ty_30, ty_37, ty_56, ty_78, us_len, fim_len, ints_len, strs_len, hol, hao, hdn, haf, wi, hf, x1, x3, hvd, hve, hvo, hv0, w1, w2, Int.natCast_nonneg, Int.toNat_natCast]
      refine GOps.done (hK _ ?_); clear hK K
      refine End.keep [1, 2, 4, 5, 8, 9, 27, 28, 29] ?_
      simp only [pk0, Nat.reduceBEq, reduceIte]
      refine Run.seq ?_
      refine Run.region rfl fun K hK => GOps.run ?_
      simp only [lookupV, updateV, slicePV, pe0, pe1, pe2, pe3, pe4, pe5, pe6, pe7, pr0, pr1, Nat.reduceAdd, Nat.reduceMul, Nat.reduceLeDiff, Nat.reduceLT, Nat.reduceEqDiff, Nat.reduceBEq, Nat.reduceSub, reduceCtorEq, reduceIte, Int.reduceToNat, Int.reduceLE, Int.reduceEq, Int.reduceNe, Int.reduceBEq, Int.reduceBNe, Int.reduceLT, Int.reduceGT, Int.reduceGE, Int.reduceNeg, ty_2, ty_3, ty_4, ty_9, ty_22, ty_26, ty_27, ty_30, ty_37, ty_56, ty_78, us_len, fim_len, ints_len, strs_len, hol, hao, hdn, haf, wi, hf, x1, x3, hvd, hve, hvo, hv0, w1, w2, Int.natCast_nonneg, Int.toNat_natCast]
      refine GOps.done (hK _ ?_); clear hK K
      refine End.keep [1, 2, 4, 5, 9, 10, 27, 28, 29] ?_
      simp only [pk0, Nat.reduceBEq, reduceIte]
      refine Run.ghost (.spares 1) ?_
      simp only [ASt.pushN, ASt.push, List.append_assoc, List.cons_append, List.nil_append]
      refine Run.draw [[], [], [], [2], [1, 2, 3], [1, 2, 3, 4], [], [], [7], [6, 7, 8], [6, 7, 8, 9], [1, 2, 3, 4, 5, 6, 7, 8, 9, 10], [], [], [13], [12, 13, 14], [12, 13, 14, 15], [12, 13, 14, 15, 16], [], [12, 13, 14, 15, 16, 17, 18], [1, 2, 3, 4, 5, 6, 7, 8, 9, 10, 11, 12, 13, 14, 15, 16, 17, 18, 19], [1, 2, 3, 4, 5, 6, 7, 8, 9, 10, 11, 12, 13, 14, 15, 16, 17, 18, 19, 20], [0, 1, 2, 3, 4, 5, 6, 7, 8, 9, 10, 11, 12, 13, 14, 15, 16, 17, 18, 19, 20, 21], [0, 1, 2, 3, 4, 5, 6, 7, 8, 9, 10, 11, 12, 13, 14, 15, 16, 17, 18, 19, 20, 21, 22]] (by kernel_rfl) rfl (by kernel_rfl) (by kernel_rfl) fun K hK => DOps.run ?_
      simp only [lookupV, updateV, slicePV, pe0, pe1, pe2, pe3, pe4, pe5, pe6, pe7, pr0, pr1, Nat.reduceAdd, Nat.reduceMul, Nat.reduceLeDiff, Nat.reduceLT, Nat.reduceEqDiff, Nat.reduceBEq, Nat.reduceSub, reduceCtorEq, reduceIte, Int.reduceToNat, Int.reduceLE, Int.reduceEq, Int.reduceNe, Int.reduceBEq, Int.reduceBNe, Int.reduceLT, Int.reduceGT, Int.reduceGE, Int.reduceNeg, ty_2, ty_3, ty_4, ty_9, ty_22, ty_26, ty_27, ty_30, ty_37, ty_56, ty_78, us_len, fim_len, ints_len, strs_len, hol, hao, hdn, haf, wi, hf, x1, x3, hvd, hve, hvo, hv0, w1, w2, Int.natCast_nonneg, Int.toNat_natCast]
      refine DOps.nil (by rfl) (hK _ ?_); clear hK K
      refine End.blk ?_
      refine End.keep [1, 2, 4, 5, 27, 28, 29] ?_
      simp only [pk0, Nat.reduceBEq, reduceIte]
      refine Run.region rfl fun K hK => GOps.run ?_
      simp only [lookupV, updateV, slicePV, pe0, pe1, pe2, pe3, pe4, pe5, pe6, pe7, pr0, pr1, Nat.reduceAdd, Nat.reduceMul, Nat.reduceLeDiff, Nat.reduceLT, Nat.reduceEqDiff, Nat.reduceBEq, Nat.reduceSub, reduceCtorEq, reduceIte, Int.reduceToNat, Int.reduceLE, Int.reduceEq, Int.reduceNe, Int.reduceBEq, Int.reduceBNe, Int.reduceLT, Int.reduceGT, Int.reduceGE, Int.reduceNeg, ty_2, ty_3, ty_4, ty_9, ty_22, ty_26, ty_27, ty_30, ty_37, ty_56, ty_78, us_len, fim_len, ints_len, strs_len, hol, hao, hdn, haf, wi, hf, x1, x3, hvd, hve, hvo, hv0, w1, w2, Int.natCast_nonneg, Int.toNat_natCast]
      refine GOps.done (hK _ ?_); clear hK K
      refine End.lp ?_
      refine ⟨n.flops.length - (i + 1), _, by omega, Ghost.form [(1, .im (.sl (us v))), (2, .ptr 0 0 0), (4, .ms 0 1 n.outs.length), (5, .ms 0 2 (i + 1)), (27, .im (.sl (n.flops.map LFlop.im))), (28, .i n.flops.length), (29, .i (i + 1 : Nat))] 3 ⟨rfl, rfl, rfl, rfl, rfl, rfl, rfl, trivial⟩ rfl rfl, i + 1, dn ++ [nextF n v i f], rfl, by omega, by simp [hdn], by simpa using hN, ?_⟩
      simp [nextF]
    · have hb := of_decide_eq_false hb
      have hiN : i = n.flops.length := by omega
      subst hiN
      rw [List.drop_length, nextsF, List.append_nil] at hN
      refine Run.exit rfl ?_
      refine End.keep [4, 5] ?_
      simp only [pk0, Nat.reduceBEq, reduceIte]
      refine Run.seq ?_
      refine Run.ghost (Ghost.shut (t := 4) (j := 1) rfl rfl (by rw [us_len]; exact hol)) ?_
      simp only [eput, edel]
      refine Run.ghost (Ghost.shut (t := 5) (j := 2) rfl rfl (by rw [us_len, hdn])) ?_
      simp only [eput, edel]
      refine Run.region rfl fun K hK => GOps.run ?_
      simp only [lookupV, updateV, slicePV, pe0, pe1, pe2, pe3, pe4, pe5, pe6, pe7, pr0, pr1, Nat.reduceAdd, Nat.reduceMul, Nat.reduceLeDiff, Nat.reduceLT, Nat.reduceEqDiff, Nat.reduceBEq, Nat.reduceSub, reduceCtorEq, reduceIte, Int.reduceToNat, Int.reduceLE, Int.reduceEq, Int.reduceNe, Int.reduceBEq, Int.reduceBNe, Int.reduceLT, Int.reduceGT, Int.reduceGE, Int.reduceNeg, ty_2, ty_3, ty_4, ty_9, ty_22, ty_26, ty_27, ty_30, ty_37, ty_56, ty_78, us_len, fim_len, ints_len, strs_len, hol, hao, hdn, haf]
      refine GOps.done (hK _ ?_); clear hK K
      refine End.keep [4, 5] ?_
      simp only [pk0, Nat.reduceBEq, reduceIte]
      refine Run.ret (hQ _ _ ⟨.inr rfl, _, rfl, _, rfl, ?_⟩)
      exact ⟨by rw [hN], rfl⟩
theorem valsN_len : ∀ (gs : List LGate) (v : List Int), (valsN gs v).length = v.length + gs.length
  | [], v => by simp [valsN]
  | g :: gs, v => by
    rw [valsN, valsN_len gs]
    simp
    omega
theorem valuesV_len (n : LNet) (inn st : List Int) (h1 : inn.length = n.inn.length) (h2 : st.length = n.flops.length) : (valuesV n inn st).length = 2 + n.inn.length + n.flops.length + n.gates.length := by
  rw [valuesV, valsN_len]
  simp
  omega
theorem NWords_ok (n : LNet) (hn : NetOk n) (inn st : List Int) (h1 : inn.length = n.inn.length) (h2 : st.length = n.flops.length) (up : Frs) : ACalls Try.prog 91 [n.pv, .im (.sl (us inn)), .im (.sl (us st))] up fun v u => v = .tup [.im (.sl (us (outV n (valuesV n inn st)))), .im (.sl (us (nextsF n (valuesV n inn st) 0 n.flops))), .i 0] ∧ u = up := by
  refine ACalls.code Try.func91 rfl 28 rfl (by simp) [.tmp 6, .tmp 7, .tmp 8] rfl fun Q hQ => ?_
  simp only [ups, PV.up, argEnv]
  refine Run.seq ?_
  refine Run.region rfl fun K hK => GOps.run ?_
  simp only [lookupV, updateV, slicePV, pe0, pe1, pe2, pe3, pe4, pe5, pe6, pe7, pr0, pr1, Nat.reduceAdd, Nat.reduceMul, Nat.reduceLeDiff, Nat.reduceLT, Nat.reduceEqDiff, Nat.reduceBEq, Nat.reduceSub, reduceCtorEq, reduceIte, Int.reduceToNat, Int.reduceLE, Int.reduceEq, Int.reduceNe, Int.reduceBEq, Int.reduceBNe, Int.reduceLT, Int.reduceGT, Int.reduceGE, Int.reduceNeg, ty_4, ty_30, ty_34, ty_37, ty_56]
  refine GOps.done (hK _ ?_); clear hK K
  refine End.keep [1, 2, 3] ?_
  simp only [pk0, Nat.reduceBEq, reduceIte]
  refine Run.seq ?_
  refine Run.region rfl fun K hK => GOps.run ?_
  simp only [lookupV, updateV, slicePV, pe0, pe1, pe2, pe3, pe4, pe5, pe6, pe7, pr0, pr1, Nat.reduceAdd, Nat.reduceMul, Nat.reduceLeDiff, Nat.reduceLT, Nat.reduceEqDiff, Nat.reduceBEq, Nat.reduceSub, reduceCtorEq, reduceIte, Int.reduceToNat, Int.reduceLE, Int.reduceEq, Int.reduceNe, Int.reduceBEq, Int.reduceBNe, Int.reduceLT, Int.reduceGT, Int.reduceGE, Int.reduceNeg, ty_4, ty_30, ty_34, ty_37, ty_56]
  refine GOps.call rfl rfl rfl rfl (by kernel_rfl) ?_  -- call F32(t11, t12, t13)  30,56,56
  simp only [lookupV, updateV, slicePV, pe0, pe1, pe2, pe3, pe4, pe5, pe6, pe7, pr0, pr1, Nat.reduceAdd, Nat.reduceMul, Nat.reduceLeDiff, Nat.reduceLT, Nat.reduceEqDiff, Nat.reduceBEq, Nat.reduceSub, reduceCtorEq, reduceIte, Int.reduceToNat, Int.reduceLE, Int.reduceEq, Int.reduceNe, Int.reduceBEq, Int.reduceBNe, Int.reduceLT, Int.reduceGT, Int.reduceGE, Int.reduceNeg, ty_4, ty_30, ty_34, ty_37, ty_56]
  refine (NValues_ok n hn inn st h1 h2 _).mono fun v u hv => ?_
  obtain ⟨rfl, rfl⟩ := hv
  refine ⟨_, _, rfl, GOps.run ?_⟩
  simp only [lookupV, updateV, slicePV, pe0, pe1, pe2, pe3, pe4, pe5, pe6, pe7, pr0, pr1, Nat.reduceAdd, Nat.reduceMul, Nat.reduceLeDiff, Nat.reduceLT, Nat.reduceEqDiff, Nat.reduceBEq, Nat.reduceSub, reduceCtorEq, reduceIte, Int.reduceToNat, Int.reduceLE, Int.reduceEq, Int.reduceNe, Int.reduceBEq, Int.reduceBNe, Int.reduceLT, Int.reduceGT, Int.reduceGE, Int.reduceNeg, ty_4, ty_30, ty_34, ty_37, ty_56]
  refine GOps.done (hK _ ?_); clear hK K
  refine End.keep [3, 8, 9] ?_
  simp only [pk0, Nat.reduceBEq, reduceIte]
  refine Run.seq ?_
  refine Run.seq ?_
  refine Run.region rfl fun K hK => GOps.run ?_
  simp only [lookupV, updateV, slicePV, pe0, pe1, pe2, pe3, pe4, pe5, pe6, pe7, pr0, pr1, Nat.reduceAdd, Nat.reduceMul, Nat.reduceLeDiff, Nat.reduceLT, Nat.reduceEqDiff, Nat.reduceBEq, Nat.reduceSub, reduceCtorEq, reduceIte, Int.reduceToNat, Int.reduceLE, Int.reduceEq, Int.reduceNe, Int.reduceBEq, Int.reduceBNe, Int.reduceLT, Int.reduceGT, Int.reduceGE, Int.reduceNeg, ty_4, ty_30, ty_34, ty_37, ty_56]
  refine GOps.done (hK _ ?_); clear hK K
  refine End.keep [3, 8, 9, 18] ?_
  simp only [pk0, Nat.reduceBEq, reduceIte]
  refine Run.cond _ rfl (fun hb => ?_) (fun hb => ?_)
  · have hb := hb
    simp at hb
  · have hb := hb
    refine Run.skip ?_
    refine End.keep [3, 9] ?_
    simp only [pk0, Nat.reduceBEq, reduceIte]
    refine Run.seq ?_
    refine Run.region rfl fun K hK => GOps.run ?_
    simp only [lookupV, updateV, slicePV, pe0, pe1, pe2, pe3, pe4, pe5, pe6, pe7, pr0, pr1, Nat.reduceAdd, Nat.reduceMul, Nat.reduceLeDiff, Nat.reduceLT, Nat.reduceEqDiff, Nat.reduceBEq, Nat.reduceSub, reduceCtorEq, reduceIte, Int.reduceToNat, Int.reduceLE, Int.reduceEq, Int.reduceNe, Int.reduceBEq, Int.reduceBNe, Int.reduceLT, Int.reduceGT, Int.reduceGE, Int.reduceNeg, ty_4, ty_30, ty_34, ty_37, ty_56]
    refine GOps.call rfl rfl rfl rfl (by kernel_rfl) ?_  -- call F105(t21, t22)  30,56
    simp only [lookupV, updateV, slicePV, pe0, pe1, pe2, pe3, pe4, pe5, pe6, pe7, pr0, pr1, Nat.reduceAdd, Nat.reduceMul, Nat.reduceLeDiff, Nat.reduceLT, Nat.reduceEqDiff, Nat.reduceBEq, Nat.reduceSub, reduceCtorEq, reduceIte, Int.reduceToNat, Int.reduceLE, Int.reduceEq, Int.reduceNe, Int.reduceBEq, Int.reduceBNe, Int.reduceLT, Int.reduceGT, Int.reduceGE, Int.reduceNeg, ty_4, ty_30, ty_34, ty_37, ty_56]
    refine (nresults_ok n hn (valuesV n inn st) (valuesV_len n inn st h1 h2) _).mono fun v u hv => ?_
    obtain ⟨rfl, rfl⟩ := hv
    refine ⟨_, _, rfl, GOps.run ?_⟩
    simp only [lookupV, updateV, slicePV, pe0, pe1, pe2, pe3, pe4, pe5, pe6, pe7, pr0, pr1, Nat.reduceAdd, Nat.reduceMul, Nat.reduceLeDiff, Nat.reduceLT, Nat.reduceEqDiff, Nat.reduceBEq, Nat.reduceSub, reduceCtorEq, reduceIte, Int.reduceToNat, Int.reduceLE, Int.reduceEq, Int.reduceNe, Int.reduceBEq, Int.reduceBNe, Int.reduceLT, Int.reduceGT, Int.reduceGE, Int.reduceNeg, ty_4, ty_30, ty_34, ty_37, ty_56]
    refine GOps.done (hK _ ?_); clear hK K
    refine End.keep [6, 7] ?_
    simp only [pk0, Nat.reduceBEq, reduceIte]
    refine Run.seq ?_
    refine Run.region rfl fun K hK => GOps.run ?_
    simp only [lookupV, updateV, slicePV, pe0, pe1, pe2, pe3, pe4, pe5, pe6, pe7, pr0, pr1, Nat.reduceAdd, Nat.reduceMul, Nat.reduceLeDiff, Nat.reduceLT, Nat.reduceEqDiff, Nat.reduceBEq, Nat.reduceSub, reduceCtorEq, reduceIte, Int.reduceToNat, Int.reduceLE, Int.reduceEq, Int.reduceNe, Int.reduceBEq, Int.reduceBNe, Int.reduceLT, Int.reduceGT, Int.reduceGE, Int.reduceNeg, ty_4, ty_30, ty_34, ty_37, ty_56]
    refine GOps.done (hK _ ?_); clear hK K
    refine End.keep [6, 7, 8] ?_
    simp only [pk0, Nat.reduceBEq, reduceIte]
    refine Run.ret (hQ _ _ ⟨.inr rfl, _, rfl, _, rfl, ?_⟩)
    exact ⟨rfl, rfl⟩
theorem NEval_ok (n : LNet) (hn : NetOk n) (inn st : List Bool) (h1 : inn.length = n.inn.length) (h2 : st.length = n.flops.length) (up : Frs) : ACalls Try.prog 34 [n.pv, .im (.sl (bools inn)), .im (.sl (bools st))] up fun v u => v = .tup [.im (.sl (bools ((outV n (valuesV n (lanes0 inn) (lanes0 st))).map fun w => bits .and .u64 w 1 == 1))), .im (.sl (bools ((nextsF n (valuesV n (lanes0 inn) (lanes0 st)) 0 n.flops).map fun w => bits .and .u64 w 1 == 1))), .i 0] ∧ u = up := by
  obtain ⟨z1, z2, z3, z4, z5⟩ := hn.small
  refine ACalls.code Try.func34 rfl 28 rfl (by simp) [.tmp 6, .tmp 7, .tmp 8] rfl fun Q hQ => ?_
  simp only [ups, PV.up, argEnv]
  refine Run.seq ?_
  refine Run.region rfl fun K hK => GOps.run ?_
  simp only [lookupV, updateV, slicePV, pe0, pe1, pe2, pe3, pe4, pe5, pe6, pe7, pr0, pr1, Nat.reduceAdd, Nat.reduceMul, Nat.reduceLeDiff, Nat.reduceLT, Nat.reduceEqDiff, Nat.reduceBEq, Nat.reduceSub, reduceCtorEq, reduceIte, Int.reduceToNat, Int.reduceLE, Int.reduceEq, Int.reduceNe, Int.reduceBEq, Int.reduceBNe, Int.reduceLT, Int.reduceGT, Int.reduceGE, Int.reduceNeg, ty_2, ty_4, ty_30, ty_34, ty_37, ty_56, ty_71]
  refine GOps.done (hK _ ?_); clear hK K
  refine End.keep [1, 2, 3] ?_
  simp only [pk0, Nat.reduceBEq, reduceIte]
  refine Run.seq ?_
  refine Run.draw [[], [], [1], [], [1, 2, 3], [0, 1, 2, 3, 4], [0, 1, 2, 3, 4, 5], [0, 1, 2, 3, 4, 5, 6], [0, 1, 2, 3, 4, 5, 6], [0, 1, 2, 3, 4, 5, 6], [0, 1, 2, 3, 4, 5, 6, 7], [0, 1, 2, 3, 4, 5, 6, 7, 8, 10], [0, 1, 2, 3, 4, 5, 6, 7, 8, 9, 10, 11]] (by kernel_rfl) rfl (by kernel_rfl) (by kernel_rfl) fun K hK => DOps.run ?_
  simp only [lookupV, updateV, slicePV, pe0, pe1, pe2, pe3, pe4, pe5, pe6, pe7, pr0, pr1, Nat.reduceAdd, Nat.reduceMul, Nat.reduceLeDiff, Nat.reduceLT, Nat.reduceEqDiff, Nat.reduceBEq, Nat.reduceSub, reduceCtorEq, reduceIte, Int.reduceToNat, Int.reduceLE, Int.reduceEq, Int.reduceNe, Int.reduceBEq, Int.reduceBNe, Int.reduceLT, Int.reduceGT, Int.reduceGE, Int.reduceNeg, ty_2, ty_4, ty_30, ty_34, ty_37, ty_56, ty_71]
  refine DOps.call (.im (.sl (us (lanes0 inn)))) [] [] rfl rfl rfl rfl rfl (by kernel_rfl) (by simp [Agree]) (fun u hu => Lanes_ok inn (by omega) u) ?_  -- call F33(t13)  71
  refine DOps.run ?_
  simp only [lookupV, updateV, slicePV, pe0, pe1, pe2, pe3, pe4, pe5, pe6, pe7, pr0, pr1, Nat.reduceAdd, Nat.reduceMul, Nat.reduceLeDiff, Nat.reduceLT, Nat.reduceEqDiff, Nat.reduceBEq, Nat.reduceSub, reduceCtorEq, reduceIte, Int.reduceToNat, Int.reduceLE, Int.reduceEq, Int.reduceNe, Int.reduceBEq, Int.reduceBNe, Int.reduceLT, Int.reduceGT, Int.reduceGE, Int.reduceNeg, ty_2, ty_4, ty_30, ty_34, ty_37, ty_56, ty_71]
  refine DOps.call (.im (.sl (us (lanes0 st)))) [] [] rfl rfl rfl rfl rfl (by kernel_rfl) (by simp [Agree]) (fun u hu => Lanes_ok st (by omega) u) ?_  -- call F33(t15)  71
  refine DOps.run ?_
  simp only [lookupV, updateV, slicePV, pe0, pe1, pe2, pe3, pe4, pe5, pe6, pe7, pr0, pr1, Nat.reduceAdd, Nat.reduceMul, Nat.reduceLeDiff, Nat.reduceLT, Nat.reduceEqDiff, Nat.reduceBEq, Nat.reduceSub, reduceCtorEq, reduceIte, Int.reduceToNat, Int.reduceLE, Int.reduceEq, Int.reduceNe, Int.reduceBEq, Int.reduceBNe, Int.reduceLT, Int.reduceGT, Int.reduceGE, Int.reduceNeg, ty_2, ty_4, ty_30, ty_34, ty_37, ty_56, ty_71]
  refine DOps.call (.tup [.im (.sl (us (outV n (valuesV n (lanes0 inn) (lanes0 st))))), .im (.sl (us (nextsF n (valuesV n (lanes0 inn) (lanes0 st)) 0 n.flops))), .i 0]) [] [] rfl rfl rfl rfl rfl (by kernel_rfl) (by simp [Agree]) (fun u hu => NWords_ok n hn (lanes0 inn) (lanes0 st) (by simpa using h1) (by simpa using h2) u) ?_  -- call F91(t12, t14, t16)  30,56,56
  refine DOps.run ?_
  simp only [lookupV, updateV, slicePV, pe0, pe1, pe2, pe3, pe4, pe5, pe6, pe7, pr0, pr1, Nat.reduceAdd, Nat.reduceMul, Nat.reduceLeDiff, Nat.reduceLT, Nat.reduceEqDiff, Nat.reduceBEq, Nat.reduceSub, reduceCtorEq, reduceIte, Int.reduceToNat, Int.reduceLE, Int.reduceEq, Int.reduceNe, Int.reduceBEq, Int.reduceBNe, Int.reduceLT, Int.reduceGT, Int.reduceGE, Int.reduceNeg, ty_2, ty_4, ty_30, ty_34, ty_37, ty_56, ty_71]
  refine DOps.nil (metAll_quiet rfl) (hK _ ?_); clear hK K
  refine End.keep [8, 9, 10] ?_
  simp only [pk0, Nat.reduceBEq, reduceIte]
  refine Run.seq ?_
  refine Run.seq ?_
  refine Run.region rfl fun K hK => GOps.run ?_
  simp only [lookupV, updateV, slicePV, pe0, pe1, pe2, pe3, pe4, pe5, pe6, pe7, pr0, pr1, Nat.reduceAdd, Nat.reduceMul, Nat.reduceLeDiff, Nat.reduceLT, Nat.reduceEqDiff, Nat.reduceBEq, Nat.reduceSub, reduceCtorEq, reduceIte, Int.reduceToNat, Int.reduceLE, Int.reduceEq, Int.reduceNe, Int.reduceBEq, Int.reduceBNe, Int.reduceLT, Int.reduceGT, Int.reduceGE, Int.reduceNeg, ty_2, ty_4, ty_30, ty_34, ty_37, ty_56, ty_71]
  refine GOps.done (hK _ ?_); clear hK K
  refine End.keep [8, 9, 10, 22] ?_
  simp only [pk0, Nat.reduceBEq, reduceIte]
  refine Run.cond _ rfl (fun hb => ?_) (fun hb => ?_)
  · have hb := hb
    simp at hb
  · have hb := hb
    refine Run.skip ?_
    refine End.keep [9, 10] ?_
    simp only [pk0, Nat.reduceBEq, reduceIte]
    refine Run.seq ?_
    refine Run.region rfl fun K hK => GOps.run ?_
    simp only [lookupV, updateV, slicePV, pe0, pe1, pe2, pe3, pe4, pe5, pe6, pe7, pr0, pr1, Nat.reduceAdd, Nat.reduceMul, Nat.reduceLeDiff, Nat.reduceLT, Nat.reduceEqDiff, Nat.reduceBEq, Nat.reduceSub, reduceCtorEq, reduceIte, Int.reduceToNat, Int.reduceLE, Int.reduceEq, Int.reduceNe, Int.reduceBEq, Int.reduceBNe, Int.reduceLT, Int.reduceGT, Int.reduceGE, Int.reduceNeg, ty_2, ty_4, ty_30, ty_34, ty_37, ty_56, ty_71]
    refine GOps.call rfl rfl rfl rfl (by kernel_rfl) ?_  -- call F92(t24)  56
    simp only [lookupV, updateV, slicePV, pe0, pe1, pe2, pe3, pe4, pe5, pe6, pe7, pr0, pr1, Nat.reduceAdd, Nat.reduceMul, Nat.reduceLeDiff, Nat.reduceLT, Nat.reduceEqDiff, Nat.reduceBEq, Nat.reduceSub, reduceCtorEq, reduceIte, Int.reduceToNat, Int.reduceLE, Int.reduceEq, Int.reduceNe, Int.reduceBEq, Int.reduceBNe, Int.reduceLT, Int.reduceGT, Int.reduceGE, Int.reduceNeg, ty_2, ty_4, ty_30, ty_34, ty_37, ty_56, ty_71]
    refine (Lane_ok _ (by simp [outV]; omega) _).mono fun v u hv => ?_
    obtain ⟨rfl, rfl⟩ := hv
    refine ⟨_, _, rfl, GOps.run ?_⟩
    simp only [lookupV, updateV, slicePV, pe0, pe1, pe2, pe3, pe4, pe5, pe6, pe7, pr0, pr1, Nat.reduceAdd, Nat.reduceMul, Nat.reduceLeDiff, Nat.reduceLT, Nat.reduceEqDiff, Nat.reduceBEq, Nat.reduceSub, reduceCtorEq, reduceIte, Int.reduceToNat, Int.reduceLE, Int.reduceEq, Int.reduceNe, Int.reduceBEq, Int.reduceBNe, Int.reduceLT, Int.reduceGT, Int.reduceGE, Int.reduceNeg, ty_2, ty_4, ty_30, ty_34, ty_37, ty_56, ty_71]
    refine GOps.call rfl rfl rfl rfl (by kernel_rfl) ?_  -- call F92(t26)  56
    simp only [lookupV, updateV, slicePV, pe0, pe1, pe2, pe3, pe4, pe5, pe6, pe7, pr0, pr1, Nat.reduceAdd, Nat.reduceMul, Nat.reduceLeDiff, Nat.reduceLT, Nat.reduceEqDiff, Nat.reduceBEq, Nat.reduceSub, reduceCtorEq, reduceIte, Int.reduceToNat, Int.reduceLE, Int.reduceEq, Int.reduceNe, Int.reduceBEq, Int.reduceBNe, Int.reduceLT, Int.reduceGT, Int.reduceGE, Int.reduceNeg, ty_2, ty_4, ty_30, ty_34, ty_37, ty_56, ty_71]
    refine (Lane_ok _ (by rw [nextsF_len]; omega) _).mono fun v u hv => ?_
    obtain ⟨rfl, rfl⟩ := hv
    refine ⟨_, _, rfl, GOps.run ?_⟩
    simp only [lookupV, updateV, slicePV, pe0, pe1, pe2, pe3, pe4, pe5, pe6, pe7, pr0, pr1, Nat.reduceAdd, Nat.reduceMul, Nat.reduceLeDiff, Nat.reduceLT, Nat.reduceEqDiff, Nat.reduceBEq, Nat.reduceSub, reduceCtorEq, reduceIte, Int.reduceToNat, Int.reduceLE, Int.reduceEq, Int.reduceNe, Int.reduceBEq, Int.reduceBNe, Int.reduceLT, Int.reduceGT, Int.reduceGE, Int.reduceNeg, ty_2, ty_4, ty_30, ty_34, ty_37, ty_56, ty_71]
    refine GOps.done (hK _ ?_); clear hK K
    refine End.keep [6, 7, 8] ?_
    simp only [pk0, Nat.reduceBEq, reduceIte]
    refine Run.ret (hQ _ _ ⟨.inr rfl, _, rfl, _, rfl, ?_⟩)
    exact ⟨rfl, rfl⟩
end Go.Proofs.YtkmnmokjlpenhaaPi
