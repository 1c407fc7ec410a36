/- The walks of values and Values: what all nets have. -/
import Derived.Test.YtkmnmokjlpenhaaWI
set_option linter.unusedVariables false
set_option linter.unusedSimpArgs false
set_option maxRecDepth 100000
namespace Go.Proofs.YtkmnmokjlpenhaaPi

def gateVal (g : LGate) (v : List Int) : Int := lookV g.table (g.ins.map fun k => v.getD k.toNat 0)
def valsN : List LGate → List Int → List Int
  | [], v => v
  | g :: gs, v => valsN gs (v ++ [gateVal g v])
def valuesV (n : LNet) (inn st : List Int) : List Int := valsN n.gates ([0, 18446744073709551615] ++ inn ++ st)
theorem gate_drop (l : List LGate) (i : Nat) (g : LGate) (h : l[i]? = some g) : l.drop i = g :: l.drop (i + 1) := by
  obtain ⟨hi, rfl⟩ := List.getElem?_eq_some_iff.1 h
  exact List.drop_eq_getElem_cons hi
theorem int_drop (l : List Int) (i : Nat) (g : Int) (h : l[i]? = some g) : l.take (i + 1) = l.take i ++ [g] := by simp [List.take_add_one, h]
theorem values_ok (n : LNet) (hn : NetOk n) (inn st : List Int) (h1 : inn.length = n.inn.length) (h2 : st.length = n.flops.length) (up : Frs) : ACalls Try.prog 90 [n.pv, .im (.sl (us inn)), .im (.sl (us st))] up fun v u => v = .im (.sl (us (valuesV n inn st))) ∧ u = up := by
  have hsm := hn.small
  obtain ⟨z1, z2, z3, z4, z5⟩ := hn.small
  have a1 : (2 + inn.length) * 8 ≤ 140737488355328 := by omega
  have a2 : (2 + inn.length + st.length) * 8 ≤ 140737488355328 := by omega
  have b1 : inn.length + 1 + 1 = 2 + inn.length := by omega
  have al : ∀ l : List Int, (us l).all (fun r => r.length == 1) = true := fun l => by simp
  refine ACalls.code Try.func90 rfl 50 rfl (by simp) [.tmp 6] rfl fun Q hQ => ?_
  simp only [ups, PV.up, argEnv]
  refine Run.seq ?_
  refine Run.region rfl fun K hK => GOps.run ?_
  simp only [lookupV, updateV, slicePV, pe0, pe1, pe2, pe3, pe4, pe5, pe6, pe7, pr0, pr1, Nat.reduceAdd, Nat.reduceMul, Nat.reduceLeDiff, Nat.reduceLT, Nat.reduceEqDiff, Nat.reduceBEq, Nat.reduceSub, reduceCtorEq, reduceIte, Int.reduceToNat, Int.reduceLE, Int.reduceEq, Int.reduceNe, Int.reduceBEq, Int.reduceBNe, Int.reduceLT, Int.reduceGT, Int.reduceGE, Int.reduceNeg, ty_2, ty_3, ty_22, ty_28, ty_30, ty_37, ty_39, ty_56, us_len, gim_len, ints_len, a1, a2, al, b1, List.length_append]
  refine GOps.done (hK _ ?_); clear hK K
  refine End.keep [1, 2, 3] ?_
  simp only [pk0, Nat.reduceBEq, reduceIte]
  refine Run.seq ?_
  refine Run.region rfl fun K hK => GOps.run ?_
  simp only [lookupV, updateV, slicePV, pe0, pe1, pe2, pe3, pe4, pe5, pe6, pe7, pr0, pr1, Nat.reduceAdd, Nat.reduceMul, Nat.reduceLeDiff, Nat.reduceLT, Nat.reduceEqDiff, Nat.reduceBEq, Nat.reduceSub, reduceCtorEq, reduceIte, Int.reduceToNat, Int.reduceLE, Int.reduceEq, Int.reduceNe, Int.reduceBEq, Int.reduceBNe, Int.reduceLT, Int.reduceGT, Int.reduceGE, Int.reduceNeg, ty_2, ty_3, ty_22, ty_28, ty_30, ty_37, ty_39, ty_56, us_len, gim_len, ints_len, a1, a2, al, b1, List.length_append]
  refine GOps.done (hK _ ?_); clear hK K
  refine End.keep [2, 3, 7] ?_
  simp only [pk0, Nat.reduceBEq, reduceIte]
  refine Run.seq ?_
  refine Run.region rfl fun K hK => GOps.run ?_
  simp only [lookupV, updateV, slicePV, pe0, pe1, pe2, pe3, pe4, pe5, pe6, pe7, pr0, pr1, Nat.reduceAdd, Nat.reduceMul, Nat.reduceLeDiff, Nat.reduceLT, Nat.reduceEqDiff, Nat.reduceBEq, Nat.reduceSub, reduceCtorEq, reduceIte, Int.reduceToNat, Int.reduceLE, Int.reduceEq, Int.reduceNe, Int.reduceBEq, Int.reduceBNe, Int.reduceLT, Int.reduceGT, Int.reduceGE, Int.reduceNeg, ty_2, ty_3, ty_22, ty_28, ty_30, ty_37, ty_39, ty_56, us_len, gim_len, ints_len, a1, a2, al, b1, List.length_append]
  refine GOps.done (hK _ ?_); clear hK K
  refine End.keep [3, 7] ?_
  simp only [pk0, Nat.reduceBEq, reduceIte]
  refine Run.seq ?_
  refine Run.seq ?_
  refine Run.region rfl fun K hK => GOps.run ?_
  simp only [lookupV, updateV, slicePV, pe0, pe1, pe2, pe3, pe4, pe5, pe6, pe7, pr0, pr1, Nat.reduceAdd, Nat.reduceMul, Nat.reduceLeDiff, Nat.reduceLT, Nat.reduceEqDiff, Nat.reduceBEq, Nat.reduceSub, reduceCtorEq, reduceIte, Int.reduceToNat, Int.reduceLE, Int.reduceEq, Int.reduceNe, Int.reduceBEq, Int.reduceBNe, Int.reduceLT, Int.reduceGT, Int.reduceGE, Int.reduceNeg, ty_2, ty_3, ty_22, ty_28, ty_30, ty_37, ty_39, ty_56, us_len, gim_len, ints_len, a1, a2, al, b1, List.length_append]
  refine GOps.done (hK _ ?_); clear hK K
  refine End.keep [7, 20, 21, 22] ?_
  simp only [pk0, Nat.reduceBEq, reduceIte]
  refine Run.block ?_
  refine Run.ghost (Ghost.form [(7, .ms 0 1 (2 + inn.length + st.length)), (20, .im (.sl (n.gates.map LGate.im))), (21, .i n.gates.length), (22, .i (0 : Nat))] 2 ⟨rfl, rfl, rfl, rfl, trivial⟩ rfl rfl) ?_
  refine Run.loop (fun m s => ∃ (i : Nat) (v : List Int), m = n.gates.length - i ∧ i ≤ n.gates.length ∧ v.length = 2 + inn.length + st.length + i ∧ valsN (n.gates.drop i) v = valuesV n inn st ∧ s = ⟨[(7, .ms 0 1 v.length), (20, .im (.sl (n.gates.map LGate.im))), (21, .i n.gates.length), (22, .i (i : Nat))], [.box [.im (.sl (strs n.inn)), .im (.sl (strs n.out)), .im (.sl (n.flops.map LFlop.im)), .im (.sl (n.gates.map LGate.im)), .im (.sl (ints n.outs))], .row 37 1 (us v) 0], up⟩) n.gates.length ⟨0, [0, 18446744073709551615] ++ inn ++ st, rfl, by omega, by simp; omega, rfl, ?_⟩ fun m s hI => ?_
  · simp
    omega
  obtain ⟨i, v, rfl, hi, hvl, hV, rfl⟩ := hI
  have hav : (v.length + 1) * 8 ≤ 140737488355328 := by omega
  refine Run.seq ?_
  refine Run.region rfl fun K hK => GOps.run ?_
  simp only [lookupV, updateV, slicePV, pe0, pe1, pe2, pe3, pe4, pe5, pe6, pe7, pr0, pr1, Nat.reduceAdd, Nat.reduceMul, Nat.reduceLeDiff, Nat.reduceLT, Nat.reduceEqDiff, Nat.reduceBEq, Nat.reduceSub, reduceCtorEq, reduceIte, Int.reduceToNat, Int.reduceLE, Int.reduceEq, Int.reduceNe, Int.reduceBEq, Int.reduceBNe, Int.reduceLT, Int.reduceGT, Int.reduceGE, Int.reduceNeg, ty_2, ty_3, ty_22, ty_28, ty_30, ty_37, ty_39, ty_56, us_len, gim_len, ints_len, a1, a2, al, b1, List.length_append, hav]
  refine GOps.done (hK _ ?_); clear hK K
  refine End.keep [7, 20, 21, 22, 23] ?_
  simp only [pk0, Nat.reduceBEq, reduceIte]
  refine Run.seq ?_
  refine Run.cond _ rfl (fun hb => ?_) (fun hb => ?_)
  · have hb := of_decide_eq_true hb
    have hin : i < n.gates.length := by omega
    have wi := wsucc hin (by omega)
    obtain ⟨g, hgi, hgm, hg⟩ := gate_at n.gates i hin
    obtain ⟨e1, e2, e3⟩ := hn.gates i g hgi
    rw [gate_drop _ i g hgi, valsN] at hV
    refine Run.skip ?_
    refine End.keep [7, 20, 21, 22] ?_
    simp only [pk0, Nat.reduceBEq, reduceIte]
    refine Run.seq ?_
    refine Run.block ?_
    refine Run.seq ?_
    refine Run.region rfl fun K hK => GOps.run ?_
    simp only [lookupV, updateV, slicePV, pe0, pe1, pe2, pe3, pe4, pe5, pe6, pe7, pr0, pr1, Nat.reduceAdd, Nat.reduceMul, Nat.reduceLeDiff, Nat.reduceLT, Nat.reduceEqDiff, Nat.reduceBEq, Nat.reduceSub, reduceCtorEq, reduceIte, Int.reduceToNat, Int.reduceLE, Int.reduceEq, Int.reduceNe, Int.reduceBEq, Int.reduceBNe, Int.reduceLT, Int.reduceGT, Int.reduceGE, Int.reduceNeg, ty_2, ty_3, ty_22, ty_28, ty_30, ty_37, ty_39, ty_56, us_len, gim_len, ints_len, a1, a2, al, b1, List.length_append, hav, wi, hg, Int.natCast_nonneg, Int.toNat_natCast]
    refine GOps.done (hK _ ?_); clear hK K
    refine End.keep [7, 9, 20, 21, 22] ?_
    simp only [pk0, Nat.reduceBEq, reduceIte]
    refine Run.seq ?_
    refine Run.region rfl fun K hK => GOps.run ?_
    simp only [lookupV, updateV, slicePV, pe0, pe1, pe2, pe3, pe4, pe5, pe6, pe7, pr0, pr1, Nat.reduceAdd, Nat.reduceMul, Nat.reduceLeDiff, Nat.reduceLT, Nat.reduceEqDiff, Nat.reduceBEq, Nat.reduceSub, reduceCtorEq, reduceIte, Int.reduceToNat, Int.reduceLE, Int.reduceEq, Int.reduceNe, Int.reduceBEq, Int.reduceBNe, Int.reduceLT, Int.reduceGT, Int.reduceGE, Int.reduceNeg, ty_2, ty_3, ty_22, ty_28, ty_30, ty_37, ty_39, ty_56, us_len, gim_len, ints_len, a1, a2, al, b1, List.length_append, hav, wi, hg, Int.natCast_nonneg, Int.toNat_natCast]
    refine GOps.done (hK _ ?_); clear hK K
    refine End.keep [7, 9, 10, 20, 21, 22] ?_
    simp only [pk0, Nat.reduceBEq, reduceIte]
    refine Run.seq ?_
    refine Run.seq ?_
    refine Run.region rfl fun K hK => GOps.run ?_
    simp only [lookupV, updateV, slicePV, pe0, pe1, pe2, pe3, pe4, pe5, pe6, pe7, pr0, pr1, Nat.reduceAdd, Nat.reduceMul, Nat.reduceLeDiff, Nat.reduceLT, Nat.reduceEqDiff, Nat.reduceBEq, Nat.reduceSub, reduceCtorEq, reduceIte, Int.reduceToNat, Int.reduceLE, Int.reduceEq, Int.reduceNe, Int.reduceBEq, Int.reduceBNe, Int.reduceLT, Int.reduceGT, Int.reduceGE, Int.reduceNeg, ty_2, ty_3, ty_22, ty_28, ty_30, ty_37, ty_39, ty_56, us_len, gim_len, ints_len, a1, a2, al, b1, List.length_append, hav, wi, hg, Int.natCast_nonneg, Int.toNat_natCast]
    refine GOps.done (hK _ ?_); clear hK K
    refine End.keep [7, 9, 10, 20, 21, 22, 27, 28, 29] ?_
    simp only [pk0, Nat.reduceBEq, reduceIte]
    refine Run.block ?_
    refine Run.ghost (Ghost.thaw (u := 10) 37 1 (by decide) rfl) ?_
    refine Run.ghost (Ghost.form [(7, .ms 0 1 v.length), (9, .ptr 0 2 0), (10, .ms 0 3 0), (20, .im (.sl (n.gates.map LGate.im))), (21, .i n.gates.length), (22, .i (i : Nat)), (27, .im (.sl (ints g.ins))), (28, .i g.ins.length), (29, .i (0 : Nat))] 4 ⟨rfl, rfl, rfl, rfl, rfl, rfl, rfl, rfl, rfl, trivial⟩ rfl rfl) ?_
    refine Run.loop (fun m s => ∃ (q : Nat), m = g.ins.length - q ∧ q ≤ g.ins.length ∧ s = ⟨[(7, .ms 0 1 v.length), (9, .ptr 0 2 0), (10, .ms 0 3 q), (20, .im (.sl (n.gates.map LGate.im))), (21, .i n.gates.length), (22, .i (i : Nat)), (27, .im (.sl (ints g.ins))), (28, .i g.ins.length), (29, .i (q : Nat))], [.box [.im (.sl (strs n.inn)), .im (.sl (strs n.out)), .im (.sl (n.flops.map LFlop.im)), .im (.sl (n.gates.map LGate.im)), .im (.sl (ints n.outs))], .row 37 1 (us v) 0, .box [.im (.int .i64 (-1)), .im (.int .u64 g.table), .im (.sl (ints g.ins))], .row 37 1 (us ((g.ins.take q).map fun k => v.getD k.toNat 0)) 0], up⟩) g.ins.length ⟨0, rfl, by omega, rfl⟩ fun m s hI => ?_
    obtain ⟨q, rfl, hq, rfl⟩ := hI
    have hql : ((g.ins.take q).map fun k => v.getD k.toNat 0).length = q := by simp; omega
    have haq : (q + 1) * 8 ≤ 140737488355328 := by omega
    refine Run.seq ?_
    refine Run.region rfl fun K hK => GOps.run ?_
    simp only [lookupV, updateV, slicePV, pe0, pe1, pe2, pe3, pe4, pe5, pe6, pe7, pr0, pr1, Nat.reduceAdd, Nat.reduceMul, Nat.reduceLeDiff, Nat.reduceLT, Nat.reduceEqDiff, Nat.reduceBEq, Nat.reduceSub, reduceCtorEq, reduceIte, Int.reduceToNat, Int.reduceLE, Int.reduceEq, Int.reduceNe, Int.reduceBEq, Int.reduceBNe, Int.reduceLT, Int.reduceGT, Int.reduceGE, Int.reduceNeg, ty_2, ty_3, ty_22, ty_28, ty_30, ty_37, ty_39, ty_56, us_len, gim_len, ints_len, a1, a2, al, b1, List.length_append, hav, wi, hg, Int.natCast_nonneg, Int.toNat_natCast, hql, haq]
    refine GOps.done (hK _ ?_); clear hK K
    refine End.keep [7, 9, 10, 20, 21, 22, 27, 28, 29, 30] ?_
    simp only [pk0, Nat.reduceBEq, reduceIte]
    refine Run.seq ?_
    refine Run.cond _ rfl (fun hb => ?_) (fun hb => ?_)
    · have hb := of_decide_eq_true hb
      have hqn : q < g.ins.length := by omega
      have wq := wsucc hqn (by omega)
      obtain ⟨x, hxi, hxm, hx⟩ := int_at g.ins q hqn
      obtain ⟨x1, x2⟩ := e3 x hxm
      have hxl : x < (v.length : Int) := by omega
      have hvx := us_get v x.toNat (by omega)
      have htk := int_drop g.ins q x hxi
      refine Run.skip ?_
      refine End.keep [7, 9, 10, 20, 21, 22, 27, 28, 29] ?_
      simp only [pk0, Nat.reduceBEq, reduceIte]
      refine Run.seq ?_
      refine Run.block ?_
      refine Run.seq ?_
      refine Run.region rfl fun K hK => GOps.run ?_
      simp only [lookupV, updateV, slicePV, pe0, pe1, pe2, pe3, pe4, pe5, pe6, pe7, pr0, pr1, Nat.reduceAdd, Nat.reduceMul, Nat.reduceLeDiff, Nat.reduceLT, Nat.reduceEqDiff, Nat.reduceBEq, Nat.reduceSub, reduceCtorEq, reduceIte, Int.reduceToNat, Int.reduceLE, Int.reduceEq, Int.reduceNe, Int.reduceBEq, Int.reduceBNe, Int.reduceLT, Int.reduceGT, Int.reduceGE, Int.reduceNeg, ty_2, ty_3, ty_22, ty_28, ty_30, ty_37, ty_39, ty_56, us_len, gim_len, ints_len, a1, a2, al, b1, List.length_append, hav, wi, hg, Int.natCast_nonneg, Int.toNat_natCast, hql, haq, wq, hx, x1, hxl, hvx]
      refine GOps.done (hK _ ?_); clear hK K
      refine End.keep [7, 9, 10, 12, 20, 21, 22, 27, 28, 29] ?_
      simp only [pk0, Nat.reduceBEq, reduceIte]
      refine Run.region rfl fun K hK => GOps.run ?_
      simp only [lookupV, updateV, slicePV, pe0, pe1, pe2, pe3, pe4, pe5, pe6, pe7, pr0, pr1, Nat.reduceAdd, Nat.reduceMul, Nat.reduceLeDiff, Nat.reduceLT, Nat.reduceEqDiff, Nat.reduceBEq, Nat.reduceSub, reduceCtorEq, reduceIte, Int.reduceToNat, Int.reduceLE, Int.reduceEq, Int.reduceNe, Int.reduceBEq, Int.reduceBNe, Int.reduceLT, Int.reduceGT, Int.reduceGE, Int.reduceNeg, ty_2, ty_3, ty_22, ty_28, ty_30, ty_37, ty_39, ty_56, us_len, gim_len, ints_len, a1, a2, al, b1, List.length_append, hav, wi, hg, Int.natCast_nonneg, Int.toNat_natCast, hql, haq, wq, hx, x1, hxl, hvx]
      refine GOps.done (hK _ ?_); clear hK K
      refine End.blk ?_
      refine End.keep [7, 9, 10, 20, 21, 22, 27, 28, 29] ?_
      simp only [pk0, Nat.reduceBEq, reduceIte]
      refine Run.region rfl fun K hK => GOps.run ?_
      simp only [lookupV, updateV, slicePV, pe0, pe1, pe2, pe3, pe4, pe5, pe6, pe7, pr0, pr1, Nat.reduceAdd, Nat.reduceMul, Nat.reduceLeDiff, Nat.reduceLT, Nat.reduceEqDiff, Nat.reduceBEq, Nat.reduceSub, reduceCtorEq, reduceIte, Int.reduceToNat, Int.reduceLE, Int.reduceEq, Int.reduceNe, Int.reduceBEq, Int.reduceBNe, Int.reduceLT, Int.reduceGT, Int.reduceGE, Int.reduceNeg, ty_2, ty_3, ty_22, ty_28, ty_30, ty_37, ty_39, ty_56, us_len, gim_len, ints_len, a1, a2, al, b1, List.length_append, hav, wi, hg, Int.natCast_nonneg, Int.toNat_natCast, hql, haq, wq, hx, x1, hxl, hvx]
      refine GOps.done (hK _ ?_); clear hK K
      refine End.lp ?_
      refine ⟨g.ins.length - (q + 1), _, by omega, Ghost.form [(7, .ms 0 1 v.length), (9, .ptr 0 2 0), (10, .ms 0 3 (q + 1)), (20, .im (.sl (n.gates.map LGate.im))), (21, .i n.gates.length), (22, .i (i : Nat)), (27, .im (.sl (ints g.ins))), (28, .i g.ins.length), (29, .i (q + 1 : Nat))] 4 ⟨rfl, rfl, rfl, rfl, rfl, rfl, rfl, rfl, rfl, trivial⟩ rfl rfl, q + 1, rfl, by omega, ?_⟩
      rw [htk]
      simp
    · have hb := of_decide_eq_false hb
      have hqe : q = g.ins.length := by omega
      subst hqe
      rw [List.take_length] at hql ⊢
      refine Run.exit rfl ?_
      refine End.keep [7, 9, 10, 20, 21, 22] ?_
      simp only [pk0, Nat.reduceBEq, reduceIte]
      refine Run.region rfl fun K hK => GOps.run ?_
      simp only [lookupV, updateV, slicePV, pe0, pe1, pe2, pe3, pe4, pe5, pe6, pe7, pr0, pr1, Nat.reduceAdd, Nat.reduceMul, Nat.reduceLeDiff, Nat.reduceLT, Nat.reduceEqDiff, Nat.reduceBEq, Nat.reduceSub, reduceCtorEq, reduceIte, Int.reduceToNat, Int.reduceLE, Int.reduceEq, Int.reduceNe, Int.reduceBEq, Int.reduceBNe, Int.reduceLT, Int.reduceGT, Int.reduceGE, Int.reduceNeg, ty_2, ty_3, ty_22, ty_28, ty_30, ty_37, ty_39, ty_56, us_len, gim_len, ints_len, a1, a2, al, b1, List.length_append, hav, wi, hg, Int.natCast_nonneg, Int.toNat_natCast, hql, haq]
      refine GOps.call rfl rfl rfl rfl (by kernel_rfl) ?_  -- call F135(t43, t44)  37,56
      simp only [lookupV, updateV, slicePV, pe0, pe1, pe2, pe3, pe4, pe5, pe6, pe7, pr0, pr1, Nat.reduceAdd, Nat.reduceMul, Nat.reduceLeDiff, Nat.reduceLT, Nat.reduceEqDiff, Nat.reduceBEq, Nat.reduceSub, reduceCtorEq, reduceIte, Int.reduceToNat, Int.reduceLE, Int.reduceEq, Int.reduceNe, Int.reduceBEq, Int.reduceBNe, Int.reduceLT, Int.reduceGT, Int.reduceGE, Int.reduceNeg, ty_2, ty_3, ty_22, ty_28, ty_30, ty_37, ty_39, ty_56, us_len, gim_len, ints_len, a1, a2, al, b1, List.length_append, hav, wi, hg, Int.natCast_nonneg, Int.toNat_natCast, hql, haq]
      refine (look_ok g.table (g.ins.map fun k => v.getD k.toNat 0) (by simpa using e1) _).mono fun v u hv => ?_
      obtain ⟨rfl, rfl⟩ := hv
      refine ⟨_, _, rfl, GOps.run ?_⟩
      simp only [lookupV, updateV, slicePV, pe0, pe1, pe2, pe3, pe4, pe5, pe6, pe7, pr0, pr1, Nat.reduceAdd, Nat.reduceMul, Nat.reduceLeDiff, Nat.reduceLT, Nat.reduceEqDiff, Nat.reduceBEq, Nat.reduceSub, reduceCtorEq, reduceIte, Int.reduceToNat, Int.reduceLE, Int.reduceEq, Int.reduceNe, Int.reduceBEq, Int.reduceBNe, Int.reduceLT, Int.reduceGT, Int.reduceGE, Int.reduceNeg, ty_2, ty_3, ty_22, ty_28, ty_30, ty_37, ty_39, ty_56, us_len, gim_len, ints_len, a1, a2, al, b1, List.length_append, hav, wi, hg, Int.natCast_nonneg, Int.toNat_natCast, hql, haq]
      refine GOps.done (hK _ ?_); clear hK K
      refine End.blk ?_
      refine End.keep [7, 20, 21, 22] ?_
      simp only [pk0, Nat.reduceBEq, reduceIte]
      refine Run.region rfl fun K hK => GOps.run ?_
      simp only [lookupV, updateV, slicePV, pe0, pe1, pe2, pe3, pe4, pe5, pe6, pe7, pr0, pr1, Nat.reduceAdd, Nat.reduceMul, Nat.reduceLeDiff, Nat.reduceLT, Nat.reduceEqDiff, Nat.reduceBEq, Nat.reduceSub, reduceCtorEq, reduceIte, Int.reduceToNat, Int.reduceLE, Int.reduceEq, Int.reduceNe, Int.reduceBEq, Int.reduceBNe, Int.reduceLT, Int.reduceGT, Int.reduceGE, Int.reduceNeg, ty_2, ty_3, ty_22, ty_28, ty_30, ty_37, ty_39, ty_56, us_len, gim_len, ints_len, a1, a2, al, b1, List.length_append, hav, wi, hg, Int.natCast_nonneg, Int.toNat_natCast, hql, haq]
      refine GOps.done (hK _ ?_); clear hK K
      refine End.lp ?_
      refine ⟨n.gates.length - (i + 1), _, by omega, Ghost.form [(7, .ms 0 1 (v.length + 1)), (20, .im (.sl (n.gates.map LGate.im))), (21, .i n.gates.length), (22, .i (i + 1 : Nat))] 2 ⟨rfl, rfl, rfl, rfl, trivial⟩ rfl rfl, i + 1, v ++ [gateVal g v], rfl, by omega, by simp; omega, hV, ?_⟩
      simp [gateVal]
  · have hb := of_decide_eq_false hb
    have hiN : i = n.gates.length := by omega
    subst hiN
    rw [List.drop_length, valsN] at hV
    refine Run.exit rfl ?_
    refine End.keep [7] ?_
    simp only [pk0, Nat.reduceBEq, reduceIte]
    refine Run.seq ?_
    refine Run.ghost (Ghost.shut (t := 7) (j := 1) rfl rfl (us_len v)) ?_
    simp only [eput, edel]
    refine Run.region rfl fun K hK => GOps.run ?_
    simp only [lookupV, updateV, slicePV, pe0, pe1, pe2, pe3, pe4, pe5, pe6, pe7, pr0, pr1, Nat.reduceAdd, Nat.reduceMul, Nat.reduceLeDiff, Nat.reduceLT, Nat.reduceEqDiff, Nat.reduceBEq, Nat.reduceSub, reduceCtorEq, reduceIte, Int.reduceToNat, Int.reduceLE, Int.reduceEq, Int.reduceNe, Int.reduceBEq, Int.reduceBNe, Int.reduceLT, Int.reduceGT, Int.reduceGE, Int.reduceNeg, ty_2, ty_3, ty_22, ty_28, ty_30, ty_37, ty_39, ty_56, us_len, gim_len, ints_len, a1, a2, al, b1, List.length_append, hav]
    refine GOps.done (hK _ ?_); clear hK K
    refine End.keep [6] ?_
    simp only [pk0, Nat.reduceBEq, reduceIte]
    refine Run.ret (hQ _ _ ⟨.inr rfl, _, rfl, _, rfl, ?_⟩)
    exact ⟨by rw [hV], rfl⟩
theorem NValues_ok (n : LNet) (hn : NetOk n) (inn st : List Int) (h1 : inn.length = n.inn.length) (h2 : st.length = n.flops.length) (up : Frs) : ACalls Try.prog 32 [n.pv, .im (.sl (us inn)), .im (.sl (us st))] up fun v u => v = .tup [.im (.sl (us (valuesV n inn st))), .i 0] ∧ u = up := by
  have d1 : ((inn.length : Int) != n.inn.length) = false := by rw [h1]; simp
  have d2 : ((st.length : Int) != n.flops.length) = false := by rw [h2]; simp
  refine ACalls.code Try.func32 rfl 32 rfl (by simp) [.tmp 6, .tmp 7] rfl fun Q hQ => ?_
  simp only [ups, PV.up, argEnv]
  refine Run.seq ?_
  refine Run.region rfl fun K hK => GOps.run ?_
  simp only [lookupV, updateV, slicePV, pe0, pe1, pe2, pe3, pe4, pe5, pe6, pe7, pr0, pr1, Nat.reduceAdd, Nat.reduceMul, Nat.reduceLeDiff, Nat.reduceLT, Nat.reduceEqDiff, Nat.reduceBEq, Nat.reduceSub, reduceCtorEq, reduceIte, Int.reduceToNat, Int.reduceLE, Int.reduceEq, Int.reduceNe, Int.reduceBEq, Int.reduceBNe, Int.reduceLT, Int.reduceGT, Int.reduceGE, Int.reduceNeg, ty_2, ty_3, ty_4, ty_9, ty_26, ty_27, ty_30, ty_34, ty_37, ty_56, ty_78, us_len, strs_len, fim_len, d1, d2]
  refine GOps.done (hK _ ?_); clear hK K
  refine End.keep [1, 2, 3] ?_
  simp only [pk0, Nat.reduceBEq, reduceIte]
  refine Run.seq ?_
  refine Run.seq ?_
  refine Run.region rfl fun K hK => GOps.run ?_
  simp only [lookupV, updateV, slicePV, pe0, pe1, pe2, pe3, pe4, pe5, pe6, pe7, pr0, pr1, Nat.reduceAdd, Nat.reduceMul, Nat.reduceLeDiff, Nat.reduceLT, Nat.reduceEqDiff, Nat.reduceBEq, Nat.reduceSub, reduceCtorEq, reduceIte, Int.reduceToNat, Int.reduceLE, Int.reduceEq, Int.reduceNe, Int.reduceBEq, Int.reduceBNe, Int.reduceLT, Int.reduceGT, Int.reduceGE, Int.reduceNeg, ty_2, ty_3, ty_4, ty_9, ty_26, ty_27, ty_30, ty_34, ty_37, ty_56, ty_78, us_len, strs_len, fim_len, d1, d2]
  refine GOps.call rfl rfl rfl rfl (by kernel_rfl) ?_  -- call F78(t9)  30
  simp only [lookupV, updateV, slicePV, pe0, pe1, pe2, pe3, pe4, pe5, pe6, pe7, pr0, pr1, Nat.reduceAdd, Nat.reduceMul, Nat.reduceLeDiff, Nat.reduceLT, Nat.reduceEqDiff, Nat.reduceBEq, Nat.reduceSub, reduceCtorEq, reduceIte, Int.reduceToNat, Int.reduceLE, Int.reduceEq, Int.reduceNe, Int.reduceBEq, Int.reduceBNe, Int.reduceLT, Int.reduceGT, Int.reduceGE, Int.reduceNeg, ty_2, ty_3, ty_4, ty_9, ty_26, ty_27, ty_30, ty_34, ty_37, ty_56, ty_78, us_len, strs_len, fim_len, d1, d2]
  refine (Form_ok n hn _).mono fun v u hv => ?_
  obtain ⟨rfl, rfl⟩ := hv
  refine ⟨_, _, rfl, GOps.run ?_⟩
  simp only [lookupV, updateV, slicePV, pe0, pe1, pe2, pe3, pe4, pe5, pe6, pe7, pr0, pr1, Nat.reduceAdd, Nat.reduceMul, Nat.reduceLeDiff, Nat.reduceLT, Nat.reduceEqDiff, Nat.reduceBEq, Nat.reduceSub, reduceCtorEq, reduceIte, Int.reduceToNat, Int.reduceLE, Int.reduceEq, Int.reduceNe, Int.reduceBEq, Int.reduceBNe, Int.reduceLT, Int.reduceGT, Int.reduceGE, Int.reduceNeg, ty_2, ty_3, ty_4, ty_9, ty_26, ty_27, ty_30, ty_34, ty_37, ty_56, ty_78, us_len, strs_len, fim_len, d1, d2]
  refine GOps.done (hK _ ?_); clear hK K
  refine End.keep [1, 2, 3, 8] ?_
  simp only [pk0, Nat.reduceBEq, reduceIte]
  refine Run.seq ?_
  refine Run.region rfl fun K hK => GOps.run ?_
  simp only [lookupV, updateV, slicePV, pe0, pe1, pe2, pe3, pe4, pe5, pe6, pe7, pr0, pr1, Nat.reduceAdd, Nat.reduceMul, Nat.reduceLeDiff, Nat.reduceLT, Nat.reduceEqDiff, Nat.reduceBEq, Nat.reduceSub, reduceCtorEq, reduceIte, Int.reduceToNat, Int.reduceLE, Int.reduceEq, Int.reduceNe, Int.reduceBEq, Int.reduceBNe, Int.reduceLT, Int.reduceGT, Int.reduceGE, Int.reduceNeg, ty_2, ty_3, ty_4, ty_9, ty_26, ty_27, ty_30, ty_34, ty_37, ty_56, ty_78, us_len, strs_len, fim_len, d1, d2]
  refine GOps.done (hK _ ?_); clear hK K
  refine End.keep [1, 2, 3, 8, 12] ?_
  simp only [pk0, Nat.reduceBEq, reduceIte]
  refine Run.cond _ rfl (fun hb => ?_) (fun hb => ?_)
  · have hb := hb
    simp at hb
  · have hb := hb
    refine Run.skip ?_
    refine End.keep [1, 2, 3] ?_
    simp only [pk0, Nat.reduceBEq, reduceIte]
    refine Run.seq ?_
    refine Run.seq ?_
    refine Run.region rfl fun K hK => GOps.run ?_
    simp only [lookupV, updateV, slicePV, pe0, pe1, pe2, pe3, pe4, pe5, pe6, pe7, pr0, pr1, Nat.reduceAdd, Nat.reduceMul, Nat.reduceLeDiff, Nat.reduceLT, Nat.reduceEqDiff, Nat.reduceBEq, Nat.reduceSub, reduceCtorEq, reduceIte, Int.reduceToNat, Int.reduceLE, Int.reduceEq, Int.reduceNe, Int.reduceBEq, Int.reduceBNe, Int.reduceLT, Int.reduceGT, Int.reduceGE, Int.reduceNeg, ty_2, ty_3, ty_4, ty_9, ty_26, ty_27, ty_30, ty_34, ty_37, ty_56, ty_78, us_len, strs_len, fim_len, d1, d2]
    refine GOps.done (hK _ ?_); clear hK K
    refine End.keep [1, 2, 3, 27] ?_
    simp only [pk0, Nat.reduceBEq, reduceIte]
    refine Run.cond _ rfl (fun hb => ?_) (fun hb => ?_)
    · have hb := hb
      simp at hb
    · have hb := hb
      refine Run.skip ?_
      refine End.keep [1, 2, 3] ?_
      simp only [pk0, Nat.reduceBEq, reduceIte]
      refine Run.seq ?_
      refine Run.region rfl fun K hK => GOps.run ?_
      simp only [lookupV, updateV, slicePV, pe0, pe1, pe2, pe3, pe4, pe5, pe6, pe7, pr0, pr1, Nat.reduceAdd, Nat.reduceMul, Nat.reduceLeDiff, Nat.reduceLT, Nat.reduceEqDiff, Nat.reduceBEq, Nat.reduceSub, reduceCtorEq, reduceIte, Int.reduceToNat, Int.reduceLE, Int.reduceEq, Int.reduceNe, Int.reduceBEq, Int.reduceBNe, Int.reduceLT, Int.reduceGT, Int.reduceGE, Int.reduceNeg, ty_2, ty_3, ty_4, ty_9, ty_26, ty_27, ty_30, ty_34, ty_37, ty_56, ty_78, us_len, strs_len, fim_len, d1, d2]
      refine GOps.call rfl rfl rfl rfl (by kernel_rfl) ?_  -- call F90(t28, t29, t30)  30,56,56
      simp only [lookupV, updateV, slicePV, pe0, pe1, pe2, pe3, pe4, pe5, pe6, pe7, pr0, pr1, Nat.reduceAdd, Nat.reduceMul, Nat.reduceLeDiff, Nat.reduceLT, Nat.reduceEqDiff, Nat.reduceBEq, Nat.reduceSub, reduceCtorEq, reduceIte, Int.reduceToNat, Int.reduceLE, Int.reduceEq, Int.reduceNe, Int.reduceBEq, Int.reduceBNe, Int.reduceLT, Int.reduceGT, Int.reduceGE, Int.reduceNeg, ty_2, ty_3, ty_4, ty_9, ty_26, ty_27, ty_30, ty_34, ty_37, ty_56, ty_78, us_len, strs_len, fim_len, d1, d2]
      refine (values_ok n hn inn st h1 h2 _).mono fun v u hv => ?_
      obtain ⟨rfl, rfl⟩ := hv
      refine ⟨_, _, rfl, GOps.run ?_⟩
      simp only [lookupV, updateV, slicePV, pe0, pe1, pe2, pe3, pe4, pe5, pe6, pe7, pr0, pr1, Nat.reduceAdd, Nat.reduceMul, Nat.reduceLeDiff, Nat.reduceLT, Nat.reduceEqDiff, Nat.reduceBEq, Nat.reduceSub, reduceCtorEq, reduceIte, Int.reduceToNat, Int.reduceLE, Int.reduceEq, Int.reduceNe, Int.reduceBEq, Int.reduceBNe, Int.reduceLT, Int.reduceGT, Int.reduceGE, Int.reduceNeg, ty_2, ty_3, ty_4, ty_9, ty_26, ty_27, ty_30, ty_34, ty_37, ty_56, ty_78, us_len, strs_len, fim_len, d1, d2]
      refine GOps.done (hK _ ?_); clear hK K
      refine End.keep [6, 7] ?_
      simp only [pk0, Nat.reduceBEq, reduceIte]
      refine Run.ret (hQ _ _ ⟨.inr rfl, _, rfl, _, rfl, ?_⟩)
      exact ⟨rfl, rfl⟩
end Go.Proofs.YtkmnmokjlpenhaaPi
