/- The walk of NetlistHolds. -/
import Derived.Test.YtkmnmokjlpenhaaWK
set_option linter.unusedVariables false
set_option linter.unusedSimpArgs false
set_option maxRecDepth 100000
namespace Go.Proofs.YtkmnmokjlpenhaaPi

/-- What the law asks of a netlist and its values: in plain words, no program in sight. -/
def HoldsAt (n : LNet) (inn st : List Bool) : Prop :=
  ∀ (i : Nat) (f : LFlop), n.flops[i]? = some f →
    ((nextsF n (valuesV n (lanes0 inn) (lanes0 st)) 0 n.flops).map fun w => bits .and .u64 w 1 == 1).getD i false =
      if bits .and .u64 ((valuesV n (lanes0 inn) (lanes0 st)).getD f.en.toNat 0) 1 == 1 then bits .and .u64 ((valuesV n (lanes0 inn) (lanes0 st)).getD f.d.toNat 0) 1 == 1 else st.getD i false
theorem Holds_walk (l : List Int) (hs : StmOk l 0)
    (hnet : ∀ (ins flops gates outs : Nat) (a : Int), ins ≤ 4 → flops ≤ 4 → gates ≤ 11 → outs ≤ 3 → NetOk (netlistV l a ins flops gates outs).1 ∧ 0 ≤ (netlistV l a ins flops gates outs).2 - a ∧ (netlistV l a ins flops gates outs).2 ≤ a + 1000)
    (hlaw : ∀ (n : LNet) (inn st : List Bool), NetOk n → inn.length = n.inn.length → st.length = n.flops.length → HoldsAt n inn st) (up : Frs) : ACalls Try.prog 5 [.im (.sl (ints l))] up fun v u => v = .im (.bool true) ∧ u = up := by
  obtain ⟨r1, s1⟩ := nextV_range l 0 5 (by omega)
  obtain ⟨r2, s2⟩ := nextV_range l (0 + 1) (4 - 1 + 1) (by omega)
  obtain ⟨r3, s3⟩ := nextV_range l (0 + 1 + 1) 12 (by omega)
  obtain ⟨r4, s4⟩ := nextV_range l (0 + 1 + 1 + 1) 4 (by omega)
  obtain ⟨ins, e1⟩ : ∃ k : Nat, nextV l 0 5 = k := ⟨(nextV l 0 5).toNat, by omega⟩
  obtain ⟨flops, e2⟩ : ∃ k : Nat, 1 + nextV l (0 + 1) (4 - 1 + 1) = k := ⟨(1 + nextV l (0 + 1) (4 - 1 + 1)).toNat, by omega⟩
  obtain ⟨gates, e3⟩ : ∃ k : Nat, nextV l (0 + 1 + 1) 12 = k := ⟨(nextV l (0 + 1 + 1) 12).toNat, by omega⟩
  obtain ⟨outs, e4⟩ : ∃ k : Nat, nextV l (0 + 1 + 1 + 1) 4 = k := ⟨(nextV l (0 + 1 + 1 + 1) 4).toNat, by omega⟩
  have ok : ∀ b : Int, 0 ≤ b → b ≤ 100000 → StmOk l b := fun b h1 h2 => ⟨hs.vals, hs.len, h1, by omega⟩
  obtain ⟨hn, hb1, hb2⟩ := hnet ins flops gates outs (0 + 1 + 1 + 1 + 1) (by omega) (by omega) (by omega) (by omega)
  have hNet := Netlist_ok ins flops gates outs (by omega) (by omega) (by omega) (by omega) l (0 + 1 + 1 + 1 + 1) (ok _ (by omega) (by omega)) (by omega)
  generalize netlistV l (0 + 1 + 1 + 1 + 1) ins flops gates outs = NV at hn hb1 hb2 hNet
  obtain ⟨n, b⟩ := NV
  simp only at hn hb1 hb2 hNet
  obtain ⟨z1, z2, z3, z4, z5⟩ := hn.small
  refine ACalls.code Try.func5 rfl 113 rfl (by simp) [.tmp 2] rfl fun Q hQ => ?_
  simp only [ups, PV.up, argEnv]
  refine Run.seq ?_
  refine Run.region rfl fun K hK => GOps.run ?_
  simp only [lookupV, updateV, slicePV, pe0, pe1, pe2, pe3, pe4, pe5, pe6, pe7, pr0, pr1, Nat.reduceAdd, Nat.reduceMul, Nat.reduceLeDiff, Nat.reduceLT, Nat.reduceEqDiff, Nat.reduceBEq, Nat.reduceSub, reduceCtorEq, reduceIte, Int.reduceToNat, Int.reduceLE, Int.reduceEq, Int.reduceNe, Int.reduceBEq, Int.reduceBNe, Int.reduceLT, Int.reduceGT, Int.reduceGE, Int.reduceNeg, ty_2, ty_3, ty_4, ty_9, ty_22, ty_23, ty_25, ty_26, ty_27, ty_30, ty_34, ty_37, ty_56, ty_71, ty_78, e1, e2, e3, e4, strs_len, fim_len]
  refine GOps.done (hK _ ?_); clear hK K
  refine End.keep [0] ?_
  simp only [pk0, Nat.reduceBEq, reduceIte]
  refine Run.seq ?_
  refine Run.region rfl fun K hK => GOps.run ?_
  simp only [lookupV, updateV, slicePV, pe0, pe1, pe2, pe3, pe4, pe5, pe6, pe7, pr0, pr1, Nat.reduceAdd, Nat.reduceMul, Nat.reduceLeDiff, Nat.reduceLT, Nat.reduceEqDiff, Nat.reduceBEq, Nat.reduceSub, reduceCtorEq, reduceIte, Int.reduceToNat, Int.reduceLE, Int.reduceEq, Int.reduceNe, Int.reduceBEq, Int.reduceBNe, Int.reduceLT, Int.reduceGT, Int.reduceGE, Int.reduceNeg, ty_2, ty_3, ty_4, ty_9, ty_22, ty_23, ty_25, ty_26, ty_27, ty_30, ty_34, ty_37, ty_56, ty_71, ty_78, e1, e2, e3, e4, strs_len, fim_len]
  refine GOps.done (hK _ ?_); clear hK K
  refine End.keep [3] ?_
  simp only [pk0, Nat.reduceBEq, reduceIte]
  refine Run.seq ?_
  refine Run.region rfl fun K hK => GOps.run ?_
  simp only [lookupV, updateV, slicePV, pe0, pe1, pe2, pe3, pe4, pe5, pe6, pe7, pr0, pr1, Nat.reduceAdd, Nat.reduceMul, Nat.reduceLeDiff, Nat.reduceLT, Nat.reduceEqDiff, Nat.reduceBEq, Nat.reduceSub, reduceCtorEq, reduceIte, Int.reduceToNat, Int.reduceLE, Int.reduceEq, Int.reduceNe, Int.reduceBEq, Int.reduceBNe, Int.reduceLT, Int.reduceGT, Int.reduceGE, Int.reduceNeg, ty_2, ty_3, ty_4, ty_9, ty_22, ty_23, ty_25, ty_26, ty_27, ty_30, ty_34, ty_37, ty_56, ty_71, ty_78, e1, e2, e3, e4, strs_len, fim_len]
  refine GOps.call rfl rfl rfl rfl (by kernel_rfl) ?_  -- call F16(t19, 5)  23,3
  simp only [lookupV, updateV, slicePV, pe0, pe1, pe2, pe3, pe4, pe5, pe6, pe7, pr0, pr1, Nat.reduceAdd, Nat.reduceMul, Nat.reduceLeDiff, Nat.reduceLT, Nat.reduceEqDiff, Nat.reduceBEq, Nat.reduceSub, reduceCtorEq, reduceIte, Int.reduceToNat, Int.reduceLE, Int.reduceEq, Int.reduceNe, Int.reduceBEq, Int.reduceBNe, Int.reduceLT, Int.reduceGT, Int.reduceGE, Int.reduceNeg, ty_2, ty_3, ty_4, ty_9, ty_22, ty_23, ty_25, ty_26, ty_27, ty_30, ty_34, ty_37, ty_56, ty_71, ty_78, e1, e2, e3, e4, strs_len, fim_len]
  refine (Next_ok l 0 5 hs (by omega) _ 0 0 rfl).mono fun v u hv => ?_
  obtain ⟨rfl, rfl⟩ := hv
  refine ⟨_, _, rfl, GOps.run ?_⟩
  simp only [lookupV, updateV, slicePV, pe0, pe1, pe2, pe3, pe4, pe5, pe6, pe7, pr0, pr1, Nat.reduceAdd, Nat.reduceMul, Nat.reduceLeDiff, Nat.reduceLT, Nat.reduceEqDiff, Nat.reduceBEq, Nat.reduceSub, reduceCtorEq, reduceIte, Int.reduceToNat, Int.reduceLE, Int.reduceEq, Int.reduceNe, Int.reduceBEq, Int.reduceBNe, Int.reduceLT, Int.reduceGT, Int.reduceGE, Int.reduceNeg, ty_2, ty_3, ty_4, ty_9, ty_22, ty_23, ty_25, ty_26, ty_27, ty_30, ty_34, ty_37, ty_56, ty_71, ty_78, e1, e2, e3, e4, strs_len, fim_len]
  refine GOps.call rfl rfl rfl rfl (by kernel_rfl) ?_  -- call F30(t21, 1, 4)  23,3,3
  simp only [lookupV, updateV, slicePV, pe0, pe1, pe2, pe3, pe4, pe5, pe6, pe7, pr0, pr1, Nat.reduceAdd, Nat.reduceMul, Nat.reduceLeDiff, Nat.reduceLT, Nat.reduceEqDiff, Nat.reduceBEq, Nat.reduceSub, reduceCtorEq, reduceIte, Int.reduceToNat, Int.reduceLE, Int.reduceEq, Int.reduceNe, Int.reduceBEq, Int.reduceBNe, Int.reduceLT, Int.reduceGT, Int.reduceGE, Int.reduceNeg, ty_2, ty_3, ty_4, ty_9, ty_22, ty_23, ty_25, ty_26, ty_27, ty_30, ty_34, ty_37, ty_56, ty_71, ty_78, e1, e2, e3, e4, strs_len, fim_len]
  refine (Range_ok 1 4 (by omega) (by omega) (by omega) l (0 + 1) (ok _ (by omega) (by omega)) (by omega) _ 0 0 rfl).mono fun v u hv => ?_
  obtain ⟨rfl, rfl⟩ := hv
  refine ⟨_, _, rfl, GOps.run ?_⟩
  simp only [lookupV, updateV, slicePV, pe0, pe1, pe2, pe3, pe4, pe5, pe6, pe7, pr0, pr1, Nat.reduceAdd, Nat.reduceMul, Nat.reduceLeDiff, Nat.reduceLT, Nat.reduceEqDiff, Nat.reduceBEq, Nat.reduceSub, reduceCtorEq, reduceIte, Int.reduceToNat, Int.reduceLE, Int.reduceEq, Int.reduceNe, Int.reduceBEq, Int.reduceBNe, Int.reduceLT, Int.reduceGT, Int.reduceGE, Int.reduceNeg, ty_2, ty_3, ty_4, ty_9, ty_22, ty_23, ty_25, ty_26, ty_27, ty_30, ty_34, ty_37, ty_56, ty_71, ty_78, e1, e2, e3, e4, strs_len, fim_len]
  refine GOps.call rfl rfl rfl rfl (by kernel_rfl) ?_  -- call F16(t23, 12)  23,3
  simp only [lookupV, updateV, slicePV, pe0, pe1, pe2, pe3, pe4, pe5, pe6, pe7, pr0, pr1, Nat.reduceAdd, Nat.reduceMul, Nat.reduceLeDiff, Nat.reduceLT, Nat.reduceEqDiff, Nat.reduceBEq, Nat.reduceSub, reduceCtorEq, reduceIte, Int.reduceToNat, Int.reduceLE, Int.reduceEq, Int.reduceNe, Int.reduceBEq, Int.reduceBNe, Int.reduceLT, Int.reduceGT, Int.reduceGE, Int.reduceNeg, ty_2, ty_3, ty_4, ty_9, ty_22, ty_23, ty_25, ty_26, ty_27, ty_30, ty_34, ty_37, ty_56, ty_71, ty_78, e1, e2, e3, e4, strs_len, fim_len]
  refine (Next_ok l (0 + 1 + 1) 12 (ok _ (by omega) (by omega)) (by omega) _ 0 0 rfl).mono fun v u hv => ?_
  obtain ⟨rfl, rfl⟩ := hv
  refine ⟨_, _, rfl, GOps.run ?_⟩
  simp only [lookupV, updateV, slicePV, pe0, pe1, pe2, pe3, pe4, pe5, pe6, pe7, pr0, pr1, Nat.reduceAdd, Nat.reduceMul, Nat.reduceLeDiff, Nat.reduceLT, Nat.reduceEqDiff, Nat.reduceBEq, Nat.reduceSub, reduceCtorEq, reduceIte, Int.reduceToNat, Int.reduceLE, Int.reduceEq, Int.reduceNe, Int.reduceBEq, Int.reduceBNe, Int.reduceLT, Int.reduceGT, Int.reduceGE, Int.reduceNeg, ty_2, ty_3, ty_4, ty_9, ty_22, ty_23, ty_25, ty_26, ty_27, ty_30, ty_34, ty_37, ty_56, ty_71, ty_78, e1, e2, e3, e4, strs_len, fim_len]
  refine GOps.call rfl rfl rfl rfl (by kernel_rfl) ?_  -- call F16(t25, 4)  23,3
  simp only [lookupV, updateV, slicePV, pe0, pe1, pe2, pe3, pe4, pe5, pe6, pe7, pr0, pr1, Nat.reduceAdd, Nat.reduceMul, Nat.reduceLeDiff, Nat.reduceLT, Nat.reduceEqDiff, Nat.reduceBEq, Nat.reduceSub, reduceCtorEq, reduceIte, Int.reduceToNat, Int.reduceLE, Int.reduceEq, Int.reduceNe, Int.reduceBEq, Int.reduceBNe, Int.reduceLT, Int.reduceGT, Int.reduceGE, Int.reduceNeg, ty_2, ty_3, ty_4, ty_9, ty_22, ty_23, ty_25, ty_26, ty_27, ty_30, ty_34, ty_37, ty_56, ty_71, ty_78, e1, e2, e3, e4, strs_len, fim_len]
  refine (Next_ok l (0 + 1 + 1 + 1) 4 (ok _ (by omega) (by omega)) (by omega) _ 0 0 rfl).mono fun v u hv => ?_
  obtain ⟨rfl, rfl⟩ := hv
  refine ⟨_, _, rfl, GOps.run ?_⟩
  simp only [lookupV, updateV, slicePV, pe0, pe1, pe2, pe3, pe4, pe5, pe6, pe7, pr0, pr1, Nat.reduceAdd, Nat.reduceMul, Nat.reduceLeDiff, Nat.reduceLT, Nat.reduceEqDiff, Nat.reduceBEq, Nat.reduceSub, reduceCtorEq, reduceIte, Int.reduceToNat, Int.reduceLE, Int.reduceEq, Int.reduceNe, Int.reduceBEq, Int.reduceBNe, Int.reduceLT, Int.reduceGT, Int.reduceGE, Int.reduceNeg, ty_2, ty_3, ty_4, ty_9, ty_22, ty_23, ty_25, ty_26, ty_27, ty_30, ty_34, ty_37, ty_56, ty_71, ty_78, e1, e2, e3, e4, strs_len, fim_len]
  refine GOps.call rfl rfl rfl rfl (by kernel_rfl) ?_  -- call F15(t18, t20, t22, t24, t26)  23,3,3,3,3
  simp only [lookupV, updateV, slicePV, pe0, pe1, pe2, pe3, pe4, pe5, pe6, pe7, pr0, pr1, Nat.reduceAdd, Nat.reduceMul, Nat.reduceLeDiff, Nat.reduceLT, Nat.reduceEqDiff, Nat.reduceBEq, Nat.reduceSub, reduceCtorEq, reduceIte, Int.reduceToNat, Int.reduceLE, Int.reduceEq, Int.reduceNe, Int.reduceBEq, Int.reduceBNe, Int.reduceLT, Int.reduceGT, Int.reduceGE, Int.reduceNeg, ty_2, ty_3, ty_4, ty_9, ty_22, ty_23, ty_25, ty_26, ty_27, ty_30, ty_34, ty_37, ty_56, ty_71, ty_78, e1, e2, e3, e4, strs_len, fim_len]
  refine (hNet _ 0 0 rfl).mono fun v u hv => ?_
  obtain ⟨rfl, rfl⟩ := hv
  refine ⟨_, _, rfl, GOps.run ?_⟩
  simp only [lookupV, updateV, slicePV, pe0, pe1, pe2, pe3, pe4, pe5, pe6, pe7, pr0, pr1, Nat.reduceAdd, Nat.reduceMul, Nat.reduceLeDiff, Nat.reduceLT, Nat.reduceEqDiff, Nat.reduceBEq, Nat.reduceSub, reduceCtorEq, reduceIte, Int.reduceToNat, Int.reduceLE, Int.reduceEq, Int.reduceNe, Int.reduceBEq, Int.reduceBNe, Int.reduceLT, Int.reduceGT, Int.reduceGE, Int.reduceNeg, ty_2, ty_3, ty_4, ty_9, ty_22, ty_23, ty_25, ty_26, ty_27, ty_30, ty_34, ty_37, ty_56, ty_71, ty_78, e1, e2, e3, e4, strs_len, fim_len]
  refine GOps.done (hK _ ?_); clear hK K
  refine End.keep [3, 4] ?_
  simp only [pk0, Nat.reduceBEq, reduceIte]
  refine Run.seq ?_
  refine Run.draw [[], [], [1], [1, 2], [0, 1, 2, 3], [], [], [6], [6, 7], [0, 1, 2, 3, 4, 5, 6, 7, 8], [0, 1, 2, 3, 4, 5, 6, 7, 8, 9], [0, 1, 2, 3, 4, 5, 6, 7, 8, 9, 10]] (by kernel_rfl) rfl (by kernel_rfl) (by kernel_rfl) fun K hK => DOps.run ?_
  simp only [lookupV, updateV, slicePV, pe0, pe1, pe2, pe3, pe4, pe5, pe6, pe7, pr0, pr1, Nat.reduceAdd, Nat.reduceMul, Nat.reduceLeDiff, Nat.reduceLT, Nat.reduceEqDiff, Nat.reduceBEq, Nat.reduceSub, reduceCtorEq, reduceIte, Int.reduceToNat, Int.reduceLE, Int.reduceEq, Int.reduceNe, Int.reduceBEq, Int.reduceBNe, Int.reduceLT, Int.reduceGT, Int.reduceGE, Int.reduceNeg, ty_2, ty_3, ty_4, ty_9, ty_22, ty_23, ty_25, ty_26, ty_27, ty_30, ty_34, ty_37, ty_56, ty_71, ty_78, e1, e2, e3, e4, strs_len, fim_len]
  refine DOps.call (.im (.sl (bools (valsV l n.inn.length b)))) [((0, 0), stm l b)] [((0, 0), stm l (b + n.inn.length))] rfl rfl rfl rfl rfl (by kernel_rfl) (by simp [Agree, ASt.fr]) (fun u hu => Values_ok n.inn.length (by omega) l b (ok _ (by omega) (by omega)) (by omega) u 0 0 (hu ((0, 0), stm l b) (by simp))) ?_  -- call F31(t28, t31)  23,3
  refine DOps.run ?_
  simp only [lookupV, updateV, slicePV, pe0, pe1, pe2, pe3, pe4, pe5, pe6, pe7, pr0, pr1, Nat.reduceAdd, Nat.reduceMul, Nat.reduceLeDiff, Nat.reduceLT, Nat.reduceEqDiff, Nat.reduceBEq, Nat.reduceSub, reduceCtorEq, reduceIte, Int.reduceToNat, Int.reduceLE, Int.reduceEq, Int.reduceNe, Int.reduceBEq, Int.reduceBNe, Int.reduceLT, Int.reduceGT, Int.reduceGE, Int.reduceNeg, ty_2, ty_3, ty_4, ty_9, ty_22, ty_23, ty_25, ty_26, ty_27, ty_30, ty_34, ty_37, ty_56, ty_71, ty_78, e1, e2, e3, e4, strs_len, fim_len]
  refine DOps.call (.im (.sl (bools (valsV l n.flops.length (b + n.inn.length))))) [((0, 0), stm l (b + n.inn.length))] [((0, 0), stm l (b + n.inn.length + n.flops.length))] rfl rfl rfl rfl rfl (by kernel_rfl) (by simp [Agree, ASt.fr]) (fun u hu => Values_ok n.flops.length (by omega) l (b + n.inn.length) (ok _ (by omega) (by omega)) (by omega) u 0 0 (hu ((0, 0), stm l (b + n.inn.length)) (by simp))) ?_  -- call F31(t33, t36)  23,3
  refine DOps.run ?_
  simp only [lookupV, updateV, slicePV, pe0, pe1, pe2, pe3, pe4, pe5, pe6, pe7, pr0, pr1, Nat.reduceAdd, Nat.reduceMul, Nat.reduceLeDiff, Nat.reduceLT, Nat.reduceEqDiff, Nat.reduceBEq, Nat.reduceSub, reduceCtorEq, reduceIte, Int.reduceToNat, Int.reduceLE, Int.reduceEq, Int.reduceNe, Int.reduceBEq, Int.reduceBNe, Int.reduceLT, Int.reduceGT, Int.reduceGE, Int.reduceNeg, ty_2, ty_3, ty_4, ty_9, ty_22, ty_23, ty_25, ty_26, ty_27, ty_30, ty_34, ty_37, ty_56, ty_71, ty_78, e1, e2, e3, e4, strs_len, fim_len]
  refine DOps.nil (by rfl) (hK _ ?_); clear hK K
  refine End.keep [4, 5, 6] ?_
  simp only [pk0, Nat.reduceBEq, reduceIte]
  refine Run.seq ?_
  have hi1 := valsV_len l n.inn.length b
  have hi2 := valsV_len l n.flops.length (b + n.inn.length)
  generalize valsV l n.inn.length b = inn at hi1
  generalize valsV l n.flops.length (b + n.inn.length) = st at hi2
  have hbl : (bools st).length = n.flops.length := by rw [bools_len, hi2]
  refine Run.draw [[], [], [1], [], [1, 2, 3], [0, 1, 2, 3, 4], [0, 1, 2, 3, 4, 5], [0, 1, 2, 3, 4, 5, 6], [0, 1, 2, 3, 4, 5, 6], [0, 1, 2, 3, 4, 5, 6, 7], [0, 1, 2, 3, 4, 5, 6, 7, 8, 9]] (by kernel_rfl) rfl (by kernel_rfl) (by kernel_rfl) fun K hK => DOps.run ?_
  simp only [lookupV, updateV, slicePV, pe0, pe1, pe2, pe3, pe4, pe5, pe6, pe7, pr0, pr1, Nat.reduceAdd, Nat.reduceMul, Nat.reduceLeDiff, Nat.reduceLT, Nat.reduceEqDiff, Nat.reduceBEq, Nat.reduceSub, reduceCtorEq, reduceIte, Int.reduceToNat, Int.reduceLE, Int.reduceEq, Int.reduceNe, Int.reduceBEq, Int.reduceBNe, Int.reduceLT, Int.reduceGT, Int.reduceGE, Int.reduceNeg, ty_2, ty_3, ty_4, ty_9, ty_22, ty_23, ty_25, ty_26, ty_27, ty_30, ty_34, ty_37, ty_56, ty_71, ty_78, e1, e2, e3, e4, strs_len, fim_len]
  refine DOps.call (.im (.sl (us (lanes0 inn)))) [] [] rfl rfl rfl rfl rfl (by kernel_rfl) (by simp [Agree]) (fun u hu => Lanes_ok inn (by omega) u) ?_  -- call F33(t40)  71
  refine DOps.run ?_
  simp only [lookupV, updateV, slicePV, pe0, pe1, pe2, pe3, pe4, pe5, pe6, pe7, pr0, pr1, Nat.reduceAdd, Nat.reduceMul, Nat.reduceLeDiff, Nat.reduceLT, Nat.reduceEqDiff, Nat.reduceBEq, Nat.reduceSub, reduceCtorEq, reduceIte, Int.reduceToNat, Int.reduceLE, Int.reduceEq, Int.reduceNe, Int.reduceBEq, Int.reduceBNe, Int.reduceLT, Int.reduceGT, Int.reduceGE, Int.reduceNeg, ty_2, ty_3, ty_4, ty_9, ty_22, ty_23, ty_25, ty_26, ty_27, ty_30, ty_34, ty_37, ty_56, ty_71, ty_78, e1, e2, e3, e4, strs_len, fim_len]
  refine DOps.call (.im (.sl (us (lanes0 st)))) [] [] rfl rfl rfl rfl rfl (by kernel_rfl) (by simp [Agree]) (fun u hu => Lanes_ok st (by omega) u) ?_  -- call F33(t42)  71
  refine DOps.run ?_
  simp only [lookupV, updateV, slicePV, pe0, pe1, pe2, pe3, pe4, pe5, pe6, pe7, pr0, pr1, Nat.reduceAdd, Nat.reduceMul, Nat.reduceLeDiff, Nat.reduceLT, Nat.reduceEqDiff, Nat.reduceBEq, Nat.reduceSub, reduceCtorEq, reduceIte, Int.reduceToNat, Int.reduceLE, Int.reduceEq, Int.reduceNe, Int.reduceBEq, Int.reduceBNe, Int.reduceLT, Int.reduceGT, Int.reduceGE, Int.reduceNeg, ty_2, ty_3, ty_4, ty_9, ty_22, ty_23, ty_25, ty_26, ty_27, ty_30, ty_34, ty_37, ty_56, ty_71, ty_78, e1, e2, e3, e4, strs_len, fim_len]
  refine DOps.call (.tup [.im (.sl (us (valuesV n (lanes0 inn) (lanes0 st)))), .i 0]) [] [] rfl rfl rfl rfl rfl (by kernel_rfl) (by simp [Agree]) (fun u hu => NValues_ok n hn (lanes0 inn) (lanes0 st) (by simpa using hi1) (by simpa using hi2) u) ?_  -- call F32(t39, t41, t43)  30,56,56
  refine DOps.run ?_
  simp only [lookupV, updateV, slicePV, pe0, pe1, pe2, pe3, pe4, pe5, pe6, pe7, pr0, pr1, Nat.reduceAdd, Nat.reduceMul, Nat.reduceLeDiff, Nat.reduceLT, Nat.reduceEqDiff, Nat.reduceBEq, Nat.reduceSub, reduceCtorEq, reduceIte, Int.reduceToNat, Int.reduceLE, Int.reduceEq, Int.reduceNe, Int.reduceBEq, Int.reduceBNe, Int.reduceLT, Int.reduceGT, Int.reduceGE, Int.reduceNeg, ty_2, ty_3, ty_4, ty_9, ty_22, ty_23, ty_25, ty_26, ty_27, ty_30, ty_34, ty_37, ty_56, ty_71, ty_78, e1, e2, e3, e4, strs_len, fim_len]
  refine DOps.nil (metAll_quiet rfl) (hK _ ?_); clear hK K
  refine End.keep [4, 5, 6, 7, 8] ?_
  simp only [pk0, Nat.reduceBEq, reduceIte]
  refine Run.seq ?_
  refine Run.region rfl fun K hK => GOps.run ?_
  simp only [lookupV, updateV, slicePV, pe0, pe1, pe2, pe3, pe4, pe5, pe6, pe7, pr0, pr1, Nat.reduceAdd, Nat.reduceMul, Nat.reduceLeDiff, Nat.reduceLT, Nat.reduceEqDiff, Nat.reduceBEq, Nat.reduceSub, reduceCtorEq, reduceIte, Int.reduceToNat, Int.reduceLE, Int.reduceEq, Int.reduceNe, Int.reduceBEq, Int.reduceBNe, Int.reduceLT, Int.reduceGT, Int.reduceGE, Int.reduceNeg, ty_2, ty_3, ty_4, ty_9, ty_22, ty_23, ty_25, ty_26, ty_27, ty_30, ty_34, ty_37, ty_56, ty_71, ty_78, e1, e2, e3, e4, strs_len, fim_len]
  refine GOps.call rfl rfl rfl rfl (by kernel_rfl) ?_  -- call F34(t48, t49, t50)  30,71,71
  simp only [lookupV, updateV, slicePV, pe0, pe1, pe2, pe3, pe4, pe5, pe6, pe7, pr0, pr1, Nat.reduceAdd, Nat.reduceMul, Nat.reduceLeDiff, Nat.reduceLT, Nat.reduceEqDiff, Nat.reduceBEq, Nat.reduceSub, reduceCtorEq, reduceIte, Int.reduceToNat, Int.reduceLE, Int.reduceEq, Int.reduceNe, Int.reduceBEq, Int.reduceBNe, Int.reduceLT, Int.reduceGT, Int.reduceGE, Int.reduceNeg, ty_2, ty_3, ty_4, ty_9, ty_22, ty_23, ty_25, ty_26, ty_27, ty_30, ty_34, ty_37, ty_56, ty_71, ty_78, e1, e2, e3, e4, strs_len, fim_len]
  refine (NEval_ok n hn inn st hi1 hi2 _).mono fun v u hv => ?_
  obtain ⟨rfl, rfl⟩ := hv
  refine ⟨_, _, rfl, GOps.run ?_⟩
  simp only [lookupV, updateV, slicePV, pe0, pe1, pe2, pe3, pe4, pe5, pe6, pe7, pr0, pr1, Nat.reduceAdd, Nat.reduceMul, Nat.reduceLeDiff, Nat.reduceLT, Nat.reduceEqDiff, Nat.reduceBEq, Nat.reduceSub, reduceCtorEq, reduceIte, Int.reduceToNat, Int.reduceLE, Int.reduceEq, Int.reduceNe, Int.reduceBEq, Int.reduceBNe, Int.reduceLT, Int.reduceGT, Int.reduceGE, Int.reduceNeg, ty_2, ty_3, ty_4, ty_9, ty_22, ty_23, ty_25, ty_26, ty_27, ty_30, ty_34, ty_37, ty_56, ty_71, ty_78, e1, e2, e3, e4, strs_len, fim_len]
  refine GOps.done (hK _ ?_); clear hK K
  refine End.keep [4, 6, 7, 8, 10, 11] ?_
  simp only [pk0, Nat.reduceBEq, reduceIte]
  refine Run.seq ?_
  refine Run.seq ?_
  have hLaw := hlaw n inn st hn hi1 hi2
  unfold HoldsAt at hLaw
  have hVl := valuesV_len n (lanes0 inn) (lanes0 st) (by simpa using hi1) (by simpa using hi2)
  have hXl : ((nextsF n (valuesV n (lanes0 inn) (lanes0 st)) 0 n.flops).map fun w => bits .and .u64 w 1 == 1).length = n.flops.length := by rw [List.length_map, nextsF_len]
  generalize ((nextsF n (valuesV n (lanes0 inn) (lanes0 st)) 0 n.flops).map fun w => bits .and .u64 w 1 == 1) = X at hLaw hXl
  generalize valuesV n (lanes0 inn) (lanes0 st) = V at hLaw hVl
  have c1 : ((X.length : Int) != n.flops.length) = false := by rw [hXl]; simp
  have c2 : ((V.length : Int) != 2 + n.inn.length + n.flops.length + n.gates.length) = false := by
    have : (V.length : Int) = 2 + n.inn.length + n.flops.length + n.gates.length := by omega
    simp [this]
  refine Run.region rfl fun K hK => GOps.run ?_
  simp only [lookupV, updateV, slicePV, pe0, pe1, pe2, pe3, pe4, pe5, pe6, pe7, pr0, pr1, Nat.reduceAdd, Nat.reduceMul, Nat.reduceLeDiff, Nat.reduceLT, Nat.reduceEqDiff, Nat.reduceBEq, Nat.reduceSub, reduceCtorEq, reduceIte, Int.reduceToNat, Int.reduceLE, Int.reduceEq, Int.reduceNe, Int.reduceBEq, Int.reduceBNe, Int.reduceLT, Int.reduceGT, Int.reduceGE, Int.reduceNeg, ty_2, ty_3, ty_4, ty_9, ty_22, ty_23, ty_25, ty_26, ty_27, ty_30, ty_34, ty_37, ty_56, ty_71, ty_78, e1, e2, e3, e4, strs_len, fim_len, us_len, bools_len, c1, c2]
  refine GOps.call rfl rfl rfl rfl (by kernel_rfl) ?_  -- call F18()  
  simp only [lookupV, updateV, slicePV, pe0, pe1, pe2, pe3, pe4, pe5, pe6, pe7, pr0, pr1, Nat.reduceAdd, Nat.reduceMul, Nat.reduceLeDiff, Nat.reduceLT, Nat.reduceEqDiff, Nat.reduceBEq, Nat.reduceSub, reduceCtorEq, reduceIte, Int.reduceToNat, Int.reduceLE, Int.reduceEq, Int.reduceNe, Int.reduceBEq, Int.reduceBNe, Int.reduceLT, Int.reduceGT, Int.reduceGE, Int.reduceNeg, ty_2, ty_3, ty_4, ty_9, ty_22, ty_23, ty_25, ty_26, ty_27, ty_30, ty_34, ty_37, ty_56, ty_71, ty_78, e1, e2, e3, e4, strs_len, fim_len, us_len, bools_len, c1, c2]
  refine (nets_ok _).mono fun v u hv => ?_
  obtain ⟨rfl, rfl⟩ := hv
  refine ⟨_, _, rfl, GOps.run ?_⟩
  simp only [lookupV, updateV, slicePV, pe0, pe1, pe2, pe3, pe4, pe5, pe6, pe7, pr0, pr1, Nat.reduceAdd, Nat.reduceMul, Nat.reduceLeDiff, Nat.reduceLT, Nat.reduceEqDiff, Nat.reduceBEq, Nat.reduceSub, reduceCtorEq, reduceIte, Int.reduceToNat, Int.reduceLE, Int.reduceEq, Int.reduceNe, Int.reduceBEq, Int.reduceBNe, Int.reduceLT, Int.reduceGT, Int.reduceGE, Int.reduceNeg, ty_2, ty_3, ty_4, ty_9, ty_22, ty_23, ty_25, ty_26, ty_27, ty_30, ty_34, ty_37, ty_56, ty_71, ty_78, e1, e2, e3, e4, strs_len, fim_len, us_len, bools_len, c1, c2]
  refine GOps.call rfl rfl rfl rfl (by kernel_rfl) ?_  -- call F19(t76)  30
  simp only [lookupV, updateV, slicePV, pe0, pe1, pe2, pe3, pe4, pe5, pe6, pe7, pr0, pr1, Nat.reduceAdd, Nat.reduceMul, Nat.reduceLeDiff, Nat.reduceLT, Nat.reduceEqDiff, Nat.reduceBEq, Nat.reduceSub, reduceCtorEq, reduceIte, Int.reduceToNat, Int.reduceLE, Int.reduceEq, Int.reduceNe, Int.reduceBEq, Int.reduceBNe, Int.reduceLT, Int.reduceGT, Int.reduceGE, Int.reduceNeg, ty_2, ty_3, ty_4, ty_9, ty_22, ty_23, ty_25, ty_26, ty_27, ty_30, ty_34, ty_37, ty_56, ty_71, ty_78, e1, e2, e3, e4, strs_len, fim_len, us_len, bools_len, c1, c2]
  refine (Nets_ok n hn.small _).mono fun v u hv => ?_
  obtain ⟨rfl, rfl⟩ := hv
  refine ⟨_, _, rfl, GOps.run ?_⟩
  simp only [lookupV, updateV, slicePV, pe0, pe1, pe2, pe3, pe4, pe5, pe6, pe7, pr0, pr1, Nat.reduceAdd, Nat.reduceMul, Nat.reduceLeDiff, Nat.reduceLT, Nat.reduceEqDiff, Nat.reduceBEq, Nat.reduceSub, reduceCtorEq, reduceIte, Int.reduceToNat, Int.reduceLE, Int.reduceEq, Int.reduceNe, Int.reduceBEq, Int.reduceBNe, Int.reduceLT, Int.reduceGT, Int.reduceGE, Int.reduceNeg, ty_2, ty_3, ty_4, ty_9, ty_22, ty_23, ty_25, ty_26, ty_27, ty_30, ty_34, ty_37, ty_56, ty_71, ty_78, e1, e2, e3, e4, strs_len, fim_len, us_len, bools_len, c1, c2]
  refine GOps.done (hK _ ?_); clear hK K
  refine End.keep [4, 6, 7, 10, 79] ?_
  simp only [pk0, Nat.reduceBEq, reduceIte]
  refine Run.cond _ rfl (fun hb => ?_) (fun hb => ?_)
  · have hb := hb
    simp at hb
  · have hb := hb
    refine Run.skip ?_
    refine End.keep [4, 6, 7, 10] ?_
    simp only [pk0, Nat.reduceBEq, reduceIte]
    refine Run.seq ?_
    refine Run.seq ?_
    refine Run.region rfl fun K hK => GOps.run ?_
    simp only [lookupV, updateV, slicePV, pe0, pe1, pe2, pe3, pe4, pe5, pe6, pe7, pr0, pr1, Nat.reduceAdd, Nat.reduceMul, Nat.reduceLeDiff, Nat.reduceLT, Nat.reduceEqDiff, Nat.reduceBEq, Nat.reduceSub, reduceCtorEq, reduceIte, Int.reduceToNat, Int.reduceLE, Int.reduceEq, Int.reduceNe, Int.reduceBEq, Int.reduceBNe, Int.reduceLT, Int.reduceGT, Int.reduceGE, Int.reduceNeg, ty_2, ty_3, ty_4, ty_9, ty_22, ty_23, ty_25, ty_26, ty_27, ty_30, ty_34, ty_37, ty_56, ty_71, ty_78, e1, e2, e3, e4, strs_len, fim_len, us_len, bools_len, c1, c2]
    refine GOps.done (hK _ ?_); clear hK K
    refine End.keep [6, 7, 10, 81, 82, 83] ?_
    simp only [pk0, Nat.reduceBEq, reduceIte]
    refine Run.block ?_
    refine Run.ghost (Ghost.form [(6, .im (.sl (bools st))), (7, .im (.sl (us V))), (10, .im (.sl (bools X))), (81, .im (.sl (n.flops.map LFlop.im))), (82, .i n.flops.length), (83, .i (0 : Nat))] 1 ⟨rfl, rfl, rfl, rfl, rfl, rfl, trivial⟩ rfl rfl) ?_
    refine Run.loop (fun m s => ∃ (i : Nat) (c : Int), m = n.flops.length - i ∧ i ≤ n.flops.length ∧ s = ⟨[(6, .im (.sl (bools st))), (7, .im (.sl (us V))), (10, .im (.sl (bools X))), (81, .im (.sl (n.flops.map LFlop.im))), (82, .i n.flops.length), (83, .i (i : Nat))], [stm l c], up⟩) n.flops.length ⟨0, _, rfl, by omega, rfl⟩ fun m s hI => ?_
    obtain ⟨i, c, rfl, hi, rfl⟩ := hI
    refine Run.seq ?_
    refine Run.region rfl fun K hK => GOps.run ?_
    simp only [lookupV, updateV, slicePV, pe0, pe1, pe2, pe3, pe4, pe5, pe6, pe7, pr0, pr1, Nat.reduceAdd, Nat.reduceMul, Nat.reduceLeDiff, Nat.reduceLT, Nat.reduceEqDiff, Nat.reduceBEq, Nat.reduceSub, reduceCtorEq, reduceIte, Int.reduceToNat, Int.reduceLE, Int.reduceEq, Int.reduceNe, Int.reduceBEq, Int.reduceBNe, Int.reduceLT, Int.reduceGT, Int.reduceGE, Int.reduceNeg, ty_2, ty_3, ty_4, ty_9, ty_22, ty_23, ty_25, ty_26, ty_27, ty_30, ty_34, ty_37, ty_56, ty_71, ty_78, e1, e2, e3, e4, strs_len, fim_len, us_len, bools_len, c1, c2]
    refine GOps.done (hK _ ?_); clear hK K
    refine End.keep [6, 7, 10, 81, 82, 83, 84] ?_
    simp only [pk0, Nat.reduceBEq, reduceIte]
    refine Run.seq ?_
    refine Run.cond _ rfl (fun hb => ?_) (fun hb => ?_)
    · have hb := of_decide_eq_true hb
      have hin : i < n.flops.length := by omega
      have wi := wsucc hin (by omega)
      obtain ⟨f, hfi, hfm, hf⟩ := flop_at n.flops i hin
      obtain ⟨⟨x1, x2⟩, x3, x4⟩ := hn.ends.flops f hfm
      have hvd := us_get V f.d.toNat (by omega)
      have hve := us_get V f.en.toNat (by omega)
      have hst := bools_get st i (by omega)
      have hx := bools_get X i (by omega)
      have hL := hLaw i f hfi
      refine Run.skip ?_
      refine End.keep [6, 7, 10, 81, 82, 83] ?_
      simp only [pk0, Nat.reduceBEq, reduceIte]
      refine Run.seq ?_
      refine Run.block ?_
      refine Run.seq ?_
      refine Run.region rfl fun K hK => GOps.run ?_
      simp only [lookupV, updateV, slicePV, pe0, pe1, pe2, pe3, pe4, pe5, pe6, pe7, pr0, pr1, Nat.reduceAdd, Nat.reduceMul, Nat.reduceLeDiff, Nat.reduceLT, Nat.reduceEqDiff, Nat.reduceBEq, Nat.reduceSub, reduceCtorEq, reduceIte, Int.reduceToNat, Int.reduceLE, Int.reduceEq, Int.reduceNe, Int.reduceBEq, Int.reduceBNe, Int.reduceLT, Int.reduceGT, Int.reduceGE, Int.reduceNeg, ty_2, ty_3, ty_4, ty_9, ty_22, ty_23, ty_25, ty_26, ty_27, ty_30, ty_34, ty_37, ty_56, ty_71, ty_78, e1, e2, e3, e4, strs_len, fim_len, us_len, bools_len, c1, c2, wi, hf, x1, x3, hvd, hve, hst, hx, Int.natCast_nonneg, Int.toNat_natCast]
      refine GOps.done (hK _ ?_); clear hK K
      refine End.keep [6, 7, 10, 12, 13, 81, 82, 83] ?_
      simp only [pk0, Nat.reduceBEq, reduceIte]
      refine Run.seq ?_
      refine Run.region rfl fun K hK => GOps.run ?_
      simp only [lookupV, updateV, slicePV, pe0, pe1, pe2, pe3, pe4, pe5, pe6, pe7, pr0, pr1, Nat.reduceAdd, Nat.reduceMul, Nat.reduceLeDiff, Nat.reduceLT, Nat.reduceEqDiff, Nat.reduceBEq, Nat.reduceSub, reduceCtorEq, reduceIte, Int.reduceToNat, Int.reduceLE, Int.reduceEq, Int.reduceNe, Int.reduceBEq, Int.reduceBNe, Int.reduceLT, Int.reduceGT, Int.reduceGE, Int.reduceNeg, ty_2, ty_3, ty_4, ty_9, ty_22, ty_23, ty_25, ty_26, ty_27, ty_30, ty_34, ty_37, ty_56, ty_71, ty_78, e1, e2, e3, e4, strs_len, fim_len, us_len, bools_len, c1, c2, wi, hf, x1, x3, hvd, hve, hst, hx, Int.natCast_nonneg, Int.toNat_natCast]
      refine GOps.done (hK _ ?_); clear hK K
      refine End.keep [6, 7, 10, 12, 13, 14, 81, 82, 83] ?_
      simp only [pk0, Nat.reduceBEq, reduceIte]
      refine Run.seq ?_
      refine Run.seq ?_
      refine Run.region rfl fun K hK => GOps.run ?_
      simp only [lookupV, updateV, slicePV, pe0, pe1, pe2, pe3, pe4, pe5, pe6, pe7, pr0, pr1, Nat.reduceAdd, Nat.reduceMul, Nat.reduceLeDiff, Nat.reduceLT, Nat.reduceEqDiff, Nat.reduceBEq, Nat.reduceSub, reduceCtorEq, reduceIte, Int.reduceToNat, Int.reduceLE, Int.reduceEq, Int.reduceNe, Int.reduceBEq, Int.reduceBNe, Int.reduceLT, Int.reduceGT, Int.reduceGE, Int.reduceNeg, ty_2, ty_3, ty_4, ty_9, ty_22, ty_23, ty_25, ty_26, ty_27, ty_30, ty_34, ty_37, ty_56, ty_71, ty_78, e1, e2, e3, e4, strs_len, fim_len, us_len, bools_len, c1, c2, wi, hf, x1, x3, hvd, hve, hst, hx, Int.natCast_nonneg, Int.toNat_natCast]
      refine GOps.done (hK _ ?_); clear hK K
      refine End.keep [6, 7, 10, 12, 13, 14, 81, 82, 83, 98] ?_
      simp only [pk0, Nat.reduceBEq, reduceIte]
      refine Run.cond _ rfl (fun hb => ?_) (fun hb => ?_)
      · have hb2 := hb
        rw [if_pos hb2] at hL
        refine Run.region rfl fun K hK => GOps.run ?_
        simp only [lookupV, updateV, slicePV, pe0, pe1, pe2, pe3, pe4, pe5, pe6, pe7, pr0, pr1, Nat.reduceAdd, Nat.reduceMul, Nat.reduceLeDiff, Nat.reduceLT, Nat.reduceEqDiff, Nat.reduceBEq, Nat.reduceSub, reduceCtorEq, reduceIte, Int.reduceToNat, Int.reduceLE, Int.reduceEq, Int.reduceNe, Int.reduceBEq, Int.reduceBNe, Int.reduceLT, Int.reduceGT, Int.reduceGE, Int.reduceNeg, ty_2, ty_3, ty_4, ty_9, ty_22, ty_23, ty_25, ty_26, ty_27, ty_30, ty_34, ty_37, ty_56, ty_71, ty_78, e1, e2, e3, e4, strs_len, fim_len, us_len, bools_len, c1, c2, wi, hf, x1, x3, hvd, hve, hst, hx, Int.natCast_nonneg, Int.toNat_natCast]
        refine GOps.done (hK _ ?_); clear hK K
        refine End.keep [6, 7, 10, 12, 14, 81, 82, 83] ?_
        simp only [pk0, Nat.reduceBEq, reduceIte]
        refine Run.seq ?_
        refine Run.region rfl fun K hK => GOps.run ?_
        simp only [lookupV, updateV, slicePV, pe0, pe1, pe2, pe3, pe4, pe5, pe6, pe7, pr0, pr1, Nat.reduceAdd, Nat.reduceMul, Nat.reduceLeDiff, Nat.reduceLT, Nat.reduceEqDiff, Nat.reduceBEq, Nat.reduceSub, reduceCtorEq, reduceIte, Int.reduceToNat, Int.reduceLE, Int.reduceEq, Int.reduceNe, Int.reduceBEq, Int.reduceBNe, Int.reduceLT, Int.reduceGT, Int.reduceGE, Int.reduceNeg, ty_2, ty_3, ty_4, ty_9, ty_22, ty_23, ty_25, ty_26, ty_27, ty_30, ty_34, ty_37, ty_56, ty_71, ty_78, e1, e2, e3, e4, strs_len, fim_len, us_len, bools_len, c1, c2, wi, hf, x1, x3, hvd, hve, hst, hx, Int.natCast_nonneg, Int.toNat_natCast]
        refine GOps.done (hK _ ?_); clear hK K
        refine End.keep [6, 7, 10, 81, 82, 83, 111] ?_
        simp only [pk0, Nat.reduceBEq, reduceIte]
        refine Run.cond _ rfl (fun hb => ?_) (fun hb => ?_)
        · have hb := hb
          rw [hL] at hb
          simp at hb
        · have hb := hb
          refine Run.skip ?_
          refine End.blk ?_
          refine End.keep [6, 7, 10, 81, 82, 83] ?_
          simp only [pk0, Nat.reduceBEq, reduceIte]
          refine Run.region rfl fun K hK => GOps.run ?_
          simp only [lookupV, updateV, slicePV, pe0, pe1, pe2, pe3, pe4, pe5, pe6, pe7, pr0, pr1, Nat.reduceAdd, Nat.reduceMul, Nat.reduceLeDiff, Nat.reduceLT, Nat.reduceEqDiff, Nat.reduceBEq, Nat.reduceSub, reduceCtorEq, reduceIte, Int.reduceToNat, Int.reduceLE, Int.reduceEq, Int.reduceNe, Int.reduceBEq, Int.reduceBNe, Int.reduceLT, Int.reduceGT, Int.reduceGE, Int.reduceNeg, ty_2, ty_3, ty_4, ty_9, ty_22, ty_23, ty_25, ty_26, ty_27, ty_30, ty_34, ty_37, ty_56, ty_71, ty_78, e1, e2, e3, e4, strs_len, fim_len, us_len, bools_len, c1, c2, wi, hf, x1, x3, hvd, hve, hst, hx, Int.natCast_nonneg, Int.toNat_natCast]
          refine GOps.done (hK _ ?_); clear hK K
          refine End.lp ?_
          refine ⟨n.flops.length - (i + 1), _, by omega, Ghost.form [(6, .im (.sl (bools st))), (7, .im (.sl (us V))), (10, .im (.sl (bools X))), (81, .im (.sl (n.flops.map LFlop.im))), (82, .i n.flops.length), (83, .i (i + 1 : Nat))] 1 ⟨rfl, rfl, rfl, rfl, rfl, rfl, trivial⟩ rfl rfl, i + 1, c, rfl, by omega, rfl⟩
      · have hb2 := hb
        rw [if_neg (by rw [hb2]; simp)] at hL
        refine Run.skip ?_
        refine End.keep [6, 7, 10, 12, 14, 81, 82, 83] ?_
        simp only [pk0, Nat.reduceBEq, reduceIte]
        refine Run.seq ?_
        refine Run.region rfl fun K hK => GOps.run ?_
        simp only [lookupV, updateV, slicePV, pe0, pe1, pe2, pe3, pe4, pe5, pe6, pe7, pr0, pr1, Nat.reduceAdd, Nat.reduceMul, Nat.reduceLeDiff, Nat.reduceLT, Nat.reduceEqDiff, Nat.reduceBEq, Nat.reduceSub, reduceCtorEq, reduceIte, Int.reduceToNat, Int.reduceLE, Int.reduceEq, Int.reduceNe, Int.reduceBEq, Int.reduceBNe, Int.reduceLT, Int.reduceGT, Int.reduceGE, Int.reduceNeg, ty_2, ty_3, ty_4, ty_9, ty_22, ty_23, ty_25, ty_26, ty_27, ty_30, ty_34, ty_37, ty_56, ty_71, ty_78, e1, e2, e3, e4, strs_len, fim_len, us_len, bools_len, c1, c2, wi, hf, x1, x3, hvd, hve, hst, hx, Int.natCast_nonneg, Int.toNat_natCast]
        refine GOps.done (hK _ ?_); clear hK K
        refine End.keep [6, 7, 10, 81, 82, 83, 111] ?_
        simp only [pk0, Nat.reduceBEq, reduceIte]
        refine Run.cond _ rfl (fun hb => ?_) (fun hb => ?_)
        · have hb := hb
          rw [hL] at hb
          simp at hb
        · have hb := hb
          refine Run.skip ?_
          refine End.blk ?_
          refine End.keep [6, 7, 10, 81, 82, 83] ?_
          simp only [pk0, Nat.reduceBEq, reduceIte]
          refine Run.region rfl fun K hK => GOps.run ?_
          simp only [lookupV, updateV, slicePV, pe0, pe1, pe2, pe3, pe4, pe5, pe6, pe7, pr0, pr1, Nat.reduceAdd, Nat.reduceMul, Nat.reduceLeDiff, Nat.reduceLT, Nat.reduceEqDiff, Nat.reduceBEq, Nat.reduceSub, reduceCtorEq, reduceIte, Int.reduceToNat, Int.reduceLE, Int.reduceEq, Int.reduceNe, Int.reduceBEq, Int.reduceBNe, Int.reduceLT, Int.reduceGT, Int.reduceGE, Int.reduceNeg, ty_2, ty_3, ty_4, ty_9, ty_22, ty_23, ty_25, ty_26, ty_27, ty_30, ty_34, ty_37, ty_56, ty_71, ty_78, e1, e2, e3, e4, strs_len, fim_len, us_len, bools_len, c1, c2, wi, hf, x1, x3, hvd, hve, hst, hx, Int.natCast_nonneg, Int.toNat_natCast]
          refine GOps.done (hK _ ?_); clear hK K
          refine End.lp ?_
          refine ⟨n.flops.length - (i + 1), _, by omega, Ghost.form [(6, .im (.sl (bools st))), (7, .im (.sl (us V))), (10, .im (.sl (bools X))), (81, .im (.sl (n.flops.map LFlop.im))), (82, .i n.flops.length), (83, .i (i + 1 : Nat))] 1 ⟨rfl, rfl, rfl, rfl, rfl, rfl, trivial⟩ rfl rfl, i + 1, c, rfl, by omega, rfl⟩
    · have hb := of_decide_eq_false hb
      refine Run.exit rfl ?_
      refine End.keep [] ?_
      simp only [pk0, Nat.reduceBEq, reduceIte]
      refine Run.seq ?_
      refine Run.region rfl fun K hK => GOps.run ?_
      simp only [lookupV, updateV, slicePV, pe0, pe1, pe2, pe3, pe4, pe5, pe6, pe7, pr0, pr1, Nat.reduceAdd, Nat.reduceMul, Nat.reduceLeDiff, Nat.reduceLT, Nat.reduceEqDiff, Nat.reduceBEq, Nat.reduceSub, reduceCtorEq, reduceIte, Int.reduceToNat, Int.reduceLE, Int.reduceEq, Int.reduceNe, Int.reduceBEq, Int.reduceBNe, Int.reduceLT, Int.reduceGT, Int.reduceGE, Int.reduceNeg, ty_2, ty_3, ty_4, ty_9, ty_22, ty_23, ty_25, ty_26, ty_27, ty_30, ty_34, ty_37, ty_56, ty_71, ty_78, e1, e2, e3, e4, strs_len, fim_len, us_len, bools_len, c1, c2]
      refine GOps.done (hK _ ?_); clear hK K
      refine End.keep [2] ?_
      simp only [pk0, Nat.reduceBEq, reduceIte]
      refine Run.ret (hQ _ _ ⟨.inr rfl, _, rfl, _, rfl, ?_⟩)
      exact ⟨rfl, rfl⟩
end Go.Proofs.YtkmnmokjlpenhaaPi
