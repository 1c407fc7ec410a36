/- Part 2 of the proof: the texts WJ, WK, PBits, WM, WN, WP, WQ, PLane, WR, PWords, PNames, one behind the other. Each holds for every input that it names; no condition is hidden. -/
import Derived.Test.YtkmnmokjlpenhaaM1
/- The walks of values and Values: what all nets have. -/
set_option linter.unusedVariables false
set_option linter.unusedSimpArgs false
set_option maxRecDepth 100000
namespace Go.Proofs.YtkmnmokjlpenhaaPi

def gateVal (g : LGate) (v : List Int) : Int := lookV g.table (g.ins.map fun k => v.getD k.toNat 0)
def valsN : List LGate → List Int → List Int
  | [], v => v
  | g :: gs, v => valsN gs (v ++ [gateVal g v])
def valuesV (n : LNet) (inn st : List Int) : List Int := valsN n.gates ([0, 18446744073709551615] ++ inn ++ st)
theorem gate_drop (l : List LGate) (i : Nat) (g : LGate) (h : l[i]? = some g) : l.drop i = g :: l.drop (i + 1) := by
  obtain ⟨hi, rfl⟩ := List.getElem?_eq_some_iff.1 h
  exact List.drop_eq_getElem_cons hi
theorem int_drop (l : List Int) (i : Nat) (g : Int) (h : l[i]? = some g) : l.take (i + 1) = l.take i ++ [g] := by simp [List.take_add_one, h]
theorem values_ok (n : LNet) (hn : NetOk n) (inn st : List Int) (h1 : inn.length = n.inn.length) (h2 : st.length = n.flops.length) (up : Frs) : ACalls Try.prog 90 [n.pv, .im (.sl (us inn)), .im (.sl (us st))] up fun v u => v = .im (.sl (us (valuesV n inn st))) ∧ u = up := by
  have hsm := hn.small
  obtain ⟨z1, z2, z3, z4, z5⟩ := hn.small
  have a1 : (2 + inn.length) * 8 ≤ 140737488355328 := by omega
  have a2 : (2 + inn.length + st.length) * 8 ≤ 140737488355328 := by omega
  have b1 : inn.length + 1 + 1 = 2 + inn.length := by omega
  have al : ∀ l : List Int, (us l).all (fun r => r.length == 1) = true := fun l => by simp
  refine ACalls.code Try.func90 rfl 50 rfl (by simp) [.tmp 6] rfl fun Q hQ => ?_
  simp only [ups, PV.up, argEnv]
  have ft := And.intro ty_2 (And.intro ty_3 (And.intro ty_22 (And.intro ty_28 (And.intro ty_30 (And.intro ty_37 (And.intro ty_39 (And.intro ty_56 trivial)))))))
  refine Run.seq ?_
  have fx := And.intro (@List.length_append.{0}) (And.intro b1 (And.intro al (And.intro a2 (And.intro a1 (And.intro ints_len (And.intro gim_len (And.intro us_len ft)))))))
  refine Run.go ?_
  refine End.kp [1, 2, 3] ?_
  refine Run.seq ?_
  refine Run.go ?_
  refine End.kp [2, 3, 7] ?_
  refine Run.seq ?_
  refine Run.go ?_
  refine End.kp [3, 7] ?_
  refine Run.seq ?_
  refine Run.seq ?_
  refine Run.go ?_
  refine End.kp [7, 20, 21, 22] ?_
  refine Run.block ?_
  refine Run.ghost (Ghost.form [(7, .ms 0 1 (2 + inn.length + st.length)), (20, .im (.sl (n.gates.map LGate.im))), (21, .i n.gates.length), (22, .i (0 : Nat))] 2 ⟨rfl, rfl, rfl, rfl, trivial⟩ rfl rfl) ?_
  refine Run.loop (fun m s => ∃ (i : Nat) (v : List Int), m = n.gates.length - i ∧ i ≤ n.gates.length ∧ v.length = 2 + inn.length + st.length + i ∧ valsN (n.gates.drop i) v = valuesV n inn st ∧ s = ⟨[(7, .ms 0 1 v.length), (20, .im (.sl (n.gates.map LGate.im))), (21, .i n.gates.length), (22, .i (i : Nat))], [.box [.im (.sl (strs n.inn)), .im (.sl (strs n.out)), .im (.sl (n.flops.map LFlop.im)), .im (.sl (n.gates.map LGate.im)), .im (.sl (ints n.outs))], .row 37 1 (us v) 0], up⟩) n.gates.length ⟨0, [0, 18446744073709551615] ++ inn ++ st, rfl, by omega, by simp; omega, rfl, ?_⟩ fun m s hI => ?_
  · simp
    omega
  obtain ⟨i, v, rfl, hi, hvl, hV, rfl⟩ := hI
  have hav : (v.length + 1) * 8 ≤ 140737488355328 := by omega
  refine Run.seq ?_
  have fx := And.intro hav (And.intro (@List.length_append.{0}) (And.intro b1 (And.intro al (And.intro a2 (And.intro a1 (And.intro ints_len (And.intro gim_len (And.intro us_len ft))))))))
  refine Run.go ?_
  refine End.kp [7, 20, 21, 22, 23] ?_
  refine Run.seq ?_
  refine Run.cond _ rfl (fun hb => ?_) (fun hb => ?_)
  · have hb := of_decide_eq_true hb
    have hin : i < n.gates.length := by omega
    have wi := wsucc hin (by omega)
    obtain ⟨g, hgi, hgm, hg⟩ := gate_at n.gates i hin
    obtain ⟨e1, e2, e3⟩ := hn.gates i g hgi
    rw [gate_drop _ i g hgi, valsN] at hV
    refine Run.skip ?_
    refine End.kp [7, 20, 21, 22] ?_
    refine Run.seq ?_
    refine Run.block ?_
    refine Run.seq ?_
    have fx := And.intro (@Int.toNat_natCast) (And.intro (@Int.natCast_nonneg) (And.intro hg (And.intro wi (And.intro hav (And.intro (@List.length_append.{0}) (And.intro b1 (And.intro al (And.intro a2 (And.intro a1 (And.intro ints_len (And.intro gim_len (And.intro us_len ft))))))))))))
    refine Run.go ?_
    refine End.kp [7, 9, 20, 21, 22] ?_
    refine Run.seq ?_
    refine Run.go ?_
    refine End.kp [7, 9, 10, 20, 21, 22] ?_
    refine Run.seq ?_
    refine Run.seq ?_
    refine Run.go ?_
    refine End.kp [7, 9, 10, 20, 21, 22, 27, 28, 29] ?_
    refine Run.block ?_
    refine Run.ghost (Ghost.thaw (u := 10) 37 1 (by decide) rfl) ?_
    refine Run.ghost (Ghost.form [(7, .ms 0 1 v.length), (9, .ptr 0 2 0), (10, .ms 0 3 0), (20, .im (.sl (n.gates.map LGate.im))), (21, .i n.gates.length), (22, .i (i : Nat)), (27, .im (.sl (ints g.ins))), (28, .i g.ins.length), (29, .i (0 : Nat))] 4 ⟨rfl, rfl, rfl, rfl, rfl, rfl, rfl, rfl, rfl, trivial⟩ rfl rfl) ?_
    refine Run.loop (fun m s => ∃ (q : Nat), m = g.ins.length - q ∧ q ≤ g.ins.length ∧ s = ⟨[(7, .ms 0 1 v.length), (9, .ptr 0 2 0), (10, .ms 0 3 q), (20, .im (.sl (n.gates.map LGate.im))), (21, .i n.gates.length), (22, .i (i : Nat)), (27, .im (.sl (ints g.ins))), (28, .i g.ins.length), (29, .i (q : Nat))], [.box [.im (.sl (strs n.inn)), .im (.sl (strs n.out)), .im (.sl (n.flops.map LFlop.im)), .im (.sl (n.gates.map LGate.im)), .im (.sl (ints n.outs))], .row 37 1 (us v) 0, .box [.im (.int .i64 (-1)), .im (.int .u64 g.table), .im (.sl (ints g.ins))], .row 37 1 (us ((g.ins.take q).map fun k => v.getD k.toNat 0)) 0], up⟩) g.ins.length ⟨0, rfl, by omega, rfl⟩ fun m s hI => ?_
    obtain ⟨q, rfl, hq, rfl⟩ := hI
    have hql : ((g.ins.take q).map fun k => v.getD k.toNat 0).length = q := by simp; omega
    have haq : (q + 1) * 8 ≤ 140737488355328 := by omega
    refine Run.seq ?_
    have fx := And.intro haq (And.intro hql (And.intro (@Int.toNat_natCast) (And.intro (@Int.natCast_nonneg) (And.intro hg (And.intro wi (And.intro hav (And.intro (@List.length_append.{0}) (And.intro b1 (And.intro al (And.intro a2 (And.intro a1 (And.intro ints_len (And.intro gim_len (And.intro us_len ft))))))))))))))
    refine Run.go ?_
    refine End.kp [7, 9, 10, 20, 21, 22, 27, 28, 29, 30] ?_
    refine Run.seq ?_
    refine Run.cond _ rfl (fun hb => ?_) (fun hb => ?_)
    · have hb := of_decide_eq_true hb
      have hqn : q < g.ins.length := by omega
      have wq := wsucc hqn (by omega)
      obtain ⟨x, hxi, hxm, hx⟩ := int_at g.ins q hqn
      obtain ⟨x1, x2⟩ := e3 x hxm
      have hxl : x < (v.length : Int) := by omega
      have hvx := us_get v x.toNat (by omega)
      have htk := int_drop g.ins q x hxi
      refine Run.skip ?_
      refine End.kp [7, 9, 10, 20, 21, 22, 27, 28, 29] ?_
      refine Run.seq ?_
      refine Run.block ?_
      refine Run.seq ?_
      have fx := And.intro hvx (And.intro hxl (And.intro x1 (And.intro hx (And.intro wq (And.intro haq (And.intro hql (And.intro (@Int.toNat_natCast) (And.intro (@Int.natCast_nonneg) (And.intro hg (And.intro wi (And.intro hav (And.intro (@List.length_append.{0}) (And.intro b1 (And.intro al (And.intro a2 (And.intro a1 (And.intro ints_len (And.intro gim_len (And.intro us_len ft)))))))))))))))))))
      refine Run.go ?_
      refine End.kp [7, 9, 10, 12, 20, 21, 22, 27, 28, 29] ?_
      refine Run.go ?_
      refine End.blk ?_
      refine End.kp [7, 9, 10, 20, 21, 22, 27, 28, 29] ?_
      refine Run.go ?_
      refine End.lp ?_
      refine ⟨g.ins.length - (q + 1), _, by omega, Ghost.form [(7, .ms 0 1 v.length), (9, .ptr 0 2 0), (10, .ms 0 3 (q + 1)), (20, .im (.sl (n.gates.map LGate.im))), (21, .i n.gates.length), (22, .i (i : Nat)), (27, .im (.sl (ints g.ins))), (28, .i g.ins.length), (29, .i (q + 1 : Nat))] 4 ⟨rfl, rfl, rfl, rfl, rfl, rfl, rfl, rfl, rfl, trivial⟩ rfl rfl, q + 1, rfl, by omega, ?_⟩
      rw [htk]
      simp
    · have hb := of_decide_eq_false hb
      have hqe : q = g.ins.length := by omega
      subst hqe
      rw [List.take_length] at hql ⊢
      refine Run.exit rfl ?_
      refine End.kp [7, 9, 10, 20, 21, 22] ?_
      have fx := And.intro haq (And.intro hql (And.intro (@Int.toNat_natCast) (And.intro (@Int.natCast_nonneg) (And.intro hg (And.intro wi (And.intro hav (And.intro (@List.length_append.{0}) (And.intro b1 (And.intro al (And.intro a2 (And.intro a1 (And.intro ints_len (And.intro gim_len (And.intro us_len ft))))))))))))))
      refine Run.region rfl fun K hK => GOps.sim ?_
      refine GOps.call rfl rfl rfl rfl (by kernel_rfl) (ACalls.sim ?_)
      refine (look_ok g.table (g.ins.map fun k => v.getD k.toNat 0) (by simpa using e1) _).mono fun v u hv => ?_
      obtain ⟨rfl, rfl⟩ := hv
      refine ⟨_, _, rfl, GOps.sim ?_⟩
      refine GOps.done (hK _ ?_); clear hK K
      refine End.blk ?_
      refine End.kp [7, 20, 21, 22] ?_
      refine Run.go ?_
      refine End.lp ?_
      refine ⟨n.gates.length - (i + 1), _, by omega, Ghost.form [(7, .ms 0 1 (v.length + 1)), (20, .im (.sl (n.gates.map LGate.im))), (21, .i n.gates.length), (22, .i (i + 1 : Nat))] 2 ⟨rfl, rfl, rfl, rfl, trivial⟩ rfl rfl, i + 1, v ++ [gateVal g v], rfl, by omega, by simp; omega, hV, ?_⟩
      simp [gateVal]
  · have hb := of_decide_eq_false hb
    have hiN : i = n.gates.length := by omega
    subst hiN
    rw [List.drop_length, valsN] at hV
    refine Run.exit rfl ?_
    refine End.kp [7] ?_
    refine Run.seq ?_
    refine Run.ghost (Ghost.shut (t := 7) (j := 1) rfl rfl (us_len v)) ?_
    simp only [eput, edel]
    have fx := And.intro hav (And.intro (@List.length_append.{0}) (And.intro b1 (And.intro al (And.intro a2 (And.intro a1 (And.intro ints_len (And.intro gim_len (And.intro us_len ft))))))))
    refine Run.go ?_
    refine End.kp [6] ?_
    refine Run.ret (hQ _ _ ⟨.inr rfl, _, rfl, _, rfl, ?_⟩)
    exact ⟨by rw [hV], rfl⟩
end Go.Proofs.YtkmnmokjlpenhaaPi

/- The walks of results, Words and Eval. -/
set_option linter.unusedVariables false
set_option linter.unusedSimpArgs false
set_option maxRecDepth 100000
namespace Go.Proofs.YtkmnmokjlpenhaaPi

def outV (n : LNet) (v : List Int) : List Int := n.outs.map fun k => v.getD k.toNat 0
def nextF (n : LNet) (v : List Int) (i : Nat) (f : LFlop) : Int :=
  bits .or .u64 (bits .and .u64 (v.getD f.en.toNat 0) (v.getD f.d.toNat 0)) (bits .and .u64 (bits .xor .u64 (if IntKind.u64.signed = true then -1 else IntKind.u64.max) (v.getD f.en.toNat 0)) (v.getD (2 + (n.inn.length : Int) + i).toNat 0))
def nextsF (n : LNet) (v : List Int) : Nat → List LFlop → List Int
  | _, [] => []
  | i, f :: fs => nextF n v i f :: nextsF n v (i + 1) fs
theorem nextsF_len (n : LNet) (v : List Int) : ∀ (fs : List LFlop) (i : Nat), (nextsF n v i fs).length = fs.length
  | [], i => rfl
  | f :: fs, i => by simp [nextsF, nextsF_len n v fs]
theorem flop_drop (l : List LFlop) (i : Nat) (g : LFlop) (h : l[i]? = some g) : l.drop i = g :: l.drop (i + 1) := by
  obtain ⟨hi, rfl⟩ := List.getElem?_eq_some_iff.1 h
  exact List.drop_eq_getElem_cons hi
theorem nresults_ok (n : LNet) (hn : NetOk n) (v : List Int) (hv : v.length = 2 + n.inn.length + n.flops.length + n.gates.length) (up : Frs) : ACalls Try.prog 105 [n.pv, .im (.sl (us v))] up fun r u => r = .tup [.im (.sl (us (outV n v))), .im (.sl (us (nextsF n v 0 n.flops)))] ∧ u = up := by
  obtain ⟨z1, z2, z3, z4, z5⟩ := hn.small
  refine ACalls.code Try.func105 rfl 69 rfl (by simp) [.tmp 4, .tmp 5] rfl fun Q hQ => ?_
  simp only [ups, PV.up, argEnv]
  have ft := And.intro ty_2 (And.intro ty_3 (And.intro ty_4 (And.intro ty_9 (And.intro ty_22 (And.intro ty_26 (And.intro ty_27 (And.intro ty_30 (And.intro ty_37 (And.intro ty_56 (And.intro ty_78 trivial))))))))))
  refine Run.seq ?_
  have fx := And.intro strs_len (And.intro ints_len (And.intro fim_len (And.intro us_len ft)))
  refine Run.go ?_
  refine End.kp [1, 2, 4, 5] ?_
  refine Run.seq ?_
  refine Run.seq ?_
  refine Run.go ?_
  refine End.kp [1, 2, 4, 5, 12, 13, 14] ?_
  refine Run.block ?_
  refine Run.ghost (Ghost.thaw (u := 4) 37 1 (by decide) rfl) ?_
  refine Run.ghost (Ghost.form [(1, .im (.sl (us v))), (2, .ptr 0 0 0), (4, .ms 0 1 0), (5, .nils), (12, .im (.sl (ints n.outs))), (13, .i n.outs.length), (14, .i (0 : Nat))] 2 ⟨rfl, rfl, rfl, rfl, rfl, rfl, rfl, trivial⟩ rfl rfl) ?_
  refine Run.loop (fun m s => ∃ (i : Nat), m = n.outs.length - i ∧ i ≤ n.outs.length ∧ s = ⟨[(1, .im (.sl (us v))), (2, .ptr 0 0 0), (4, .ms 0 1 i), (5, .nils), (12, .im (.sl (ints n.outs))), (13, .i n.outs.length), (14, .i (i : Nat))], [.box [.im (.sl (strs n.inn)), .im (.sl (strs n.out)), .im (.sl (n.flops.map LFlop.im)), .im (.sl (n.gates.map LGate.im)), .im (.sl (ints n.outs))], .row 37 1 (us ((n.outs.take i).map fun k => v.getD k.toNat 0)) 0], up⟩) n.outs.length ⟨0, rfl, by omega, rfl⟩ fun m s hI => ?_
  obtain ⟨i, rfl, hi, rfl⟩ := hI
  have hol : ((n.outs.take i).map fun k => v.getD k.toNat 0).length = i := by simp; omega
  have hao : (i + 1) * 8 ≤ 140737488355328 := by omega
  refine Run.seq ?_
  have fx := And.intro hao (And.intro hol (And.intro strs_len (And.intro ints_len (And.intro fim_len (And.intro us_len ft)))))
  refine Run.go ?_
  refine End.kp [1, 2, 4, 5, 12, 13, 14, 15] ?_
  refine Run.seq ?_
  refine Run.cond _ rfl (fun hb => ?_) (fun hb => ?_)
  · have hb := of_decide_eq_true hb
    have hin : i < n.outs.length := by omega
    have wi := wsucc hin (by omega)
    obtain ⟨x, hxi, hxm, hx⟩ := int_at n.outs i hin
    obtain ⟨x1, x2⟩ := hn.ends.outs x hxm
    have hvx := us_get v x.toNat (by omega)
    have htk := int_drop n.outs i x hxi
    refine Run.skip ?_
    refine End.kp [1, 2, 4, 5, 12, 13, 14] ?_
    refine Run.seq ?_
    refine Run.block ?_
    refine Run.seq ?_
    have fx := And.intro (@Int.toNat_natCast) (And.intro (@Int.natCast_nonneg) (And.intro hvx (And.intro x1 (And.intro hx (And.intro wi (And.intro hao (And.intro hol (And.intro strs_len (And.intro ints_len (And.intro fim_len (And.intro us_len ft)))))))))))
    refine Run.go ?_
    refine End.kp [1, 2, 4, 5, 7, 12, 13, 14] ?_
    refine Run.go ?_
    refine End.blk ?_
    refine End.kp [1, 2, 4, 5, 12, 13, 14] ?_
    refine Run.go ?_
    refine End.lp ?_
    refine ⟨n.outs.length - (i + 1), _, by omega, Ghost.form [(1, .im (.sl (us v))), (2, .ptr 0 0 0), (4, .ms 0 1 (i + 1)), (5, .nils), (12, .im (.sl (ints n.outs))), (13, .i n.outs.length), (14, .i (i + 1 : Nat))] 2 ⟨rfl, rfl, rfl, rfl, rfl, rfl, rfl, trivial⟩ rfl rfl, i + 1, rfl, by omega, ?_⟩
    rw [htk]
    simp
  · have hb := of_decide_eq_false hb
    have hiN : i = n.outs.length := by omega
    subst hiN
    rw [List.take_length] at hol ⊢
    refine Run.exit rfl ?_
    refine End.kp [1, 2, 4, 5] ?_
    refine Run.seq ?_
    refine Run.seq ?_
    have fx := And.intro hao (And.intro hol (And.intro strs_len (And.intro ints_len (And.intro fim_len (And.intro us_len ft)))))
    refine Run.go ?_
    refine End.kp [1, 2, 4, 5, 27, 28, 29] ?_
    refine Run.block ?_
    refine Run.ghost (Ghost.thaw (u := 5) 37 1 (by decide) rfl) ?_
    refine Run.ghost (Ghost.form [(1, .im (.sl (us v))), (2, .ptr 0 0 0), (4, .ms 0 1 n.outs.length), (5, .ms 0 2 0), (27, .im (.sl (n.flops.map LFlop.im))), (28, .i n.flops.length), (29, .i (0 : Nat))] 3 ⟨rfl, rfl, rfl, rfl, rfl, rfl, rfl, trivial⟩ rfl rfl) ?_
    refine Run.loop (fun m s => ∃ (i : Nat) (dn : List Int), m = n.flops.length - i ∧ i ≤ n.flops.length ∧ dn.length = i ∧ dn ++ nextsF n v i (n.flops.drop i) = nextsF n v 0 n.flops ∧ s = ⟨[(1, .im (.sl (us v))), (2, .ptr 0 0 0), (4, .ms 0 1 n.outs.length), (5, .ms 0 2 i), (27, .im (.sl (n.flops.map LFlop.im))), (28, .i n.flops.length), (29, .i (i : Nat))], [.box [.im (.sl (strs n.inn)), .im (.sl (strs n.out)), .im (.sl (n.flops.map LFlop.im)), .im (.sl (n.gates.map LGate.im)), .im (.sl (ints n.outs))], .row 37 1 (us (outV n v)) 0, .row 37 1 (us dn) 0], up⟩) n.flops.length ⟨0, [], rfl, by omega, rfl, rfl, rfl⟩ fun m s hI => ?_
    obtain ⟨i, dn, rfl, hi, hdn, hN, rfl⟩ := hI
    have haf : (i + 1) * 8 ≤ 140737488355328 := by omega
    refine Run.seq ?_
    have fx := And.intro haf (And.intro hdn (And.intro hao (And.intro hol (And.intro strs_len (And.intro ints_len (And.intro fim_len (And.intro us_len ft)))))))
    refine Run.go ?_
    refine End.kp [1, 2, 4, 5, 27, 28, 29, 30] ?_
    refine Run.seq ?_
    refine Run.cond _ rfl (fun hb => ?_) (fun hb => ?_)
    · have hb := of_decide_eq_true hb
      have hin : i < n.flops.length := by omega
      have wi := wsucc hin (by omega)
      obtain ⟨f, hfi, hfm, hf⟩ := flop_at n.flops i hin
      obtain ⟨⟨x1, x2⟩, x3, x4⟩ := hn.ends.flops f hfm
      have hvd := us_get v f.d.toNat (by omega)
      have hve := us_get v f.en.toNat (by omega)
      have w1 : IntKind.i64.wrap (2 + (n.inn.length : Int)) = 2 + (n.inn.length : Int) := wrap64 (by omega)
      have w2 : IntKind.i64.wrap (2 + (n.inn.length : Int) + i) = 2 + (n.inn.length : Int) + i := wrap64 (by omega)
      have hv0 : 0 ≤ 2 + (n.inn.length : Int) + i := by omega
      have hvo := us_get v (2 + (n.inn.length : Int) + i).toNat (by omega)
      rw [flop_drop _ i f hfi, nextsF] at hN
      refine Run.skip ?_
      refine End.kp [1, 2, 4, 5, 27, 28, 29] ?_
      refine Run.seq ?_
      refine Run.block ?_
      refine Run.seq ?_
      have fx := And.intro (@Int.toNat_natCast) (And.intro (@Int.natCast_nonneg) (And.intro w2 (And.intro w1 (And.intro hv0 (And.intro hvo (And.intro hve (And.intro hvd (And.intro x3 (And.intro x1 (And.intro hf (And.intro wi (And.intro haf (And.intro hdn (And.intro hao (And.intro hol (And.intro strs_len (And.intro ints_len (And.intro fim_len (And.intro us_len ft)))))))))))))))))))
      refine Run.go ?_
      refine End.kp [1, 2, 4, 5, 8, 9, 27, 28, 29] ?_
      refine Run.seq ?_
      refine Run.go ?_
      refine End.kp [1, 2, 4, 5, 9, 10, 27, 28, 29] ?_
      refine Run.ghost (.spares 1) ?_
      simp only [ASt.pushN, ASt.push, List.append_assoc, List.cons_append, List.nil_append]
      refine Run.drawA fun K hK => ?_
      refine DOps.sim ?_
      refine DOps.nil (by rfl) (hK _ ?_); clear hK K
      refine End.blk ?_
      refine End.kp [1, 2, 4, 5, 27, 28, 29] ?_
      refine Run.go ?_
      refine End.lp ?_
      refine ⟨n.flops.length - (i + 1), _, by omega, Ghost.form [(1, .im (.sl (us v))), (2, .ptr 0 0 0), (4, .ms 0 1 n.outs.length), (5, .ms 0 2 (i + 1)), (27, .im (.sl (n.flops.map LFlop.im))), (28, .i n.flops.length), (29, .i (i + 1 : Nat))] 3 ⟨rfl, rfl, rfl, rfl, rfl, rfl, rfl, trivial⟩ rfl rfl, i + 1, dn ++ [nextF n v i f], rfl, by omega, by simp [hdn], by simpa using hN, ?_⟩
      simp [nextF]
    · have hb := of_decide_eq_false hb
      have hiN : i = n.flops.length := by omega
      subst hiN
      rw [List.drop_length, nextsF, List.append_nil] at hN
      refine Run.exit rfl ?_
      refine End.kp [4, 5] ?_
      refine Run.seq ?_
      refine Run.ghost (Ghost.shut (t := 4) (j := 1) rfl rfl (by rw [us_len]; exact hol)) ?_
      simp only [eput, edel]
      refine Run.ghost (Ghost.shut (t := 5) (j := 2) rfl rfl (by rw [us_len, hdn])) ?_
      simp only [eput, edel]
      have fx := And.intro haf (And.intro hdn (And.intro hao (And.intro hol (And.intro strs_len (And.intro ints_len (And.intro fim_len (And.intro us_len ft)))))))
      refine Run.go ?_
      refine End.kp [4, 5] ?_
      refine Run.ret (hQ _ _ ⟨.inr rfl, _, rfl, _, rfl, ?_⟩)
      exact ⟨by rw [hN], rfl⟩
theorem valsN_len : ∀ (gs : List LGate) (v : List Int), (valsN gs v).length = v.length + gs.length
  | [], v => by simp [valsN]
  | g :: gs, v => by
    rw [valsN, valsN_len gs]
    simp
    omega
theorem valuesV_len (n : LNet) (inn st : List Int) (h1 : inn.length = n.inn.length) (h2 : st.length = n.flops.length) : (valuesV n inn st).length = 2 + n.inn.length + n.flops.length + n.gates.length := by
  rw [valuesV, valsN_len]
  simp
  omega
end Go.Proofs.YtkmnmokjlpenhaaPi

/- Plain law: bit 0 of words. -/
set_option linter.unusedVariables false
set_option linter.unusedSimpArgs false
namespace Go.Proofs.YtkmnmokjlpenhaaPi

theorem valsN_pre : ∀ (gs : List LGate) (v : List Int) (k : Nat), k < v.length → (valsN gs v).getD k 0 = v.getD k 0
  | [], v, k, h => rfl
  | g :: gs, v, k, h => by
    rw [valsN, valsN_pre gs _ k (by simp; omega)]
    simp [List.getElem?_append_left h]
theorem nextsF_get (n : LNet) (v : List Int) : ∀ (fs : List LFlop) (j i : Nat) (f : LFlop), fs[i]? = some f → (nextsF n v j fs)[i]? = some (nextF n v (j + i) f)
  | [], j, i, f, h => by simp at h
  | g :: gs, j, 0, f, h => by
    simp at h
    subst h
    rfl
  | g :: gs, j, i + 1, f, h => by
    rw [nextsF, List.getElem?_cons_succ, nextsF_get n v gs (j + 1) i f (by simpa using h)]
    congr 2
    omega
end Go.Proofs.YtkmnmokjlpenhaaPi

/- The walks of the functions that draw graphs. -/
set_option linter.unusedVariables false
set_option linter.unusedSimpArgs false
set_option maxRecDepth 100000
namespace Go.Proofs.YtkmnmokjlpenhaaPi
set_option maxHeartbeats 2000000

structure LReg where
  name : ByteArray
  next : Int
  init : Bool
abbrev LReg.im (r : LReg) : List Im := [.str r.name, .int .i64 r.next, .bool r.init]
abbrev nd (p : Int × Int) : List Im := [.int .i64 p.1, .int .i64 p.2]
structure LGraph where
  inn : List ByteArray
  out : List ByteArray
  regs : List LReg
  ands : List (Int × Int)
  outs : List Int
abbrev LGraph.cells (g : LGraph) : List PV := [.im (.sl (strs g.inn)), .im (.sl (strs g.out)), .im (.sl (g.regs.map LReg.im)), .im (.sl (g.ands.map nd)), .im (.sl (ints g.outs))]
abbrev LGraph.pv (g : LGraph) : PV := .agg g.cells
theorem rim_len (l : List LReg) : (l.map LReg.im).length = l.length := by simp
theorem nd_len (l : List (Int × Int)) : (l.map nd).length = l.length := by simp

/-- Things drawn one after the other. -/
def drawN {α : Type} (f : Nat → Int → α × Int) (a : Int) : Nat → List α × Int
  | 0 => ([], a)
  | i + 1 => ((drawN f a i).1 ++ [(f i (drawN f a i).2).1], (f i (drawN f a i).2).2)
theorem drawN_len {α : Type} (f : Nat → Int → α × Int) (a : Int) : ∀ i, (drawN f a i).1.length = i
  | 0 => rfl
  | i + 1 => by simp [drawN, drawN_len f a i]
theorem drawN_pos {α : Type} (f : Nat → Int → α × Int) (a : Int) (c : Nat) (h : ∀ i b, b ≤ (f i b).2 ∧ (f i b).2 ≤ b + c) : ∀ i : Nat, a ≤ (drawN f a i).2 ∧ (drawN f a i).2 ≤ a + c * i
  | 0 => by simp [drawN]
  | i + 1 => by
    have h1 := drawN_pos f a c h i
    have h2 := h i (drawN f a i).2
    simp only [drawN]
    have : (c : Int) * ((i + 1 : Nat) : Int) = c * i + c := by rw [Int.natCast_add, Int.mul_add]; simp
    omega
theorem drawN_mem {α : Type} (f : Nat → Int → α × Int) (a : Int) (Q : Nat → α → Prop) (h : ∀ i b, Q i (f i b).1) : ∀ n i x, (drawN f a n).1[i]? = some x → Q i x
  | 0, i, x, hx => by simp [drawN] at hx
  | n + 1, i, x, hx => by
    simp only [drawN, List.getElem?_append, drawN_len] at hx
    split at hx
    · exact drawN_mem f a Q h n i x hx
    · rename_i hi
      have : i - n = 0 := by
        have := (List.getElem?_eq_some_iff.1 hx).1
        simp at this
        omega
      rw [this] at hx
      simp at hx
      subst hx
      have : i = n := by omega
      subst this
      exact h i _

def litX (l : List Int) (a n : Int) : Int × Int :=
  if nextV l (a + 1) 2 = 0 then (2 * (n - 1 - nextV l (a + 1 + 1) (min n 6)) + nextV l (a + 1 + 1 + 1) 2, a + 1 + 1 + 1 + 1)
  else (2 * nextV l a n + nextV l (a + 1 + 1) 2, a + 1 + 1 + 1)
theorem litX_pos (l : List Int) (a n : Int) : a ≤ (litX l a n).2 ∧ (litX l a n).2 ≤ a + (4 : Nat) := by
  unfold litX
  split <;> exact ⟨by simp only; omega, by simp only; omega⟩
theorem litX_range (l : List Int) (a n : Int) (h : 1 ≤ n) : 0 ≤ (litX l a n).1 ∧ (litX l a n).1 < 2 * n := by
  unfold litX
  split
  · have h1 := nextV_range l (a + 1 + 1) (min n 6) (by omega)
    have h2 := nextV_range l (a + 1 + 1 + 1) 2 (by omega)
    simp only
    omega
  · have h1 := nextV_range l a n h
    have h2 := nextV_range l (a + 1 + 1) 2 (by omega)
    simp only
    omega
def andX (l : List Int) (n : Int) (i : Nat) (a : Int) : (Int × Int) × Int := (((litX l a (n + i)).1, (litX l (litX l a (n + i)).2 (n + i)).1), (litX l (litX l a (n + i)).2 (n + i)).2)
theorem andX_pos (l : List Int) (n : Int) (i : Nat) (a : Int) : a ≤ (andX l n i a).2 ∧ (andX l n i a).2 ≤ a + (8 : Nat) := by
  have h1 := litX_pos l a (n + i)
  have h2 := litX_pos l (litX l a (n + i)).2 (n + i)
  simp only [andX]
  omega
def regX (l : List Int) (n : Int) (names : List ByteArray) (i : Nat) (a : Int) : LReg × Int := (⟨names.getD i ByteArray.empty, (litX l a n).1, nextV l (litX l a n).2 2 == 0⟩, (litX l a n).2 + 1)
theorem regX_pos (l : List Int) (n : Int) (names : List ByteArray) (i : Nat) (a : Int) : a ≤ (regX l n names i a).2 ∧ (regX l n names i a).2 ≤ a + (5 : Nat) := by
  have h1 := litX_pos l a n
  simp only [regX]
  omega
def graphV (l : List Int) (a : Int) (ins regs ands outs : Nat) : LGraph × Int :=
  let w := wordsV l (ins + regs) 0 a
  let o := wordsV l outs 0 w.2
  let n : Int := ((1 + ins + regs : Nat) : Int)
  let A := drawN (andX l n) o.2 ands
  let R := drawN (regX l (n + ands) (w.1.drop ins)) A.2 regs
  let O := drawN (fun _ b => litX l b (n + ands)) R.2 outs
  (⟨w.1.take ins, o.1, R.1, A.1, O.1⟩, O.2)
theorem lit_ok (n : Int) (hn : 1 ≤ n) (hn2 : n ≤ 1000000) (l : List Int) (a : Int) (hs : StmOk l a) (hf : a + 1000 < 1099511627776) (up : Frs) (d j : Nat) (hl : fget up d j = some (stm l a)) : ACalls Try.prog 136 [.ptr d j 0, .i n] up fun v u => v = .i (litX l a n).1 ∧ u = fset up d j (stm l (litX l a n).2) := by
  have hset : ∀ o, fget (fset up d j o) d j = some o := fun o => fget_fset_same _ _ _ _ _ hl
  have hp := hs.pos
  
  obtain ⟨r0, r1⟩ := nextV_range l a n hn
  have ok : ∀ b : Int, a ≤ b → b ≤ a + 10 → StmOk l b := fun b h1 h2 => ⟨hs.vals, hs.len, by omega, by omega⟩
  refine ACalls.code Try.func136 rfl 24 rfl (by simp) [.tmp 4] rfl fun Q hQ => ?_
  simp only [ups, PV.up, argEnv]
  have ft := And.intro ty_3 (And.intro ty_4 (And.intro ty_23 (And.intro ty_62 trivial)))
  refine Run.seq ?_
  have fx := And.intro hset (And.intro hl ft)
  refine Run.go ?_
  refine End.kp [0, 1] ?_
  refine Run.seq ?_
  refine Run.region rfl fun K hK => GOps.sim ?_
  refine GOps.call rfl rfl rfl rfl (by kernel_rfl) (ACalls.sim ?_)
  refine (Next_ok l a n hs (by omega) _ (d + 1) j hl).mono fun v u hv => ?_
  obtain ⟨rfl, rfl⟩ := hv
  refine ⟨_, _, rfl, GOps.sim ?_⟩
  refine GOps.done (hK _ ?_); clear hK K
  refine End.kp [0, 1, 5] ?_
  refine Run.seq ?_
  refine Run.seq ?_
  refine Run.region rfl fun K hK => GOps.sim ?_
  refine GOps.call rfl rfl rfl rfl (by kernel_rfl) (ACalls.sim ?_)
  refine (Next_ok l (a + 1) 2 (ok _ (by omega) (by omega)) (by omega) _ (d + 1) j (hset _)).mono fun v u hv => ?_
  obtain ⟨rfl, rfl⟩ := hv
  refine ⟨_, _, rfl, GOps.sim ?_⟩
  refine GOps.done (hK _ ?_); clear hK K
  refine End.kp [0, 1, 5, 11] ?_
  refine Run.cond _ rfl (fun hb => ?_) (fun hb => ?_)
  · have hb := eq_of_beq hb
    have hmin : (if (6 : Int) < n then 6 else n) = min n 6 := by split <;> omega
    obtain ⟨k0, k1⟩ := nextV_range l (a + 1 + 1) (min n 6) (by omega)
    obtain ⟨m0, m1⟩ := nextV_range l (a + 1 + 1 + 1) 2 (by omega)
    have w1 : IntKind.i64.wrap (n - 1) = n - 1 := wrap64 (by omega)
    have w2 : IntKind.i64.wrap (n - 1 - nextV l (a + 1 + 1) (min n 6)) = n - 1 - nextV l (a + 1 + 1) (min n 6) := wrap64 (by omega)
    have w3 : IntKind.i64.wrap (2 * (n - 1 - nextV l (a + 1 + 1) (min n 6))) = 2 * (n - 1 - nextV l (a + 1 + 1) (min n 6)) := wrap64 (by omega)
    have w4 : IntKind.i64.wrap (2 * (n - 1 - nextV l (a + 1 + 1) (min n 6)) + nextV l (a + 1 + 1 + 1) 2) = 2 * (n - 1 - nextV l (a + 1 + 1) (min n 6)) + nextV l (a + 1 + 1 + 1) 2 := wrap64 (by omega)
    have fx := And.intro w4 (And.intro w3 (And.intro w2 (And.intro w1 (And.intro hmin (And.intro hset (And.intro hl ft))))))
    refine Run.region rfl fun K hK => GOps.sim ?_
    refine GOps.call rfl rfl rfl rfl (by kernel_rfl) (ACalls.sim ?_)
    refine (Next_ok l (a + 1 + 1) (min n 6) (ok _ (by omega) (by omega)) (by omega) _ (d + 1) j (hset _)).mono fun v u hv => ?_
    obtain ⟨rfl, rfl⟩ := hv
    refine ⟨_, _, rfl, GOps.sim ?_⟩
    refine GOps.done (hK _ ?_); clear hK K
    refine End.kp [0, 5] ?_
    refine Run.seq ?_
    refine Run.region rfl fun K hK => GOps.sim ?_
    refine GOps.call rfl rfl rfl rfl (by kernel_rfl) (ACalls.sim ?_)
    refine (Next_ok l (a + 1 + 1 + 1) 2 (ok _ (by omega) (by omega)) (by omega) _ (d + 1) j (hset _)).mono fun v u hv => ?_
    obtain ⟨rfl, rfl⟩ := hv
    refine ⟨_, _, rfl, GOps.sim ?_⟩
    refine GOps.done (hK _ ?_); clear hK K
    refine End.kp [4] ?_
    refine Run.ret (hQ _ _ ⟨.inr rfl, _, rfl, _, rfl, ?_⟩)
    exact ⟨by simp [litX, hb], by simp [litX, hb]⟩
  · have hb : ¬ nextV l (a + 1) 2 = 0 := fun e => by simp [e] at hb
    obtain ⟨m0, m1⟩ := nextV_range l (a + 1 + 1) 2 (by omega)
    have w3 : IntKind.i64.wrap (2 * nextV l a n) = 2 * nextV l a n := wrap64 (by omega)
    have w4 : IntKind.i64.wrap (2 * nextV l a n + nextV l (a + 1 + 1) 2) = 2 * nextV l a n + nextV l (a + 1 + 1) 2 := wrap64 (by omega)
    refine Run.skip ?_
    refine End.kp [0, 5] ?_
    refine Run.seq ?_
    have fx := And.intro w4 (And.intro w3 (And.intro hset (And.intro hl ft)))
    refine Run.region rfl fun K hK => GOps.sim ?_
    refine GOps.call rfl rfl rfl rfl (by kernel_rfl) (ACalls.sim ?_)
    refine (Next_ok l (a + 1 + 1) 2 (ok _ (by omega) (by omega)) (by omega) _ (d + 1) j (hset _)).mono fun v u hv => ?_
    obtain ⟨rfl, rfl⟩ := hv
    refine ⟨_, _, rfl, GOps.sim ?_⟩
    refine GOps.done (hK _ ?_); clear hK K
    refine End.kp [4] ?_
    refine Run.ret (hQ _ _ ⟨.inr rfl, _, rfl, _, rfl, ?_⟩)
    exact ⟨by simp [litX, hb], by simp [litX, hb]⟩
theorem Graph_ok (ins regs ands outs : Nat) (h1 : ins ≤ 50) (h2 : regs ≤ 50) (h3 : ands ≤ 100) (h4 : outs ≤ 50) (l : List Int) (a : Int) (hs : StmOk l a) (hf : a + 10000 < 1099511627776) (up : Frs) (d j : Nat) (hl : fget up d j = some (stm l a)) (k : Nat) (hk : fget up 0 k = some .dead) :
    ACalls Try.prog 84 [.ptr d j 0, .i ins, .i regs, .i ands, .i outs] up fun v u => v = .agg [.im (.sl (strs (graphV l a ins regs ands outs).1.inn)), .im (.sl (strs (graphV l a ins regs ands outs).1.out)), .im (.sl ((graphV l a ins regs ands outs).1.regs.map LReg.im)), .ms 0 k ands, .im (.sl (ints (graphV l a ins regs ands outs).1.outs))] ∧
      u = fset (fset up d j (stm l (graphV l a ins regs ands outs).2)) 0 k (.row 137 2 ((graphV l a ins regs ands outs).1.ands.map nd) 0) := by
  have hset : ∀ o, fget (fset up d j o) d j = some o := fun o => fget_fset_same _ _ _ _ _ hl
  have hne : ¬ (0 = d ∧ k = j) := ref_ne hl hk (by simp)
  have hkset : ∀ o, fget (fset up d j o) 0 k = some .dead := fun o => by rw [fget_fset_ne hne]; exact hk
  have hp := hs.pos
  have ok : ∀ b : Int, a ≤ b → b ≤ a + 3000 → StmOk l b := fun b h1 h2 => ⟨hs.vals, hs.len, by omega, by omega⟩
  have wif : IntKind.i64.wrap ((ins : Int) + regs) = ((ins + regs : Nat) : Int) := by rw [wrap64 (by omega)]; omega
  generalize hG : graphV l a ins regs ands outs = G
  generalize hwv : wordsV l (ins + regs) 0 a = W
  obtain ⟨wn, a1⟩ := W
  obtain ⟨p1, p2, p3⟩ := wordsV_pos l (ins + regs) 0 a
  rw [hwv] at p1 p2 p3
  simp only at p1 p2 p3
  generalize hov : wordsV l outs 0 a1 = O
  obtain ⟨on, a2⟩ := O
  obtain ⟨q1, q2, q3⟩ := wordsV_pos l outs 0 a1
  rw [hov] at q1 q2 q3
  simp only at q1 q2 q3
  have hsi : (strs wn).length = ins + regs := by rw [strs_len, p3]
  have hslice : 0 ≤ ins ∧ ins = ins ∧ ins ≤ (strs wn).length ∧ szOk 1 0 (strs wn) := ⟨by omega, rfl, by omega, .inl rfl⟩
  have htake : (strs wn).take ins = strs (wn.take ins) := by simp [strs, List.map_take]
  have wf1 : IntKind.i64.wrap (1 + (ins : Int)) = 1 + (ins : Int) := wrap64 (by omega)
  have wf2 : IntKind.i64.wrap (1 + (ins : Int) + regs) = 1 + (ins : Int) + regs := wrap64 (by omega)
  obtain ⟨n, hn⟩ : ∃ f : Int, f = 1 + (ins : Int) + regs := ⟨_, rfl⟩
  have wf3 : IntKind.i64.wrap n = n := wrap64 (by omega)
  have wfg : IntKind.i64.wrap (n + ands) = n + ands := wrap64 (by omega)
  have pA : ∀ i : Nat, _ := drawN_pos (andX l n) a2 8 (andX_pos l n)
  generalize ha3 : (drawN (andX l n) a2 ands).2 = a3
  have pA3 := pA ands
  rw [ha3] at pA3
  have pR : ∀ i : Nat, _ := drawN_pos (regX l (n + ands) (wn.drop ins)) a3 5 (regX_pos l (n + ands) (wn.drop ins))
  generalize ha4 : (drawN (regX l (n + ands) (wn.drop ins)) a3 regs).2 = a4
  have pR4 := pR regs
  rw [ha4] at pR4
  have pO : ∀ i : Nat, _ := drawN_pos (fun _ b => litX l b (n + ands)) a4 4 (fun _ b => litX_pos l b (n + ands))
  have hN : G = (⟨wn.take ins, on, (drawN (regX l (n + ands) (wn.drop ins)) a3 regs).1, (drawN (andX l n) a2 ands).1, (drawN (fun _ b => litX l b (n + ands)) a4 outs).1⟩, (drawN (fun _ b => litX l b (n + ands)) a4 outs).2) := by
    have hc : ((1 + ins + regs : Nat) : Int) = n := by omega
    rw [← hG]
    simp only [graphV, hwv, hov, hc, ha3, ha4]
  refine ACalls.codeI Try.func84 rfl 94 rfl (by simp) [.cell 10 51] rfl k fun Q hQ => ?_
  simp only [ups, PV.up, argEnv]
  have ft := And.intro ty_2 (And.intro ty_3 (And.intro ty_4 (And.intro ty_9 (And.intro ty_23 (And.intro ty_26 (And.intro ty_47 (And.intro ty_48 (And.intro ty_49 (And.intro ty_51 (And.intro ty_62 (And.intro ty_69 (And.intro ty_137 trivial))))))))))))
  refine Run.seq ?_
  have fx := And.intro wif (And.intro hset (And.intro hl ft))
  refine Run.go ?_
  refine End.kp [0, 1, 2, 3, 4, 10] ?_
  refine Run.seq ?_
  refine Run.region rfl fun K hK => GOps.sim ?_
  refine GOps.call rfl rfl rfl rfl (by kernel_rfl) (ACalls.sim ?_)
  refine (Words_ok (ins + regs) (by omega) l a hs (by omega) _ (d + 1) j hl).mono fun v u hv => ?_
  obtain ⟨rfl, rfl⟩ := hv
  rw [hwv]
  have fx := And.intro (@Int.toNat_natCast) (And.intro (@Int.natCast_nonneg) (And.intro wf3 (And.intro hn.symm (And.intro wf2 (And.intro wf1 (And.intro htake (And.intro hslice (And.intro wif (And.intro hset (And.intro hl ft))))))))))
  refine ⟨_, _, rfl, GOps.sim ?_⟩
  refine GOps.done (hK _ ?_); clear hK K
  refine End.kp [0, 1, 2, 3, 4, 10, 11] ?_
  refine Run.seq ?_
  refine Run.ghost (.spares 1) ?_
  simp only [ASt.pushN, ASt.push, List.append_assoc, List.cons_append, List.nil_append]
  refine Run.drawA fun K hK => ?_
  refine DOps.sim ?_
  refine DOps.call (.im (.sl (strs on))) [((d + 1, j), stm l (a1))] [((d + 1, j), stm l (a2))] rfl rfl rfl rfl (by kernel_rfl) (by simp [Agree, ASt.fr, hset]) (fun u hu => by have := Words_ok outs (by omega) l a1 (ok _ (by omega) (by omega)) (by omega) u (d + 1) j (hu (((d + 1, j), stm l (a1))) (by simp)); rw [hov] at this; exact this) ?_
  refine DOps.sim ?_
  refine DOps.nil (by rfl) (hK _ ?_); clear hK K
  refine End.kp [0, 1, 2, 3, 4, 10, 11, 12] ?_
  refine Run.seq ?_
  refine Run.go ?_
  refine End.kp [0, 1, 2, 3, 4, 10, 11, 12, 13] ?_
  refine Run.seq ?_
  refine Run.seq ?_
  refine Run.go ?_
  refine End.kp [0, 1, 2, 3, 4, 10, 11, 12, 13, 33, 34] ?_
  refine Run.block ?_
  refine Run.ghost (.thawBox (j := 1) (i := 3) 137 2 (by decide) rfl rfl) ?_
  refine Run.ghost (Ghost.form [(0, .ptr (d + 1) j 0), (1, .i ins), (2, .i regs), (3, .i ands), (4, .i outs), (10, .ptr 0 0 0), (11, .im (.sl (strs wn))), (12, .ptr 0 1 0), (13, .i n), (33, .i ands), (34, .i (0 : Nat))] 3 ⟨rfl, rfl, rfl, rfl, rfl, rfl, rfl, rfl, rfl, rfl, rfl, trivial⟩ rfl rfl) ?_
  refine Run.loop (fun m s => ∃ i : Nat, m = ands - i ∧ i ≤ ands ∧ s = ⟨[(0, .ptr (d + 1) j 0), (1, .i ins), (2, .i regs), (3, .i ands), (4, .i outs), (10, .ptr 0 0 0), (11, .im (.sl (strs wn))), (12, .ptr 0 1 0), (13, .i n), (33, .i ands), (34, .i (i : Nat))], [.box [.nils, .nils, .nils, .nils, .nils], .box [.full (strs (wn.take ins)), .im (.sl (strs on)), .nils, .ms 0 2 i, .nils], .row 137 2 ((drawN (andX l n) a2 i).1.map nd) 0], fset up d j (stm l (drawN (andX l n) a2 i).2)⟩) ands ⟨0, rfl, by omega, rfl⟩ fun m s hI => ?_
  obtain ⟨i, rfl, hi, rfl⟩ := hI
  have hsl : ((drawN (andX l n) a2 i).1.map nd).length = i := by rw [nd_len, drawN_len]
  have pAi := pA i
  have hc : (drawN (andX l n) a2 i).2 ≤ a2 + 800 := by omega
  generalize hcA : (drawN (andX l n) a2 i).2 = c at pAi hc
  have wi : IntKind.i64.wrap ((i : Int) + 1) = ((i + 1 : Nat) : Int) := by rw [wrap64 (by omega)]; omega
  have wfi : IntKind.i64.wrap (n + (i : Int)) = n + (i : Int) := wrap64 (by omega)
  have hap : (i + 1) * 16 ≤ 140737488355328 := by omega
  have pl1 := litX_pos l c (n + i)
  refine Run.seq ?_
  have fx := And.intro hap (And.intro wfi (And.intro wi (And.intro hsl (And.intro (@Int.toNat_natCast) (And.intro (@Int.natCast_nonneg) (And.intro wf3 (And.intro hn.symm (And.intro wf2 (And.intro wf1 (And.intro htake (And.intro hslice (And.intro wif (And.intro hset (And.intro hl ft))))))))))))))
  refine Run.go ?_
  refine End.kp [0, 1, 2, 3, 4, 10, 11, 12, 13, 33, 34, 35] ?_
  refine Run.seq ?_
  refine Run.cond _ rfl (fun hb => ?_) (fun hb => ?_)
  · have hb := of_decide_eq_true hb
    have hin : i < ands := by omega
    refine Run.skip ?_
    refine End.kp [0, 1, 2, 3, 4, 10, 11, 12, 13, 33, 34] ?_
    refine Run.seq ?_
    refine Run.block ?_
    refine Run.seq ?_
    have fx := And.intro hap (And.intro wfi (And.intro wi (And.intro hsl (And.intro (@Int.toNat_natCast) (And.intro (@Int.natCast_nonneg) (And.intro wf3 (And.intro hn.symm (And.intro wf2 (And.intro wf1 (And.intro htake (And.intro hslice (And.intro wif (And.intro hset (And.intro hl ft))))))))))))))
    refine Run.go ?_
    refine End.kp [0, 1, 2, 3, 4, 10, 11, 12, 13, 14, 33, 34] ?_
    refine Run.ghost (.spares 1) ?_
    simp only [ASt.pushN, ASt.push, List.append_assoc, List.cons_append, List.nil_append]
    refine Run.drawA fun K hK => ?_
    refine DOps.sim ?_
    refine DOps.call (.i (litX l (c) (n + i)).1) [((d + 1, j), stm l (c))] [((d + 1, j), stm l ((litX l (c) (n + i)).2))] rfl rfl rfl rfl (by kernel_rfl) (by simp [Agree, ASt.fr, hset]) (fun u hu => lit_ok (n + i) (by omega) (by omega) l (c) (ok _ (by omega) (by omega)) (by omega) u (d + 1) j (hu (((d + 1, j), stm l (c))) (by simp))) ?_
    refine DOps.sim ?_
    refine DOps.call (.i (litX l ((litX l c (n + i)).2) (n + i)).1) [((d + 1, j), stm l ((litX l c (n + i)).2))] [((d + 1, j), stm l ((litX l ((litX l c (n + i)).2) (n + i)).2))] rfl rfl rfl rfl (by kernel_rfl) (by simp [Agree, ASt.fr, hset]) (fun u hu => lit_ok (n + i) (by omega) (by omega) l ((litX l c (n + i)).2) (ok _ (by omega) (by omega)) (by omega) u (d + 1) j (hu (((d + 1, j), stm l ((litX l c (n + i)).2))) (by simp))) ?_
    refine DOps.sim ?_
    refine DOps.nil (by rfl) (hK _ ?_); clear hK K
    refine End.blk ?_
    refine End.kp [0, 1, 2, 3, 4, 10, 11, 12, 13, 33, 34] ?_
    refine Run.go ?_
    refine End.lp ?_
    refine ⟨ands - (i + 1), _, by omega, Ghost.form [(0, .ptr (d + 1) j 0), (1, .i ins), (2, .i regs), (3, .i ands), (4, .i outs), (10, .ptr 0 0 0), (11, .im (.sl (strs wn))), (12, .ptr 0 1 0), (13, .i n), (33, .i ands), (34, .i (i + 1 : Nat))] 3 ⟨rfl, rfl, rfl, rfl, rfl, rfl, rfl, rfl, rfl, rfl, rfl, trivial⟩ rfl rfl, i + 1, rfl, by omega, ?_⟩
    simp [drawN, hcA, andX]
  · have hb := of_decide_eq_false hb
    have hiN : i = ands := by omega
    rw [hiN] at hsl hcA
    rw [ha3] at hcA
    subst hcA
    have hnf : ∀ k : Nat, k < regs → (strs wn)[ins + k]? = some [.str ((wn.drop ins).getD k ByteArray.empty)] := fun k hk => by
      have : ins + k < wn.length := by omega
      simp [this]
    refine Run.exit rfl ?_
    refine End.kp [0, 1, 2, 3, 4, 10, 11, 12, 13] ?_
    refine Run.seq ?_
    refine Run.seq ?_
    have fx := And.intro hsi (And.intro hap (And.intro wfi (And.intro wi (And.intro hsl (And.intro (@Int.toNat_natCast) (And.intro (@Int.natCast_nonneg) (And.intro wf3 (And.intro hn.symm (And.intro wf2 (And.intro wf1 (And.intro htake (And.intro hslice (And.intro wif (And.intro hset (And.intro hl ft)))))))))))))))
    refine Run.go ?_
    refine End.kp [0, 1, 3, 4, 10, 11, 12, 13, 54, 55] ?_
    refine Run.block ?_
    rw [hiN]
    refine Run.ghost (.thawBox (j := 1) (i := 2) 69 3 (by decide) rfl rfl) ?_
    refine Run.ghost (Ghost.form [(0, .ptr (d + 1) j 0), (1, .i ins), (3, .i ands), (4, .i outs), (10, .ptr 0 0 0), (11, .im (.sl (strs wn))), (12, .ptr 0 1 0), (13, .i n), (54, .i regs), (55, .i (0 : Nat))] 4 ⟨rfl, rfl, rfl, rfl, rfl, rfl, rfl, rfl, rfl, rfl, trivial⟩ rfl rfl) ?_
    refine Run.loop (fun m s => ∃ k : Nat, m = regs - k ∧ k ≤ regs ∧ s = ⟨[(0, .ptr (d + 1) j 0), (1, .i ins), (3, .i ands), (4, .i outs), (10, .ptr 0 0 0), (11, .im (.sl (strs wn))), (12, .ptr 0 1 0), (13, .i n), (54, .i regs), (55, .i (k : Nat))], [.box [.nils, .nils, .nils, .nils, .nils], .box [.full (strs (wn.take ins)), .im (.sl (strs on)), .ms 0 3 k, .ms 0 2 ands, .nils], .row 137 2 ((drawN (andX l n) a2 ands).1.map nd) 0, .row 69 3 ((drawN (regX l (n + ands) (wn.drop ins)) a3 k).1.map LReg.im) 0], fset up d j (stm l (drawN (regX l (n + ands) (wn.drop ins)) a3 k).2)⟩) regs ⟨0, rfl, by omega, rfl⟩ fun m s hI => ?_
    obtain ⟨k', rfl, hk', rfl⟩ := hI
    have hfl : ((drawN (regX l (n + ands) (wn.drop ins)) a3 k').1.map LReg.im).length = k' := by rw [rim_len, drawN_len]
    have pRi := pR k'
    have hc : (drawN (regX l (n + ands) (wn.drop ins)) a3 k').2 ≤ a3 + 250 := by omega
    generalize hcR : (drawN (regX l (n + ands) (wn.drop ins)) a3 k').2 = c at pRi hc
    have wk : IntKind.i64.wrap ((k' : Int) + 1) = ((k' + 1 : Nat) : Int) := by rw [wrap64 (by omega)]; omega
    have wik : IntKind.i64.wrap ((ins : Int) + k') = ((ins + k' : Nat) : Int) := by rw [wrap64 (by omega)]; omega
    have hak : (k' + 1) * 32 ≤ 140737488355328 := by omega
    have pl1 := litX_pos l c (n + ands)
    refine Run.seq ?_
    have fx := And.intro wfg (And.intro hak (And.intro wik (And.intro wk (And.intro hfl (And.intro hsi (And.intro hap (And.intro wfi (And.intro wi (And.intro hsl (And.intro (@Int.toNat_natCast) (And.intro (@Int.natCast_nonneg) (And.intro wf3 (And.intro hn.symm (And.intro wf2 (And.intro wf1 (And.intro htake (And.intro hslice (And.intro wif (And.intro hset (And.intro hl ft))))))))))))))))))))
    refine Run.go ?_
    refine End.kp [0, 1, 3, 4, 10, 11, 12, 13, 54, 55, 56] ?_
    refine Run.seq ?_
    refine Run.cond _ rfl (fun hb => ?_) (fun hb => ?_)
    · have hb := of_decide_eq_true hb
      have hkf : k' < regs := by omega
      have hnk := hnf k' hkf
      generalize hnm : (wn.drop ins).getD k' ByteArray.empty = nm at hnk
      refine Run.skip ?_
      refine End.kp [0, 1, 3, 4, 10, 11, 12, 13, 54, 55] ?_
      refine Run.seq ?_
      refine Run.block ?_
      refine Run.seq ?_
      have fx := And.intro hnk (And.intro wfg (And.intro hak (And.intro wik (And.intro wk (And.intro hfl (And.intro hsi (And.intro hap (And.intro wfi (And.intro wi (And.intro hsl (And.intro (@Int.toNat_natCast) (And.intro (@Int.natCast_nonneg) (And.intro wf3 (And.intro hn.symm (And.intro wf2 (And.intro wf1 (And.intro htake (And.intro hslice (And.intro wif (And.intro hset (And.intro hl ft)))))))))))))))))))))
      refine Run.go ?_
      refine End.kp [0, 1, 3, 4, 10, 11, 12, 13, 15, 54, 55] ?_
      refine Run.ghost (.spares 1) ?_
      simp only [ASt.pushN, ASt.push, List.append_assoc, List.cons_append, List.nil_append]
      refine Run.drawA fun K hK => ?_
      refine DOps.sim ?_
      refine DOps.call (.i (litX l (c) (n + ands)).1) [((d + 1, j), stm l (c))] [((d + 1, j), stm l ((litX l (c) (n + ands)).2))] rfl rfl rfl rfl (by kernel_rfl) (by simp [Agree, ASt.fr, hset]) (fun u hu => lit_ok (n + ands) (by omega) (by omega) l (c) (ok _ (by omega) (by omega)) (by omega) u (d + 1) j (hu (((d + 1, j), stm l (c))) (by simp))) ?_
      refine DOps.sim ?_
      refine DOps.call (.i (nextV l (litX l c (n + ands)).2 2)) [((d + 1, j), stm l ((litX l c (n + ands)).2))] [((d + 1, j), stm l ((litX l c (n + ands)).2 + 1))] rfl rfl rfl rfl (by kernel_rfl) (by simp [Agree, ASt.fr, hset]) (fun u hu => Next_ok l (litX l c (n + ands)).2 2 (ok _ (by omega) (by omega)) (by omega) u (d + 1) j (hu (((d + 1, j), stm l ((litX l c (n + ands)).2))) (by simp))) ?_
      refine DOps.sim ?_
      refine DOps.nil (by rfl) (hK _ ?_); clear hK K
      refine End.blk ?_
      refine End.kp [0, 1, 3, 4, 10, 11, 12, 13, 54, 55] ?_
      refine Run.go ?_
      refine End.lp ?_
      refine ⟨regs - (k' + 1), _, by omega, Ghost.form [(0, .ptr (d + 1) j 0), (1, .i ins), (3, .i ands), (4, .i outs), (10, .ptr 0 0 0), (11, .im (.sl (strs wn))), (12, .ptr 0 1 0), (13, .i n), (54, .i regs), (55, .i (k' + 1 : Nat))] 4 ⟨rfl, rfl, rfl, rfl, rfl, rfl, rfl, rfl, rfl, rfl, trivial⟩ rfl rfl, k' + 1, rfl, by omega, ?_⟩
      have hnm2 : wn[ins + k']?.getD ByteArray.empty = nm := by rw [← hnm]; simp
      simp [drawN, hcR, regX, hnm2]
    · have hb := of_decide_eq_false hb
      have hkR : k' = regs := by omega
      rw [hkR] at hfl hcR
      rw [ha4] at hcR
      subst hcR
      refine Run.exit rfl ?_
      refine End.kp [0, 3, 4, 10, 12, 13] ?_
      refine Run.seq ?_
      refine Run.seq ?_
      have fx := And.intro wfg (And.intro hak (And.intro wik (And.intro wk (And.intro hfl (And.intro hsi (And.intro hap (And.intro wfi (And.intro wi (And.intro hsl (And.intro (@Int.toNat_natCast) (And.intro (@Int.natCast_nonneg) (And.intro wf3 (And.intro hn.symm (And.intro wf2 (And.intro wf1 (And.intro htake (And.intro hslice (And.intro wif (And.intro hset (And.intro hl ft))))))))))))))))))))
      refine Run.go ?_
      refine End.kp [0, 3, 10, 12, 13, 79, 80] ?_
      refine Run.block ?_
      rw [hkR]
      refine Run.ghost (.thawBox (j := 1) (i := 4) 62 1 (by decide) rfl rfl) ?_
      refine Run.ghost (Ghost.form [(0, .ptr (d + 1) j 0), (3, .i ands), (10, .ptr 0 0 0), (12, .ptr 0 1 0), (13, .i n), (79, .i outs), (80, .i (0 : Nat))] 5 ⟨rfl, rfl, rfl, rfl, rfl, rfl, rfl, trivial⟩ rfl rfl) ?_
      refine Run.loop (fun m s => ∃ q : Nat, m = outs - q ∧ q ≤ outs ∧ s = ⟨[(0, .ptr (d + 1) j 0), (3, .i ands), (10, .ptr 0 0 0), (12, .ptr 0 1 0), (13, .i n), (79, .i outs), (80, .i (q : Nat))], [.box [.nils, .nils, .nils, .nils, .nils], .box [.full (strs (wn.take ins)), .im (.sl (strs on)), .ms 0 3 regs, .ms 0 2 ands, .ms 0 4 q], .row 137 2 ((drawN (andX l n) a2 ands).1.map nd) 0, .row 69 3 ((drawN (regX l (n + ands) (wn.drop ins)) a3 regs).1.map LReg.im) 0, .row 62 1 (ints (drawN (fun _ b => litX l b (n + ands)) a4 q).1) 0], fset up d j (stm l (drawN (fun _ b => litX l b (n + ands)) a4 q).2)⟩) outs ⟨0, rfl, by omega, rfl⟩ fun m s hI => ?_
      obtain ⟨q, rfl, hq, rfl⟩ := hI
      have hql : (ints (drawN (fun _ b => litX l b (n + ands)) a4 q).1).length = q := by rw [ints_len, drawN_len]
      have pOi := pO q
      have hc : (drawN (fun _ b => litX l b (n + ands)) a4 q).2 ≤ a4 + 200 := by omega
      generalize hcO : (drawN (fun _ b => litX l b (n + ands)) a4 q).2 = c at pOi hc
      have wq : IntKind.i64.wrap ((q : Int) + 1) = ((q + 1 : Nat) : Int) := by rw [wrap64 (by omega)]; omega
      have haq : (q + 1) * 8 ≤ 140737488355328 := by omega
      refine Run.seq ?_
      have fx := And.intro haq (And.intro wq (And.intro hql (And.intro wfg (And.intro hak (And.intro wik (And.intro wk (And.intro hfl (And.intro hsi (And.intro hap (And.intro wfi (And.intro wi (And.intro hsl (And.intro (@Int.toNat_natCast) (And.intro (@Int.natCast_nonneg) (And.intro wf3 (And.intro hn.symm (And.intro wf2 (And.intro wf1 (And.intro htake (And.intro hslice (And.intro wif (And.intro hset (And.intro hl ft)))))))))))))))))))))))
      refine Run.go ?_
      refine End.kp [0, 3, 10, 12, 13, 79, 80, 81] ?_
      refine Run.seq ?_
      refine Run.cond _ rfl (fun hb => ?_) (fun hb => ?_)
      · have hb := of_decide_eq_true hb
        have hqn : q < outs := by omega
        refine Run.skip ?_
        refine End.kp [0, 3, 10, 12, 13, 79, 80] ?_
        refine Run.seq ?_
        refine Run.block ?_
        refine Run.ghost (.spares 1) ?_
        simp only [ASt.pushN, ASt.push, List.append_assoc, List.cons_append, List.nil_append]
        have fx := And.intro haq (And.intro wq (And.intro hql (And.intro wfg (And.intro hak (And.intro wik (And.intro wk (And.intro hfl (And.intro hsi (And.intro hap (And.intro wfi (And.intro wi (And.intro hsl (And.intro (@Int.toNat_natCast) (And.intro (@Int.natCast_nonneg) (And.intro wf3 (And.intro hn.symm (And.intro wf2 (And.intro wf1 (And.intro htake (And.intro hslice (And.intro wif (And.intro hset (And.intro hl ft)))))))))))))))))))))))
        refine Run.drawA fun K hK => ?_
        refine DOps.sim ?_
        refine DOps.call (.i (litX l (c) (n + ands)).1) [((d + 1, j), stm l (c))] [((d + 1, j), stm l ((litX l (c) (n + ands)).2))] rfl rfl rfl rfl (by kernel_rfl) (by simp [Agree, ASt.fr, hset]) (fun u hu => lit_ok (n + ands) (by omega) (by omega) l (c) (ok _ (by omega) (by omega)) (by omega) u (d + 1) j (hu (((d + 1, j), stm l (c))) (by simp))) ?_
        refine DOps.sim ?_
        refine DOps.nil (by rfl) (hK _ ?_); clear hK K
        refine End.blk ?_
        refine End.kp [0, 3, 10, 12, 13, 79, 80] ?_
        refine Run.go ?_
        refine End.lp ?_
        refine ⟨outs - (q + 1), _, by omega, Ghost.form [(0, .ptr (d + 1) j 0), (3, .i ands), (10, .ptr 0 0 0), (12, .ptr 0 1 0), (13, .i n), (79, .i outs), (80, .i (q + 1 : Nat))] 5 ⟨rfl, rfl, rfl, rfl, rfl, rfl, rfl, trivial⟩ rfl rfl, q + 1, rfl, by omega, ?_⟩
        simp [drawN, hcO]
      · have hb := of_decide_eq_false hb
        have hqe : q = outs := by omega
        rw [hqe] at hql hcO
        subst hcO
        refine Run.exit rfl ?_
        refine End.kp [10, 12] ?_
        refine Run.seq ?_
        rw [hqe]
        refine Run.ghost (.freeze (d := 0) (j := 3) rfl) ?_
        refine Run.ghost (.freeze (d := 0) (j := 4) rfl) ?_
        refine Run.ghost (.boxAt (j := 1) (i := 2) rfl rfl) ?_
        refine Run.ghost (.boxAt (j := 1) (i := 4) rfl rfl) ?_
        refine Run.ghost (.boxAt (j := 1) (i := 0) rfl rfl) ?_
        have fx := And.intro haq (And.intro wq (And.intro hql (And.intro wfg (And.intro hak (And.intro wik (And.intro wk (And.intro hfl (And.intro hsi (And.intro hap (And.intro wfi (And.intro wi (And.intro hsl (And.intro (@Int.toNat_natCast) (And.intro (@Int.natCast_nonneg) (And.intro wf3 (And.intro hn.symm (And.intro wf2 (And.intro wf1 (And.intro htake (And.intro hslice (And.intro wif (And.intro hset (And.intro hl ft)))))))))))))))))))))))
        refine Run.go ?_
        refine End.kp [10] ?_
        refine Run.resI 2 hQ (hkset _) ?_
        rw [hN]
        exact ⟨rfl, rfl⟩
end Go.Proofs.YtkmnmokjlpenhaaPi

/- The walks of Small, Moving, Played, spread; a drawn graph. -/
set_option linter.unusedVariables false
set_option linter.unusedSimpArgs false
set_option maxRecDepth 100000
namespace Go.Proofs.YtkmnmokjlpenhaaPi
set_option maxHeartbeats 2000000
abbrev boolss (l : List (List Bool)) : List (List Im) := l.map fun r => [.sl (bools r)]
theorem boolss_len (l : List (List Bool)) : (boolss l).length = l.length := by simp
def playedV (l : List Int) (k : Nat) (a : Int) (n : Nat) : List (List Bool) × Int := drawN (fun _ b => (valsV l k b, b + k)) a n
theorem playedV_pos (l : List Int) (k : Nat) (a : Int) : ∀ n : Nat, (playedV l k a n).2 = a + k * n
  | 0 => by simp [playedV, drawN]
  | n + 1 => by
    have := playedV_pos l k a n
    have e : (playedV l k a (n + 1)).2 = (playedV l k a n).2 + k := rfl
    rw [e, this, Int.natCast_add, Int.mul_add]
    simp
    omega
theorem playedV_len (l : List Int) (k : Nat) (a : Int) (n : Nat) : (playedV l k a n).1.length = n := drawN_len _ _ _
theorem playedV_row (l : List Int) (k : Nat) (a : Int) (n : Nat) : ∀ r ∈ (playedV l k a n).1, r.length = k := by
  intro r hr
  obtain ⟨i, hi⟩ := List.mem_iff_getElem?.1 hr
  exact drawN_mem _ a (fun _ x => x.length = k) (fun i b => valsV_len l k b) n i r hi
def smallV (l : List Int) (a : Int) (ands : Nat) : LGraph × Int :=
  graphV l (a + 1 + 1 + 1 + 1) (nextV l a 5).toNat (nextV l (a + 1) 4).toNat (nextV l (a + 1 + 1) (ands + 1)).toNat (1 + nextV l (a + 1 + 1 + 1) (4 - 1 + 1)).toNat
theorem graphV_pos (l : List Int) (a : Int) (ins regs ands outs : Nat) : a ≤ (graphV l a ins regs ands outs).2 ∧ (graphV l a ins regs ands outs).2 ≤ a + 3 * (ins + regs + outs) + 8 * ands + 5 * regs + 4 * outs ∧ (graphV l a ins regs ands outs).1.inn.length = ins ∧ (graphV l a ins regs ands outs).1.out.length = outs ∧
    (graphV l a ins regs ands outs).1.regs.length = regs ∧ (graphV l a ins regs ands outs).1.ands.length = ands ∧ (graphV l a ins regs ands outs).1.outs.length = outs := by
  obtain ⟨p1, p2, p3⟩ := wordsV_pos l (ins + regs) 0 a
  obtain ⟨q1, q2, q3⟩ := wordsV_pos l outs 0 (wordsV l (ins + regs) 0 a).2
  have h1 := drawN_pos (andX l ((1 + ins + regs : Nat) : Int)) (wordsV l outs 0 (wordsV l (ins + regs) 0 a).2).2 8 (andX_pos l _) ands
  simp only [graphV]
  generalize (drawN (andX l ((1 + ins + regs : Nat) : Int)) (wordsV l outs 0 (wordsV l (ins + regs) 0 a).2).2 ands).2 = a3 at h1
  have h2 := drawN_pos (regX l (((1 + ins + regs : Nat) : Int) + ands) (List.drop ins (wordsV l (ins + regs) 0 a).1)) a3 5 (regX_pos l _ _) regs
  generalize (drawN (regX l (((1 + ins + regs : Nat) : Int) + ands) (List.drop ins (wordsV l (ins + regs) 0 a).1)) a3 regs).2 = a4 at h2
  have h3 := drawN_pos (fun _ b => litX l b (((1 + ins + regs : Nat) : Int) + ands)) a4 4 (fun _ b => litX_pos l b _) outs
  refine ⟨by omega, by omega, by rw [List.length_take]; omega, q3, drawN_len _ _ _, drawN_len _ _ _, drawN_len _ _ _⟩
theorem Small_ok (ands : Nat) (h3 : ands ≤ 99) (l : List Int) (a : Int) (hs : StmOk l a) (hf : a + 20000 < 1099511627776) (up : Frs) (d j : Nat) (hl : fget up d j = some (stm l a)) :
    ACalls Try.prog 47 [.ptr d j 0, .i ands] up fun v u => v = (smallV l a ands).1.pv ∧ u = fset up d j (stm l (smallV l a ands).2) := by
  have hset : ∀ o, fget (fset up d j o) d j = some o := fun o => fget_fset_same _ _ _ _ _ hl
  have hp := hs.pos
  
  have ok : ∀ b : Int, a ≤ b → b ≤ a + 3000 → StmOk l b := fun b h1 h2 => ⟨hs.vals, hs.len, by omega, by omega⟩
  obtain ⟨r1, s1⟩ := nextV_range l a 5 (by omega)
  obtain ⟨r2, s2⟩ := nextV_range l (a + 1) 4 (by omega)
  obtain ⟨r3, s3⟩ := nextV_range l (a + 1 + 1) (ands + 1) (by omega)
  obtain ⟨r4, s4⟩ := nextV_range l (a + 1 + 1 + 1) (4 - 1 + 1) (by omega)
  obtain ⟨ins, e1⟩ : ∃ k : Nat, nextV l a 5 = k := ⟨(nextV l a 5).toNat, by omega⟩
  obtain ⟨regs, e2⟩ : ∃ k : Nat, nextV l (a + 1) 4 = k := ⟨(nextV l (a + 1) 4).toNat, by omega⟩
  obtain ⟨k, e3⟩ : ∃ k : Nat, nextV l (a + 1 + 1) (ands + 1) = k := ⟨(nextV l (a + 1 + 1) (ands + 1)).toNat, by omega⟩
  obtain ⟨outs, e4⟩ : ∃ k : Nat, 1 + nextV l (a + 1 + 1 + 1) (4 - 1 + 1) = k := ⟨(1 + nextV l (a + 1 + 1 + 1) (4 - 1 + 1)).toNat, by omega⟩
  have wa : IntKind.i64.wrap ((ands : Int) + 1) = ands + 1 := wrap64 (by omega)
  have hG : smallV l a ands = graphV l (a + 1 + 1 + 1 + 1) ins regs k outs := by simp only [smallV, e1, e2, e3, e4, Int.toNat_natCast]
  have hal : ((graphV l (a + 1 + 1 + 1 + 1) ins regs k outs).1.ands.map nd).length = k := by rw [nd_len]; exact (graphV_pos l (a + 1 + 1 + 1 + 1) ins regs k outs).2.2.2.2.2.1
  refine ACalls.code Try.func47 rfl 17 rfl (by simp) [.cell 4 51] rfl fun Q hQ => ?_
  simp only [ups, PV.up, argEnv]
  have ft := And.intro ty_3 (And.intro ty_23 (And.intro ty_51 trivial))
  refine Run.seq ?_
  have fx := And.intro e4 (And.intro e3 (And.intro e2 (And.intro e1 (And.intro wa (And.intro hset (And.intro hl ft))))))
  refine Run.go ?_
  refine End.kp [0, 1, 4] ?_
  refine Run.seq ?_
  refine Run.ghost (.spares 1) ?_
  simp only [ASt.pushN, ASt.push, List.append_assoc, List.cons_append, List.nil_append]
  have fx := And.intro e4 (And.intro e3 (And.intro e2 (And.intro e1 (And.intro wa (And.intro hset (And.intro hl ft))))))
  refine Run.region rfl fun K hK => GOps.sim ?_
  refine GOps.call rfl rfl rfl rfl (by kernel_rfl) (ACalls.sim ?_)
  refine (Next_ok l a 5 hs (by omega) _ (d + 1) j hl).mono fun v u hv => ?_
  obtain ⟨rfl, rfl⟩ := hv
  refine ⟨_, _, rfl, GOps.sim ?_⟩
  refine GOps.call rfl rfl rfl rfl (by kernel_rfl) (ACalls.sim ?_)
  refine (Next_ok l (a + 1) 4 (ok _ (by omega) (by omega)) (by omega) _ (d + 1) j (hset _)).mono fun v u hv => ?_
  obtain ⟨rfl, rfl⟩ := hv
  refine ⟨_, _, rfl, GOps.sim ?_⟩
  refine GOps.call rfl rfl rfl rfl (by kernel_rfl) (ACalls.sim ?_)
  refine (Next_ok l (a + 1 + 1) (ands + 1) (ok _ (by omega) (by omega)) (by omega) _ (d + 1) j (hset _)).mono fun v u hv => ?_
  obtain ⟨rfl, rfl⟩ := hv
  refine ⟨_, _, rfl, GOps.sim ?_⟩
  refine GOps.call rfl rfl rfl rfl (by kernel_rfl) (ACalls.sim ?_)
  refine (Range_ok 1 4 (by omega) (by omega) (by omega) l (a + 1 + 1 + 1) (ok _ (by omega) (by omega)) (by omega) _ (d + 1) j (hset _)).mono fun v u hv => ?_
  obtain ⟨rfl, rfl⟩ := hv
  refine ⟨_, _, rfl, GOps.sim ?_⟩
  refine GOps.call rfl rfl rfl rfl (by kernel_rfl) (ACalls.sim ?_)
  refine (Graph_ok ins regs k outs (by omega) (by omega) (by omega) (by omega) l (a + 1 + 1 + 1 + 1) (ok _ (by omega) (by omega)) (by omega) _ (d + 1) j (hset _) 1 rfl).mono fun v u hv => ?_
  obtain ⟨rfl, rfl⟩ := hv
  refine ⟨_, _, rfl, GOps.sim ?_⟩
  refine GOps.done (hK _ ?_); clear hK K
  refine End.move (Ghost.boxShut (j := 0) (i := 3) (r := 1) rfl rfl rfl hal) ?_
  simp only [List.set_cons_zero, List.set_cons_succ]
  refine End.kp [4] ?_
  have fx := And.intro e4 (And.intro e3 (And.intro e2 (And.intro e1 (And.intro wa (And.intro hset (And.intro hl ft))))))
  refine Run.resC hQ ?_
  rw [hG]
  exact ⟨rfl, rfl⟩
theorem Played_ok (n k : Nat) (hn : n ≤ 200) (hk : k ≤ 100) (l : List Int) (a : Int) (hs : StmOk l a) (hf : a + 40000 < 1099511627776) (up : Frs) (d j : Nat) (hl : fget up d j = some (stm l a)) :
    ACalls Try.prog 24 [.ptr d j 0, .i n, .i k] up fun v u => v = .im (.sl (boolss (playedV l k a n).1)) ∧ u = fset up d j (stm l (playedV l k a n).2) := by
  have hset : ∀ o, fget (fset up d j o) d j = some o := fun o => fget_fset_same _ _ _ _ _ hl
  have hp := hs.pos
  refine ACalls.code Try.func24 rfl 19 rfl (by simp) [.tmp 6] rfl fun Q hQ => ?_
  simp only [ups, PV.up, argEnv]
  have ft := And.intro ty_3 (And.intro ty_4 (And.intro ty_23 (And.intro ty_58 (And.intro ty_71 trivial))))
  refine Run.seq ?_
  have fx := And.intro hset (And.intro hl ft)
  refine Run.go ?_
  refine End.kp [0, 1, 2] ?_
  refine Run.seq ?_
  refine Run.go ?_
  refine End.kp [0, 1, 2, 7] ?_
  refine Run.seq ?_
  refine Run.seq ?_
  refine Run.go ?_
  refine End.kp [0, 2, 7, 8, 9] ?_
  refine Run.block ?_
  refine Run.ghost (Ghost.thaw (u := 7) 71 1 (by decide) rfl) ?_
  refine Run.ghost (Ghost.form [(0, .ptr (d + 1) j 0), (2, .i k), (7, .ms 0 0 (0)), (8, .i n), (9, .i (0 : Nat))] 1 ⟨rfl, rfl, rfl, rfl, rfl, trivial⟩ rfl rfl) ?_
  refine Run.loop (fun m s => ∃ i : Nat, m = n - i ∧ i ≤ n ∧ s = ⟨[(0, .ptr (d + 1) j 0), (2, .i k), (7, .ms 0 0 (i)), (8, .i n), (9, .i (i : Nat))], [.row 71 1 (boolss (playedV l k a i).1) 0], fset up d j (stm l (playedV l k a i).2)⟩) n ⟨0, rfl, by omega, by rw [show (playedV l k a 0) = ([], a) from rfl]; simp only; rw [fset_self up d j _ hl]; rfl⟩ fun m s hI => ?_
  obtain ⟨i, rfl, hi, rfl⟩ := hI
  have hsl : (boolss (playedV l k a i).1).length = i := by rw [boolss_len, playedV_len]
  have hpp := playedV_pos l k a i
  have hki : ((k : Int) * i) ≤ 100 * 200 := by
    have h1 : (k : Int) * i ≤ 100 * (i : Int) := Int.mul_le_mul_of_nonneg_right (by omega) (by omega)
    omega
  have hki0 : 0 ≤ (k : Int) * i := Int.mul_nonneg (by omega) (by omega)
  generalize hc : (playedV l k a i).2 = c at hpp
  have hs0 : StmOk l c := ⟨hs.vals, hs.len, by omega, by omega⟩
  have hap : (i + 1) * 24 ≤ 140737488355328 := by omega
  refine Run.seq ?_
  have fx := And.intro hap (And.intro hsl (And.intro hset (And.intro hl ft)))
  refine Run.go ?_
  refine End.kp [0, 2, 7, 8, 9, 10] ?_
  refine Run.seq ?_
  refine Run.cond _ rfl (fun hb => ?_) (fun hb => ?_)
  · have hb := of_decide_eq_true hb
    have hin : i < n := by omega
    have wi := wsucc hin (by omega)
    refine Run.skip ?_
    refine End.kp [0, 2, 7, 8, 9] ?_
    refine Run.seq ?_
    refine Run.block ?_
    have fx := And.intro wi (And.intro hap (And.intro hsl (And.intro hset (And.intro hl ft))))
    refine Run.region rfl fun K hK => GOps.sim ?_
    refine GOps.call rfl rfl rfl rfl (by kernel_rfl) (ACalls.sim ?_)
    refine (Values_ok k (by omega) l c hs0 (by omega) _ (d + 1) j (hset _)).mono fun v u hv => ?_
    obtain ⟨rfl, rfl⟩ := hv
    refine ⟨_, _, rfl, GOps.sim ?_⟩
    refine GOps.done (hK _ ?_); clear hK K
    refine End.blk ?_
    refine End.kp [0, 2, 7, 8, 9] ?_
    refine Run.go ?_
    refine End.lp ?_
    refine ⟨n - (i + 1), _, by omega, Ghost.form [(0, .ptr (d + 1) j 0), (2, .i k), (7, .ms 0 0 ((i + 1))), (8, .i n), (9, .i (i + 1 : Nat))] 1 ⟨rfl, rfl, rfl, rfl, rfl, trivial⟩ rfl rfl, i + 1, rfl, by omega, ?_⟩
    have e1 : playedV l k a (i + 1) = ((playedV l k a i).1 ++ [valsV l k c], c + k) := by rw [← hc]; rfl
    rw [e1]
    simp
  · have hb := of_decide_eq_false hb
    have hiN : i = n := by omega
    subst hiN
    refine Run.exit rfl ?_
    refine End.kp [7] ?_
    refine Run.seq ?_
    refine Run.ghost (Ghost.shut (t := 7) (j := 0) rfl rfl hsl) ?_
    simp only [eput, edel]
    have fx := And.intro hap (And.intro hsl (And.intro hset (And.intro hl ft)))
    refine Run.go ?_
    refine End.kp [6] ?_
    refine Run.ret (hQ _ _ ⟨.inr rfl, _, rfl, _, rfl, ?_⟩)
    exact ⟨rfl, by rw [hc]⟩
theorem boolss_at (q : List (List Bool)) (i : Nat) (h : i < q.length) : ∃ r, q[i]? = some r ∧ r ∈ q ∧ q.getD i [] = r ∧ (boolss q)[i]? = some [.sl (bools r)] :=
  ⟨q[i], List.getElem?_eq_getElem h, List.getElem_mem h, by simp [h], by simp [h]⟩
end Go.Proofs.YtkmnmokjlpenhaaPi

/- The walks of the checks of graphs: First, before, Check; and of their values. -/
set_option linter.unusedVariables false
set_option linter.unusedSimpArgs false
set_option maxRecDepth 100000
namespace Go.Proofs.YtkmnmokjlpenhaaPi
set_option maxHeartbeats 2000000

structure GSmall (g : LGraph) : Prop where
  inn : g.inn.length ≤ 128
  out : g.out.length ≤ 128
  regs : g.regs.length ≤ 288
  ands : g.ands.length ≤ 4000
  outs : g.outs.length ≤ 128
structure GraphOk (g : LGraph) : Prop where
  small : GSmall g
  names : ∀ s ∈ g.inn ++ g.regs.map LReg.name, NameOk s
  nodup : (g.inn ++ g.regs.map LReg.name).Nodup
  onames : ∀ s ∈ g.out, NameOk s
  onodup : g.out.Nodup
  olen : g.out.length = g.outs.length
  ands : ∀ (i : Nat) (p : Int × Int), g.ands[i]? = some p → (0 ≤ p.1 ∧ p.1 < 2 * (1 + (g.inn.length : Int) + g.regs.length + i)) ∧ 0 ≤ p.2 ∧ p.2 < 2 * (1 + (g.inn.length : Int) + g.regs.length + i)
  regs : ∀ r ∈ g.regs, 0 ≤ r.next ∧ r.next < 2 * (1 + (g.inn.length : Int) + g.regs.length + g.ands.length)
  outs : ∀ x ∈ g.outs, 0 ≤ x ∧ x < 2 * (1 + (g.inn.length : Int) + g.regs.length + g.ands.length)
theorem reg_at (l : List LReg) (i : Nat) (h : i < l.length) : ∃ r, l[i]? = some r ∧ r ∈ l ∧ (l.map LReg.im)[i]? = some [.str r.name, .int .i64 r.next, .bool r.init] :=
  ⟨l[i], by simp [h], List.getElem_mem h, by simp [h]⟩
theorem node_at (l : List (Int × Int)) (i : Nat) (h : i < l.length) : ∃ p, l[i]? = some p ∧ p ∈ l ∧ (l.map nd)[i]? = some [.int .i64 p.1, .int .i64 p.2] :=
  ⟨l[i], by simp [h], List.getElem_mem h, by simp [h]⟩
theorem tmod2 (x : Int) (h : 0 ≤ x) : x.tmod 2 = x % 2 := Int.tmod_eq_emod_of_nonneg h
theorem tdiv2 (x : Int) (h : 0 ≤ x) (h2 : x ≤ 1000000000) : IntKind.i64.wrap (x.tdiv 2) = x / 2 := by
  rw [Int.tdiv_eq_ediv_of_nonneg h]
  exact wrap64 (by omega)
theorem GFirst_ok (g : LGraph) (hg : GSmall g) (up : Frs) : ACalls Try.prog 120 [g.pv] up fun v u => v = .i (1 + g.inn.length + g.regs.length) ∧ u = up := by
  obtain ⟨z1, z2, z3, z4, z5⟩ := hg
  have w1 : IntKind.i64.wrap (1 + (g.inn.length : Int)) = 1 + (g.inn.length : Int) := wrap64 (by omega)
  have w2 : IntKind.i64.wrap (1 + (g.inn.length : Int) + g.regs.length) = 1 + (g.inn.length : Int) + g.regs.length := wrap64 (by omega)
  refine ACalls.code Try.func120 rfl 11 rfl (by simp) [.tmp 2] rfl fun Q hQ => ?_
  simp only [ups, PV.up, argEnv]
  have ft := And.intro ty_2 (And.intro ty_3 (And.intro ty_9 (And.intro ty_26 (And.intro ty_47 (And.intro ty_51 (And.intro ty_69 trivial))))))
  refine Run.seq ?_
  have fx := And.intro w2 (And.intro w1 (And.intro rim_len (And.intro strs_len ft)))
  refine Run.go ?_
  refine End.kp [1] ?_
  refine Run.seq ?_
  refine Run.go ?_
  refine End.kp [2] ?_
  refine Run.ret (hQ _ _ ⟨.inr rfl, _, rfl, _, rfl, ?_⟩)
  exact ⟨rfl, rfl⟩
theorem before_pos (l n : Int) (h0 : 0 ≤ l) (hn : 0 ≤ n) (hn2 : n ≤ 1000000) (up : Frs) : ACalls Try.prog 137 [.i l, .i n] up fun v u => v = .im (.bool (decide (l < 2 * n))) ∧ u = up := by
  have d1 : decide (0 ≤ l) = true := decide_eq_true (by omega)
  have w1 : IntKind.i64.wrap (2 * n) = 2 * n := wrap64 (by omega)
  refine ACalls.code Try.func137 rfl 13 rfl (by simp) [.tmp 4] rfl fun Q hQ => ?_
  simp only [ups, PV.up, argEnv]
  have ft := And.intro ty_3 (And.intro ty_4 (And.intro ty_62 trivial))
  refine Run.seq ?_
  have fx := And.intro (@ge_iff_le Int _) (And.intro w1 (And.intro d1 ft))
  refine Run.go ?_
  refine End.kp [0, 1] ?_
  refine Run.seq ?_
  refine Run.go ?_
  refine End.kp [4] ?_
  refine Run.ret (hQ _ _ ⟨.inr rfl, _, rfl, _, rfl, ?_⟩)
  exact ⟨rfl, rfl⟩
theorem before_ok (l n : Int) (h0 : 0 ≤ l) (h1 : l < 2 * n) (hn2 : n ≤ 1000000) (up : Frs) : ACalls Try.prog 137 [.i l, .i n] up fun v u => v = .im (.bool true) ∧ u = up :=
  (before_pos l n h0 (by omega) hn2 up).mono fun v u ⟨h1', h2⟩ => ⟨by rw [h1']; simp; omega, h2⟩
abbrev gnms (g : LGraph) (i : Nat) : List ByteArray := g.inn ++ (g.regs.take i).map LReg.name
theorem gnms_len (g : LGraph) (i : Nat) (h : i ≤ g.regs.length) : (strs (gnms g i)).length = g.inn.length + i := by simp; omega
theorem gnms_next (g : LGraph) (i : Nat) (f : LReg) (h : g.regs[i]? = some f) : gnms g (i + 1) = gnms g i ++ [f.name] := by simp [gnms, List.take_add_one, h]
theorem Check_ok (g : LGraph) (hg : GraphOk g) (up : Frs) : ACalls Try.prog 86 [g.pv] up fun v u => v = .i 0 ∧ u = up := by
  have hsm := hg.small
  obtain ⟨z1, z2, z3, z4, z5⟩ := hg.small
  have d1 : decide ((g.inn.length : Int) > 128) = false := decide_eq_false (by omega)
  have d2 : decide ((g.out.length : Int) > 128) = false := decide_eq_false (by omega)
  have d3 : decide ((g.regs.length : Int) > 288) = false := decide_eq_false (by omega)
  have d4 : decide ((g.ands.length : Int) > 4000) = false := decide_eq_false (by omega)
  have d5 : ((g.out.length : Int) != g.outs.length) = false := by rw [hg.olen]; simp
  have wn : IntKind.i64.wrap (1 + (g.inn.length : Int) + g.regs.length + g.ands.length) = 1 + (g.inn.length : Int) + g.regs.length + g.ands.length := wrap64 (by omega)
  refine ACalls.code Try.func86 rfl 128 rfl (by simp) [.tmp 2] rfl fun Q hQ => ?_
  simp only [ups, PV.up, argEnv]
  have ft := And.intro ty_2 (And.intro ty_3 (And.intro ty_4 (And.intro ty_9 (And.intro ty_26 (And.intro ty_34 (And.intro ty_47 (And.intro ty_48 (And.intro ty_49 (And.intro ty_51 (And.intro ty_62 (And.intro ty_69 (And.intro ty_137 trivial))))))))))))
  refine Run.seq ?_
  have fx := And.intro d5 (And.intro d4 (And.intro d3 (And.intro d2 (And.intro d1 (And.intro ints_len (And.intro nd_len (And.intro rim_len (And.intro strs_len ft))))))))
  refine Run.go ?_
  refine End.kp [1] ?_
  refine Run.seq ?_
  refine Run.seq ?_
  refine Run.go ?_
  refine End.kp [1, 36] ?_
  refine Run.cond _ rfl (fun hb => ?_) (fun hb => ?_)
  · have hb := hb
    simp at hb
  · have hb := hb
    refine Run.skip ?_
    refine End.kp [1] ?_
    refine Run.seq ?_
    refine Run.seq ?_
    have fx := And.intro d5 (And.intro d4 (And.intro d3 (And.intro d2 (And.intro d1 (And.intro ints_len (And.intro nd_len (And.intro rim_len (And.intro strs_len ft))))))))
    refine Run.go ?_
    refine End.kp [1, 43] ?_
    refine Run.cond _ rfl (fun hb => ?_) (fun hb => ?_)
    · have hb := hb
      simp at hb
    · have hb := hb
      refine Run.skip ?_
      refine End.kp [1] ?_
      refine Run.seq ?_
      have fx := And.intro d5 (And.intro d4 (And.intro d3 (And.intro d2 (And.intro d1 (And.intro ints_len (And.intro nd_len (And.intro rim_len (And.intro strs_len ft))))))))
      refine Run.region rfl fun K hK => GOps.sim ?_
      refine GOps.call rfl rfl rfl rfl (by kernel_rfl) (ACalls.sim ?_)
      refine (CloneX_ok g.inn (by omega) _ _).mono fun v u hv => ?_
      obtain ⟨rfl, rfl⟩ := hv
      refine ⟨_, _, rfl, GOps.sim ?_⟩
      refine GOps.done (hK _ ?_); clear hK K
      refine End.kp [1, 3] ?_
      refine Run.seq ?_
      refine Run.seq ?_
      refine Run.go ?_
      refine End.kp [1, 3, 48, 49, 50] ?_
      refine Run.block ?_
      refine Run.ghost (Ghost.form [(1, .ptr 0 0 0), (3, .ms 0 1 (g.inn.length + 0)), (48, .im (.sl (g.regs.map LReg.im))), (49, .i g.regs.length), (50, .i (0 : Nat))] 2 ⟨rfl, rfl, rfl, rfl, rfl, trivial⟩ rfl rfl) ?_
      refine Run.loop (fun m st => ∃ (i : Nat), m = g.regs.length - i ∧ i ≤ g.regs.length ∧ st = ⟨[(1, .ptr 0 0 0), (3, .ms 0 1 (g.inn.length + i)), (48, .im (.sl (g.regs.map LReg.im))), (49, .i g.regs.length), (50, .i (i : Nat))], [.box [.im (.sl (strs g.inn)), .im (.sl (strs g.out)), .im (.sl (g.regs.map LReg.im)), .im (.sl (g.ands.map nd)), .im (.sl (ints g.outs))], .row 9 1 (strs (gnms g i)) 0], up⟩) g.regs.length ⟨0, rfl, by omega, by simp⟩ fun m st hI => ?_
      obtain ⟨i, rfl, hi, rfl⟩ := hI
      have hsl := gnms_len g i hi
      have hap : (g.inn.length + i + 1) * 16 ≤ 140737488355328 := by omega
      refine Run.seq ?_
      have fx := And.intro hap (And.intro hsl (And.intro d5 (And.intro d4 (And.intro d3 (And.intro d2 (And.intro d1 (And.intro ints_len (And.intro nd_len (And.intro rim_len (And.intro strs_len ft))))))))))
      refine Run.go ?_
      refine End.kp [1, 3, 48, 49, 50, 51] ?_
      refine Run.seq ?_
      refine Run.cond _ rfl (fun hb => ?_) (fun hb => ?_)
      · have hb := of_decide_eq_true hb
        have hin : i < g.regs.length := by omega
        have wi := wsucc hin (by omega)
        obtain ⟨f, hf, hfm, hgt⟩ := reg_at g.regs i hin
        refine Run.skip ?_
        refine End.kp [1, 3, 48, 49, 50] ?_
        refine Run.seq ?_
        refine Run.block ?_
        refine Run.seq ?_
        have fx := And.intro (@Int.toNat_natCast) (And.intro (@Int.natCast_nonneg) (And.intro hgt (And.intro wi (And.intro hap (And.intro hsl (And.intro d5 (And.intro d4 (And.intro d3 (And.intro d2 (And.intro d1 (And.intro ints_len (And.intro nd_len (And.intro rim_len (And.intro strs_len ft))))))))))))))
        refine Run.go ?_
        refine End.kp [1, 3, 5, 48, 49, 50] ?_
        refine Run.go ?_
        refine End.blk ?_
        refine End.kp [1, 3, 48, 49, 50] ?_
        refine Run.go ?_
        refine End.lp ?_
        refine ⟨g.regs.length - (i + 1), _, by omega, Ghost.form [(1, .ptr 0 0 0), (3, .ms 0 1 (g.inn.length + (i + 1))), (48, .im (.sl (g.regs.map LReg.im))), (49, .i g.regs.length), (50, .i (i + 1 : Nat))] 2 ⟨rfl, rfl, rfl, rfl, rfl, trivial⟩ rfl rfl, i + 1, rfl, by omega, ?_⟩
        rw [gnms_next g i f hf]
        simp
      · have hb := of_decide_eq_false hb
        have hiN : i = g.regs.length := by omega
        subst hiN
        have hall : gnms g g.regs.length = g.inn ++ g.regs.map LReg.name := by simp [gnms]
        refine Run.exit rfl ?_
        refine End.kp [1, 3] ?_
        refine Run.seq ?_
        refine Run.seq ?_
        have fx := And.intro hap (And.intro hsl (And.intro d5 (And.intro d4 (And.intro d3 (And.intro d2 (And.intro d1 (And.intro ints_len (And.intro nd_len (And.intro rim_len (And.intro strs_len ft))))))))))
        refine Run.region rfl fun K hK => GOps.sim ?_
        refine GOps.call rfl rfl rfl rfl (by kernel_rfl) (ACalls.sim ?_)
        refine (Names_ok (gnms g g.regs.length) (by rw [hall]; simp; omega) (by rw [hall]; exact hg.names) (by rw [hall]; exact hg.nodup) _).mono fun v u hv => ?_
        obtain ⟨rfl, rfl⟩ := hv
        refine ⟨_, _, rfl, GOps.sim ?_⟩
        refine GOps.done (hK _ ?_); clear hK K
        refine End.kp [1, 6] ?_
        refine Run.seq ?_
        refine Run.go ?_
        refine End.kp [1, 6, 63] ?_
        refine Run.cond _ rfl (fun hb => ?_) (fun hb => ?_)
        · have hb := hb
          simp at hb
        · have hb := hb
          refine Run.skip ?_
          refine End.kp [1] ?_
          refine Run.seq ?_
          refine Run.seq ?_
          have fx := And.intro hap (And.intro hsl (And.intro d5 (And.intro d4 (And.intro d3 (And.intro d2 (And.intro d1 (And.intro ints_len (And.intro nd_len (And.intro rim_len (And.intro strs_len ft))))))))))
          refine Run.region rfl fun K hK => GOps.sim ?_
          refine GOps.call rfl rfl rfl rfl (by kernel_rfl) (ACalls.sim ?_)
          refine (Names_ok g.out (by omega) hg.onames hg.onodup _).mono fun v u hv => ?_
          obtain ⟨rfl, rfl⟩ := hv
          refine ⟨_, _, rfl, GOps.sim ?_⟩
          refine GOps.done (hK _ ?_); clear hK K
          refine End.kp [1, 7] ?_
          refine Run.seq ?_
          refine Run.go ?_
          refine End.kp [1, 7, 69] ?_
          refine Run.cond _ rfl (fun hb => ?_) (fun hb => ?_)
          · have hb := hb
            simp at hb
          · have hb := hb
            refine Run.skip ?_
            refine End.kp [1] ?_
            refine Run.seq ?_
            have fx := And.intro hap (And.intro hsl (And.intro d5 (And.intro d4 (And.intro d3 (And.intro d2 (And.intro d1 (And.intro ints_len (And.intro nd_len (And.intro rim_len (And.intro strs_len ft))))))))))
            refine Run.region rfl fun K hK => GOps.sim ?_
            refine GOps.call rfl rfl rfl rfl (by kernel_rfl) (ACalls.sim ?_)
            refine (GFirst_ok g hsm _).mono fun v u hv => ?_
            obtain ⟨rfl, rfl⟩ := hv
            refine ⟨_, _, rfl, GOps.sim ?_⟩
            refine GOps.done (hK _ ?_); clear hK K
            refine End.kp [1, 8] ?_
            refine Run.seq ?_
            refine Run.seq ?_
            refine Run.go ?_
            refine End.kp [1, 8, 74, 75, 76] ?_
            refine Run.block ?_
            refine Run.ghost (Ghost.form [(1, .ptr 0 0 0), (8, .i (1 + g.inn.length + g.regs.length)), (74, .im (.sl (g.ands.map nd))), (75, .i g.ands.length), (76, .i (0 : Nat))] 1 ⟨rfl, rfl, rfl, rfl, rfl, trivial⟩ rfl rfl) ?_
            refine Run.loop (fun m st => ∃ (i : Nat), m = g.ands.length - i ∧ i ≤ g.ands.length ∧ st = ⟨[(1, .ptr 0 0 0), (8, .i (1 + g.inn.length + g.regs.length)), (74, .im (.sl (g.ands.map nd))), (75, .i g.ands.length), (76, .i (i : Nat))], [.box [.im (.sl (strs g.inn)), .im (.sl (strs g.out)), .im (.sl (g.regs.map LReg.im)), .im (.sl (g.ands.map nd)), .im (.sl (ints g.outs))]], up⟩) g.ands.length ⟨0, rfl, by omega, rfl⟩ fun m st hI => ?_
            obtain ⟨i, rfl, hi, rfl⟩ := hI
            refine Run.seq ?_
            have fx := And.intro hap (And.intro hsl (And.intro d5 (And.intro d4 (And.intro d3 (And.intro d2 (And.intro d1 (And.intro ints_len (And.intro nd_len (And.intro rim_len (And.intro strs_len ft))))))))))
            refine Run.go ?_
            refine End.kp [1, 8, 74, 75, 76, 77] ?_
            refine Run.seq ?_
            refine Run.cond _ rfl (fun hb => ?_) (fun hb => ?_)
            · have hb := of_decide_eq_true hb
              have hin : i < g.ands.length := by omega
              have wi := wsucc hin (by omega)
              obtain ⟨p, hpi, hpm, hp⟩ := node_at g.ands i hin
              obtain ⟨⟨e1, e2⟩, e3, e4⟩ := hg.ands i p hpi
              have wfi : IntKind.i64.wrap (1 + (g.inn.length : Int) + g.regs.length + i) = 1 + (g.inn.length : Int) + g.regs.length + i := wrap64 (by omega)
              refine Run.skip ?_
              refine End.kp [1, 8, 74, 75, 76] ?_
              refine Run.seq ?_
              refine Run.block ?_
              refine Run.seq ?_
              have fx := And.intro (@Int.toNat_natCast) (And.intro (@Int.natCast_nonneg) (And.intro wfi (And.intro hp (And.intro wi (And.intro hap (And.intro hsl (And.intro d5 (And.intro d4 (And.intro d3 (And.intro d2 (And.intro d1 (And.intro ints_len (And.intro nd_len (And.intro rim_len (And.intro strs_len ft)))))))))))))))
              refine Run.go ?_
              refine End.kp [1, 8, 9, 10, 74, 75, 76] ?_
              refine Run.seq ?_
              refine Run.region rfl fun K hK => GOps.sim ?_
              refine GOps.call rfl rfl rfl rfl (by kernel_rfl) (ACalls.sim ?_)
              refine (before_ok p.1 (1 + g.inn.length + g.regs.length + i) e1 e2 (by omega) _).mono fun v u hv => ?_
              obtain ⟨rfl, rfl⟩ := hv
              refine ⟨_, _, rfl, GOps.sim ?_⟩
              refine GOps.call rfl rfl rfl rfl (by kernel_rfl) (ACalls.sim ?_)
              refine (before_ok p.2 (1 + g.inn.length + g.regs.length + i) e3 e4 (by omega) _).mono fun v u hv => ?_
              obtain ⟨rfl, rfl⟩ := hv
              refine ⟨_, _, rfl, GOps.sim ?_⟩
              refine GOps.done (hK _ ?_); clear hK K
              refine End.kp [1, 8, 74, 75, 76, 96] ?_
              refine Run.cond _ rfl (fun hb => ?_) (fun hb => ?_)
              · have hb := hb
                simp at hb
              · have hb := hb
                refine Run.skip ?_
                refine End.blk ?_
                refine End.kp [1, 8, 74, 75, 76] ?_
                have fx := And.intro (@Int.toNat_natCast) (And.intro (@Int.natCast_nonneg) (And.intro wfi (And.intro hp (And.intro wi (And.intro hap (And.intro hsl (And.intro d5 (And.intro d4 (And.intro d3 (And.intro d2 (And.intro d1 (And.intro ints_len (And.intro nd_len (And.intro rim_len (And.intro strs_len ft)))))))))))))))
                refine Run.go ?_
                refine End.lp ?_
                refine ⟨g.ands.length - (i + 1), _, by omega, Ghost.form [(1, .ptr 0 0 0), (8, .i (1 + g.inn.length + g.regs.length)), (74, .im (.sl (g.ands.map nd))), (75, .i g.ands.length), (76, .i (i + 1 : Nat))] 1 ⟨rfl, rfl, rfl, rfl, rfl, trivial⟩ rfl rfl, i + 1, rfl, by omega, rfl⟩
            · have hb := of_decide_eq_false hb
              refine Run.exit rfl ?_
              refine End.kp [1, 8] ?_
              refine Run.seq ?_
              have fx := And.intro wn (And.intro hap (And.intro hsl (And.intro d5 (And.intro d4 (And.intro d3 (And.intro d2 (And.intro d1 (And.intro ints_len (And.intro nd_len (And.intro rim_len (And.intro strs_len ft)))))))))))
              refine Run.go ?_
              refine End.kp [1, 8] ?_
              refine Run.seq ?_
              refine Run.seq ?_
              refine Run.go ?_
              refine End.kp [1, 8, 104, 105, 106] ?_
              refine Run.block ?_
              refine Run.ghost (Ghost.form [(1, .ptr 0 0 0), (8, .i (1 + g.inn.length + g.regs.length + g.ands.length)), (104, .im (.sl (g.regs.map LReg.im))), (105, .i g.regs.length), (106, .i (0 : Nat))] 1 ⟨rfl, rfl, rfl, rfl, rfl, trivial⟩ rfl rfl) ?_
              refine Run.loop (fun m st => ∃ (i : Nat), m = g.regs.length - i ∧ i ≤ g.regs.length ∧ st = ⟨[(1, .ptr 0 0 0), (8, .i (1 + g.inn.length + g.regs.length + g.ands.length)), (104, .im (.sl (g.regs.map LReg.im))), (105, .i g.regs.length), (106, .i (i : Nat))], [.box [.im (.sl (strs g.inn)), .im (.sl (strs g.out)), .im (.sl (g.regs.map LReg.im)), .im (.sl (g.ands.map nd)), .im (.sl (ints g.outs))]], up⟩) g.regs.length ⟨0, rfl, by omega, rfl⟩ fun m st hI => ?_
              obtain ⟨i, rfl, hi, rfl⟩ := hI
              refine Run.seq ?_
              have fx := And.intro wn (And.intro hap (And.intro hsl (And.intro d5 (And.intro d4 (And.intro d3 (And.intro d2 (And.intro d1 (And.intro ints_len (And.intro nd_len (And.intro rim_len (And.intro strs_len ft)))))))))))
              refine Run.go ?_
              refine End.kp [1, 8, 104, 105, 106, 107] ?_
              refine Run.seq ?_
              refine Run.cond _ rfl (fun hb => ?_) (fun hb => ?_)
              · have hb := of_decide_eq_true hb
                have hin : i < g.regs.length := by omega
                have wi := wsucc hin (by omega)
                obtain ⟨f, hf, hfm, hgt⟩ := reg_at g.regs i hin
                obtain ⟨e1, e2⟩ := hg.regs f hfm
                refine Run.skip ?_
                refine End.kp [1, 8, 104, 105, 106] ?_
                refine Run.seq ?_
                refine Run.block ?_
                refine Run.seq ?_
                have fx := And.intro (@Int.toNat_natCast) (And.intro (@Int.natCast_nonneg) (And.intro hgt (And.intro wi (And.intro wn (And.intro hap (And.intro hsl (And.intro d5 (And.intro d4 (And.intro d3 (And.intro d2 (And.intro d1 (And.intro ints_len (And.intro nd_len (And.intro rim_len (And.intro strs_len ft)))))))))))))))
                refine Run.go ?_
                refine End.kp [1, 8, 12, 104, 105, 106] ?_
                refine Run.seq ?_
                refine Run.region rfl fun K hK => GOps.sim ?_
                refine GOps.call rfl rfl rfl rfl (by kernel_rfl) (ACalls.sim ?_)
                refine (before_ok f.next (1 + g.inn.length + g.regs.length + g.ands.length) e1 e2 (by omega) _).mono fun v u hv => ?_
                obtain ⟨rfl, rfl⟩ := hv
                refine ⟨_, _, rfl, GOps.sim ?_⟩
                refine GOps.done (hK _ ?_); clear hK K
                refine End.kp [1, 8, 104, 105, 106, 114] ?_
                refine Run.cond _ rfl (fun hb => ?_) (fun hb => ?_)
                · have hb := hb
                  simp at hb
                · have hb := hb
                  refine Run.skip ?_
                  refine End.blk ?_
                  refine End.kp [1, 8, 104, 105, 106] ?_
                  have fx := And.intro (@Int.toNat_natCast) (And.intro (@Int.natCast_nonneg) (And.intro hgt (And.intro wi (And.intro wn (And.intro hap (And.intro hsl (And.intro d5 (And.intro d4 (And.intro d3 (And.intro d2 (And.intro d1 (And.intro ints_len (And.intro nd_len (And.intro rim_len (And.intro strs_len ft)))))))))))))))
                  refine Run.go ?_
                  refine End.lp ?_
                  refine ⟨g.regs.length - (i + 1), _, by omega, Ghost.form [(1, .ptr 0 0 0), (8, .i (1 + g.inn.length + g.regs.length + g.ands.length)), (104, .im (.sl (g.regs.map LReg.im))), (105, .i g.regs.length), (106, .i (i + 1 : Nat))] 1 ⟨rfl, rfl, rfl, rfl, rfl, trivial⟩ rfl rfl, i + 1, rfl, by omega, rfl⟩
              · have hb := of_decide_eq_false hb
                refine Run.exit rfl ?_
                refine End.kp [1, 8] ?_
                refine Run.seq ?_
                refine Run.seq ?_
                have fx := And.intro wn (And.intro hap (And.intro hsl (And.intro d5 (And.intro d4 (And.intro d3 (And.intro d2 (And.intro d1 (And.intro ints_len (And.intro nd_len (And.intro rim_len (And.intro strs_len ft)))))))))))
                refine Run.go ?_
                refine End.kp [8, 117, 118, 119] ?_
                refine Run.block ?_
                refine Run.ghost (Ghost.form [(8, .i (1 + g.inn.length + g.regs.length + g.ands.length)), (117, .im (.sl (ints g.outs))), (118, .i g.outs.length), (119, .i (0 : Nat))] 0 ⟨rfl, rfl, rfl, rfl, trivial⟩ rfl rfl) ?_
                refine Run.loop (fun m st => ∃ (i : Nat), m = g.outs.length - i ∧ i ≤ g.outs.length ∧ st = ⟨[(8, .i (1 + g.inn.length + g.regs.length + g.ands.length)), (117, .im (.sl (ints g.outs))), (118, .i g.outs.length), (119, .i (i : Nat))], [], up⟩) g.outs.length ⟨0, rfl, by omega, rfl⟩ fun m st hI => ?_
                obtain ⟨i, rfl, hi, rfl⟩ := hI
                refine Run.seq ?_
                have fx := And.intro wn (And.intro hap (And.intro hsl (And.intro d5 (And.intro d4 (And.intro d3 (And.intro d2 (And.intro d1 (And.intro ints_len (And.intro nd_len (And.intro rim_len (And.intro strs_len ft)))))))))))
                refine Run.go ?_
                refine End.kp [8, 117, 118, 119, 120] ?_
                refine Run.seq ?_
                refine Run.cond _ rfl (fun hb => ?_) (fun hb => ?_)
                · have hb := of_decide_eq_true hb
                  have hin : i < g.outs.length := by omega
                  have wi := wsucc hin (by omega)
                  obtain ⟨x, _, hxm, hx⟩ := int_at g.outs i hin
                  obtain ⟨e1, e2⟩ := hg.outs x hxm
                  refine Run.skip ?_
                  refine End.kp [8, 117, 118, 119] ?_
                  refine Run.seq ?_
                  refine Run.block ?_
                  refine Run.seq ?_
                  have fx := And.intro (@Int.toNat_natCast) (And.intro (@Int.natCast_nonneg) (And.intro hx (And.intro wi (And.intro wn (And.intro hap (And.intro hsl (And.intro d5 (And.intro d4 (And.intro d3 (And.intro d2 (And.intro d1 (And.intro ints_len (And.intro nd_len (And.intro rim_len (And.intro strs_len ft)))))))))))))))
                  refine Run.go ?_
                  refine End.kp [8, 14, 117, 118, 119] ?_
                  refine Run.seq ?_
                  refine Run.region rfl fun K hK => GOps.sim ?_
                  refine GOps.call rfl rfl rfl rfl (by kernel_rfl) (ACalls.sim ?_)
                  refine (before_ok x (1 + g.inn.length + g.regs.length + g.ands.length) e1 e2 (by omega) _).mono fun v u hv => ?_
                  obtain ⟨rfl, rfl⟩ := hv
                  refine ⟨_, _, rfl, GOps.sim ?_⟩
                  refine GOps.done (hK _ ?_); clear hK K
                  refine End.kp [8, 117, 118, 119, 126] ?_
                  refine Run.cond _ rfl (fun hb => ?_) (fun hb => ?_)
                  · have hb := hb
                    simp at hb
                  · have hb := hb
                    refine Run.skip ?_
                    refine End.blk ?_
                    refine End.kp [8, 117, 118, 119] ?_
                    have fx := And.intro (@Int.toNat_natCast) (And.intro (@Int.natCast_nonneg) (And.intro hx (And.intro wi (And.intro wn (And.intro hap (And.intro hsl (And.intro d5 (And.intro d4 (And.intro d3 (And.intro d2 (And.intro d1 (And.intro ints_len (And.intro nd_len (And.intro rim_len (And.intro strs_len ft)))))))))))))))
                    refine Run.go ?_
                    refine End.lp ?_
                    refine ⟨g.outs.length - (i + 1), _, by omega, Ghost.form [(8, .i (1 + g.inn.length + g.regs.length + g.ands.length)), (117, .im (.sl (ints g.outs))), (118, .i g.outs.length), (119, .i (i + 1 : Nat))] 0 ⟨rfl, rfl, rfl, rfl, trivial⟩ rfl rfl, i + 1, rfl, by omega, rfl⟩
                · have hb := of_decide_eq_false hb
                  refine Run.exit rfl ?_
                  refine End.kp [] ?_
                  refine Run.seq ?_
                  have fx := And.intro wn (And.intro hap (And.intro hsl (And.intro d5 (And.intro d4 (And.intro d3 (And.intro d2 (And.intro d1 (And.intro ints_len (And.intro nd_len (And.intro rim_len (And.intro strs_len ft)))))))))))
                  refine Run.go ?_
                  refine End.kp [2] ?_
                  refine Run.ret (hQ _ _ ⟨.inr rfl, _, rfl, _, rfl, ?_⟩)
                  exact ⟨rfl, rfl⟩
abbrev vnot (x : Int) : Int := bits .xor .u64 (if IntKind.u64.signed = true then -1 else IntKind.u64.max) x
def ofV (v : List Int) (l : Int) : Int := if l % 2 = 1 then vnot (v.getD (l / 2).toNat 0) else v.getD (l / 2).toNat 0
def valsA : List (Int × Int) → List Int → List Int
  | [], v => v
  | p :: ps, v => valsA ps (v ++ [bits .and .u64 (ofV v p.1) (ofV v p.2)])
def graphVals (g : LGraph) (inn st : List Int) : List Int := valsA g.ands ([0] ++ inn ++ st)
theorem valsA_len : ∀ (ps : List (Int × Int)) (v : List Int), (valsA ps v).length = v.length + ps.length
  | [], v => by simp [valsA]
  | p :: ps, v => by
    rw [valsA, valsA_len ps]
    simp
    omega
theorem graphVals_len (g : LGraph) (inn st : List Int) (h1 : inn.length = g.inn.length) (h2 : st.length = g.regs.length) : (graphVals g inn st).length = 1 + g.inn.length + g.regs.length + g.ands.length := by
  rw [graphVals, valsA_len]
  simp
  omega
def outsG (g : LGraph) (v : List Int) : List Int := g.outs.map (ofV v)
def nextsG (g : LGraph) (v : List Int) : List Int := g.regs.map fun r => ofV v r.next
theorem node_drop (l : List (Int × Int)) (i : Nat) (p : Int × Int) (h : l[i]? = some p) : l.drop i = p :: l.drop (i + 1) := by
  obtain ⟨hi, rfl⟩ := List.getElem?_eq_some_iff.1 h
  exact List.drop_eq_getElem_cons hi
theorem int_snoc (l : List Int) (i : Nat) (r : Int) (h : l[i]? = some r) : l.take (i + 1) = l.take i ++ [r] := by simp [List.take_add_one, h]
theorem reg_snoc (l : List LReg) (i : Nat) (r : LReg) (h : l[i]? = some r) : l.take (i + 1) = l.take i ++ [r] := by simp [List.take_add_one, h]
theorem of_ok (v : List Int) (l : Int) (h0 : 0 ≤ l) (h1 : l < 2 * (v.length : Int)) (hv2 : v.length ≤ 100000) (up : Frs) : ACalls Try.prog 140 [.im (.sl (us v)), .i l] up fun r u => r = .u (ofV v l) ∧ u = up := by
  have hm := tmod2 l h0
  have hd := tdiv2 l h0 (by omega)
  have hd0 : 0 ≤ l / 2 := by omega
  have hdl : l / 2 < (v.length : Int) := by omega
  have hv := us_get v (l / 2).toNat (by omega)
  refine ACalls.code Try.func140 rfl 19 rfl (by simp) [.tmp 4] rfl fun Q hQ => ?_
  simp only [ups, PV.up, argEnv]
  have ft := And.intro ty_4 (And.intro ty_37 (And.intro ty_56 (And.intro ty_62 trivial)))
  refine Run.seq ?_
  have fx := And.intro hv (And.intro hdl (And.intro hd0 (And.intro hd (And.intro hm (And.intro us_len ft)))))
  refine Run.go ?_
  refine End.kp [0, 1] ?_
  refine Run.seq ?_
  refine Run.seq ?_
  refine Run.go ?_
  refine End.kp [0, 1, 7] ?_
  refine Run.cond _ rfl (fun hb => ?_) (fun hb => ?_)
  · have hb := eq_of_beq hb
    refine Run.seq ?_
    have fx := And.intro hv (And.intro hdl (And.intro hd0 (And.intro hd (And.intro hm (And.intro us_len ft)))))
    refine Run.go ?_
    refine End.kp [4] ?_
    refine Run.ret (hQ _ _ ⟨.inr rfl, _, rfl, _, rfl, ?_⟩)
    exact ⟨by simp [ofV, hb], rfl⟩
  · have hb : ¬ l % 2 = 1 := fun e => by simp [e] at hb
    refine Run.skip ?_
    refine End.kp [0, 1] ?_
    refine Run.seq ?_
    have fx := And.intro hv (And.intro hdl (And.intro hd0 (And.intro hd (And.intro hm (And.intro us_len ft)))))
    refine Run.go ?_
    refine End.kp [4] ?_
    refine Run.ret (hQ _ _ ⟨.inr rfl, _, rfl, _, rfl, ?_⟩)
    exact ⟨by simp [ofV, hb], rfl⟩
theorem of_ms (v : List Int) (l : Int) (h0 : 0 ≤ l) (h1 : l < 2 * (v.length : Int)) (hv2 : v.length ≤ 100000) (up : Frs) (d j n fz : Nat) (hn : n = v.length) (hl : fget up d j = some (.row 37 1 (us v) fz)) : ACalls Try.prog 140 [.ms d j n, .i l] up fun r u => r = .u (ofV v l) ∧ u = up := by
  subst hn
  have hm := tmod2 l h0
  have hd := tdiv2 l h0 (by omega)
  have hd0 : 0 ≤ l / 2 := by omega
  have hdl : l / 2 < (v.length : Int) := by omega
  have hv := us_get v (l / 2).toNat (by omega)
  refine ACalls.code Try.func140 rfl 19 rfl (by simp) [.tmp 4] rfl fun Q hQ => ?_
  simp only [ups, PV.up, argEnv]
  have ft := And.intro ty_4 (And.intro ty_37 (And.intro ty_56 (And.intro ty_62 trivial)))
  refine Run.seq ?_
  have fx := And.intro hv (And.intro hdl (And.intro hd0 (And.intro hd (And.intro hm (And.intro hl (And.intro us_len ft))))))
  refine Run.go ?_
  refine End.kp [0, 1] ?_
  refine Run.seq ?_
  refine Run.seq ?_
  refine Run.go ?_
  refine End.kp [0, 1, 7] ?_
  refine Run.cond _ rfl (fun hb => ?_) (fun hb => ?_)
  · have hb := eq_of_beq hb
    refine Run.seq ?_
    have fx := And.intro hv (And.intro hdl (And.intro hd0 (And.intro hd (And.intro hm (And.intro hl (And.intro us_len ft))))))
    refine Run.go ?_
    refine End.kp [4] ?_
    refine Run.ret (hQ _ _ ⟨.inr rfl, _, rfl, _, rfl, ?_⟩)
    exact ⟨by simp [ofV, hb], rfl⟩
  · have hb : ¬ l % 2 = 1 := fun e => by simp [e] at hb
    refine Run.skip ?_
    refine End.kp [0, 1] ?_
    refine Run.seq ?_
    have fx := And.intro hv (And.intro hdl (And.intro hd0 (And.intro hd (And.intro hm (And.intro hl (And.intro us_len ft))))))
    refine Run.go ?_
    refine End.kp [4] ?_
    refine Run.ret (hQ _ _ ⟨.inr rfl, _, rfl, _, rfl, ?_⟩)
    exact ⟨by simp [ofV, hb], rfl⟩
theorem gvalues_ok (g : LGraph) (hg : GraphOk g) (inn st : List Int) (h1 : inn.length = g.inn.length) (h2 : st.length = g.regs.length) (up : Frs) : ACalls Try.prog 89 [g.pv, .im (.sl (us inn)), .im (.sl (us st))] up fun v u => v = .im (.sl (us (graphVals g inn st))) ∧ u = up := by
  obtain ⟨z1, z2, z3, z4, z5⟩ := hg.small
  have a1 : (1 + inn.length) * 8 ≤ 140737488355328 := by omega
  have a2 : (1 + inn.length + st.length) * 8 ≤ 140737488355328 := by omega
  have b1 : inn.length + 1 = 1 + inn.length := by omega
  have al : ∀ l : List Int, (us l).all (fun r => r.length == 1) = true := fun l => by simp
  refine ACalls.code Try.func89 rfl 37 rfl (by simp) [.tmp 6] rfl fun Q hQ => ?_
  simp only [ups, PV.up, argEnv]
  have ft := And.intro ty_3 (And.intro ty_37 (And.intro ty_48 (And.intro ty_51 (And.intro ty_56 (And.intro ty_62 (And.intro ty_137 trivial))))))
  refine Run.seq ?_
  have fx := And.intro (@List.length_append.{0}) (And.intro b1 (And.intro al (And.intro a2 (And.intro a1 (And.intro ints_len (And.intro nd_len (And.intro us_len ft)))))))
  refine Run.go ?_
  refine End.kp [1, 2, 3] ?_
  refine Run.seq ?_
  refine Run.go ?_
  refine End.kp [2, 3, 7] ?_
  refine Run.seq ?_
  refine Run.go ?_
  refine End.kp [3, 7] ?_
  refine Run.seq ?_
  refine Run.seq ?_
  refine Run.go ?_
  refine End.kp [7, 17, 18, 19] ?_
  refine Run.block ?_
  refine Run.ghost (Ghost.form [(7, .ms 0 1 (1 + inn.length + st.length)), (17, .im (.sl (g.ands.map nd))), (18, .i g.ands.length), (19, .i (0 : Nat))] 2 ⟨rfl, rfl, rfl, rfl, trivial⟩ rfl rfl) ?_
  refine Run.loop (fun m s => ∃ (i : Nat) (v : List Int), m = g.ands.length - i ∧ i ≤ g.ands.length ∧ v.length = 1 + inn.length + st.length + i ∧ valsA (g.ands.drop i) v = graphVals g inn st ∧ s = ⟨[(7, .ms 0 1 v.length), (17, .im (.sl (g.ands.map nd))), (18, .i g.ands.length), (19, .i (i : Nat))], [.box [.im (.sl (strs g.inn)), .im (.sl (strs g.out)), .im (.sl (g.regs.map LReg.im)), .im (.sl (g.ands.map nd)), .im (.sl (ints g.outs))], .row 37 1 (us v) 0], up⟩) g.ands.length ⟨0, [0] ++ inn ++ st, rfl, by omega, by simp; omega, rfl, ?_⟩ fun m s hI => ?_
  · simp
    omega
  obtain ⟨i, v, rfl, hi, hvl, hV, rfl⟩ := hI
  have hav : (v.length + 1) * 8 ≤ 140737488355328 := by omega
  refine Run.seq ?_
  have fx := And.intro hav (And.intro (@List.length_append.{0}) (And.intro b1 (And.intro al (And.intro a2 (And.intro a1 (And.intro ints_len (And.intro nd_len (And.intro us_len ft))))))))
  refine Run.go ?_
  refine End.kp [7, 17, 18, 19, 20] ?_
  refine Run.seq ?_
  refine Run.cond _ rfl (fun hb => ?_) (fun hb => ?_)
  · have hb := of_decide_eq_true hb
    have hin : i < g.ands.length := by omega
    have wi := wsucc hin (by omega)
    obtain ⟨p, hpi, hpm, hp⟩ := node_at g.ands i hin
    obtain ⟨⟨e1, e2⟩, e3, e4⟩ := hg.ands i p hpi
    have e2' : p.1 < 2 * (v.length : Int) := by omega
    have e4' : p.2 < 2 * (v.length : Int) := by omega
    rw [node_drop _ i p hpi, valsA] at hV
    refine Run.skip ?_
    refine End.kp [7, 17, 18, 19] ?_
    refine Run.seq ?_
    refine Run.block ?_
    refine Run.seq ?_
    have fx := And.intro (@Int.toNat_natCast) (And.intro (@Int.natCast_nonneg) (And.intro hp (And.intro wi (And.intro hav (And.intro (@List.length_append.{0}) (And.intro b1 (And.intro al (And.intro a2 (And.intro a1 (And.intro ints_len (And.intro nd_len (And.intro us_len ft))))))))))))
    refine Run.go ?_
    refine End.kp [7, 9, 17, 18, 19] ?_
    refine Run.ghost (.spares 1) ?_
    simp only [ASt.pushN, ASt.push, List.append_assoc, List.cons_append, List.nil_append]
    refine Run.drawA fun K hK => ?_
    refine DOps.sim ?_
    refine DOps.call (.u (ofV v p.1)) [((0, 1), .row 37 1 (us v) 0)] [] rfl rfl rfl rfl (by kernel_rfl) (by simp [Agree, ASt.fr]) (fun u hu => of_ms v p.1 e1 e2' (by omega) u 0 1 v.length 0 rfl (hu ((0, 1), .row 37 1 (us v) 0) (by simp))) ?_
    refine DOps.sim ?_
    refine DOps.call (.u (ofV v p.2)) [((0, 1), .row 37 1 (us v) 0)] [] rfl rfl rfl rfl (by kernel_rfl) (by simp [Agree, ASt.fr]) (fun u hu => of_ms v p.2 e3 e4' (by omega) u 0 1 v.length 0 rfl (hu ((0, 1), .row 37 1 (us v) 0) (by simp))) ?_
    refine DOps.sim ?_
    refine DOps.nil (by rfl) (hK _ ?_); clear hK K
    refine End.blk ?_
    refine End.kp [7, 17, 18, 19] ?_
    refine Run.go ?_
    refine End.lp ?_
    refine ⟨g.ands.length - (i + 1), _, by omega, Ghost.form [(7, .ms 0 1 (v.length + 1)), (17, .im (.sl (g.ands.map nd))), (18, .i g.ands.length), (19, .i (i + 1 : Nat))] 2 ⟨rfl, rfl, rfl, rfl, trivial⟩ rfl rfl, i + 1, v ++ [bits .and .u64 (ofV v p.1) (ofV v p.2)], rfl, by omega, by simp; omega, hV, ?_⟩
    simp
  · have hb := of_decide_eq_false hb
    have hiN : i = g.ands.length := by omega
    subst hiN
    rw [List.drop_length, valsA] at hV
    refine Run.exit rfl ?_
    refine End.kp [7] ?_
    refine Run.seq ?_
    refine Run.ghost (Ghost.shut (t := 7) (j := 1) rfl rfl (us_len v)) ?_
    simp only [eput, edel]
    have fx := And.intro hav (And.intro (@List.length_append.{0}) (And.intro b1 (And.intro al (And.intro a2 (And.intro a1 (And.intro ints_len (And.intro nd_len (And.intro us_len ft))))))))
    refine Run.go ?_
    refine End.kp [6] ?_
    refine Run.ret (hQ _ _ ⟨.inr rfl, _, rfl, _, rfl, ?_⟩)
    exact ⟨by rw [hV], rfl⟩
end Go.Proofs.YtkmnmokjlpenhaaPi

/- The walks of results, Words, Eval, Init, Run of graphs. -/
set_option linter.unusedVariables false
set_option linter.unusedSimpArgs false
set_option maxRecDepth 100000
namespace Go.Proofs.YtkmnmokjlpenhaaPi
set_option maxHeartbeats 2000000
abbrev laneB (l : List Int) : List Bool := l.map fun w => bits .and .u64 w 1 == 1
def runG (g : LGraph) : List Int → List (List Bool) → List (List Bool)
  | _, [] => []
  | st, r :: t => laneB (outsG g (graphVals g (lanes0 r) st)) :: runG g (nextsG g (graphVals g (lanes0 r) st)) t
theorem runG_len (g : LGraph) : ∀ (t : List (List Bool)) (st : List Int), (runG g st t).length = t.length
  | [], st => rfl
  | r :: t, st => by simp [runG, runG_len g t]
abbrev initG (g : LGraph) : List Bool := g.regs.map LReg.init
theorem gresults_ok (g : LGraph) (hg : GraphOk g) (v : List Int) (hv : v.length = 1 + g.inn.length + g.regs.length + g.ands.length) (up : Frs) : ACalls Try.prog 97 [g.pv, .im (.sl (us v))] up fun r u => r = .tup [.im (.sl (us (outsG g v))), .im (.sl (us (nextsG g v)))] ∧ u = up := by
  obtain ⟨z1, z2, z3, z4, z5⟩ := hg.small
  refine ACalls.code Try.func97 rfl 41 rfl (by simp) [.tmp 4, .tmp 5] rfl fun Q hQ => ?_
  simp only [ups, PV.up, argEnv]
  have ft := And.intro ty_2 (And.intro ty_3 (And.intro ty_4 (And.intro ty_37 (And.intro ty_47 (And.intro ty_49 (And.intro ty_51 (And.intro ty_56 (And.intro ty_62 (And.intro ty_69 trivial)))))))))
  refine Run.seq ?_
  have fx := And.intro ints_len (And.intro rim_len (And.intro us_len ft))
  refine Run.go ?_
  refine End.kp [1, 2, 4, 5] ?_
  refine Run.seq ?_
  refine Run.seq ?_
  refine Run.go ?_
  refine End.kp [1, 2, 4, 5, 11, 12, 13] ?_
  refine Run.block ?_
  refine Run.ghost (Ghost.thaw (u := 4) 37 1 (by decide) rfl) ?_
  refine Run.ghost (Ghost.form [(1, .im (.sl (us v))), (2, .ptr 0 0 0), (4, .ms 0 1 0), (5, .nils), (11, .im (.sl (ints g.outs))), (12, .i g.outs.length), (13, .i (0 : Nat))] 2 ⟨rfl, rfl, rfl, rfl, rfl, rfl, rfl, trivial⟩ rfl rfl) ?_
  refine Run.loop (fun m s => ∃ (i : Nat), m = g.outs.length - i ∧ i ≤ g.outs.length ∧ s = ⟨[(1, .im (.sl (us v))), (2, .ptr 0 0 0), (4, .ms 0 1 i), (5, .nils), (11, .im (.sl (ints g.outs))), (12, .i g.outs.length), (13, .i (i : Nat))], [.box [.im (.sl (strs g.inn)), .im (.sl (strs g.out)), .im (.sl (g.regs.map LReg.im)), .im (.sl (g.ands.map nd)), .im (.sl (ints g.outs))], .row 37 1 (us ((g.outs.take i).map (ofV v))) 0], up⟩) g.outs.length ⟨0, rfl, by omega, rfl⟩ fun m s hI => ?_
  obtain ⟨i, rfl, hi, rfl⟩ := hI
  have hol : ((g.outs.take i).map (ofV v)).length = i := by simp; omega
  have hao : (i + 1) * 8 ≤ 140737488355328 := by omega
  refine Run.seq ?_
  have fx := And.intro hao (And.intro hol (And.intro ints_len (And.intro rim_len (And.intro us_len ft))))
  refine Run.go ?_
  refine End.kp [1, 2, 4, 5, 11, 12, 13, 14] ?_
  refine Run.seq ?_
  refine Run.cond _ rfl (fun hb => ?_) (fun hb => ?_)
  · have hb := of_decide_eq_true hb
    have hin : i < g.outs.length := by omega
    have wi := wsucc hin (by omega)
    obtain ⟨x, hxi, hxm, hx⟩ := int_at g.outs i hin
    obtain ⟨x1, x2⟩ := hg.outs x hxm
    have x2' : x < 2 * (v.length : Int) := by omega
    have htk := int_snoc g.outs i x hxi
    refine Run.skip ?_
    refine End.kp [1, 2, 4, 5, 11, 12, 13] ?_
    refine Run.seq ?_
    refine Run.block ?_
    refine Run.seq ?_
    have fx := And.intro (@Int.toNat_natCast) (And.intro (@Int.natCast_nonneg) (And.intro hx (And.intro wi (And.intro hao (And.intro hol (And.intro ints_len (And.intro rim_len (And.intro us_len ft))))))))
    refine Run.go ?_
    refine End.kp [1, 2, 4, 5, 7, 11, 12, 13] ?_
    refine Run.region rfl fun K hK => GOps.sim ?_
    refine GOps.call rfl rfl rfl rfl (by kernel_rfl) (ACalls.sim ?_)
    refine (of_ok v x x1 x2' (by omega) _).mono fun v u hv => ?_
    obtain ⟨rfl, rfl⟩ := hv
    refine ⟨_, _, rfl, GOps.sim ?_⟩
    refine GOps.done (hK _ ?_); clear hK K
    refine End.blk ?_
    refine End.kp [1, 2, 4, 5, 11, 12, 13] ?_
    refine Run.go ?_
    refine End.lp ?_
    refine ⟨g.outs.length - (i + 1), _, by omega, Ghost.form [(1, .im (.sl (us v))), (2, .ptr 0 0 0), (4, .ms 0 1 (i + 1)), (5, .nils), (11, .im (.sl (ints g.outs))), (12, .i g.outs.length), (13, .i (i + 1 : Nat))] 2 ⟨rfl, rfl, rfl, rfl, rfl, rfl, rfl, trivial⟩ rfl rfl, i + 1, rfl, by omega, ?_⟩
    rw [htk]
    simp
  · have hb := of_decide_eq_false hb
    have hiN : i = g.outs.length := by omega
    subst hiN
    rw [List.take_length] at hol ⊢
    refine Run.exit rfl ?_
    refine End.kp [1, 2, 4, 5] ?_
    refine Run.seq ?_
    refine Run.seq ?_
    have fx := And.intro hao (And.intro hol (And.intro ints_len (And.intro rim_len (And.intro us_len ft))))
    refine Run.go ?_
    refine End.kp [1, 4, 5, 25, 26, 27] ?_
    refine Run.block ?_
    refine Run.ghost (Ghost.thaw (u := 5) 37 1 (by decide) rfl) ?_
    refine Run.ghost (Ghost.form [(1, .im (.sl (us v))), (4, .ms 0 1 g.outs.length), (5, .ms 0 2 0), (25, .im (.sl (g.regs.map LReg.im))), (26, .i g.regs.length), (27, .i (0 : Nat))] 3 ⟨rfl, rfl, rfl, rfl, rfl, rfl, trivial⟩ rfl rfl) ?_
    refine Run.loop (fun m s => ∃ (i : Nat), m = g.regs.length - i ∧ i ≤ g.regs.length ∧ s = ⟨[(1, .im (.sl (us v))), (4, .ms 0 1 g.outs.length), (5, .ms 0 2 i), (25, .im (.sl (g.regs.map LReg.im))), (26, .i g.regs.length), (27, .i (i : Nat))], [.box [.im (.sl (strs g.inn)), .im (.sl (strs g.out)), .im (.sl (g.regs.map LReg.im)), .im (.sl (g.ands.map nd)), .im (.sl (ints g.outs))], .row 37 1 (us (outsG g v)) 0, .row 37 1 (us ((g.regs.take i).map fun r => ofV v r.next)) 0], up⟩) g.regs.length ⟨0, rfl, by omega, rfl⟩ fun m s hI => ?_
    obtain ⟨i, rfl, hi, rfl⟩ := hI
    have hdn : ((g.regs.take i).map fun r => ofV v r.next).length = i := by simp; omega
    have haf : (i + 1) * 8 ≤ 140737488355328 := by omega
    refine Run.seq ?_
    have fx := And.intro haf (And.intro hdn (And.intro hao (And.intro hol (And.intro ints_len (And.intro rim_len (And.intro us_len ft))))))
    refine Run.go ?_
    refine End.kp [1, 4, 5, 25, 26, 27, 28] ?_
    refine Run.seq ?_
    refine Run.cond _ rfl (fun hb => ?_) (fun hb => ?_)
    · have hb := of_decide_eq_true hb
      have hin : i < g.regs.length := by omega
      have wi := wsucc hin (by omega)
      obtain ⟨f, hfi, hfm, hf⟩ := reg_at g.regs i hin
      obtain ⟨x1, x2⟩ := hg.regs f hfm
      have x2' : f.next < 2 * (v.length : Int) := by omega
      have htk := reg_snoc g.regs i f hfi
      refine Run.skip ?_
      refine End.kp [1, 4, 5, 25, 26, 27] ?_
      refine Run.seq ?_
      refine Run.block ?_
      refine Run.seq ?_
      have fx := And.intro (@Int.toNat_natCast) (And.intro (@Int.natCast_nonneg) (And.intro hf (And.intro wi (And.intro haf (And.intro hdn (And.intro hao (And.intro hol (And.intro ints_len (And.intro rim_len (And.intro us_len ft))))))))))
      refine Run.go ?_
      refine End.kp [1, 4, 5, 9, 25, 26, 27] ?_
      refine Run.region rfl fun K hK => GOps.sim ?_
      refine GOps.call rfl rfl rfl rfl (by kernel_rfl) (ACalls.sim ?_)
      refine (of_ok v f.next x1 x2' (by omega) _).mono fun v u hv => ?_
      obtain ⟨rfl, rfl⟩ := hv
      refine ⟨_, _, rfl, GOps.sim ?_⟩
      refine GOps.done (hK _ ?_); clear hK K
      refine End.blk ?_
      refine End.kp [1, 4, 5, 25, 26, 27] ?_
      refine Run.go ?_
      refine End.lp ?_
      refine ⟨g.regs.length - (i + 1), _, by omega, Ghost.form [(1, .im (.sl (us v))), (4, .ms 0 1 g.outs.length), (5, .ms 0 2 (i + 1)), (25, .im (.sl (g.regs.map LReg.im))), (26, .i g.regs.length), (27, .i (i + 1 : Nat))] 3 ⟨rfl, rfl, rfl, rfl, rfl, rfl, trivial⟩ rfl rfl, i + 1, rfl, by omega, ?_⟩
      rw [htk]
      simp
    · have hb := of_decide_eq_false hb
      have hiN : i = g.regs.length := by omega
      subst hiN
      rw [List.take_length] at hdn ⊢
      refine Run.exit rfl ?_
      refine End.kp [4, 5] ?_
      refine Run.seq ?_
      refine Run.ghost (Ghost.shut (t := 4) (j := 1) rfl rfl (by rw [us_len]; exact hol)) ?_
      simp only [eput, edel]
      refine Run.ghost (Ghost.shut (t := 5) (j := 2) rfl rfl (by rw [us_len, hdn])) ?_
      simp only [eput, edel]
      have fx := And.intro haf (And.intro hdn (And.intro hao (And.intro hol (And.intro ints_len (And.intro rim_len (And.intro us_len ft))))))
      refine Run.go ?_
      refine End.kp [4, 5] ?_
      refine Run.ret (hQ _ _ ⟨.inr rfl, _, rfl, _, rfl, ?_⟩)
      exact ⟨rfl, rfl⟩
theorem GInit_ok (g : LGraph) (hg : GSmall g) (up : Frs) : ACalls Try.prog 54 [g.pv] up fun v u => v = .im (.sl (bools (initG g))) ∧ u = up := by
  obtain ⟨z1, z2, z3, z4, z5⟩ := hg
  have hc : (0 : Int) ≤ g.regs.length := by omega
  have hm1 : ((1 : Nat) : Int) * (g.regs.length : Int) ≤ 281474976710656 := by omega
  have hm2 : (g.regs.length : Int) ≤ 9223372036854775807 := by omega
  refine ACalls.code Try.func54 rfl 25 rfl (by simp) [.tmp 2] rfl fun Q hQ => ?_
  simp only [ups, PV.up, argEnv]
  have ft := And.intro ty_2 (And.intro ty_3 (And.intro ty_4 (And.intro ty_47 (And.intro ty_51 (And.intro ty_69 (And.intro ty_71 trivial))))))
  refine Run.seq ?_
  have fx := And.intro hm2 (And.intro hm1 (And.intro hc (And.intro rim_len ft)))
  refine Run.go ?_
  refine End.kp [1] ?_
  refine Run.seq ?_
  refine Run.go ?_
  refine End.kp [1, 3] ?_
  refine Run.seq ?_
  refine Run.seq ?_
  refine Run.go ?_
  refine End.kp [3, 11, 12, 13] ?_
  refine Run.block ?_
  refine Run.ghost (Ghost.form [(3, .ms 0 1 g.regs.length), (11, .im (.sl (g.regs.map LReg.im))), (12, .i g.regs.length), (13, .i (0 : Nat))] 2 ⟨rfl, rfl, rfl, rfl, trivial⟩ rfl rfl) ?_
  refine Run.loop (fun m s => ∃ (i : Nat), m = g.regs.length - i ∧ i ≤ g.regs.length ∧ s = ⟨[(3, .ms 0 1 g.regs.length), (11, .im (.sl (g.regs.map LReg.im))), (12, .i g.regs.length), (13, .i (i : Nat))], [.box [.im (.sl (strs g.inn)), .im (.sl (strs g.out)), .im (.sl (g.regs.map LReg.im)), .im (.sl (g.ands.map nd)), .im (.sl (ints g.outs))], .row 4 1 ((g.regs.take i).map (fun r => [Im.bool r.init]) ++ List.replicate (g.regs.length - i) [.bool false]) 0], up⟩) g.regs.length ⟨0, rfl, by omega, by simp⟩ fun m s hI => ?_
  obtain ⟨i, rfl, hi, rfl⟩ := hI
  have hrl := fill_len (fun r => [Im.bool r.init]) g.regs [.bool false] i hi
  refine Run.seq ?_
  have fx := And.intro hrl (And.intro hm2 (And.intro hm1 (And.intro hc (And.intro rim_len ft))))
  refine Run.go ?_
  refine End.kp [3, 11, 12, 13, 14] ?_
  refine Run.seq ?_
  refine Run.cond _ rfl (fun hb => ?_) (fun hb => ?_)
  · have hb := of_decide_eq_true hb
    have hin : i < g.regs.length := by omega
    have wi := wsucc hin (by omega)
    obtain ⟨f, hfi, hfm, hf⟩ := reg_at g.regs i hin
    have hri := fill_get (fun r => [Im.bool r.init]) g.regs [.bool false] i hin
    have hfd : g.regs.getD i ⟨ByteArray.empty, 0, false⟩ = f := by simp [hfi]
    have hfm2 := fill_map (fun r => [Im.bool r.init]) g.regs [.bool false] ⟨ByteArray.empty, 0, false⟩ i hin
    rw [hfd] at hfm2
    refine Run.skip ?_
    refine End.kp [3, 11, 12, 13] ?_
    refine Run.seq ?_
    refine Run.block ?_
    refine Run.seq ?_
    have fx := And.intro hri (And.intro hin (And.intro (@Int.ofNat_lt) (And.intro (@Int.toNat_natCast) (And.intro (@Int.natCast_nonneg) (And.intro hf (And.intro wi (And.intro hrl (And.intro hm2 (And.intro hm1 (And.intro hc (And.intro rim_len ft)))))))))))
    refine Run.go ?_
    refine End.kp [3, 4, 5, 11, 12, 13] ?_
    refine Run.go ?_
    refine End.blk ?_
    refine End.kp [3, 11, 12, 13] ?_
    refine Run.go ?_
    refine End.lp ?_
    refine ⟨g.regs.length - (i + 1), _, by omega, Ghost.form [(3, .ms 0 1 g.regs.length), (11, .im (.sl (g.regs.map LReg.im))), (12, .i g.regs.length), (13, .i (i + 1 : Nat))] 2 ⟨rfl, rfl, rfl, rfl, trivial⟩ rfl rfl, i + 1, rfl, by omega, ?_⟩
    rw [← hfm2]
    rfl
  · have hb := of_decide_eq_false hb
    have hiN : i = g.regs.length := by omega
    subst hiN
    rw [fill_all] at hrl ⊢
    refine Run.exit rfl ?_
    refine End.kp [3] ?_
    refine Run.seq ?_
    refine Run.ghost (Ghost.shut (t := 3) (j := 1) rfl rfl hrl) ?_
    simp only [eput, edel]
    have fx := And.intro hrl (And.intro hm2 (And.intro hm1 (And.intro hc (And.intro rim_len ft))))
    refine Run.go ?_
    refine End.kp [2] ?_
    refine Run.ret (hQ _ _ ⟨.inr rfl, _, rfl, _, rfl, ?_⟩)
    exact ⟨by simp, rfl⟩
theorem GRun_ok (g : LGraph) (hg : GraphOk g) (tr : List (List Bool)) (hn : tr.length ≤ 64) (ht : ∀ r ∈ tr, r.length = g.inn.length) (up : Frs) : ACalls Try.prog 53 [g.pv, .im (.sl (boolss tr))] up fun v u => v = .tup [.im (.sl (boolss (runG g (lanes0 (initG g)) tr))), .i 0] ∧ u = up := by
  have hsm := hg.small
  obtain ⟨z1, z2, z3, z4, z5⟩ := hg.small
  have d1 : decide ((tr.length : Int) > 64) = false := decide_eq_false (by omega)
  refine ACalls.code Try.func53 rfl 63 rfl (by simp) [.tmp 4, .tmp 5] rfl fun Q hQ => ?_
  simp only [ups, PV.up, argEnv]
  have ft := And.intro ty_3 (And.intro ty_4 (And.intro ty_9 (And.intro ty_26 (And.intro ty_34 (And.intro ty_37 (And.intro ty_51 (And.intro ty_56 (And.intro ty_58 (And.intro ty_71 trivial)))))))))
  refine Run.seq ?_
  have fx := And.intro d1 (And.intro strs_len (And.intro bools_len (And.intro boolss_len ft)))
  refine Run.go ?_
  refine End.kp [1, 2] ?_
  refine Run.seq ?_
  refine Run.seq ?_
  refine Run.region rfl fun K hK => GOps.sim ?_
  refine GOps.call rfl rfl rfl rfl (by kernel_rfl) (ACalls.sim ?_)
  refine (Check_ok g hg _).mono fun v u hv => ?_
  obtain ⟨rfl, rfl⟩ := hv
  refine ⟨_, _, rfl, GOps.sim ?_⟩
  refine GOps.done (hK _ ?_); clear hK K
  refine End.kp [1, 2, 6] ?_
  refine Run.seq ?_
  refine Run.go ?_
  refine End.kp [1, 2, 6, 18] ?_
  refine Run.cond _ rfl (fun hb => ?_) (fun hb => ?_)
  · have hb := hb
    simp at hb
  · have hb := hb
    refine Run.skip ?_
    refine End.kp [1, 2] ?_
    refine Run.seq ?_
    refine Run.seq ?_
    have fx := And.intro d1 (And.intro strs_len (And.intro bools_len (And.intro boolss_len ft)))
    refine Run.go ?_
    refine End.kp [1, 2, 22] ?_
    refine Run.cond _ rfl (fun hb => ?_) (fun hb => ?_)
    · have hb := hb
      simp at hb
    · have hb := hb
      refine Run.skip ?_
      refine End.kp [1, 2] ?_
      refine Run.seq ?_
      refine Run.seq ?_
      have fx := And.intro d1 (And.intro strs_len (And.intro bools_len (And.intro boolss_len ft)))
      refine Run.go ?_
      refine End.kp [1, 2, 23, 24, 25] ?_
      refine Run.block ?_
      refine Run.ghost (Ghost.form [(1, .im (.sl (boolss tr))), (2, .ptr 0 0 0), (23, .im (.sl (boolss tr))), (24, .i tr.length), (25, .i (0 : Nat))] 1 ⟨rfl, rfl, rfl, rfl, rfl, trivial⟩ rfl rfl) ?_
      refine Run.loop (fun m s => ∃ (i : Nat), m = tr.length - i ∧ i ≤ tr.length ∧ s = ⟨[(1, .im (.sl (boolss tr))), (2, .ptr 0 0 0), (23, .im (.sl (boolss tr))), (24, .i tr.length), (25, .i (i : Nat))], [.box [.im (.sl (strs g.inn)), .im (.sl (strs g.out)), .im (.sl (g.regs.map LReg.im)), .im (.sl (g.ands.map nd)), .im (.sl (ints g.outs))]], up⟩) tr.length ⟨0, rfl, by omega, rfl⟩ fun m s hI => ?_
      obtain ⟨i, rfl, hi, rfl⟩ := hI
      refine Run.seq ?_
      have fx := And.intro d1 (And.intro strs_len (And.intro bools_len (And.intro boolss_len ft)))
      refine Run.go ?_
      refine End.kp [1, 2, 23, 24, 25, 26] ?_
      refine Run.seq ?_
      refine Run.cond _ rfl (fun hb => ?_) (fun hb => ?_)
      · have hb := of_decide_eq_true hb
        have hin : i < tr.length := by omega
        have wi := wsucc hin (by omega)
        obtain ⟨r, hri, hrm, _, hr⟩ := boolss_at tr i hin
        have d2 : ((r.length : Int) != g.inn.length) = false := by rw [ht r hrm]; simp
        refine Run.skip ?_
        refine End.kp [1, 2, 23, 24, 25] ?_
        refine Run.seq ?_
        refine Run.block ?_
        refine Run.seq ?_
        have fx := And.intro (@Int.toNat_natCast) (And.intro (@Int.natCast_nonneg) (And.intro d2 (And.intro hr (And.intro wi (And.intro d1 (And.intro strs_len (And.intro bools_len (And.intro boolss_len ft))))))))
        refine Run.go ?_
        refine End.kp [1, 2, 8, 23, 24, 25] ?_
        refine Run.seq ?_
        refine Run.go ?_
        refine End.kp [1, 2, 23, 24, 25, 34] ?_
        refine Run.cond _ rfl (fun hb => ?_) (fun hb => ?_)
        · have hb := hb
          simp at hb
        · have hb := hb
          refine Run.skip ?_
          refine End.blk ?_
          refine End.kp [1, 2, 23, 24, 25] ?_
          have fx := And.intro (@Int.toNat_natCast) (And.intro (@Int.natCast_nonneg) (And.intro d2 (And.intro hr (And.intro wi (And.intro d1 (And.intro strs_len (And.intro bools_len (And.intro boolss_len ft))))))))
          refine Run.go ?_
          refine End.lp ?_
          refine ⟨tr.length - (i + 1), _, by omega, Ghost.form [(1, .im (.sl (boolss tr))), (2, .ptr 0 0 0), (23, .im (.sl (boolss tr))), (24, .i tr.length), (25, .i (i + 1 : Nat))] 1 ⟨rfl, rfl, rfl, rfl, rfl, trivial⟩ rfl rfl, i + 1, rfl, by omega, rfl⟩
      · have hb := of_decide_eq_false hb
        refine Run.exit rfl ?_
        refine End.kp [1, 2] ?_
        refine Run.seq ?_
        have fx := And.intro d1 (And.intro strs_len (And.intro bools_len (And.intro boolss_len ft)))
        refine Run.region rfl fun K hK => GOps.sim ?_
        refine GOps.call rfl rfl rfl rfl (by kernel_rfl) (ACalls.sim ?_)
        refine (GInit_ok g hsm _).mono fun v u hv => ?_
        obtain ⟨rfl, rfl⟩ := hv
        refine ⟨_, _, rfl, GOps.sim ?_⟩
        refine GOps.call rfl rfl rfl rfl (by kernel_rfl) (ACalls.sim ?_)
        refine (Lanes_ok (initG g) (by simp; omega) _).mono fun v u hv => ?_
        obtain ⟨rfl, rfl⟩ := hv
        refine ⟨_, _, rfl, GOps.sim ?_⟩
        refine GOps.done (hK _ ?_); clear hK K
        refine End.kp [1, 2, 9] ?_
        refine Run.seq ?_
        refine Run.go ?_
        refine End.kp [1, 2, 9, 10] ?_
        refine Run.seq ?_
        refine Run.seq ?_
        refine Run.go ?_
        refine End.kp [2, 9, 10, 39, 40, 41] ?_
        refine Run.block ?_
        refine Run.ghost (Ghost.thaw (u := 10) 71 1 (by decide) rfl) ?_
        refine Run.ghost (Ghost.form [(2, .ptr 0 0 0), (9, .im (.sl (us (lanes0 (initG g))))), (10, .ms 0 1 (0)), (39, .im (.sl (boolss tr))), (40, .i tr.length), (41, .i (0 : Nat))] 2 ⟨rfl, rfl, rfl, rfl, rfl, rfl, trivial⟩ rfl rfl) ?_
        refine Run.loop (fun m s => ∃ (i : Nat) (st : List Int) (dn : List (List Bool)), m = tr.length - i ∧ i ≤ tr.length ∧ dn.length = i ∧ st.length = g.regs.length ∧ dn ++ runG g st (tr.drop i) = runG g (lanes0 (initG g)) tr ∧ s = ⟨[(2, .ptr 0 0 0), (9, .im (.sl (us st))), (10, .ms 0 1 (i)), (39, .im (.sl (boolss tr))), (40, .i tr.length), (41, .i (i : Nat))], [.box [.im (.sl (strs g.inn)), .im (.sl (strs g.out)), .im (.sl (g.regs.map LReg.im)), .im (.sl (g.ands.map nd)), .im (.sl (ints g.outs))], .row 71 1 (boolss dn) 0], up⟩) tr.length ⟨0, _, [], rfl, by omega, rfl, by simp, rfl, rfl⟩ fun m s hI => ?_
        obtain ⟨i, st, dn, rfl, hi, hdn, hst, hR, rfl⟩ := hI
        have hap : (i + 1) * 24 ≤ 140737488355328 := by omega
        refine Run.seq ?_
        have fx := And.intro hap (And.intro hdn (And.intro d1 (And.intro strs_len (And.intro bools_len (And.intro boolss_len ft)))))
        refine Run.go ?_
        refine End.kp [2, 9, 10, 39, 40, 41, 42] ?_
        refine Run.seq ?_
        refine Run.cond _ rfl (fun hb => ?_) (fun hb => ?_)
        · have hb := of_decide_eq_true hb
          have hin : i < tr.length := by omega
          have wi := wsucc hin (by omega)
          obtain ⟨r, hri, hrm, _, hr⟩ := boolss_at tr i hin
          have hrl := ht r hrm
          have hdr : tr.drop i = r :: tr.drop (i + 1) := by
            obtain ⟨h, e⟩ := List.getElem?_eq_some_iff.1 hri
            rw [← e]
            exact List.drop_eq_getElem_cons h
          rw [hdr, runG] at hR
          refine Run.skip ?_
          refine End.kp [2, 9, 10, 39, 40, 41] ?_
          refine Run.seq ?_
          refine Run.block ?_
          refine Run.seq ?_
          have fx := And.intro (@Int.toNat_natCast) (And.intro (@Int.natCast_nonneg) (And.intro hr (And.intro wi (And.intro hap (And.intro hdn (And.intro d1 (And.intro strs_len (And.intro bools_len (And.intro boolss_len ft)))))))))
          refine Run.go ?_
          refine End.kp [2, 9, 10, 12, 39, 40, 41] ?_
          refine Run.seq ?_
          refine Run.drawA fun K hK => ?_
          refine DOps.sim ?_
          refine DOps.call (.im (.sl (us (lanes0 r)))) [] [] rfl rfl rfl rfl (by kernel_rfl) (by simp [Agree]) (fun u hu => Lanes_ok r (by omega) u) ?_
          refine DOps.sim ?_
          refine DOps.call (.im (.sl (us (graphVals g (lanes0 r) st)))) [] [] rfl rfl rfl rfl (by kernel_rfl) (by simp [Agree]) (fun u hu => gvalues_ok g hg (lanes0 r) st (by simpa using hrl) hst u) ?_
          refine DOps.sim ?_
          refine DOps.call (.tup [.im (.sl (us (outsG g (graphVals g (lanes0 r) st)))), .im (.sl (us (nextsG g (graphVals g (lanes0 r) st))))]) [] [] rfl rfl rfl rfl (by kernel_rfl) (by simp [Agree]) (fun u hu => gresults_ok g hg (graphVals g (lanes0 r) st) (by rw [graphVals_len g _ _ (by simpa using hrl) hst]) u) ?_
          refine DOps.sim ?_
          refine DOps.nil (metAll_quiet rfl) (hK _ ?_); clear hK K
          refine End.kp [2, 10, 13, 14, 39, 40, 41] ?_
          refine Run.region rfl fun K hK => GOps.sim ?_
          refine GOps.call rfl rfl rfl rfl (by kernel_rfl) (ACalls.sim ?_)
          refine (Lane_ok _ (by simp [outsG]; omega) _).mono fun v u hv => ?_
          obtain ⟨rfl, rfl⟩ := hv
          refine ⟨_, _, rfl, GOps.sim ?_⟩
          refine GOps.done (hK _ ?_); clear hK K
          refine End.blk ?_
          refine End.kp [2, 9, 10, 39, 40, 41] ?_
          refine Run.go ?_
          refine End.lp ?_
          refine ⟨tr.length - (i + 1), _, by omega, Ghost.form [(2, .ptr 0 0 0), (9, .im (.sl (us (nextsG g (graphVals g (lanes0 r) st))))), (10, .ms 0 1 ((i + 1))), (39, .im (.sl (boolss tr))), (40, .i tr.length), (41, .i (i + 1 : Nat))] 2 ⟨rfl, rfl, rfl, rfl, rfl, rfl, trivial⟩ rfl rfl, i + 1, nextsG g (graphVals g (lanes0 r) st), dn ++ [laneB (outsG g (graphVals g (lanes0 r) st))], rfl, by omega, by simp [hdn], by simp [nextsG], by simpa using hR, ?_⟩
          simp
        · have hb := of_decide_eq_false hb
          have hiN : i = tr.length := by omega
          subst hiN
          rw [List.drop_length, runG, List.append_nil] at hR
          refine Run.exit rfl ?_
          refine End.kp [10] ?_
          refine Run.seq ?_
          refine Run.ghost (Ghost.shut (t := 10) (j := 1) rfl rfl (by rw [boolss_len, hdn])) ?_
          simp only [eput, edel]
          have fx := And.intro hap (And.intro hdn (And.intro d1 (And.intro strs_len (And.intro bools_len (And.intro boolss_len ft)))))
          refine Run.go ?_
          refine End.kp [4, 5] ?_
          refine Run.ret (hQ _ _ ⟨.inr rfl, _, rfl, _, rfl, ?_⟩)
          exact ⟨by rw [hR], rfl⟩
end Go.Proofs.YtkmnmokjlpenhaaPi

/- Plain law: what a run of a graph shows depends on lane 0 of the state alone. -/
set_option linter.unusedVariables false
set_option linter.unusedSimpArgs false
namespace Go.Proofs.YtkmnmokjlpenhaaPi

def same0 (v v' : List Int) : Prop := v.length = v'.length ∧ ∀ k, bit0 (v.getD k 0) = bit0 (v'.getD k 0)
theorem laneB_bit0 (v : List Int) : laneB v = v.map bit0 := by
  unfold laneB
  exact List.map_congr_left fun x _ => one_iff x
theorem same0_of {v v' : List Int} (h : same0 v v') (l : Int) : bit0 (ofV v l) = bit0 (ofV v' l) := by
  unfold ofV
  split
  · rw [vnot, vnot, bit0_not, bit0_not, h.2]
  · exact h.2 _
theorem same0_app {v v' w w' : List Int} (h : same0 v v') (k : same0 w w') : same0 (v ++ w) (v' ++ w') := by
  refine ⟨by simp [h.1, k.1], fun q => ?_⟩
  simp only [List.getD_eq_getElem?_getD, List.getElem?_append]
  rw [h.1]
  split
  · have := h.2 q
    simpa only [List.getD_eq_getElem?_getD] using this
  · have := k.2 (q - v'.length)
    simpa only [List.getD_eq_getElem?_getD] using this
theorem same0_refl (v : List Int) : same0 v v := ⟨rfl, fun _ => rfl⟩
theorem same0_one {x y : Int} (h : bit0 x = bit0 y) : same0 [x] [y] := ⟨rfl, fun k => by
  cases k with
  | zero => simpa using h
  | succ k => simp⟩
theorem same0_valsA : ∀ (ps : List (Int × Int)) {v v' : List Int}, same0 v v' → same0 (valsA ps v) (valsA ps v')
  | [], v, v', h => h
  | p :: ps, v, v', h => by
    simp only [valsA]
    refine same0_valsA ps (same0_app h (same0_one ?_))
    rw [bit0_and, bit0_and, same0_of h, same0_of h]
theorem same0_vals (g : LGraph) (inn : List Int) {st st' : List Int} (h : same0 st st') : same0 (graphVals g inn st) (graphVals g inn st') := same0_valsA _ (same0_app (same0_refl _) h)
theorem same0_map {α : Type} (l : List α) (f f' : α → Int) (h : ∀ x, bit0 (f x) = bit0 (f' x)) : same0 (l.map f) (l.map f') := by
  refine ⟨by simp, fun k => ?_⟩
  simp only [List.getD_eq_getElem?_getD, List.getElem?_map]
  cases l[k]? with
  | none => rfl
  | some x => exact h x
theorem same0_lane {v v' : List Int} (h : same0 v v') : laneB v = laneB v' := by
  rw [laneB_bit0, laneB_bit0]
  refine List.ext_getElem? fun k => ?_
  rw [List.getElem?_map, List.getElem?_map]
  have := h.2 k
  simp only [List.getD_eq_getElem?_getD] at this
  have hl := h.1
  by_cases hk : k < v.length
  · rw [List.getElem?_eq_getElem hk, List.getElem?_eq_getElem (by omega)] at this ⊢
    simpa using this
  · rw [List.getElem?_eq_none (by omega), List.getElem?_eq_none (by omega)]
theorem runG_same (g : LGraph) : ∀ (t : List (List Bool)) {st st' : List Int}, same0 st st' → runG g st t = runG g st' t
  | [], st, st', h => rfl
  | r :: t, st, st', h => by
    have hv := same0_vals g (lanes0 r) h
    have e1 : laneB (outsG g (graphVals g (lanes0 r) st)) = laneB (outsG g (graphVals g (lanes0 r) st')) := same0_lane (same0_map g.outs (ofV (graphVals g (lanes0 r) st)) (ofV (graphVals g (lanes0 r) st')) (fun x => same0_of hv x))
    have e2 : runG g (nextsG g (graphVals g (lanes0 r) st)) t = runG g (nextsG g (graphVals g (lanes0 r) st')) t := runG_same g t (same0_map g.regs (fun r' => ofV (graphVals g (lanes0 r) st) r'.next) (fun r' => ofV (graphVals g (lanes0 r) st') r'.next) (fun x => same0_of hv x.next))
    simp only [runG]
    rw [e1, e2]
end Go.Proofs.YtkmnmokjlpenhaaPi

/- The walks of literals and of enables: Inverted, Node, Make, and, mux, find, Enables. -/
set_option linter.unusedVariables false
set_option linter.unusedSimpArgs false
set_option maxRecDepth 100000
namespace Go.Proofs.YtkmnmokjlpenhaaPi
set_option maxHeartbeats 2000000
/-- The opposite of a literal. -/
def flipL (l : Int) : Int := if l % 2 = 0 then l + 1 else l - 1
theorem xor_one (l : Int) (h0 : 0 ≤ l) (h1 : l ≤ 1000000000) : bits .xor .i64 l 1 = flipL l := by
  obtain ⟨n, rfl⟩ : ∃ n : Nat, l = n := ⟨l.toNat, by omega⟩
  have e : bits .xor .i64 (n : Int) 1 = IntKind.i64.wrap ((n ^^^ 1 : Nat) : Int) := by
    show IntKind.i64.wrap ((BitVec.ofInt 64 (n : Int) ^^^ BitVec.ofInt 64 1).toNat : Int) = _
    rw [BitVec.toNat_xor]
    have a1 : (BitVec.ofInt 64 (n : Int)).toNat = n := by
      rw [BitVec.toNat_ofInt]
      omega
    have a2 : (BitVec.ofInt 64 1).toNat = 1 := by decide
    rw [a1, a2]
  have h2 : n ^^^ 1 = if n % 2 = 0 then n + 1 else n - 1 := by
    have k1 : (n ^^^ 1) / 2 = n / 2 := by
      rw [Nat.xor_div_two]
      simp
    have k2 : (n ^^^ 1) % 2 = 1 ↔ ¬ n % 2 = 1 := by
      rw [Nat.xor_mod_two_eq_one]
      simp
    split <;> omega
  rw [e, h2, flipL]
  by_cases h : n % 2 = 0
  · rw [if_pos h, if_pos (by omega), wrap64 (by omega)]
    omega
  · rw [if_neg h, if_neg (by omega), wrap64 (by omega)]
    omega
theorem flipL_lt (l n : Int) (h0 : 0 ≤ l) (h1 : l < 2 * n) : 0 ≤ flipL l ∧ flipL l < 2 * n := by
  unfold flipL
  split <;> omega
theorem Make_ok (k : Int) (h0 : 0 ≤ k) (h1 : k ≤ 4416) (up : Frs) : ACalls Try.prog 88 [.i k, .im (.bool false)] up fun v u => v = .i (2 * k) ∧ u = up := by
  have d1 : decide (k < 0) = false := decide_eq_false (by omega)
  have d2 : decide (k > 4416) = false := decide_eq_false (by omega)
  have w1 : IntKind.i64.wrap (2 * k) = 2 * k := wrap64 (by omega)
  refine ACalls.code Try.func88 rfl 18 rfl (by simp) [.tmp 4] rfl fun Q hQ => ?_
  simp only [ups, PV.up, argEnv]
  have ft := And.intro ty_3 (And.intro ty_4 (And.intro ty_62 trivial))
  refine Run.seq ?_
  have fx := And.intro w1 (And.intro d2 (And.intro d1 ft))
  refine Run.go ?_
  refine End.kp [0, 1] ?_
  refine Run.seq ?_
  refine Run.seq ?_
  refine Run.go ?_
  refine End.kp [0, 1, 11] ?_
  refine Run.cond _ rfl (fun hb => ?_) (fun hb => ?_)
  · have hb := hb
    simp at hb
  · have hb := hb
    refine Run.skip ?_
    refine End.kp [0, 1] ?_
    refine Run.seq ?_
    have fx := And.intro w1 (And.intro d2 (And.intro d1 ft))
    refine Run.go ?_
    refine End.kp [1, 5] ?_
    refine Run.seq ?_
    refine Run.seq ?_
    refine Run.go ?_
    refine End.kp [5, 14] ?_
    refine Run.cond _ rfl (fun hb => ?_) (fun hb => ?_)
    · have hb := hb
      simp at hb
    · have hb := hb
      refine Run.skip ?_
      refine End.kp [5] ?_
      refine Run.seq ?_
      have fx := And.intro w1 (And.intro d2 (And.intro d1 ft))
      refine Run.go ?_
      refine End.kp [4] ?_
      refine Run.ret (hQ _ _ ⟨.inr rfl, _, rfl, _, rfl, ?_⟩)
      exact ⟨rfl, rfl⟩
end Go.Proofs.YtkmnmokjlpenhaaPi

/- Plain law: words as 64 bits; the values of literals and nodes of a graph. -/
set_option linter.unusedVariables false
set_option linter.unusedSimpArgs false
namespace Go.Proofs.YtkmnmokjlpenhaaPi

/-- A word's bits. -/
abbrev bv (x : Int) : BitVec 64 := BitVec.ofInt 64 x
def U64 (x : Int) : Prop := 0 ≤ x ∧ x < 18446744073709551616
theorem bv_nat (r : BitVec 64) : bv (r.toNat : Int) = r := by
  apply BitVec.eq_of_toNat_eq
  simp
theorem u64_nat (r : BitVec 64) : U64 (r.toNat : Int) := by
  have := r.isLt
  exact ⟨by omega, by omega⟩
theorem wrap_nat (r : BitVec 64) : IntKind.u64.wrap (r.toNat : Int) = r.toNat := wrapU (by have := r.isLt; omega)
theorem bits_and (x y : Int) : bits .and .u64 x y = ((bv x &&& bv y).toNat : Int) := wrap_nat _
theorem bits_xor (x y : Int) : bits .xor .u64 x y = ((bv x ^^^ bv y).toNat : Int) := wrap_nat _
theorem bv_and (x y : Int) : bv (bits .and .u64 x y) = bv x &&& bv y := by rw [bits_and, bv_nat]
theorem bv_xor (x y : Int) : bv (bits .xor .u64 x y) = bv x ^^^ bv y := by rw [bits_xor, bv_nat]
theorem u64_and (x y : Int) : U64 (bits .and .u64 x y) := by rw [bits_and]; exact u64_nat _
theorem bv_vnot (x : Int) : bv (vnot x) = ~~~ bv x := by
  rw [vnot, bv_xor]
  have : bv (if IntKind.u64.signed = true then -1 else IntKind.u64.max) = BitVec.allOnes 64 := by decide
  rw [this]
  apply BitVec.eq_of_getLsbD_eq
  intro i hi
  simp only [BitVec.getLsbD_xor, BitVec.getLsbD_allOnes, BitVec.getLsbD_not, hi, decide_true, Bool.true_and, Bool.true_xor]
theorem bv_ext {x y : BitVec 64} (h : ∀ i, i < 64 → x.getLsbD i = y.getLsbD i) : x = y := BitVec.eq_of_getLsbD_eq h

/-- The bits of a literal. -/
def litB (v : List Int) (l : Int) : BitVec 64 := if l % 2 = 1 then ~~~ bv (v.getD (l / 2).toNat 0) else bv (v.getD (l / 2).toNat 0)
theorem bv_of (v : List Int) (l : Int) : bv (ofV v l) = litB v l := by
  unfold ofV litB
  split
  · exact bv_vnot _
  · rfl
theorem litB_flip (v : List Int) (l : Int) (h : 0 ≤ l) : litB v (flipL l) = ~~~ litB v l := by
  unfold litB flipL
  by_cases h2 : l % 2 = 0
  · rw [if_pos h2, if_pos (by omega), if_neg (show ¬ l % 2 = 1 by omega)]
    congr 3
    omega
  · rw [if_neg h2, if_neg (by omega), if_pos (show l % 2 = 1 by omega)]
    have : ((l - 1) / 2).toNat = (l / 2).toNat := by omega
    rw [this]
    apply bv_ext
    intro i hi
    simp [hi]
theorem valsA_pre : ∀ (ps : List (Int × Int)) (v : List Int) (k : Nat), k < v.length → (valsA ps v).getD k 0 = v.getD k 0
  | [], v, k, h => rfl
  | p :: ps, v, k, h => by
    rw [valsA, valsA_pre ps _ k (by simp; omega)]
    simp [List.getElem?_append_left h]
theorem valsA_litB (ps : List (Int × Int)) (v : List Int) (l : Int) (h0 : 0 ≤ l) (h : l < 2 * (v.length : Int)) : litB (valsA ps v) l = litB v l := by
  unfold litB
  rw [valsA_pre ps v (l / 2).toNat (by omega)]
theorem valsA_node : ∀ (ps : List (Int × Int)) (v : List Int) (i : Nat) (p : Int × Int), ps[i]? = some p → (∀ (i : Nat) (p : Int × Int), ps[i]? = some p → (0 ≤ p.1 ∧ p.1 < 2 * ((v.length : Int) + i)) ∧ 0 ≤ p.2 ∧ p.2 < 2 * ((v.length : Int) + i)) →
    bv ((valsA ps v).getD (v.length + i) 0) = litB (valsA ps v) p.1 &&& litB (valsA ps v) p.2
  | [], v, i, p, h, _ => by simp at h
  | q :: qs, v, 0, p, h, hr => by
    simp at h
    subst h
    obtain ⟨⟨a1, a2⟩, a3, a4⟩ := hr 0 q rfl
    rw [valsA]
    have hl : (v ++ [bits .and .u64 (ofV v q.1) (ofV v q.2)]).length = v.length + 1 := by simp
    rw [valsA_pre qs _ _ (by omega), valsA_litB qs _ q.1 a1 (by rw [hl]; omega), valsA_litB qs _ q.2 a3 (by rw [hl]; omega)]
    have e : ∀ l : Int, 0 ≤ l → l < 2 * (v.length : Int) → litB (v ++ [bits .and .u64 (ofV v q.1) (ofV v q.2)]) l = litB v l := fun l h1 h2 => by
      unfold litB
      have : (v ++ [bits .and .u64 (ofV v q.1) (ofV v q.2)]).getD (l / 2).toNat 0 = v.getD (l / 2).toNat 0 := by
        simp only [List.getD_eq_getElem?_getD]
        rw [List.getElem?_append_left (by omega)]
      rw [this]
    rw [e q.1 a1 (by omega), e q.2 a3 (by omega)]
    simp [bv_and, bv_of]
  | q :: qs, v, i + 1, p, h, hr => by
    rw [valsA]
    have hl : (v ++ [bits .and .u64 (ofV v q.1) (ofV v q.2)]).length = v.length + 1 := by simp
    have := valsA_node qs (v ++ [bits .and .u64 (ofV v q.1) (ofV v q.2)]) i p (by simpa using h) (fun j p' hp' => by
      have := hr (j + 1) p' (by simpa using hp')
      rw [hl]
      omega)
    rw [hl] at this
    rw [show v.length + (i + 1) = v.length + 1 + i by omega]
    exact this
section
variable {g : LGraph} (hg : GraphOk g) {inn st : List Int} (h1 : inn.length = g.inn.length) (h2 : st.length = g.regs.length)
include hg h1 h2
theorem g_and (i : Nat) (p : Int × Int) (hp : g.ands[i]? = some p) : litB (graphVals g inn st) (2 * (1 + (g.inn.length : Int) + g.regs.length + i)) = litB (graphVals g inn st) p.1 &&& litB (graphVals g inn st) p.2 := by
  have hl : ([0] ++ inn ++ st).length = 1 + g.inn.length + g.regs.length := by simp; omega
  have := valsA_node g.ands ([0] ++ inn ++ st) i p hp (fun j q hq => by
    have := hg.ands j q hq
    rw [hl]
    omega)
  rw [hl] at this
  rw [graphVals, litB, if_neg (by omega)]
  have e : (2 * (1 + (g.inn.length : Int) + g.regs.length + i) / 2).toNat = 1 + g.inn.length + g.regs.length + i := by omega
  rw [e]
  exact this
theorem g_off : litB (graphVals g inn st) 0 = 0#64 := by
  have _ := hg
  rw [graphVals, valsA_litB _ _ _ (by omega) (by simp; omega)]
  simp [litB]
theorem g_on : litB (graphVals g inn st) 1 = BitVec.allOnes 64 := by
  have := litB_flip (graphVals g inn st) 0 (by omega)
  rw [g_off hg h1 h2] at this
  rw [show (1 : Int) = flipL 0 by decide, this]
  decide
end
end Go.Proofs.YtkmnmokjlpenhaaPi

/- Plain law: drawn names are in order, and no two of them are the same. -/
set_option linter.unusedVariables false
set_option linter.unusedSimpArgs false
namespace Go.Proofs.YtkmnmokjlpenhaaPi

theorem chr_nat (n : Int) (h0 : 0 ≤ n) (h1 : n < 256) : (chr n).toNat = n.toNat := by
  simp only [chr, UInt8.toNat_ofNat']
  omega
/-- The letter that tells one drawn name from the others. -/
def tag (s : ByteArray) : Option UInt8 := if s.data.toList[1]? = some 46 then s.data.toList[3]? else s.data.toList[1]?
theorem chr_46 (n : Int) (h0 : 97 ≤ n) (h1 : n < 256) : chr n ≠ 46 := fun e => by
  have := chr_nat n (by omega) h1
  rw [e] at this
  simp at this
  omega
theorem name_tag (l : List Int) (a i : Int) (hi : 0 ≤ i) : tag (nameV l a i).1 = some (chr (97 + i % 26)) := by
  have m0 := Int.emod_nonneg i (show (26 : Int) ≠ 0 by decide)
  have m1 := Int.emod_lt_of_pos i (show (0 : Int) < 26 by decide)
  have hne := chr_46 (97 + i % 26) (by omega) (by omega)
  unfold nameV
  split
  · simp [tag, hne]
  · split
    · simp [tag]
    · simp [tag, hne]
theorem chr_mem (n : Int) (h0 : 33 ≤ n) (h1 : n ≤ 126) : 33 ≤ (chr n).toNat ∧ (chr n).toNat ≤ 126 := by
  rw [chr_nat n (by omega) (by omega)]
  omega
theorem name_ok (l : List Int) (a i : Int) : NameOk (nameV l a i).1 := by
  have m0 := Int.emod_nonneg i (show (26 : Int) ≠ 0 by decide)
  have m1 := Int.emod_lt_of_pos i (show (0 : Int) < 26 by decide)
  have m2 := Int.emod_nonneg (i / 26) (show (26 : Int) ≠ 0 by decide)
  have m3 := Int.emod_lt_of_pos (i / 26) (show (0 : Int) < 26 by decide)
  obtain ⟨r0, r1⟩ := nextV_range l a 26 (by omega)
  obtain ⟨r4, r5⟩ := nextV_range l (a + 1 + 1) 10 (by omega)
  have c1 := chr_mem (97 + nextV l a 26) (by omega) (by omega)
  have c2 := chr_mem (97 + i % 26) (by omega) (by omega)
  have c3 := chr_mem (97 + i / 26 % 26) (by omega) (by omega)
  have c4 := chr_mem (48 + nextV l (a + 1 + 1) 10) (by omega) (by omega)
  unfold nameV
  split
  · refine ⟨by simp [ba_size], by simp [ba_size], fun b hb => ?_⟩
    simp only [ByteArray.data_append, Array.toList_append, List.mem_append, List.mem_cons, List.not_mem_nil, or_false] at hb
    rcases hb with (rfl | rfl | rfl) | (rfl | rfl) | rfl <;> first | assumption | decide
  · split
    · refine ⟨by simp [ba_size], by simp [ba_size], fun b hb => ?_⟩
      simp only [ByteArray.data_append, Array.toList_append, List.mem_append, List.mem_cons, List.not_mem_nil, or_false] at hb
      rcases hb with (rfl | rfl) | (rfl | rfl | rfl) <;> first | assumption | decide
    · refine ⟨by simp [ba_size], by simp [ba_size], fun b hb => ?_⟩
      simp only [List.mem_cons, List.not_mem_nil, or_false] at hb
      rcases hb with rfl | rfl | rfl <;> assumption
theorem words_ok (l : List Int) : ∀ (k i : Nat) (a : Int), (∀ s ∈ (wordsV l k i a).1, NameOk s) ∧ (wordsV l k i a).1.map tag = (List.range' i k).map fun i : Nat => some (chr (97 + (i : Int) % 26))
  | 0, i, a => by simp [wordsV]
  | k + 1, i, a => by
    obtain ⟨h1, h2⟩ := words_ok l k (i + 1) (nameV l a i).2
    refine ⟨fun s hs => ?_, ?_⟩
    · simp only [wordsV, List.mem_cons] at hs
      rcases hs with rfl | hs
      · exact name_ok l a i
      · exact h1 s hs
    · simp only [wordsV, List.map_cons, List.range'_succ, h2, name_tag l a i (by omega)]
theorem words_nodup (l : List Int) (k : Nat) (a : Int) (hk : k ≤ 26) : (wordsV l k 0 a).1.Nodup := by
  have h : ((wordsV l k 0 a).1.map tag).Pairwise (· ≠ ·) := by
    rw [(words_ok l k 0 a).2, List.pairwise_map]
    refine (List.pairwise_lt_range' (s := 0) (n := k)).imp_of_mem ?_
    intro x y hx hy hxy e
    simp only [List.mem_range'_1] at hx hy
    simp only [Option.some.injEq] at e
    have := congrArg UInt8.toNat e
    rw [chr_nat _ (by omega) (by omega), chr_nat _ (by omega) (by omega)] at this
    omega
  rw [List.pairwise_map] at h
  exact h.imp fun hne e => hne (by rw [e])
end Go.Proofs.YtkmnmokjlpenhaaPi

