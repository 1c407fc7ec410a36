/- The walks of ends and of clones that go over to the caller. -/
import Derived.Test.YtkmnmokjlpenhaaWG
import Derived.Test.YtkmnmokjlpenhaaPiMerge
set_option linter.unusedVariables false
set_option linter.unusedSimpArgs false
set_option maxRecDepth 100000
namespace Go.Proofs.YtkmnmokjlpenhaaPi
theorem CloneX_nil (f : List AObj) (rest : Frs) : ACalls Try.prog 111 [.im (.sl (strs []))] (f :: rest) fun v u => v = .ms 0 (f.length + 0) 0 ∧ u = (f ++ [.row 9 1 (strs []) 0]) :: rest := by
  refine ACalls.codeX Try.func111 rfl 8 rfl (by simp) [.tmp 2] rfl fun Q hQ => ?_
  simp only [ups, PV.up, argEnv]
  have ft := And.intro ty_4 (And.intro ty_9 (And.intro ty_26 trivial))
  refine Run.seq ?_
  have fx := And.intro (@List.map_nil.{0, 0}) ft
  refine Run.go ?_
  refine End.kp [0] ?_
  refine Run.seq ?_
  refine Run.seq ?_
  refine Run.go ?_
  refine End.kp [0, 4] ?_
  refine Run.cond_any rfl ?_ ?_
  · skip
    refine Run.seq ?_
    have fx := And.intro (@List.map_nil.{0, 0}) ft
    refine Run.go ?_
    refine End.move (Ghost.thaw (u := 2) 9 1 (by decide) rfl) ?_
    refine End.kp [2] ?_
    refine Run.ret (hQ _ _ ⟨.inr rfl, _, rfl, _, _, rfl, ?_⟩)
    exact ⟨rfl, rfl⟩
  · skip
    refine Run.skip ?_
    refine End.kp [0] ?_
    refine Run.seq ?_
    have fx := And.intro (@List.map_nil.{0, 0}) ft
    refine Run.go ?_
    refine End.kp [2] ?_
    refine Run.ret (hQ _ _ ⟨.inr rfl, _, rfl, _, _, rfl, ?_⟩)
    exact ⟨rfl, rfl⟩
theorem CloneX_cons (x : ByteArray) (xs : List ByteArray) (h : xs.length ≤ 1000000) (f : List AObj) (rest : Frs) : ACalls Try.prog 111 [.im (.sl (strs (x :: xs)))] (f :: rest) fun v u => v = .ms 0 (f.length + 0) (x :: xs).length ∧ u = (f ++ [.row 9 1 (strs (x :: xs)) 0]) :: rest := by
  have hall : (strs xs).all (fun r => r.length == 1) = true := by simp
  have hlen : (xs.length + 1) * 16 ≤ 140737488355328 := by omega
  refine ACalls.codeX Try.func111 rfl 8 rfl (by simp) [.tmp 2] rfl fun Q hQ => ?_
  simp only [ups, PV.up, argEnv]
  have ft := And.intro ty_4 (And.intro ty_9 (And.intro ty_26 trivial))
  refine Run.seq ?_
  have fx := And.intro (@List.length_map.{0, 0}) (And.intro hlen (And.intro hall (And.intro (@List.map_cons.{0, 0}) ft)))
  refine Run.go ?_
  refine End.kp [0] ?_
  refine Run.seq ?_
  refine Run.seq ?_
  refine Run.go ?_
  refine End.kp [0, 4] ?_
  refine Run.cond _ rfl (fun hb => ?_) (fun hb => ?_)
  · have hb := hb
    simp at hb
  · have hb := hb
    refine Run.skip ?_
    refine End.kp [0] ?_
    refine Run.seq ?_
    have fx := And.intro (@List.length_map.{0, 0}) (And.intro hlen (And.intro hall (And.intro (@List.map_cons.{0, 0}) ft)))
    refine Run.go ?_
    refine End.kp [2] ?_
    refine Run.ret (hQ _ _ ⟨.inr rfl, _, rfl, _, _, rfl, ?_⟩)
    exact ⟨rfl, rfl⟩
theorem CloneX_ok (q : List ByteArray) (h : q.length ≤ 1000000) (f : List AObj) (rest : Frs) : ACalls Try.prog 111 [.im (.sl (strs q))] (f :: rest) fun v u => v = .ms 0 (f.length + 0) q.length ∧ u = (f ++ [.row 9 1 (strs q) 0]) :: rest := by
  cases q with
  | nil => exact CloneX_nil f rest
  | cons x xs => exact CloneX_cons x xs (by simp at h; omega) f rest
structure EndsOk (n : LNet) : Prop where
  flops : ∀ f ∈ n.flops, (0 ≤ f.d ∧ f.d < 2 + n.inn.length + n.flops.length + n.gates.length) ∧ 0 ≤ f.en ∧ f.en < 2 + n.inn.length + n.flops.length + n.gates.length
  outs : ∀ k ∈ n.outs, 0 ≤ k ∧ k < 2 + n.inn.length + n.flops.length + n.gates.length
theorem flop_at (l : List LFlop) (i : Nat) (h : i < l.length) : ∃ f, l[i]? = some f ∧ f ∈ l ∧ (l.map LFlop.im)[i]? = some [.str f.name, .int .i64 (-1), .int .i64 f.d, .int .i64 f.en, .bool f.init] :=
  ⟨l[i], by simp [h], List.getElem_mem h, by simp [h]⟩
theorem gate_at (l : List LGate) (i : Nat) (h : i < l.length) : ∃ g, l[i]? = some g ∧ g ∈ l ∧ (l.map LGate.im)[i]? = some [.int .i64 (-1), .int .u64 g.table, .sl (ints g.ins)] :=
  ⟨l[i], by simp [h], List.getElem_mem h, by simp [h]⟩
theorem int_at (l : List Int) (i : Nat) (h : i < l.length) : ∃ x, l[i]? = some x ∧ x ∈ l ∧ (ints l)[i]? = some [.int .i64 x] :=
  ⟨l[i], by simp [h], List.getElem_mem h, by simp [h]⟩
theorem ends_ok (n : LNet) (hn : NetSmall n) (he : EndsOk n) (up : Frs) : ACalls Try.prog 134 [n.pv] up fun v u => v = .i 0 ∧ u = up := by
  have hn2 := hn
  obtain ⟨z1, z2, z3, z4, z5⟩ := hn
  refine ACalls.code Try.func134 rfl 53 rfl (by simp) [.tmp 2] rfl fun Q hQ => ?_
  simp only [ups, PV.up, argEnv]
  have ft := And.intro ty_2 (And.intro ty_3 (And.intro ty_4 (And.intro ty_22 (And.intro ty_27 (And.intro ty_30 (And.intro ty_34 (And.intro ty_78 trivial)))))))
  refine Run.seq ?_
  have fx := And.intro ints_len (And.intro fim_len ft)
  refine Run.go ?_
  refine End.kp [1] ?_
  refine Run.seq ?_
  refine Run.region rfl fun K hK => GOps.sim ?_
  refine GOps.call rfl rfl rfl rfl (by kernel_rfl) (ACalls.sim ?_)
  refine (Nets_ok n hn2 _).mono fun v u hv => ?_
  obtain ⟨rfl, rfl⟩ := hv
  refine ⟨_, _, rfl, GOps.sim ?_⟩
  refine GOps.done (hK _ ?_); clear hK K
  refine End.kp [1, 3] ?_
  refine Run.seq ?_
  refine Run.seq ?_
  refine Run.go ?_
  refine End.kp [1, 3, 11, 12, 13] ?_
  refine Run.block ?_
  refine Run.ghost (Ghost.form [(1, .ptr 0 0 0), (3, .i (2 + n.inn.length + n.flops.length + n.gates.length)), (11, .im (.sl (n.flops.map LFlop.im))), (12, .i n.flops.length), (13, .i (0 : Nat))] 1 ⟨rfl, rfl, rfl, rfl, rfl, trivial⟩ rfl rfl) ?_
  refine Run.loop (fun m st => ∃ (i : Nat), m = n.flops.length - i ∧ i ≤ n.flops.length ∧ st = ⟨[(1, .ptr 0 0 0), (3, .i (2 + n.inn.length + n.flops.length + n.gates.length)), (11, .im (.sl (n.flops.map LFlop.im))), (12, .i n.flops.length), (13, .i (i : Nat))], [.box [.im (.sl (strs n.inn)), .im (.sl (strs n.out)), .im (.sl (n.flops.map LFlop.im)), .im (.sl (n.gates.map LGate.im)), .im (.sl (ints n.outs))]], up⟩) n.flops.length ⟨0, rfl, by omega, rfl⟩ fun m st hI => ?_
  obtain ⟨i, rfl, hi, rfl⟩ := hI
  refine Run.seq ?_
  have fx := And.intro ints_len (And.intro fim_len ft)
  refine Run.go ?_
  refine End.kp [1, 3, 11, 12, 13, 14] ?_
  refine Run.seq ?_
  refine Run.cond _ rfl (fun hb => ?_) (fun hb => ?_)
  · have hb := of_decide_eq_true hb
    have hin : i < n.flops.length := by omega
    have wi := wsucc hin (by omega)
    obtain ⟨f, _, hfm, hg⟩ := flop_at n.flops i hin
    obtain ⟨⟨e1, e2⟩, e3, e4⟩ := he.flops f hfm
    have d1 : decide (f.d < 0) = false := decide_eq_false (by omega)
    have d2 : decide (f.d ≥ 2 + (n.inn.length : Int) + n.flops.length + n.gates.length) = false := decide_eq_false (by omega)
    have d3 : decide (f.en < 0) = false := decide_eq_false (by omega)
    have d4 : decide (f.en ≥ 2 + (n.inn.length : Int) + n.flops.length + n.gates.length) = false := decide_eq_false (by omega)
    refine Run.skip ?_
    refine End.kp [1, 3, 11, 12, 13] ?_
    refine Run.seq ?_
    refine Run.block ?_
    refine Run.seq ?_
    have fx := And.intro (@Int.toNat_natCast) (And.intro (@Int.natCast_nonneg) (And.intro d4 (And.intro d3 (And.intro d2 (And.intro d1 (And.intro hg (And.intro wi (And.intro ints_len (And.intro fim_len ft)))))))))
    refine Run.go ?_
    refine End.kp [1, 3, 5, 11, 12, 13] ?_
    refine Run.seq ?_
    refine Run.go ?_
    refine End.kp [1, 3, 11, 12, 13, 36] ?_
    refine Run.cond _ rfl (fun hb => ?_) (fun hb => ?_)
    · have hb := hb
      simp at hb
    · have hb := hb
      refine Run.skip ?_
      refine End.blk ?_
      refine End.kp [1, 3, 11, 12, 13] ?_
      have fx := And.intro (@Int.toNat_natCast) (And.intro (@Int.natCast_nonneg) (And.intro d4 (And.intro d3 (And.intro d2 (And.intro d1 (And.intro hg (And.intro wi (And.intro ints_len (And.intro fim_len ft)))))))))
      refine Run.go ?_
      refine End.lp ?_
      refine ⟨n.flops.length - (i + 1), _, by omega, Ghost.form [(1, .ptr 0 0 0), (3, .i (2 + n.inn.length + n.flops.length + n.gates.length)), (11, .im (.sl (n.flops.map LFlop.im))), (12, .i n.flops.length), (13, .i (i + 1 : Nat))] 1 ⟨rfl, rfl, rfl, rfl, rfl, trivial⟩ rfl rfl, i + 1, rfl, by omega, rfl⟩
  · have hb := of_decide_eq_false hb
    refine Run.exit rfl ?_
    refine End.kp [1, 3] ?_
    refine Run.seq ?_
    refine Run.seq ?_
    have fx := And.intro ints_len (And.intro fim_len ft)
    refine Run.go ?_
    refine End.kp [3, 39, 40, 41] ?_
    refine Run.block ?_
    refine Run.ghost (Ghost.form [(3, .i (2 + n.inn.length + n.flops.length + n.gates.length)), (39, .im (.sl (ints n.outs))), (40, .i n.outs.length), (41, .i (0 : Nat))] 0 ⟨rfl, rfl, rfl, rfl, trivial⟩ rfl rfl) ?_
    refine Run.loop (fun m st => ∃ (i : Nat), m = n.outs.length - i ∧ i ≤ n.outs.length ∧ st = ⟨[(3, .i (2 + n.inn.length + n.flops.length + n.gates.length)), (39, .im (.sl (ints n.outs))), (40, .i n.outs.length), (41, .i (i : Nat))], [], up⟩) n.outs.length ⟨0, rfl, by omega, rfl⟩ fun m st hI => ?_
    obtain ⟨i, rfl, hi, rfl⟩ := hI
    refine Run.seq ?_
    have fx := And.intro ints_len (And.intro fim_len ft)
    refine Run.go ?_
    refine End.kp [3, 39, 40, 41, 42] ?_
    refine Run.seq ?_
    refine Run.cond _ rfl (fun hb => ?_) (fun hb => ?_)
    · have hb := of_decide_eq_true hb
      have hin : i < n.outs.length := by omega
      have wi := wsucc hin (by omega)
      obtain ⟨f, _, hfm, hg⟩ := int_at n.outs i hin
      obtain ⟨e1, e2⟩ := he.outs f hfm
      have d1 : decide (f < 0) = false := decide_eq_false (by omega)
      have d2 : decide (f ≥ 2 + (n.inn.length : Int) + n.flops.length + n.gates.length) = false := decide_eq_false (by omega)
      refine Run.skip ?_
      refine End.kp [3, 39, 40, 41] ?_
      refine Run.seq ?_
      refine Run.block ?_
      refine Run.seq ?_
      have fx := And.intro (@Int.toNat_natCast) (And.intro (@Int.natCast_nonneg) (And.intro d2 (And.intro d1 (And.intro hg (And.intro wi (And.intro ints_len (And.intro fim_len ft)))))))
      refine Run.go ?_
      refine End.kp [3, 7, 39, 40, 41] ?_
      refine Run.seq ?_
      refine Run.go ?_
      refine End.kp [3, 39, 40, 41, 51] ?_
      refine Run.cond _ rfl (fun hb => ?_) (fun hb => ?_)
      · have hb := hb
        simp at hb
      · have hb := hb
        refine Run.skip ?_
        refine End.blk ?_
        refine End.kp [3, 39, 40, 41] ?_
        have fx := And.intro (@Int.toNat_natCast) (And.intro (@Int.natCast_nonneg) (And.intro d2 (And.intro d1 (And.intro hg (And.intro wi (And.intro ints_len (And.intro fim_len ft)))))))
        refine Run.go ?_
        refine End.lp ?_
        refine ⟨n.outs.length - (i + 1), _, by omega, Ghost.form [(3, .i (2 + n.inn.length + n.flops.length + n.gates.length)), (39, .im (.sl (ints n.outs))), (40, .i n.outs.length), (41, .i (i + 1 : Nat))] 0 ⟨rfl, rfl, rfl, rfl, trivial⟩ rfl rfl, i + 1, rfl, by omega, rfl⟩
    · have hb := of_decide_eq_false hb
      refine Run.exit rfl ?_
      refine End.kp [] ?_
      refine Run.seq ?_
      have fx := And.intro ints_len (And.intro fim_len ft)
      refine Run.go ?_
      refine End.kp [2] ?_
      refine Run.ret (hQ _ _ ⟨.inr rfl, _, rfl, _, rfl, ?_⟩)
      exact ⟨rfl, rfl⟩
end Go.Proofs.YtkmnmokjlpenhaaPi
