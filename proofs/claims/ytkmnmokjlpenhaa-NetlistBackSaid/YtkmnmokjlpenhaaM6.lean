/- Part 6 of the proof: the texts WKG, PBackB, WKH, one behind the other. Each holds for every input that it names; no condition is hidden. -/
import Derived.Test.YtkmnmokjlpenhaaM5
import Derived.Test.YtkmnmokjlpenhaaM4
import Derived.Test.YtkmnmokjlpenhaaM3
/- The walk of netlist.Graph. -/
set_option linter.unusedVariables false
set_option linter.unusedSimpArgs false
set_option maxRecDepth 100000
namespace Go.Proofs.YtkmnmokjlpenhaaPi
set_option maxHeartbeats 4000000
def regOf (f : LFlop) : LReg := ⟨f.name, 0, f.init⟩
def mkN (n : LNet) : LMk := ⟨n.inn, n.flops.map regOf, [], 0⟩
/-- The literals of the first nets. -/
def firstL (i : Nat) : List Int := [0, 1] ++ (List.range i).map fun k : Nat => 2 * (1 + (k : Int))
theorem firstL_next (i : Nat) : ints (firstL (i + 1)) = ints (firstL i) ++ [[.int .i64 (2 * (1 + (i : Int)))]] := by simp [firstL, List.range_succ]
theorem firstL_len (i : Nat) : (ints (firstL i)).length = i + 2 := by simp [firstL]
/-- The literals of the nets so far, and the maker: one gate more. -/
def gStep (S : List Int × LMk) (g : LGate) : List Int × LMk := (S.1 ++ [(mkTable g.ins.length S.2 g.table (g.ins.map fun k => S.1.getD k.toNat 0)).1], (mkTable g.ins.length S.2 g.table (g.ins.map fun k => S.1.getD k.toNat 0)).2)
def gS (n : LNet) (i : Nat) : List Int × LMk := (n.gates.take i).foldl gStep (firstL (n.inn.length + n.flops.length), mkN n)
theorem gS_next (n : LNet) (i : Nat) (g : LGate) (h : n.gates[i]? = some g) : gS n (i + 1) = gStep (gS n i) g := by simp [gS, List.take_add_one, h]
structure GSok (n : LNet) (i : Nat) (S : List Int × LMk) : Prop where
  len : S.1.length = 2 + n.inn.length + n.flops.length + i
  lits : ∀ x ∈ S.1, InM S.2 x
  after : AfterM (mkN n) S.2 (9 * i)
  bad : S.2.bad = 0
theorem gS_ok (n : LNet) (hn : NetOk n) (h2 : ∀ (i : Nat) (g : LGate), n.gates[i]? = some g → g.ins.length ≤ 2) : ∀ i, i ≤ n.gates.length → GSok n i (gS n i)
  | 0, _ => by
    refine ⟨by simp [gS, firstL]; omega, fun x hx => ?_, AfterM.refl _ _, rfl⟩
    simp only [gS, List.take_zero, List.foldl_nil, firstL, List.mem_append, List.mem_cons, List.not_mem_nil, or_false, List.mem_map, List.mem_range] at hx
    unfold InM LMk.top LMk.first
    simp only [gS, List.take_zero, List.foldl_nil, mkN, List.length_map, List.length_nil]
    rcases hx with (rfl | rfl) | ⟨k, hk, rfl⟩ <;> omega
  | i + 1, hi => by
    have ih := gS_ok n hn h2 i (by omega)
    obtain ⟨g, hg⟩ : ∃ g, n.gates[i]? = some g := ⟨_, List.getElem?_eq_getElem (by omega)⟩
    rw [gS_next n i g hg]
    have hin : ∀ x ∈ (g.ins.map fun k => (gS n i).1.getD k.toNat 0), InM (gS n i).2 x := fun x hx => by
      obtain ⟨k, hk, rfl⟩ := List.mem_map.1 hx
      obtain ⟨_, _, v3⟩ := hn.gates i g hg
      obtain ⟨k0, k1⟩ := v3 k hk
      have hl : k.toNat < (gS n i).1.length := by rw [ih.len]; omega
      rw [List.getD_eq_getElem?_getD, List.getElem?_eq_getElem hl]
      exact ih.lits _ (List.getElem_mem hl)
    obtain ⟨aft, hx⟩ := mkTable_after g.ins.length (gS n i).2 g.table (g.ins.map fun k => (gS n i).1.getD k.toNat 0) hin
    have hc : capT g.ins.length ≤ 9 := by
      have := h2 i g hg
      rcases (show g.ins.length = 0 ∨ g.ins.length = 1 ∨ g.ins.length = 2 by omega) with h | h | h <;> rw [h] <;> decide
    refine ⟨by simp only [gStep, List.length_append, List.length_cons, List.length_nil]; rw [ih.len]; omega, fun x hx' => ?_, ⟨aft.inn.trans ih.after.inn, aft.regs.trans ih.after.regs, Nat.le_trans ih.after.less aft.less, ?_⟩, ?_⟩
    · simp only [gStep, List.mem_append, List.mem_singleton] at hx' ⊢
      rcases hx' with hx' | rfl
      · exact aft.up (ih.lits x hx')
      · exact hx
    · have h3 := ih.after.most
      have h4 := aft.most
      simp only [gStep]
      omega
    · exact (mkTable_bad _ _ _ _).trans ih.bad
def mStep (L : List Int) (S : List Int × LMk) (f : LFlop) : List Int × LMk :=
  (S.1 ++ [(mkPair S.2 (L.getD f.en.toNat 0) (L.getD f.d.toNat 0) (flipL (L.getD f.en.toNat 0)) (2 * (1 + S.2.inn.length + S.1.length))).1], (mkPair S.2 (L.getD f.en.toNat 0) (L.getD f.d.toNat 0) (flipL (L.getD f.en.toNat 0)) (2 * (1 + S.2.inn.length + S.1.length))).2)
/-- What the registers take, and the maker. -/
def mS (n : LNet) (i : Nat) : List Int × LMk := (n.flops.take i).foldl (mStep (gS n n.gates.length).1) ([], (gS n n.gates.length).2)
theorem mS_next (n : LNet) (i : Nat) (f : LFlop) (h : n.flops[i]? = some f) : mS n (i + 1) = mStep (gS n n.gates.length).1 (mS n i) f := by simp [mS, List.take_add_one, h]
structure MSok (n : LNet) (i : Nat) (S : List Int × LMk) : Prop where
  len : S.1.length = i
  lits : ∀ x ∈ S.1, InM S.2 x
  after : AfterM (gS n n.gates.length).2 S.2 (3 * i)
  bad : S.2.bad = 0
theorem flip_bad {m : LMk} {a b c d : Int} : (mkPair m a b c d).2.bad = m.bad := by
  have h : ∀ (m : LMk) (a b : Int), (mkAnd m a b).2.bad = m.bad := fun m a b => by
    rcases mkAnd_cases m a b with ⟨_, e⟩ | ⟨_, ⟨_, e⟩ | ⟨_, ⟨k, _, e⟩ | ⟨_, e⟩⟩⟩ <;> rw [e]
  simp only [mkPair, h]
theorem mS_ok (n : LNet) (hn : NetOk n) (h2 : ∀ (i : Nat) (g : LGate), n.gates[i]? = some g → g.ins.length ≤ 2) : ∀ i, i ≤ n.flops.length → MSok n i (mS n i)
  | 0, _ => by
    have ok := gS_ok n hn h2 n.gates.length (Nat.le_refl _)
    exact ⟨rfl, fun x hx => by simp [mS] at hx, AfterM.refl _ _, by simpa [mS] using ok.bad⟩
  | i + 1, hi => by
    have ok := gS_ok n hn h2 n.gates.length (Nat.le_refl _)
    have ih := mS_ok n hn h2 i (by omega)
    obtain ⟨f, hf⟩ : ∃ f, n.flops[i]? = some f := ⟨_, List.getElem?_eq_getElem (by omega)⟩
    obtain ⟨⟨d0, d1⟩, e0, e1⟩ := hn.ends.flops f (List.mem_of_getElem? hf)
    have hL : ∀ k : Int, 0 ≤ k → k < 2 + n.inn.length + n.flops.length + n.gates.length → InM (mS n i).2 ((gS n n.gates.length).1.getD k.toNat 0) := fun k k0 k1 => by
      have hl : k.toNat < (gS n n.gates.length).1.length := by rw [ok.len]; omega
      rw [List.getD_eq_getElem?_getD, List.getElem?_eq_getElem hl]
      exact ih.after.up (ok.lits _ (List.getElem_mem hl))
    have hr : InM (mS n i).2 (2 * (1 + ((mS n i).2.inn.length : Int) + (mS n i).1.length)) := by
      have q1 := ih.after.inn.trans ok.after.inn
      have q2 := ih.after.regs.trans ok.after.regs
      unfold InM LMk.top LMk.first
      rw [ih.len, q1, q2]
      simp only [mkN, List.length_map]
      omega
    obtain ⟨aft, hx⟩ := mkPair_after (mS n i).2 (hL f.en e0 e1) (hL f.d d0 d1) (flip_in (hL f.en e0 e1)) hr
    rw [mS_next n i f hf]
    refine ⟨by simp only [mStep, List.length_append, List.length_cons, List.length_nil, ih.len], fun x hx' => ?_, ⟨aft.inn.trans ih.after.inn, aft.regs.trans ih.after.regs, Nat.le_trans ih.after.less aft.less, ?_⟩, ?_⟩
    · simp only [mStep, List.mem_append, List.mem_singleton] at hx' ⊢
      rcases hx' with hx' | rfl
      · exact aft.up (ih.lits x hx')
      · exact hx
    · have h3 := ih.after.most
      have h4 := aft.most
      simp only [mStep]
      omega
    · exact flip_bad.trans ih.bad
def litsN (n : LNet) (ks : List Int) : List Int := ks.map fun k => (gS n n.gates.length).1.getD k.toNat 0
/-- The graph of a netlist, ahead of Clean. -/
def graphN (n : LNet) : LGraph := ⟨n.inn, n.out, regsN (n.flops.map regOf) (mS n n.flops.length).1 (n.flops.map regOf).length, (mS n n.flops.length).2.ands, litsN n n.outs⟩
theorem NGraph_ok (n : LNet) (hn : NetOk n) (h2 : ∀ (i : Nat) (g : LGate), n.gates[i]? = some g → g.ins.length ≤ 2) (hg1 : GraphOk (graphN n)) (up : Frs) : ACalls Try.prog 73 [n.pv] up fun v u => v = .tup [(movedG (graphN n) (cleanG (graphN n)).1 (cleanG (graphN n)).2.1).pv, .i 0] ∧ u = up := by
  obtain ⟨z1, z2, z3, z4, z5⟩ := hn.small
  obtain ⟨F, hF⟩ : ∃ F : Nat, F = n.inn.length + n.flops.length := ⟨_, rfl⟩
  have wF : IntKind.i64.wrap (2 + (n.inn.length : Int) + n.flops.length - 2) = (F : Int) := by rw [wrap64 (by omega)]; omega
  refine ACalls.code Try.func73 rfl 158 rfl (by simp) [.cell 2 51, .tmp 3] rfl fun Q hQ => ?_
  simp only [ups, PV.up, argEnv]
  have ft := And.intro ty_2 (And.intro ty_3 (And.intro ty_4 (And.intro ty_9 (And.intro ty_22 (And.intro ty_26 (And.intro ty_27 (And.intro ty_28 (And.intro ty_30 (And.intro ty_34 (And.intro ty_37 (And.intro ty_39 (And.intro ty_47 (And.intro ty_49 (And.intro ty_51 (And.intro ty_62 (And.intro ty_69 (And.intro ty_78 (And.intro ty_109 trivial))))))))))))))))))
  refine Run.seq ?_
  have fx := And.intro wF (And.intro ints_len (And.intro gim_len (And.intro strs_len (And.intro fim_len ft))))
  refine Run.go ?_
  refine End.kp [1, 2] ?_
  refine Run.seq ?_
  refine Run.seq ?_
  refine Run.region rfl fun K hK => GOps.sim ?_
  refine GOps.call rfl rfl rfl rfl (by kernel_rfl) (ACalls.sim ?_)
  refine (Form_ok n hn _).mono fun v u hv => ?_
  obtain ⟨rfl, rfl⟩ := hv
  refine ⟨_, _, rfl, GOps.sim ?_⟩
  refine GOps.done (hK _ ?_); clear hK K
  refine End.kp [1, 2, 4] ?_
  refine Run.seq ?_
  refine Run.go ?_
  refine End.kp [1, 2, 4, 27] ?_
  refine Run.cond _ rfl (fun hb => ?_) (fun hb => ?_)
  · have hb2 := hb
    simp at hb
  · have hb2 := hb
    refine Run.skip ?_
    refine End.kp [1, 2] ?_
    refine Run.seq ?_
    have fx := And.intro wF (And.intro ints_len (And.intro gim_len (And.intro strs_len (And.intro fim_len ft))))
    refine Run.go ?_
    refine End.kp [1, 2, 5] ?_
    refine Run.seq ?_
    refine Run.seq ?_
    refine Run.go ?_
    refine End.kp [1, 2, 5, 31, 32, 33] ?_
    refine Run.block ?_
    refine Run.ghost (Ghost.thaw (u := 5) 69 3 (by decide) rfl) ?_
    refine Run.ghost (Ghost.form [(1, .ptr 0 0 0), (2, .ptr 0 1 0), (5, .ms 0 2 (0)), (31, .im (.sl (n.flops.map LFlop.im))), (32, .i n.flops.length), (33, .i (0 : Nat))] 3 ⟨rfl, rfl, rfl, rfl, rfl, rfl, trivial⟩ rfl rfl) ?_
    refine Run.loop (fun m s => ∃ i : Nat, m = n.flops.length - i ∧ i ≤ n.flops.length ∧ s = ⟨[(1, .ptr 0 0 0), (2, .ptr 0 1 0), (5, .ms 0 2 (i)), (31, .im (.sl (n.flops.map LFlop.im))), (32, .i n.flops.length), (33, .i (i : Nat))], [.box [.im (.sl (strs n.inn)), .im (.sl (strs n.out)), .im (.sl (n.flops.map LFlop.im)), .im (.sl (n.gates.map LGate.im)), .im (.sl (ints n.outs))], .box [.nils, .nils, .nils, .nils, .nils], .row 69 3 (((n.flops.take i).map regOf).map LReg.im) 0], up⟩) n.flops.length ⟨0, rfl, by omega, rfl⟩ fun m s hI => ?_
    obtain ⟨i, rfl, hi, rfl⟩ := hI
    have hil : (((n.flops.take i).map regOf).map LReg.im).length = i := by simp; omega
    have hap : (i + 1) * 32 ≤ 140737488355328 := by omega
    refine Run.seq ?_
    have fx := And.intro hap (And.intro hil (And.intro wF (And.intro ints_len (And.intro gim_len (And.intro strs_len (And.intro fim_len ft))))))
    refine Run.go ?_
    refine End.kp [1, 2, 5, 31, 32, 33, 34] ?_
    refine Run.seq ?_
    refine Run.cond _ rfl (fun hb => ?_) (fun hb => ?_)
    · have hb3 := of_decide_eq_true hb
      have hin : i < n.flops.length := by omega
      have wi := wsucc hin (by omega)
      obtain ⟨f, hfi, hfm, hf⟩ := flop_at n.flops i hin
      have hnx : ((n.flops.take (i + 1)).map regOf).map LReg.im = ((n.flops.take i).map regOf).map LReg.im ++ [[.str f.name, .int .i64 0, .bool f.init]] := by simp [List.take_add_one, hfi, regOf]
      refine Run.skip ?_
      refine End.kp [1, 2, 5, 31, 32, 33] ?_
      refine Run.seq ?_
      refine Run.block ?_
      refine Run.seq ?_
      have fx := And.intro (@Int.toNat_natCast) (And.intro (@Int.natCast_nonneg) (And.intro hf (And.intro wi (And.intro hap (And.intro hil (And.intro wF (And.intro ints_len (And.intro gim_len (And.intro strs_len (And.intro fim_len ft))))))))))
      refine Run.go ?_
      refine End.kp [1, 2, 5, 7, 31, 32, 33] ?_
      refine Run.go ?_
      refine End.blk ?_
      refine End.kp [1, 2, 5, 31, 32, 33] ?_
      refine Run.go ?_
      refine End.lp ?_
      refine ⟨n.flops.length - (i + 1), _, by omega, Ghost.form [(1, .ptr 0 0 0), (2, .ptr 0 1 0), (5, .ms 0 2 (i + 1)), (31, .im (.sl (n.flops.map LFlop.im))), (32, .i n.flops.length), (33, .i (i + 1 : Nat))] 3 ⟨rfl, rfl, rfl, rfl, rfl, rfl, trivial⟩ rfl rfl, i + 1, rfl, by omega, by rw [hnx]; rfl⟩
    · have hb3 := of_decide_eq_false hb
      have hie : i = n.flops.length := by omega
      subst hie
      rw [List.take_length] at hil ⊢
      refine Run.exit rfl ?_
      refine End.kp [1, 2, 5] ?_
      refine Run.seq ?_
      refine Run.ghost (Ghost.shut (t := 5) (j := 2) rfl rfl hil) ?_
      simp only [eput, edel]
      have fx := And.intro hap (And.intro hil (And.intro wF (And.intro ints_len (And.intro gim_len (And.intro strs_len (And.intro fim_len ft))))))
      refine Run.region rfl fun K hK => GOps.sim ?_
      refine GOps.call rfl rfl rfl rfl (by kernel_rfl) (ACalls.sim ?_)
      refine (New_ok n.inn (n.flops.map regOf) (by omega) (by simp; omega) _ _).mono fun v u hv => ?_
      obtain ⟨rfl, rfl⟩ := hv
      refine ⟨_, _, rfl, GOps.sim ?_⟩
      refine GOps.done (hK _ ?_); clear hK K
      refine End.kp [1, 2, 8] ?_
      refine Run.seq ?_
      refine Run.go ?_
      refine End.kp [1, 2, 8, 9] ?_
      refine Run.seq ?_
      refine Run.seq ?_
      refine Run.region rfl fun K hK => GOps.sim ?_
      refine GOps.call rfl rfl rfl rfl (by kernel_rfl) (ACalls.sim ?_)
      refine (First_ok n hn.small _).mono fun v u hv => ?_
      obtain ⟨rfl, rfl⟩ := hv
      refine ⟨_, _, rfl, GOps.sim ?_⟩
      refine GOps.done (hK _ ?_); clear hK K
      refine End.kp [1, 2, 8, 9, 53, 54] ?_
      refine Run.block ?_
      refine Run.ghost (Ghost.form [(1, .ptr 0 0 0), (2, .ptr 0 1 0), (8, .ptr 0 4 0), (9, .ms 0 6 (2)), (53, .i F), (54, .i (0 : Nat))] 7 ⟨rfl, rfl, rfl, rfl, rfl, rfl, trivial⟩ rfl rfl) ?_
      refine Run.loop (fun m s => ∃ i : Nat, m = F - i ∧ i ≤ F ∧ s = ⟨[(1, .ptr 0 0 0), (2, .ptr 0 1 0), (8, .ptr 0 4 0), (9, .ms 0 6 (i + 2)), (53, .i F), (54, .i (i : Nat))], [.box [.im (.sl (strs n.inn)), .im (.sl (strs n.out)), .im (.sl (n.flops.map LFlop.im)), .im (.sl (n.gates.map LGate.im)), .im (.sl (ints n.outs))], .box [.nils, .nils, .nils, .nils, .nils], .row 69 3 ((n.flops.map regOf).map LReg.im) n.flops.length, mkMap (mkN n), mkBox 5 3 (mkN n), mkRow (mkN n), .row 62 1 (ints (firstL i)) 0], up⟩) F ⟨0, rfl, by omega, rfl⟩ fun m s hI => ?_
      obtain ⟨i, rfl, hi, rfl⟩ := hI
      have hil2 := firstL_len i
      have hap2 : (i + 2 + 1) * 8 ≤ 140737488355328 := by omega
      refine Run.seq ?_
      have fx := And.intro hap2 (And.intro hil2 (And.intro hap (And.intro hil (And.intro wF (And.intro ints_len (And.intro gim_len (And.intro strs_len (And.intro fim_len ft))))))))
      refine Run.go ?_
      refine End.kp [1, 2, 8, 9, 53, 54, 55] ?_
      refine Run.seq ?_
      refine Run.cond _ rfl (fun hb => ?_) (fun hb => ?_)
      · have hb4 := of_decide_eq_true hb
        have hin : i < F := by omega
        have wi := wsucc hin (by omega)
        have w1 : IntKind.i64.wrap (1 + (i : Int)) = 1 + (i : Int) := wrap64 (by omega)
        refine Run.skip ?_
        refine End.kp [1, 2, 8, 9, 53, 54] ?_
        refine Run.seq ?_
        refine Run.block ?_
        refine Run.seq ?_
        have fx := And.intro w1 (And.intro wi (And.intro hap2 (And.intro hil2 (And.intro hap (And.intro hil (And.intro wF (And.intro ints_len (And.intro gim_len (And.intro strs_len (And.intro fim_len ft))))))))))
        refine Run.go ?_
        refine End.kp [1, 2, 8, 9, 10, 53, 54] ?_
        refine Run.region rfl fun K hK => GOps.sim ?_
        refine GOps.call rfl rfl rfl rfl (by kernel_rfl) (ACalls.sim ?_)
        refine (Make_ok (1 + i) (by omega) (by omega) _).mono fun v u hv => ?_
        obtain ⟨rfl, rfl⟩ := hv
        refine ⟨_, _, rfl, GOps.sim ?_⟩
        refine GOps.done (hK _ ?_); clear hK K
        refine End.blk ?_
        refine End.kp [1, 2, 8, 9, 53, 54] ?_
        refine Run.go ?_
        refine End.lp ?_
        refine ⟨F - (i + 1), _, by omega, Ghost.form [(1, .ptr 0 0 0), (2, .ptr 0 1 0), (8, .ptr 0 4 0), (9, .ms 0 6 (i + 1 + 2)), (53, .i F), (54, .i (i + 1 : Nat))] 7 ⟨rfl, rfl, rfl, rfl, rfl, rfl, trivial⟩ rfl rfl, i + 1, rfl, by omega, by rw [firstL_next]; rfl⟩
      · have hb4 := of_decide_eq_false hb
        have hie : F = i := by omega
        subst hie
        refine Run.exit rfl ?_
        refine End.kp [1, 2, 8, 9] ?_
        refine Run.seq ?_
        refine Run.seq ?_
        have fx := And.intro hap2 (And.intro hil2 (And.intro hap (And.intro hil (And.intro wF (And.intro ints_len (And.intro gim_len (And.intro strs_len (And.intro fim_len ft))))))))
        refine Run.go ?_
        refine End.kp [1, 2, 8, 9, 65, 66, 67] ?_
        refine Run.block ?_
        refine Run.ghost (Ghost.form [(1, .ptr 0 0 0), (2, .ptr 0 1 0), (8, .ptr 0 4 0), (9, .ms 0 6 (F + 2 + 0)), (65, .im (.sl (n.gates.map LGate.im))), (66, .i n.gates.length), (67, .i (0 : Nat))] 7 ⟨rfl, rfl, rfl, rfl, rfl, rfl, rfl, trivial⟩ rfl rfl) ?_
        refine Run.loop (fun m s => ∃ k : Nat, m = n.gates.length - k ∧ k ≤ n.gates.length ∧ s = ⟨[(1, .ptr 0 0 0), (2, .ptr 0 1 0), (8, .ptr 0 4 0), (9, .ms 0 6 (F + 2 + k)), (65, .im (.sl (n.gates.map LGate.im))), (66, .i n.gates.length), (67, .i (k : Nat))], [.box [.im (.sl (strs n.inn)), .im (.sl (strs n.out)), .im (.sl (n.flops.map LFlop.im)), .im (.sl (n.gates.map LGate.im)), .im (.sl (ints n.outs))], .box [.nils, .nils, .nils, .nils, .nils], .row 69 3 ((n.flops.map regOf).map LReg.im) n.flops.length, mkMap ((gS n (k)).2), mkBox 5 3 ((gS n (k)).2), mkRow ((gS n (k)).2), .row 62 1 (ints (gS n (k)).1) 0], up⟩) n.gates.length ⟨0, rfl, by omega, by rw [show (gS n 0) = (firstL F, mkN n) from by rw [hF]; rfl]; rfl⟩ fun m s hI => ?_
        obtain ⟨i, rfl, hi, rfl⟩ := hI
        have ok := gS_ok n hn h2 i hi
        have hil3 : (ints (gS n i).1).length = F + 2 + i := by rw [ints_len, ok.len]; omega
        have hap3 : (F + 2 + i + 1) * 8 ≤ 140737488355328 := by omega
        refine Run.seq ?_
        have fx := And.intro hap3 (And.intro hil3 (And.intro hap2 (And.intro hil2 (And.intro hap (And.intro hil (And.intro wF (And.intro ints_len (And.intro gim_len (And.intro strs_len (And.intro fim_len ft))))))))))
        refine Run.go ?_
        refine End.kp [1, 2, 8, 9, 65, 66, 67, 68] ?_
        refine Run.seq ?_
        refine Run.cond _ rfl (fun hb => ?_) (fun hb => ?_)
        · have hb5 := of_decide_eq_true hb
          have hin : i < n.gates.length := by omega
          have wi := wsucc hin (by omega)
          obtain ⟨g, hgi, hgm, hg⟩ := gate_at n.gates i hin
          obtain ⟨v1, v2, v3⟩ := hn.gates i g hgi
          have hg2 := h2 i g hgi
          have hgn := gS_next n i g hgi
          refine Run.skip ?_
          refine End.kp [1, 2, 8, 9, 65, 66, 67] ?_
          refine Run.seq ?_
          refine Run.block ?_
          refine Run.seq ?_
          have fx := And.intro (@Int.toNat_natCast) (And.intro (@Int.natCast_nonneg) (And.intro hg (And.intro wi (And.intro hap3 (And.intro hil3 (And.intro hap2 (And.intro hil2 (And.intro hap (And.intro hil (And.intro wF (And.intro ints_len (And.intro gim_len (And.intro strs_len (And.intro fim_len ft))))))))))))))
          refine Run.go ?_
          refine End.kp [1, 2, 8, 9, 12, 65, 66, 67] ?_
          refine Run.seq ?_
          refine Run.go ?_
          refine End.kp [1, 2, 8, 9, 12, 13, 65, 66, 67] ?_
          refine Run.seq ?_
          refine Run.seq ?_
          refine Run.go ?_
          refine End.kp [1, 2, 8, 9, 12, 13, 65, 66, 67, 72, 73, 74] ?_
          refine Run.block ?_
          refine Run.ghost (Ghost.thaw (u := 13) 62 1 (by decide) rfl) ?_
          refine Run.ghost (Ghost.form [(1, .ptr 0 0 0), (2, .ptr 0 1 0), (8, .ptr 0 4 0), (9, .ms 0 6 (F + 2 + i)), (12, .ptr 0 7 0), (13, .ms 0 8 (0)), (65, .im (.sl (n.gates.map LGate.im))), (66, .i n.gates.length), (67, .i (i : Nat)), (72, .im (.sl (ints g.ins))), (73, .i g.ins.length), (74, .i (0 : Nat))] 9 ⟨rfl, rfl, rfl, rfl, rfl, rfl, rfl, rfl, rfl, rfl, rfl, rfl, trivial⟩ rfl rfl) ?_
          refine Run.loop (fun m s => ∃ p : Nat, m = g.ins.length - p ∧ p ≤ g.ins.length ∧ s = ⟨[(1, .ptr 0 0 0), (2, .ptr 0 1 0), (8, .ptr 0 4 0), (9, .ms 0 6 (F + 2 + i)), (12, .ptr 0 7 0), (13, .ms 0 8 (p)), (65, .im (.sl (n.gates.map LGate.im))), (66, .i n.gates.length), (67, .i (i : Nat)), (72, .im (.sl (ints g.ins))), (73, .i g.ins.length), (74, .i (p : Nat))], [.box [.im (.sl (strs n.inn)), .im (.sl (strs n.out)), .im (.sl (n.flops.map LFlop.im)), .im (.sl (n.gates.map LGate.im)), .im (.sl (ints n.outs))], .box [.nils, .nils, .nils, .nils, .nils], .row 69 3 ((n.flops.map regOf).map LReg.im) n.flops.length, mkMap ((gS n (i)).2), mkBox 5 3 ((gS n (i)).2), mkRow ((gS n (i)).2), .row 62 1 (ints (gS n (i)).1) 0, .box [.i (-1), .im (.int .u64 g.table), .im (.sl (ints g.ins))], .row 62 1 (ints ((g.ins.take (p)).map fun k => (gS n i).1.getD k.toNat 0)) 0], up⟩) g.ins.length ⟨0, rfl, by omega, rfl⟩ fun m s hI => ?_
          obtain ⟨p, rfl, hp, rfl⟩ := hI
          have hil4 : (ints ((g.ins.take p).map fun k => (gS n i).1.getD k.toNat 0)).length = p := by simp; omega
          have hap4 : (p + 1) * 8 ≤ 140737488355328 := by omega
          refine Run.seq ?_
          have fx := And.intro hap4 (And.intro hil4 (And.intro (@Int.toNat_natCast) (And.intro (@Int.natCast_nonneg) (And.intro hg (And.intro wi (And.intro hap3 (And.intro hil3 (And.intro hap2 (And.intro hil2 (And.intro hap (And.intro hil (And.intro wF (And.intro ints_len (And.intro gim_len (And.intro strs_len (And.intro fim_len ft))))))))))))))))
          refine Run.go ?_
          refine End.kp [1, 2, 8, 9, 12, 13, 65, 66, 67, 72, 73, 74, 75] ?_
          refine Run.seq ?_
          refine Run.cond _ rfl (fun hb => ?_) (fun hb => ?_)
          · have hb6 := of_decide_eq_true hb
            have hpn : p < g.ins.length := by omega
            have wp := wsucc hpn (by omega)
            obtain ⟨x, hxi, hxm, hx⟩ := int_at g.ins p hpn
            obtain ⟨x1, x2⟩ := v3 x hxm
            have hxl : x < ((F + 2 + i : Nat) : Int) := by omega
            have hlx : (ints (gS n i).1)[x.toNat]? = some [.int .i64 ((gS n i).1.getD x.toNat 0)] := by
              have hl : x.toNat < (gS n i).1.length := by rw [ok.len]; omega
              simp [List.getD_eq_getElem?_getD, hl]
            have hnx : ints ((g.ins.take (p + 1)).map fun k => (gS n i).1.getD k.toNat 0) = ints ((g.ins.take p).map fun k => (gS n i).1.getD k.toNat 0) ++ [[.int .i64 ((gS n i).1.getD x.toNat 0)]] := by simp [List.take_add_one, hxi]
            refine Run.skip ?_
            refine End.kp [1, 2, 8, 9, 12, 13, 65, 66, 67, 72, 73, 74] ?_
            refine Run.seq ?_
            refine Run.block ?_
            refine Run.seq ?_
            have fx := And.intro hlx (And.intro hxl (And.intro x1 (And.intro hx (And.intro wp (And.intro hap4 (And.intro hil4 (And.intro (@Int.toNat_natCast) (And.intro (@Int.natCast_nonneg) (And.intro hg (And.intro wi (And.intro hap3 (And.intro hil3 (And.intro hap2 (And.intro hil2 (And.intro hap (And.intro hil (And.intro wF (And.intro ints_len (And.intro gim_len (And.intro strs_len (And.intro fim_len ft)))))))))))))))))))))
            refine Run.go ?_
            refine End.kp [1, 2, 8, 9, 12, 13, 15, 65, 66, 67, 72, 73, 74] ?_
            refine Run.go ?_
            refine End.blk ?_
            refine End.kp [1, 2, 8, 9, 12, 13, 65, 66, 67, 72, 73, 74] ?_
            refine Run.go ?_
            refine End.lp ?_
            refine ⟨g.ins.length - (p + 1), _, by omega, Ghost.form [(1, .ptr 0 0 0), (2, .ptr 0 1 0), (8, .ptr 0 4 0), (9, .ms 0 6 (F + 2 + i)), (12, .ptr 0 7 0), (13, .ms 0 8 (p + 1)), (65, .im (.sl (n.gates.map LGate.im))), (66, .i n.gates.length), (67, .i (i : Nat)), (72, .im (.sl (ints g.ins))), (73, .i g.ins.length), (74, .i (p + 1 : Nat))] 9 ⟨rfl, rfl, rfl, rfl, rfl, rfl, rfl, rfl, rfl, rfl, rfl, rfl, trivial⟩ rfl rfl, p + 1, rfl, by omega, by rw [hnx]; rfl⟩
          · have hb6 := of_decide_eq_false hb
            have hpe : p = g.ins.length := by omega
            subst hpe
            rw [List.take_length] at hil4 ⊢
            have hlin : ∀ x ∈ (g.ins.map fun k => (gS n i).1.getD k.toNat 0), InM (gS n i).2 x := fun x hx => by
              obtain ⟨k, hk, rfl⟩ := List.mem_map.1 hx
              obtain ⟨k0, k1⟩ := v3 k hk
              have hl : k.toNat < (gS n i).1.length := by rw [ok.len]; omega
              rw [List.getD_eq_getElem?_getD, List.getElem?_eq_getElem hl]
              exact ok.lits _ (List.getElem_mem hl)
            have hmost : (gS n i).2.ands.length ≤ 0 + 9 * i := ok.after.most
            have hms : MkSmall (gS n i).2 := ok.after.small ⟨by simp only [mkN]; omega, by simp only [mkN, List.length_map]; omega, by simp [mkN]⟩ (by simp only [mkN, List.length_nil]; omega)
            have hc9 : capT g.ins.length ≤ 9 := by
              rcases (show g.ins.length = 0 ∨ g.ins.length = 1 ∨ g.ins.length = 2 by omega) with h | h | h <;> rw [h] <;> decide
            refine Run.exit rfl ?_
            refine End.kp [1, 2, 8, 9, 12, 13, 65, 66, 67] ?_
            refine Run.ghost (Ghost.shut (t := 13) (j := 8) rfl rfl hil4) ?_
            simp only [eput, edel]
            have fx := And.intro hap4 (And.intro hil4 (And.intro (@Int.toNat_natCast) (And.intro (@Int.natCast_nonneg) (And.intro hg (And.intro wi (And.intro hap3 (And.intro hil3 (And.intro hap2 (And.intro hil2 (And.intro hap (And.intro hil (And.intro wF (And.intro ints_len (And.intro gim_len (And.intro strs_len (And.intro fim_len ft))))))))))))))))
            refine Run.region rfl fun K hK => GOps.sim ?_
            refine GOps.call rfl rfl rfl rfl (by kernel_rfl) (ACalls.sim ?_)
            refine (mTable_ok g.ins.length (by omega) g.table _ (by simp) (gS n i).2 hms _ 0 4 5 3 ⟨rfl, rfl, rfl⟩ (by omega) hlin).mono fun v u hv => ?_
            obtain ⟨rfl, rfl⟩ := hv
            refine ⟨_, _, rfl, GOps.sim ?_⟩
            refine GOps.done (hK _ ?_); clear hK K
            refine End.blk ?_
            refine End.kp [1, 2, 8, 9, 65, 66, 67] ?_
            refine Run.go ?_
            refine End.lp ?_
            refine ⟨n.gates.length - (i + 1), _, by omega, Ghost.form [(1, .ptr 0 0 0), (2, .ptr 0 1 0), (8, .ptr 0 4 0), (9, .ms 0 6 (F + 2 + i + 1)), (65, .im (.sl (n.gates.map LGate.im))), (66, .i n.gates.length), (67, .i (i + 1 : Nat))] 7 ⟨rfl, rfl, rfl, rfl, rfl, rfl, rfl, trivial⟩ rfl rfl, i + 1, rfl, by omega, by rw [hgn]; simp only [gStep, ints, List.map_append, List.map_cons, List.map_nil]; rfl⟩
        · have hb5 := of_decide_eq_false hb
          have hie : i = n.gates.length := by omega
          subst hie
          refine Run.exit rfl ?_
          refine End.kp [1, 2, 8, 9] ?_
          refine Run.seq ?_
          have fx := And.intro hap3 (And.intro hil3 (And.intro hap2 (And.intro hil2 (And.intro hap (And.intro hil (And.intro wF (And.intro ints_len (And.intro gim_len (And.intro strs_len (And.intro fim_len ft))))))))))
          refine Run.go ?_
          refine End.kp [1, 2, 8, 9, 16, 17] ?_
          refine Run.seq ?_
          refine Run.seq ?_
          refine Run.go ?_
          refine End.kp [1, 2, 8, 9, 16, 17, 96, 97, 98] ?_
          refine Run.block ?_
          refine Run.ghost (Ghost.thaw (u := 16) 62 1 (by decide) rfl) ?_
          refine Run.ghost (Ghost.thaw (u := 17) 62 1 (by decide) rfl) ?_
          refine Run.ghost (Ghost.form [(1, .ptr 0 0 0), (2, .ptr 0 1 0), (8, .ptr 0 4 0), (9, .ms 0 6 (F + 2 + n.gates.length)), (16, .ms 0 7 (0)), (17, .ms 0 8 0), (96, .im (.sl (ints n.outs))), (97, .i n.outs.length), (98, .i (0 : Nat))] 9 ⟨rfl, rfl, rfl, rfl, rfl, rfl, rfl, rfl, rfl, trivial⟩ rfl rfl) ?_
          refine Run.loop (fun m s => ∃ p : Nat, m = n.outs.length - p ∧ p ≤ n.outs.length ∧ s = ⟨[(1, .ptr 0 0 0), (2, .ptr 0 1 0), (8, .ptr 0 4 0), (9, .ms 0 6 (F + 2 + n.gates.length)), (16, .ms 0 7 (p)), (17, .ms 0 8 0), (96, .im (.sl (ints n.outs))), (97, .i n.outs.length), (98, .i (p : Nat))], [.box [.im (.sl (strs n.inn)), .im (.sl (strs n.out)), .im (.sl (n.flops.map LFlop.im)), .im (.sl (n.gates.map LGate.im)), .im (.sl (ints n.outs))], .box [.nils, .nils, .nils, .nils, .nils], .row 69 3 ((n.flops.map regOf).map LReg.im) n.flops.length, mkMap ((gS n (n.gates.length)).2), mkBox 5 3 ((gS n (n.gates.length)).2), mkRow ((gS n (n.gates.length)).2), .row 62 1 (ints (gS n (n.gates.length)).1) 0, .row 62 1 (ints ((n.outs.take (p)).map fun k => (gS n n.gates.length).1.getD k.toNat 0)) 0, .row 62 1 [] 0], up⟩) n.outs.length ⟨0, rfl, by omega, rfl⟩ fun m s hI => ?_
          obtain ⟨p, rfl, hp, rfl⟩ := hI
          have hil4 : (ints ((n.outs.take p).map fun k => (gS n n.gates.length).1.getD k.toNat 0)).length = p := by simp; omega
          have hap4 : (p + 1) * 8 ≤ 140737488355328 := by omega
          refine Run.seq ?_
          have fx := And.intro hap4 (And.intro hil4 (And.intro hap3 (And.intro hil3 (And.intro hap2 (And.intro hil2 (And.intro hap (And.intro hil (And.intro wF (And.intro ints_len (And.intro gim_len (And.intro strs_len (And.intro fim_len ft))))))))))))
          refine Run.go ?_
          refine End.kp [1, 2, 8, 9, 16, 17, 96, 97, 98, 99] ?_
          refine Run.seq ?_
          refine Run.cond _ rfl (fun hb => ?_) (fun hb => ?_)
          · have hb6 := of_decide_eq_true hb
            have hpn : p < n.outs.length := by omega
            have wp := wsucc hpn (by omega)
            obtain ⟨x, hxi, hxm, hx⟩ := int_at n.outs p hpn
            obtain ⟨x1, x2⟩ := hn.ends.outs x hxm
            have hxl : x < ((F + 2 + n.gates.length : Nat) : Int) := by omega
            have hlx : (ints (gS n n.gates.length).1)[x.toNat]? = some [.int .i64 ((gS n n.gates.length).1.getD x.toNat 0)] := by
              have hl : x.toNat < (gS n n.gates.length).1.length := by rw [ok.len]; omega
              simp [List.getD_eq_getElem?_getD, hl]
            have hnx : ints ((n.outs.take (p + 1)).map fun k => (gS n n.gates.length).1.getD k.toNat 0) = ints ((n.outs.take p).map fun k => (gS n n.gates.length).1.getD k.toNat 0) ++ [[.int .i64 ((gS n n.gates.length).1.getD x.toNat 0)]] := by simp [List.take_add_one, hxi]
            refine Run.skip ?_
            refine End.kp [1, 2, 8, 9, 16, 17, 96, 97, 98] ?_
            refine Run.seq ?_
            refine Run.block ?_
            refine Run.seq ?_
            have fx := And.intro (@Int.toNat_natCast) (And.intro (@Int.natCast_nonneg) (And.intro hlx (And.intro hxl (And.intro x1 (And.intro hx (And.intro wp (And.intro hap4 (And.intro hil4 (And.intro hap3 (And.intro hil3 (And.intro hap2 (And.intro hil2 (And.intro hap (And.intro hil (And.intro wF (And.intro ints_len (And.intro gim_len (And.intro strs_len (And.intro fim_len ft)))))))))))))))))))
            refine Run.go ?_
            refine End.kp [1, 2, 8, 9, 16, 17, 19, 96, 97, 98] ?_
            refine Run.go ?_
            refine End.blk ?_
            refine End.kp [1, 2, 8, 9, 16, 17, 96, 97, 98] ?_
            refine Run.go ?_
            refine End.lp ?_
            refine ⟨n.outs.length - (p + 1), _, by omega, Ghost.form [(1, .ptr 0 0 0), (2, .ptr 0 1 0), (8, .ptr 0 4 0), (9, .ms 0 6 (F + 2 + n.gates.length)), (16, .ms 0 7 (p + 1)), (17, .ms 0 8 0), (96, .im (.sl (ints n.outs))), (97, .i n.outs.length), (98, .i (p + 1 : Nat))] 9 ⟨rfl, rfl, rfl, rfl, rfl, rfl, rfl, rfl, rfl, trivial⟩ rfl rfl, p + 1, rfl, by omega, by rw [hnx]; rfl⟩
          · have hb6 := of_decide_eq_false hb
            have hpe : p = n.outs.length := by omega
            subst hpe
            rw [List.take_length] at hil4 ⊢
            refine Run.exit rfl ?_
            refine End.kp [1, 2, 8, 9, 16, 17] ?_
            refine Run.seq ?_
            refine Run.seq ?_
            have fx := And.intro hap4 (And.intro hil4 (And.intro hap3 (And.intro hil3 (And.intro hap2 (And.intro hil2 (And.intro hap (And.intro hil (And.intro wF (And.intro ints_len (And.intro gim_len (And.intro strs_len (And.intro fim_len ft))))))))))))
            refine Run.go ?_
            refine End.kp [1, 2, 8, 9, 16, 17, 111, 112, 113] ?_
            refine Run.block ?_
            refine Run.ghost (Ghost.form [(1, .ptr 0 0 0), (2, .ptr 0 1 0), (8, .ptr 0 4 0), (9, .ms 0 6 (F + 2 + n.gates.length)), (16, .ms 0 7 n.outs.length), (17, .ms 0 8 (0)), (111, .im (.sl (n.flops.map LFlop.im))), (112, .i n.flops.length), (113, .i (0 : Nat))] 9 ⟨rfl, rfl, rfl, rfl, rfl, rfl, rfl, rfl, rfl, trivial⟩ rfl rfl) ?_
            refine Run.loop (fun m s => ∃ i : Nat, m = n.flops.length - i ∧ i ≤ n.flops.length ∧ s = ⟨[(1, .ptr 0 0 0), (2, .ptr 0 1 0), (8, .ptr 0 4 0), (9, .ms 0 6 (F + 2 + n.gates.length)), (16, .ms 0 7 n.outs.length), (17, .ms 0 8 (i)), (111, .im (.sl (n.flops.map LFlop.im))), (112, .i n.flops.length), (113, .i (i : Nat))], [.box [.im (.sl (strs n.inn)), .im (.sl (strs n.out)), .im (.sl (n.flops.map LFlop.im)), .im (.sl (n.gates.map LGate.im)), .im (.sl (ints n.outs))], .box [.nils, .nils, .nils, .nils, .nils], .row 69 3 ((n.flops.map regOf).map LReg.im) n.flops.length, mkMap ((mS n (i)).2), mkBox 5 3 ((mS n (i)).2), mkRow ((mS n (i)).2), .row 62 1 (ints (gS n n.gates.length).1) 0, .row 62 1 (ints (litsN n n.outs)) 0, .row 62 1 (ints (mS n (i)).1) 0], up⟩) n.flops.length ⟨0, rfl, by omega, rfl⟩ fun m s hI => ?_
            obtain ⟨i, rfl, hi, rfl⟩ := hI
            have okm := mS_ok n hn h2 i hi
            have hil5 : (ints (mS n i).1).length = i := by rw [ints_len, okm.len]
            have hap5 : (i + 1) * 8 ≤ 140737488355328 := by omega
            have hlg : (ints (gS n n.gates.length).1).length = F + 2 + n.gates.length := by rw [ints_len, ok.len]; omega
            refine Run.seq ?_
            have fx := And.intro hlg (And.intro hap5 (And.intro hil5 (And.intro hap4 (And.intro hil4 (And.intro hap3 (And.intro hil3 (And.intro hap2 (And.intro hil2 (And.intro hap (And.intro hil (And.intro wF (And.intro ints_len (And.intro gim_len (And.intro strs_len (And.intro fim_len ft)))))))))))))))
            refine Run.go ?_
            refine End.kp [1, 2, 8, 9, 16, 17, 111, 112, 113, 114] ?_
            refine Run.seq ?_
            refine Run.cond _ rfl (fun hb => ?_) (fun hb => ?_)
            · have hb7 := of_decide_eq_true hb
              have hin : i < n.flops.length := by omega
              have wi := wsucc hin (by omega)
              obtain ⟨f, hfi, hfm, hf⟩ := flop_at n.flops i hin
              obtain ⟨⟨d0, d1⟩, e0, e1⟩ := hn.ends.flops f hfm
              have hdl : f.d < ((F + 2 + n.gates.length : Nat) : Int) := by omega
              have hel : f.en < ((F + 2 + n.gates.length : Nat) : Int) := by omega
              have hLg : ∀ k : Int, 0 ≤ k → k < 2 + n.inn.length + n.flops.length + n.gates.length → (ints (gS n n.gates.length).1)[k.toNat]? = some [.int .i64 ((gS n n.gates.length).1.getD k.toNat 0)] ∧ InM (mS n i).2 ((gS n n.gates.length).1.getD k.toNat 0) := fun k k0 k1 => by
                have hl : k.toNat < (gS n n.gates.length).1.length := by rw [ok.len]; omega
                refine ⟨by simp [List.getD_eq_getElem?_getD, hl], ?_⟩
                rw [List.getD_eq_getElem?_getD, List.getElem?_eq_getElem hl]
                exact okm.after.up (ok.lits _ (List.getElem_mem hl))
              obtain ⟨hld, hind⟩ := hLg f.d d0 d1
              obtain ⟨hle, hine⟩ := hLg f.en e0 e1
              have q1 : (mS n i).2.inn = n.inn := okm.after.inn.trans ok.after.inn
              have q2 : (mS n i).2.regs = n.flops.map regOf := okm.after.regs.trans ok.after.regs
              have q3 : (gS n n.gates.length).2.ands.length ≤ 0 + 9 * n.gates.length := ok.after.most
              have q4 := okm.after.most
              have hms5 : MkSmall (mS n i).2 := ⟨by rw [q1]; omega, by rw [q2, List.length_map]; omega, by omega⟩
              have hreg : InM (mS n i).2 (2 * (1 + ((mS n i).2.inn.length : Int) + i)) := by
                unfold InM LMk.top LMk.first
                rw [q1, q2]
                simp only [List.length_map]
                omega
              have hil : i < (mS n i).2.regs.length := by rw [q2, List.length_map]; exact hin
              have hmn := mS_next n i f hfi
              simp only [mStep, okm.len] at hmn
              generalize (gS n n.gates.length).1.getD f.d.toNat 0 = A at *
              generalize (gS n n.gates.length).1.getD f.en.toNat 0 = B at *
              have hMux : ∀ (u : Frs), MkAt u 0 4 5 3 (mS n i).2 → ACalls Try.prog 131 [.ptr 0 4 0, .i B, .i A, .i (2 * (1 + ((mS n i).2.inn.length : Int) + i))] u fun v u' => v = .i (mkPair (mS n i).2 B A (flipL B) (2 * (1 + ((mS n i).2.inn.length : Int) + i))).1 ∧ u' = setMk u 0 4 5 3 (mkPair (mS n i).2 B A (flipL B) (2 * (1 + ((mS n i).2.inn.length : Int) + i))).2 := fun u hk => mMux_ok B A _ (mS n i).2 hms5 u 0 4 5 3 hk (by omega) hine hind hreg
              generalize mkPair (mS n i).2 B A (flipL B) (2 * (1 + ((mS n i).2.inn.length : Int) + i)) = R at hMux hmn
              obtain ⟨y, m2⟩ := R
              simp only at hMux hmn
              generalize hS : mS n i = S at hMux hms5 hreg hil hil5 ⊢
              obtain ⟨TT, m⟩ := S
              simp only at hMux hms5 hreg hil hil5 ⊢
              refine Run.skip ?_
              refine End.kp [1, 2, 8, 9, 16, 17, 111, 112, 113] ?_
              refine Run.seq ?_
              refine Run.block ?_
              refine Run.seq ?_
              have fx := And.intro (@Int.toNat_natCast) (And.intro (@Int.natCast_nonneg) (And.intro hle (And.intro hld (And.intro hel (And.intro hdl (And.intro e0 (And.intro d0 (And.intro hf (And.intro wi (And.intro hlg (And.intro hap5 (And.intro hil5 (And.intro hap4 (And.intro hil4 (And.intro hap3 (And.intro hil3 (And.intro hap2 (And.intro hil2 (And.intro hap (And.intro hil (And.intro wF (And.intro ints_len (And.intro gim_len (And.intro strs_len (And.intro fim_len ft)))))))))))))))))))))))))
              refine Run.go ?_
              refine End.kp [1, 2, 8, 9, 16, 17, 20, 21, 111, 112, 113] ?_
              refine Run.ghost (.spares 1) ?_
              simp only [ASt.pushN, ASt.push, List.append_assoc, List.cons_append, List.nil_append]
              refine Run.drawA fun K hK => ?_
              refine DOps.sim ?_
              refine DOps.call (.i (2 * (1 + (m.inn.length : Int) + i))) [((0, 4), mkBox 5 3 m), ((0, 5), mkRow m), ((0, 3), mkMap m)] [] rfl rfl rfl rfl (by kernel_rfl) (by simp [Agree, ASt.fr]) (fun u hu => mReg_ok i m hms5 u 0 4 5 3 ⟨hu ((0, 4), mkBox 5 3 m) (by simp), hu ((0, 5), mkRow m) (by simp), hu ((0, 3), mkMap m) (by simp)⟩ hil) ?_
              refine DOps.sim ?_
              refine DOps.call (.i y) [((0, 4), mkBox 5 3 m), ((0, 5), mkRow m), ((0, 3), mkMap m)] [((0, 4), mkBox 5 3 m2), ((0, 5), mkRow m2), ((0, 3), mkMap m2)] rfl rfl rfl rfl (by kernel_rfl) (by simp [Agree, ASt.fr]) (fun u hu => hMux u ⟨hu ((0, 4), mkBox 5 3 m) (by simp), hu ((0, 5), mkRow m) (by simp), hu ((0, 3), mkMap m) (by simp)⟩) ?_
              refine DOps.sim ?_
              refine DOps.nil (by rfl) (hK _ ?_); clear hK K
              refine End.blk ?_
              refine End.kp [1, 2, 8, 9, 16, 17, 111, 112, 113] ?_
              refine Run.go ?_
              refine End.lp ?_
              refine ⟨n.flops.length - (i + 1), _, by omega, Ghost.form [(1, .ptr 0 0 0), (2, .ptr 0 1 0), (8, .ptr 0 4 0), (9, .ms 0 6 (F + 2 + n.gates.length)), (16, .ms 0 7 n.outs.length), (17, .ms 0 8 (i + 1)), (111, .im (.sl (n.flops.map LFlop.im))), (112, .i n.flops.length), (113, .i (i + 1 : Nat))] 9 ⟨rfl, rfl, rfl, rfl, rfl, rfl, rfl, rfl, rfl, trivial⟩ rfl rfl, i + 1, rfl, by omega, by rw [hmn]; simp only [hS, ints_snoc]; rfl⟩
            · have hb7 := of_decide_eq_false hb
              have hie : i = n.flops.length := by omega
              subst hie
              have q1 : (mS n n.flops.length).2.inn = n.inn := okm.after.inn.trans ok.after.inn
              have q2 : (mS n n.flops.length).2.regs = n.flops.map regOf := okm.after.regs.trans ok.after.regs
              have q3 : (gS n n.gates.length).2.ands.length ≤ 0 + 9 * n.gates.length := ok.after.most
              have q4 := okm.after.most
              have q5 := okm.bad
              have q6 := okm.len
              have hgs : GSmall ⟨n.inn, n.out, n.flops.map regOf, (mS n n.flops.length).2.ands, litsN n n.outs⟩ := ⟨by simp only; omega, by simp only; omega, by simp only [List.length_map]; omega, by simp only; omega, by simp only [litsN, List.length_map]; omega⟩
              simp only [graphN] at hg1 ⊢
              have hol : (ints (litsN n n.outs)).length = n.outs.length := by rw [ints_len, litsN, List.length_map]
              generalize hS : mS n n.flops.length = S at *
              obtain ⟨TT, m⟩ := S
              obtain ⟨mi, mr, ma, mb⟩ := m
              simp only at q1 q2 q5 q6 hil5 hgs hg1 ⊢
              subst q1 q2 q5
              refine Run.exit rfl ?_
              refine End.kp [1, 2, 8, 16, 17] ?_
              refine Run.seq ?_
              refine Run.ghost (Ghost.boxShut (j := 4) (i := 2) (r := 5) rfl rfl rfl (nd_len _)) ?_
              refine Run.ghost (Ghost.shut (t := 16) (j := 7) rfl rfl hol) ?_
              refine Run.ghost (Ghost.shut (t := 17) (j := 8) rfl rfl hil5) ?_
              simp only [eput, edel, List.set_cons_zero, List.set_cons_succ]
              have fx := And.intro hlg (And.intro hap5 (And.intro hil5 (And.intro hap4 (And.intro hil4 (And.intro hap3 (And.intro hil3 (And.intro hap2 (And.intro hil2 (And.intro hap (And.intro hil (And.intro wF (And.intro ints_len (And.intro gim_len (And.intro strs_len (And.intro fim_len ft)))))))))))))))
              refine Run.region rfl fun K hK => GOps.sim ?_
              refine GOps.call rfl rfl rfl rfl (by kernel_rfl) (ACalls.sim ?_)
              refine (mGraphR_ok ⟨n.inn, n.out, n.flops.map regOf, ma, litsN n n.outs⟩ hgs TT (by simp only [List.length_map]; exact q6) hg1 _ 0 4 3 rfl).mono fun v u hv => ?_
              obtain ⟨rfl, rfl⟩ := hv
              refine ⟨_, _, rfl, GOps.sim ?_⟩
              refine GOps.done (hK _ ?_); clear hK K
              refine End.kp [2, 22, 23] ?_
              refine Run.seq ?_
              refine Run.seq ?_
              refine Run.go ?_
              refine End.kp [2, 22, 23, 147] ?_
              refine Run.cond _ rfl (fun hb => ?_) (fun hb => ?_)
              · have hb3 := hb
                simp at hb
              · have hb3 := hb
                refine Run.skip ?_
                refine End.kp [2, 22] ?_
                refine Run.seq ?_
                have fx := And.intro hlg (And.intro hap5 (And.intro hil5 (And.intro hap4 (And.intro hil4 (And.intro hap3 (And.intro hil3 (And.intro hap2 (And.intro hil2 (And.intro hap (And.intro hil (And.intro wF (And.intro ints_len (And.intro gim_len (And.intro strs_len (And.intro fim_len ft)))))))))))))))
                refine Run.region rfl fun K hK => GOps.sim ?_
                refine GOps.call rfl rfl rfl rfl (by kernel_rfl) (ACalls.sim ?_)
                refine (Clean_ok _ hg1 _).mono fun v u hv => ?_
                obtain ⟨rfl, rfl⟩ := hv
                refine ⟨_, _, rfl, GOps.sim ?_⟩
                refine GOps.done (hK _ ?_); clear hK K
                refine End.kp [2, 22, 23] ?_
                refine Run.seq ?_
                refine Run.go ?_
                refine End.kp [2, 3] ?_
                refine Run.resC hQ ?_
                exact ⟨by simp only [graphN, hS], rfl⟩
end Go.Proofs.YtkmnmokjlpenhaaPi

/- Plain law: the graph of a netlist shows what the netlist shows. -/
set_option linter.unusedVariables false
set_option linter.unusedSimpArgs false
namespace Go.Proofs.YtkmnmokjlpenhaaPi
set_option maxHeartbeats 1000000
/-- A graph with the names of a netlist alone. -/
def bareN (n : LNet) : LGraph := ⟨n.inn, n.out, n.flops.map regOf, [], []⟩
theorem bare_regs (n : LNet) : (bareN n).regs.length = n.flops.length := by simp [bareN]
abbrev rep0 (k : Nat) : List Int := List.replicate k 0
structure GV (n : LNet) (i : Nat) (S : List Int × LMk) : Prop where
  at_ : AtG (bareN n) S.2
  val : ∀ inn st : List Int, inn.length = n.inn.length → st.length = n.flops.length → ∀ k, k < 2 + n.inn.length + n.flops.length + i → vl ([0] ++ inn ++ st) S.2 (S.1.getD k 0) = bit0 ((valsN (n.gates.take i) (nb0 inn st)).getD k 0)
section
variable {n : LNet} (hn : NetOk n) (h2 : ∀ (i : Nat) (g : LGate), n.gates[i]? = some g → g.ins.length ≤ 2) (hu : ∀ x ∈ n.gates, U64 x.table)
include hn h2 hu
theorem gS_val : ∀ i, i ≤ n.gates.length → GV n i (gS n i)
  | 0, _ => by
    have _ := hu
    refine ⟨⟨rfl, rfl, ⟨fun i p h => by simp [gS, mkN] at h, ⟨fun p h => by simp [gS, mkN] at h, by simp [gS, mkN]⟩⟩⟩, fun inn st e1 e2 k hk => ?_⟩
    have e2' : st.length = (bareN n).regs.length := by rw [bare_regs]; exact e2
    simp only [gS, List.take_zero, List.foldl_nil, valsN, firstL]
    by_cases k0 : k = 0
    · subst k0
      have := vl_zero (g := bareN n) e1 e2' (mkN n)
      simpa [bit0] using this
    · by_cases k1 : k = 1
      · subst k1
        have := vl_one (g := bareN n) e1 e2' (mkN n)
        refine this.trans ?_
        show true = bit0 18446744073709551615
        decide
      · obtain ⟨q, rfl⟩ : ∃ q, k = q + 2 := ⟨k - 2, by omega⟩
        have hq : q < n.inn.length + n.flops.length := by omega
        have e3 : ([0, 1] ++ (List.range (n.inn.length + n.flops.length)).map fun k : Nat => 2 * (1 + (k : Int))).getD (q + 2) 0 = 2 * ((q + 1 : Nat) : Int) := by
          simp [List.getD_eq_getElem?_getD, hq]; omega
        rw [e3, vl, lb_even, valsA_pre _ _ _ (by simp; omega)]
        simp [List.getD_eq_getElem?_getD]
  | i + 1, hi => by
    have ih := gS_val i (by omega)
    have ok := gS_ok n hn h2 i (by omega)
    obtain ⟨g, hg⟩ : ∃ g, n.gates[i]? = some g := ⟨_, List.getElem?_eq_getElem (by omega)⟩
    obtain ⟨_, _, v3⟩ := hn.gates i g hg
    have g2 := h2 i g hg
    have gu := hu g (List.mem_of_getElem? hg)
    have hlit : ∀ k : Nat, k < 2 + n.inn.length + n.flops.length + i → InM (gS n i).2 ((gS n i).1.getD k 0) := fun k hk => by
      have hl : k < (gS n i).1.length := by rw [ok.len]; omega
      rw [List.getD_eq_getElem?_getD, List.getElem?_eq_getElem hl]
      exact ok.lits _ (List.getElem_mem hl)
    have hin : ∀ x ∈ (g.ins.map fun k => (gS n i).1.getD k.toNat 0), InM (gS n i).2 x := fun x hx => by
      obtain ⟨k, hk, rfl⟩ := List.mem_map.1 hx
      obtain ⟨k0, k1⟩ := v3 k hk
      exact hlit _ (by omega)
    have sim := fun inn st e1 e2 => table_sim (g := bareN n) (inn := inn) (st := st) e1 e2 g.ins.length (by omega) (gS n i).2 g.table (g.ins.map fun k => (gS n i).1.getD k.toNat 0) ih.at_ gu hin
    rw [gS_next n i g hg]
    refine ⟨(sim (rep0 n.inn.length) (rep0 n.flops.length) (by simp [bareN]) (by simp [bareN])).1.at_, fun inn st e1 e2 k hk => ?_⟩
    obtain ⟨s1, s2⟩ := sim inn st (by simp [bareN, e1]) (by simp [bareN, e2])
    have et : n.gates.take (i + 1) = n.gates.take i ++ [g] := by simp [List.take_add_one, hg]
    have hvl : (valsN (n.gates.take i) (nb0 inn st)).length = 2 + n.inn.length + n.flops.length + i := by rw [valsN_len, nb0_len, List.length_take]; omega
    have ihv := ih.val inn st e1 e2
    rw [et, valsN_snoc]
    generalize valsN (n.gates.take i) (nb0 inn st) = v at hvl ihv
    by_cases he : k = 2 + n.inn.length + n.flops.length + i
    · have e3 : (gStep (gS n i) g).1.getD k 0 = (mkTable g.ins.length (gS n i).2 g.table (g.ins.map fun k => (gS n i).1.getD k.toNat 0)).1 := by
        have : k = (gS n i).1.length := by rw [ok.len, he]
        rw [this, gStep]
        exact getD_app_end _ _
      have e4 : k = v.length := by rw [hvl, he]
      rw [e3, e4, getD_app_end, gate_bit g v (by omega) gu]
      refine s2.trans ?_
      congr 1
      refine idxL_congr _ _ _ _ _ fun q hq => ?_
      obtain ⟨x, hx⟩ : ∃ x, g.ins[q]? = some x := ⟨_, List.getElem?_eq_getElem hq⟩
      obtain ⟨x0, x1⟩ := v3 x (List.mem_of_getElem? hx)
      have := ihv x.toNat (by omega)
      simpa [List.getD_eq_getElem?_getD, hx] using this
    · have hk' : k < 2 + n.inn.length + n.flops.length + i := by omega
      have e3 : (gStep (gS n i) g).1.getD k 0 = (gS n i).1.getD k 0 := by
        rw [gStep]
        exact getD_app_left (by rw [ok.len]; omega)
      rw [e3, getD_app_left (by omega), ← ihv k hk']
      exact s1.val _ (hlit k hk')
structure MV (n : LNet) (i : Nat) (S : List Int × LMk) : Prop where
  at_ : AtG (bareN n) S.2
  keep : ∀ inn st : List Int, inn.length = n.inn.length → st.length = n.flops.length → ∀ l, InM (gS n n.gates.length).2 l → vl ([0] ++ inn ++ st) S.2 l = vl ([0] ++ inn ++ st) (gS n n.gates.length).2 l
  val : ∀ inn st : List Int, inn.length = n.inn.length → st.length = n.flops.length → ∀ j f, j < i → n.flops[j]? = some f → vl ([0] ++ inn ++ st) S.2 (S.1.getD j 0) = bit0 (nextF n (valuesV n inn st) j f)
theorem lits_in (k : Int) (k0 : 0 ≤ k) (k1 : k < 2 + n.inn.length + n.flops.length + n.gates.length) : InM (gS n n.gates.length).2 ((gS n n.gates.length).1.getD k.toNat 0) := by
  have _ := hu
  have ok := gS_ok n hn h2 n.gates.length (Nat.le_refl _)
  have hl : k.toNat < (gS n n.gates.length).1.length := by rw [ok.len]; omega
  rw [List.getD_eq_getElem?_getD, List.getElem?_eq_getElem hl]
  exact ok.lits _ (List.getElem_mem hl)
theorem lits_val {inn st : List Int} (e1 : inn.length = n.inn.length) (e2 : st.length = n.flops.length) (k : Int) (k0 : 0 ≤ k) (k1 : k < 2 + n.inn.length + n.flops.length + n.gates.length) : vl ([0] ++ inn ++ st) (gS n n.gates.length).2 ((gS n n.gates.length).1.getD k.toNat 0) = bit0 ((valuesV n inn st).getD k.toNat 0) := by
  have := (gS_val hn h2 hu n.gates.length (Nat.le_refl _)).val inn st e1 e2 k.toNat (by omega)
  rw [List.take_length] at this
  exact this
theorem mS_val : ∀ i, i ≤ n.flops.length → MV n i (mS n i)
  | 0, _ => by
    have ih := gS_val hn h2 hu n.gates.length (Nat.le_refl _)
    exact ⟨by simpa [mS] using ih.at_, fun inn st e1 e2 l hl => by simp [mS], fun inn st e1 e2 j f hj => by omega⟩
  | i + 1, hi => by
    have ih := mS_val i (by omega)
    have ok := gS_ok n hn h2 n.gates.length (Nat.le_refl _)
    have okm := mS_ok n hn h2 i (by omega)
    obtain ⟨f, hf⟩ : ∃ f, n.flops[i]? = some f := ⟨_, List.getElem?_eq_getElem (by omega)⟩
    obtain ⟨⟨d0, d1⟩, c0, c1⟩ := hn.ends.flops f (List.mem_of_getElem? hf)
    have q1 : (mS n i).2.inn = n.inn := okm.after.inn.trans ok.after.inn
    have q2 : (mS n i).2.regs.length = n.flops.length := by rw [okm.after.regs.trans ok.after.regs]; simp [mkN]
    have hind := okm.after.up (lits_in hn h2 hu f.d d0 d1)
    have hine := okm.after.up (lits_in hn h2 hu f.en c0 c1)
    have hreg : InM (mS n i).2 (2 * (1 + ((mS n i).2.inn.length : Int) + (mS n i).1.length)) := by
      unfold InM LMk.top LMk.first
      rw [okm.len, q1, q2]
      omega
    have sim := fun inn st e1 e2 => pair_keeps (g := bareN n) (inn := inn) (st := st) e1 e2 ih.at_ hine hind (flip_in hine) hreg
    rw [mS_next n i f hf]
    refine ⟨(sim (rep0 n.inn.length) (rep0 n.flops.length) (by simp [bareN]) (by simp [bareN])).1.at_, fun inn st e1 e2 l hl => ?_, fun inn st e1 e2 j f' hj hf' => ?_⟩
    · obtain ⟨s1, s2⟩ := sim inn st (by simp [bareN, e1]) (by simp [bareN, e2])
      exact (s1.val l (okm.after.up hl)).trans (ih.keep inn st e1 e2 l hl)
    · obtain ⟨s1, s2⟩ := sim inn st (by simp [bareN, e1]) (by simp [bareN, e2])
      by_cases he : j = i
      · subst he
        rw [hf] at hf'
        cases hf'
        have e3 : (mStep (gS n n.gates.length).1 (mS n j) f).1.getD j 0 = (mkPair (mS n j).2 ((gS n n.gates.length).1.getD f.en.toNat 0) ((gS n n.gates.length).1.getD f.d.toNat 0) (flipL ((gS n n.gates.length).1.getD f.en.toNat 0)) (2 * (1 + (mS n j).2.inn.length + (mS n j).1.length))).1 := by
          have : j = (mS n j).1.length := okm.len.symm
          rw [mStep]
          have h3 := getD_app_end (mS n j).1 (mkPair (mS n j).2 ((gS n n.gates.length).1.getD f.en.toNat 0) ((gS n n.gates.length).1.getD f.d.toNat 0) (flipL ((gS n n.gates.length).1.getD f.en.toNat 0)) (2 * (1 + (mS n j).2.inn.length + (mS n j).1.length))).1
          rw [okm.len] at h3
          rw [okm.len]
          exact h3
        rw [e3]
        refine s2.trans ?_
        have ve := (ih.keep inn st e1 e2 _ (lits_in hn h2 hu f.en c0 c1)).trans (lits_val hn h2 hu e1 e2 f.en c0 c1)
        have vd := (ih.keep inn st e1 e2 _ (lits_in hn h2 hu f.d d0 d1)).trans (lits_val hn h2 hu e1 e2 f.d d0 d1)
        have vf : vl ([0] ++ inn ++ st) (mS n j).2 (flipL ((gS n n.gates.length).1.getD f.en.toNat 0)) = !vl ([0] ++ inn ++ st) (mS n j).2 ((gS n n.gates.length).1.getD f.en.toNat 0) := lb_flip _ _ hine.1
        have vr : vl ([0] ++ inn ++ st) (mS n j).2 (2 * (1 + ((mS n j).2.inn.length : Int) + (mS n j).1.length)) = bit0 (st.getD j 0) := by
          have e5 : (2 * (1 + ((mS n j).2.inn.length : Int) + (mS n j).1.length)) = 2 * ((1 + n.inn.length + j : Nat) : Int) := by rw [okm.len, q1]; omega
          rw [e5, vl, lb_even, valsA_pre _ _ _ (by simp; omega)]
          simp only [List.getD_eq_getElem?_getD]
          rw [List.getElem?_append_right (by simp; omega)]
          congr 3
          simp
          omega
        have vo : bit0 ((valuesV n inn st).getD (2 + n.inn.length + j) 0) = bit0 (st.getD j 0) := by
          rw [valuesV, valsN_pre _ _ _ (by simp; omega)]
          simp only [List.getD_eq_getElem?_getD]
          rw [List.getElem?_append_right (by simp; omega)]
          congr 3
          simp
          omega
        rw [nextF_bit, vf, ve, vd, vr, vo]
        cases bit0 ((valuesV n inn st).getD f.en.toNat 0) <;> simp
      · have e3 : (mStep (gS n n.gates.length).1 (mS n i) f).1.getD j 0 = (mS n i).1.getD j 0 := by
          rw [mStep]
          exact getD_app_left (by rw [okm.len]; omega)
        rw [e3, ← ih.val inn st e1 e2 j f' (by omega) hf']
        refine s1.val _ ?_
        have hl : j < (mS n i).1.length := by rw [okm.len]; omega
        rw [List.getD_eq_getElem?_getD, List.getElem?_eq_getElem hl]
        exact okm.lits _ (List.getElem_mem hl)
theorem graphN_reg (j : Nat) (f : LFlop) (hf : n.flops[j]? = some f) : (graphN n).regs[j]? = some ⟨f.name, (mS n n.flops.length).1.getD j 0, f.init⟩ := by
  have _ := hn
  have _ := h2
  have _ := hu
  have hj := (List.getElem?_eq_some_iff.1 hf).1
  have := regsN_get (n.flops.map regOf) (mS n n.flops.length).1 (n.flops.map regOf).length j (regOf f) (by rw [List.getElem?_map, hf]; rfl)
  rw [if_pos (by rw [List.length_map]; exact hj)] at this
  exact this
theorem graphN_ok : GraphOk (graphN n) := by
  have hm := mS_val hn h2 hu n.flops.length (Nat.le_refl _)
  have ok := gS_ok n hn h2 n.gates.length (Nat.le_refl _)
  have okm := mS_ok n hn h2 n.flops.length (Nat.le_refl _)
  obtain ⟨z1, z2, z3, z4, z5⟩ := hn.small
  have q3 : (gS n n.gates.length).2.ands.length ≤ 0 + 9 * n.gates.length := ok.after.most
  have q4 := okm.after.most
  have hrl : (graphN n).regs.length = n.flops.length := by simp only [graphN]; rw [regsN_len, List.length_map]
  have hinm : ∀ x, InM (mS n n.flops.length).2 x → 0 ≤ x ∧ x < 2 * (1 + ((graphN n).inn.length : Int) + (graphN n).regs.length + (graphN n).ands.length) := fun x hx => by
    have := hm.at_.in_ hx
    rw [hrl]
    rw [bare_regs] at this
    exact this
  have hnames : (graphN n).regs.map LReg.name = n.flops.map LFlop.name := by
    refine List.ext_getElem? fun j => ?_
    rw [List.getElem?_map, List.getElem?_map]
    cases hf : n.flops[j]? with
    | none => rw [List.getElem?_eq_none (by rw [hrl]; exact List.getElem?_eq_none_iff.1 hf)]; rfl
    | some f => rw [graphN_reg hn h2 hu j f hf]; rfl
  have hinn : (graphN n).inn = n.inn := rfl
  have hol : (graphN n).outs.length = n.outs.length := by simp [graphN, litsN]
  refine ⟨⟨by rw [hinn]; omega, by show n.out.length ≤ 128; omega, by rw [hrl]; omega, by show (mS n n.flops.length).2.ands.length ≤ 4000; omega, by rw [hol]; omega⟩, ?_, ?_, hn.onames, hn.onodup, by rw [hol]; exact hn.olen, fun i p hp => ?_, fun r hr => ?_, fun x hx => ?_⟩
  · rw [hnames]; exact hn.names
  · rw [hnames]; exact hn.nodup
  · have := hm.at_.nf.ands i p hp
    rw [bare_regs] at this
    rw [hrl]
    exact this
  · obtain ⟨j, hj⟩ := List.mem_iff_getElem?.1 hr
    have hjl := (List.getElem?_eq_some_iff.1 hj).1
    rw [hrl] at hjl
    rw [graphN_reg hn h2 hu j _ (List.getElem?_eq_getElem hjl)] at hj
    cases hj
    refine hinm _ ?_
    have hl : j < (mS n n.flops.length).1.length := by rw [okm.len]; omega
    simp only
    rw [List.getD_eq_getElem?_getD, List.getElem?_eq_getElem hl]
    exact okm.lits _ (List.getElem_mem hl)
  · simp only [graphN, litsN, List.mem_map] at hx
    obtain ⟨k, hk, rfl⟩ := hx
    obtain ⟨k0, k1⟩ := hn.ends.outs k hk
    exact hinm _ (okm.after.up (lits_in hn h2 hu k k0 k1))
theorem graphN_run (t : List (List Bool)) (hr : ∀ r ∈ t, r.length = n.inn.length) : runN n (lanes0 (initN n)) t = runI (graphN n) t := by
  have hm := mS_val hn h2 hu n.flops.length (Nat.le_refl _)
  have ok := gS_ok n hn h2 n.gates.length (Nat.le_refl _)
  have okm := mS_ok n hn h2 n.flops.length (Nat.le_refl _)
  have hrl : (graphN n).regs.length = n.flops.length := by simp only [graphN]; rw [regsN_len, List.length_map]
  have hol : (graphN n).outs.length = n.outs.length := by simp [graphN, litsN]
  have e0 : initN n = initG (graphN n) := by
    unfold initN initG
    refine List.ext_getElem? fun j => ?_
    rw [List.getElem?_map, List.getElem?_map]
    cases hf : n.flops[j]? with
    | none => rw [List.getElem?_eq_none (by rw [hrl]; exact List.getElem?_eq_none_iff.1 hf)]; rfl
    | some f => rw [graphN_reg hn h2 hu j f hf]; rfl
  rw [runI, e0]
  refine run_same rfl hrl.symm hol.symm (fun inn st st' e1 hs e2 j x k hx hk => ?_) (fun inn st st' e1 hs e2 j r f hx hf => ?_) t _ _ hr (same0_refl _) (by simp [initG])
  · simp only [graphN, litsN, List.getElem?_map, hk, Option.map_some, Option.some.injEq] at hx
    subst hx
    obtain ⟨k0, k1⟩ := hn.ends.outs k (List.mem_of_getElem? hk)
    have e2' : st.length = n.flops.length := by rw [e2, hrl]
    rw [← lb_same (same0_vals (graphN n) inn hs), ← lits_val hn h2 hu e1 e2' k k0 k1]
    exact (hm.keep inn st e1 e2' _ (lits_in hn h2 hu k k0 k1)).symm
  · rw [graphN_reg hn h2 hu j f hf] at hx
    cases hx
    have e2' : st.length = n.flops.length := by rw [e2, hrl]
    have hj := (List.getElem?_eq_some_iff.1 hf).1
    rw [← lb_same (same0_vals (graphN n) inn hs)]
    exact (hm.val inn st e1 e2' j f hj hf).symm
end
end Go.Proofs.YtkmnmokjlpenhaaPi

/- The walk of NetlistBack. -/
set_option linter.unusedVariables false
set_option linter.unusedSimpArgs false
set_option maxRecDepth 100000
namespace Go.Proofs.YtkmnmokjlpenhaaPi
set_option maxHeartbeats 4000000
theorem small_len2 (l : List Int) (a : Int) (ands : Nat) : (smallV l a ands).1.ands.length ≤ ands ∧ (smallV l a ands).1.outs.length ≤ 4 ∧ (smallV l a ands).1.out.length ≤ 4 := by
  obtain ⟨r1, s1⟩ := nextV_range l a 5 (by omega)
  obtain ⟨r2, s2⟩ := nextV_range l (a + 1) 4 (by omega)
  obtain ⟨r3, s3⟩ := nextV_range l (a + 1 + 1) (ands + 1) (by omega)
  obtain ⟨r4, s4⟩ := nextV_range l (a + 1 + 1 + 1) (4 - 1 + 1) (by omega)
  have h2 := graphV_pos l (a + 1 + 1 + 1 + 1) (nextV l a 5).toNat (nextV l (a + 1) 4).toNat (nextV l (a + 1 + 1) (ands + 1)).toNat (1 + nextV l (a + 1 + 1 + 1) (4 - 1 + 1)).toNat
  simp only [smallV]
  omega
theorem Back_walk (l : List Int) (hs : StmOk l 0) (up : Frs) : ACalls Try.prog 14 [.im (.sl (ints l))] up fun v u => v = .im (.bool true) ∧ u = up := by
  have ok : ∀ b : Int, 0 ≤ b → b ≤ 100000 → StmOk l b := fun b h1 h2 => ⟨hs.vals, hs.len, h1, by omega⟩
  have hSm := Small_ok 25 (by omega) l 0 hs (by omega)
  obtain ⟨hg, hb1, hb2⟩ := small_ok l 0 25 (by omega)
  obtain ⟨hi4, hr3⟩ := small_len l 0 25
  obtain ⟨ha4, ho4, hoo4⟩ := small_len2 l 0 25
  generalize smallV l 0 25 = M at hSm hg hb1 hb2 hi4 hr3 ha4 ho4 hoo4
  obtain ⟨g, b⟩ := M
  simp only at hSm hg hb1 hb2 hi4 hr3 ha4 ho4 hoo4
  obtain ⟨z1, z2, z3, z4, z5⟩ := hg.small
  have hP := Played_ok 10 g.inn.length (by omega) (by omega) l b (ok _ (by omega) (by omega)) (by omega)
  have hr := playedV_row l g.inn.length b 10
  have hl := playedV_len l g.inn.length b 10
  generalize playedV l g.inn.length b 10 = PA at hP hr hl
  obtain ⟨tr, c⟩ := PA
  simp only at hP hr hl
  have hw := netG_law hg (by omega) (by omega) (by omega) (by omega)
  have hok : NetOk (netG g) := hw.ok
  have k1 := Of_ok g hg (by omega) hok
  have e1 := netG_run hg (by omega) (by omega) (by omega) (by omega) tr hr
  have h2 : ∀ (i : Nat) (x : LGate), (netG g).gates[i]? = some x → x.ins.length ≤ 2 := hw.two
  have hu : ∀ x ∈ (netG g).gates, U64 x.table := hw.u64
  have in1 : (netG g).inn = g.inn := rfl
  generalize netG g = n at hok k1 e1 h2 hu in1
  have hg1 := graphN_ok hok h2 hu
  have k2 := NGraph_ok n hok h2 hg1
  have e2 := graphN_run hok h2 hu tr (by rw [in1]; exact hr)
  have in2 : (graphN n).inn = g.inn := in1
  have k3 := NRun_ok n hok tr (by omega) (by rw [in1]; exact hr)
  generalize graphN n = G1 at hg1 k2 e2 in2
  have hg2 := cleanL_ok hg1
  have e3 := cleanL_run hg1 tr (by rw [in2]; exact hr)
  have in3 : (cleanL G1).inn = g.inn := in2
  have e4 : movedG G1 (cleanG G1).1 (cleanG G1).2.1 = cleanL G1 := rfl
  rw [e4] at k2
  generalize cleanL G1 = H at hg2 e3 in3 k2
  have eH : runI H tr = runI g tr := by rw [e3, ← e2, e1]
  have k4 := GRun_ok g hg tr (by omega) hr
  rw [e1] at k3
  rw [show runG g (lanes0 (initG g)) tr = runI g tr from rfl] at k4
  have hl2 := runG_len g tr (lanes0 (initG g))
  have hr2 := runG_row g tr (lanes0 (initG g))
  rw [show runG g (lanes0 (initG g)) tr = runI g tr from rfl] at hl2 hr2
  have k5 := runs_ok g H hg hg2 tr (by omega) hr (by rw [in3]; exact hr) eH
  generalize runI g tr = O at k3 k4 hl2 hr2
  have hl3 : (boolss O).length = 10 := by rw [boolss_len, hl2, hl]
  have d1 : (((10 : Nat) : Int) == 10) = true := rfl
  refine ACalls.code Try.func14 rfl 79 rfl (by simp) [.tmp 2] rfl fun Q hQ => ?_
  simp only [ups, PV.up, argEnv]
  have ft := And.intro ty_3 (And.intro ty_4 (And.intro ty_9 (And.intro ty_22 (And.intro ty_23 (And.intro ty_25 (And.intro ty_26 (And.intro ty_30 (And.intro ty_34 (And.intro ty_51 (And.intro ty_58 (And.intro ty_71 trivial)))))))))))
  refine Run.seq ?_
  have fx := And.intro d1 (And.intro hl3 (And.intro strs_len ft))
  refine Run.go ?_
  refine End.kp [0] ?_
  refine Run.seq ?_
  refine Run.go ?_
  refine End.kp [3] ?_
  refine Run.seq ?_
  refine Run.region rfl fun K hK => GOps.sim ?_
  refine GOps.call rfl rfl rfl rfl (by kernel_rfl) (ACalls.sim ?_)
  refine (hSm _ 0 0 rfl).mono fun v u hv => ?_
  obtain ⟨rfl, rfl⟩ := hv
  refine ⟨_, _, rfl, GOps.sim ?_⟩
  refine GOps.done (hK _ ?_); clear hK K
  refine End.kp [3, 4] ?_
  refine Run.seq ?_
  refine Run.region rfl fun K hK => GOps.sim ?_
  refine GOps.call rfl rfl rfl rfl (by kernel_rfl) (ACalls.sim ?_)
  refine (hP _ 0 0 rfl).mono fun v u hv => ?_
  obtain ⟨rfl, rfl⟩ := hv
  refine ⟨_, _, rfl, GOps.sim ?_⟩
  refine GOps.done (hK _ ?_); clear hK K
  refine End.kp [4, 5] ?_
  refine Run.seq ?_
  refine Run.region rfl fun K hK => GOps.sim ?_
  refine GOps.call rfl rfl rfl rfl (by kernel_rfl) (ACalls.sim ?_)
  refine (k1 _).mono fun v u hv => ?_
  obtain ⟨rfl, rfl⟩ := hv
  refine ⟨_, _, rfl, GOps.sim ?_⟩
  refine GOps.done (hK _ ?_); clear hK K
  refine End.kp [4, 5, 6, 7] ?_
  refine Run.seq ?_
  refine Run.region rfl fun K hK => GOps.sim ?_
  refine GOps.call rfl rfl rfl rfl (by kernel_rfl) (ACalls.sim ?_)
  refine (k2 _).mono fun v u hv => ?_
  obtain ⟨rfl, rfl⟩ := hv
  refine ⟨_, _, rfl, GOps.sim ?_⟩
  refine GOps.done (hK _ ?_); clear hK K
  refine End.kp [4, 5, 6, 7, 8, 9] ?_
  refine Run.seq ?_
  refine Run.region rfl fun K hK => GOps.sim ?_
  refine GOps.call rfl rfl rfl rfl (by kernel_rfl) (ACalls.sim ?_)
  refine (k3 _).mono fun v u hv => ?_
  obtain ⟨rfl, rfl⟩ := hv
  refine ⟨_, _, rfl, GOps.sim ?_⟩
  refine GOps.done (hK _ ?_); clear hK K
  refine End.kp [4, 5, 7, 8, 9, 10, 11] ?_
  refine Run.seq ?_
  refine Run.region rfl fun K hK => GOps.sim ?_
  refine GOps.call rfl rfl rfl rfl (by kernel_rfl) (ACalls.sim ?_)
  refine (k4 _).mono fun v u hv => ?_
  obtain ⟨rfl, rfl⟩ := hv
  refine ⟨_, _, rfl, GOps.sim ?_⟩
  refine GOps.done (hK _ ?_); clear hK K
  refine End.kp [4, 5, 7, 8, 9, 10, 11, 12, 13] ?_
  refine Run.seq ?_
  refine Run.region rfl fun K hK => GOps.sim ?_
  refine GOps.call rfl rfl rfl rfl (by kernel_rfl) (ACalls.sim ?_)
  refine (nets_ok _).mono fun v u hv => ?_
  obtain ⟨rfl, rfl⟩ := hv
  refine ⟨_, _, rfl, GOps.sim ?_⟩
  refine GOps.call rfl rfl rfl rfl (by kernel_rfl) (ACalls.sim ?_)
  refine (k5 _).mono fun v u hv => ?_
  obtain ⟨rfl, rfl⟩ := hv
  refine ⟨_, _, rfl, GOps.sim ?_⟩
  refine GOps.call rfl rfl rfl rfl (by kernel_rfl) (ACalls.sim ?_)
  refine (EqF_same O (by omega) (fun r h => by rw [hr2 r h]; omega) _).mono fun v u hv => ?_
  obtain ⟨rfl, rfl⟩ := hv
  refine ⟨_, _, rfl, GOps.sim ?_⟩
  refine GOps.done (hK _ ?_); clear hK K
  refine End.kp [2] ?_
  refine Run.ret (hQ _ _ ⟨.inr rfl, _, rfl, _, rfl, ?_⟩)
  exact ⟨rfl, rfl⟩
end Go.Proofs.YtkmnmokjlpenhaaPi

