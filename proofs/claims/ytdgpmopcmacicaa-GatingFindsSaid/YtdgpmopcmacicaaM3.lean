/- Part 3 of the proof: the texts WU, WV, PGates, PBit0, WI, WJ, WK, PBits, PLane, WX, WY, WGA, WGB, WGC, WGD, WGE, WTA, WTB, PTB, WGM, WKA, one behind the other. Each holds for every input that it names; no condition is hidden. -/
import Derived.Test.YtdgpmopcmacicaaM2
import Derived.Test.YtdgpmopcmacicaaM1
import Derived.Test.YtdgpmopcmacicaaPiGrowB
import Derived.Test.YtdgpmopcmacicaaPiGrowL
import Derived.Test.YtdgpmopcmacicaaPiLit
/- The walks of Enables, gated and the literal's value; drawn graphs are in order. -/
set_option linter.unusedVariables false
set_option linter.unusedSimpArgs false
set_option maxRecDepth 100000
namespace Go.Proofs.YtdgpmopcmacicaaPi
set_option maxHeartbeats 4000000
abbrev regD : LReg := ⟨ByteArray.empty, 0, false⟩
def enV (g : LGraph) (i : Nat) : Int × Int := findV g ((g.regs.getD i regD).next) (2 * (1 + (g.inn.length : Int) + i))
def enablesV (g : LGraph) : List (Int × Int) := (List.range g.regs.length).map (enV g)
theorem Enables_ok (g : LGraph) (hg : GraphOk g) (up : Frs) : ACalls Try.prog 25 [g.pv] up fun v u => v = .tup [.im (.sl ((enablesV g).map nd)), .i 0] ∧ u = up := by
  obtain ⟨z1, z2, z3, z4, z5⟩ := hg.small
  refine ACalls.code Try.func25 rfl 37 rfl (by simp) [.tmp 2, .tmp 3] rfl fun Q hQ => ?_
  simp only [ups, PV.up, argEnv]
  have ft := And.intro ty_2 (And.intro ty_3 (And.intro ty_4 (And.intro ty_9 (And.intro ty_27 (And.intro ty_29 (And.intro ty_33 (And.intro ty_34 (And.intro ty_39 (And.intro ty_47 (And.intro ty_54 (And.intro ty_69 trivial)))))))))))
  refine Run.seq ?_
  have fx := And.intro strs_len (And.intro rim_len ft)
  refine Run.go ?_
  refine End.kp [1] ?_
  refine Run.seq ?_
  refine Run.seq ?_
  refine Run.region rfl fun K hK => GOps.sim ?_
  refine GOps.call rfl rfl rfl rfl (by kernel_rfl) (ACalls.sim ?_)
  refine (Check_ok g hg _).mono fun v u hv => ?_
  obtain ⟨rfl, rfl⟩ := hv
  refine ⟨_, _, rfl, GOps.sim ?_⟩
  refine GOps.done (hK _ ?_); clear hK K
  refine End.kp [1, 4] ?_
  refine Run.seq ?_
  refine Run.go ?_
  refine End.kp [1, 4, 11] ?_
  refine Run.cond _ rfl (fun hb => ?_) (fun hb => ?_)
  · have hb2 := hb
    simp at hb
  · have hb2 := hb
    refine Run.skip ?_
    refine End.kp [1] ?_
    refine Run.seq ?_
    have fx := And.intro strs_len (And.intro rim_len ft)
    refine Run.go ?_
    refine End.kp [1, 5] ?_
    refine Run.seq ?_
    refine Run.seq ?_
    refine Run.go ?_
    refine End.kp [1, 5, 14, 15, 16] ?_
    refine Run.block ?_
    refine Run.ghost (Ghost.thaw (u := 5) 69 2 (by decide) rfl) ?_
    refine Run.ghost (Ghost.form [(1, .ptr 0 0 0), (5, .ms 0 1 0), (14, .im (.sl (g.regs.map LReg.im))), (15, .i g.regs.length), (16, .i (0 : Nat))] 2 ⟨rfl, rfl, rfl, rfl, rfl, trivial⟩ rfl rfl) ?_
    refine Run.loop (fun m s => ∃ (i : Nat), m = g.regs.length - i ∧ i ≤ g.regs.length ∧ s = ⟨[(1, .ptr 0 0 0), (5, .ms 0 1 i), (14, .im (.sl (g.regs.map LReg.im))), (15, .i g.regs.length), (16, .i (i : Nat))], [.box [.im (.sl (strs g.inn)), .im (.sl (strs g.out)), .im (.sl (g.regs.map LReg.im)), .im (.sl (g.ands.map nd)), .im (.sl (ints g.outs))], .row 69 2 (((List.range i).map (enV g)).map nd) 0], up⟩) g.regs.length ⟨0, rfl, by omega, rfl⟩ fun m s hI => ?_
    obtain ⟨i, rfl, hi, rfl⟩ := hI
    have hdn : (((List.range i).map (enV g)).map nd).length = i := by simp
    have hap : (i + 1) * 16 ≤ 140737488355328 := by omega
    refine Run.seq ?_
    have fx := And.intro hap (And.intro hdn (And.intro strs_len (And.intro rim_len ft)))
    refine Run.go ?_
    refine End.kp [1, 5, 14, 15, 16, 17] ?_
    refine Run.seq ?_
    refine Run.cond _ rfl (fun hb => ?_) (fun hb => ?_)
    · have hb2 := of_decide_eq_true hb
      have hin : i < g.regs.length := by omega
      have wi := wsucc hin (by omega)
      obtain ⟨r, hri, hrm, hr⟩ := reg_at g.regs i hin
      obtain ⟨x1, x2⟩ := hg.regs r hrm
      have w1 : IntKind.i64.wrap (1 + (g.inn.length : Int)) = 1 + (g.inn.length : Int) := wrap64 (by omega)
      have w2 : IntKind.i64.wrap (1 + (g.inn.length : Int) + i) = 1 + (g.inn.length : Int) + i := wrap64 (by omega)
      have hen : enV g i = findV g r.next (2 * (1 + (g.inn.length : Int) + i)) := by simp [enV, hri]
      refine Run.skip ?_
      refine End.kp [1, 5, 14, 15, 16] ?_
      refine Run.seq ?_
      refine Run.block ?_
      refine Run.seq ?_
      have fx := And.intro (@Int.toNat_natCast) (And.intro (@Int.natCast_nonneg) (And.intro w2 (And.intro w1 (And.intro hr (And.intro wi (And.intro hap (And.intro hdn (And.intro strs_len (And.intro rim_len ft)))))))))
      refine Run.go ?_
      refine End.kp [1, 5, 6, 7, 14, 15, 16] ?_
      refine Run.ghost (.spares 1) ?_
      simp only [ASt.pushN, ASt.push, List.append_assoc, List.cons_append, List.nil_append]
      refine Run.drawA fun K hK => ?_
      refine DOps.sim ?_
      refine DOps.call (.i (2 * (1 + (g.inn.length : Int) + i))) [] [] rfl rfl rfl rfl (by kernel_rfl) (by simp [Agree]) (fun u hu => Make_ok (1 + (g.inn.length : Int) + i) (by omega) (by omega) u) ?_
      refine DOps.sim ?_
      refine DOps.call (.agg [.i (findV g r.next (2 * (1 + (g.inn.length : Int) + i))).1, .i (findV g r.next (2 * (1 + (g.inn.length : Int) + i))).2]) [] [] rfl rfl rfl rfl (by kernel_rfl) (by simp [Agree]) (fun u hu => find_ok g hg r.next (2 * (1 + (g.inn.length : Int) + i)) x1 x2 (by omega) (by omega) u) ?_
      refine DOps.sim ?_
      refine DOps.nil (by rfl) (hK _ ?_); clear hK K
      refine End.blk ?_
      refine End.kp [1, 5, 14, 15, 16] ?_
      refine Run.go ?_
      refine End.lp ?_
      refine ⟨g.regs.length - (i + 1), _, by omega, Ghost.form [(1, .ptr 0 0 0), (5, .ms 0 1 (i + 1)), (14, .im (.sl (g.regs.map LReg.im))), (15, .i g.regs.length), (16, .i (i + 1 : Nat))] 2 ⟨rfl, rfl, rfl, rfl, rfl, trivial⟩ rfl rfl, i + 1, rfl, by omega, ?_⟩
      rw [List.range_succ, ← hen]
      simp
    · have hb2 := of_decide_eq_false hb
      have hiN : i = g.regs.length := by omega
      subst hiN
      refine Run.exit rfl ?_
      refine End.kp [5] ?_
      refine Run.seq ?_
      refine Run.ghost (Ghost.shut (t := 5) (j := 1) rfl rfl hdn) ?_
      simp only [eput, edel]
      have fx := And.intro hap (And.intro hdn (And.intro strs_len (And.intro rim_len ft)))
      refine Run.go ?_
      refine End.kp [2, 3] ?_
      refine Run.ret (hQ _ _ ⟨.inr rfl, _, rfl, _, rfl, ?_⟩)
      exact ⟨rfl, rfl⟩
abbrev strB (n : UInt8) : ByteArray := ⟨#[n]⟩
abbrev gateG : LGraph := ⟨[], [], [⟨strB 114, 2, false⟩, ⟨strB 113, 3, false⟩], [], []⟩
theorem strB_ok (n : UInt8) (h : 33 ≤ n.toNat) (h2 : n.toNat ≤ 126) : NameOk (strB n) := by
  refine ⟨by simp [ByteArray.size], by simp [ByteArray.size], fun b hb => ?_⟩
  simp at hb
  subst hb
  exact ⟨h, h2⟩
theorem gateG_ok : GraphOk gateG := by
  refine ⟨⟨by simp, by simp, by simp, by simp, by simp⟩, ?_, ?_, by simp, by simp, rfl, by simp, ?_, by simp⟩
  · intro s hs
    simp at hs
    rcases hs with rfl | rfl
    · exact strB_ok 114 (by decide) (by decide)
    · exact strB_ok 113 (by decide) (by decide)
  · simp
  · intro r hr
    simp at hr
    rcases hr with rfl | rfl <;> simp
theorem gateG_en : enablesV gateG = [(0, 0), (1, 3)] := by decide
theorem gated_ok (up : Frs) : ACalls Try.prog 19 [] up fun v u => v = .im (.bool true) ∧ u = up := by
  have h22 : (((2 : Nat) : Int) == 2) = true := rfl
  have h02 : (0 : Int) < ((2 : Nat) : Int) := by omega
  have h12 : (1 : Int) < ((2 : Nat) : Int) := by omega
  have h00 : ((0 : Int) == 0) = true := rfl
  refine ACalls.code Try.func19 rfl 32 rfl (by simp) [.tmp 0] rfl fun Q hQ => ?_
  simp only [ups, PV.up, argEnv]
  have ft := And.intro ty_2 (And.intro ty_3 (And.intro ty_4 (And.intro ty_29 (And.intro ty_33 (And.intro ty_34 (And.intro ty_39 (And.intro ty_47 (And.intro ty_54 (And.intro ty_69 trivial)))))))))
  refine Run.seq ?_
  have fx := And.intro h00 (And.intro h12 (And.intro h02 (And.intro h22 ft)))
  refine Run.go ?_
  refine End.kp [] ?_
  refine Run.seq ?_
  refine Run.region rfl fun K hK => GOps.sim ?_
  refine GOps.call rfl rfl rfl rfl (by kernel_rfl) (ACalls.sim ?_)
  refine (Enables_ok gateG gateG_ok _).mono fun v u hv => ?_
  obtain ⟨rfl, rfl⟩ := hv
  rw [gateG_en]
  have fx := And.intro h00 (And.intro h12 (And.intro h02 (And.intro h22 ft)))
  refine ⟨_, _, rfl, GOps.sim ?_⟩
  refine GOps.done (hK _ ?_); clear hK K
  refine End.kp [1, 2] ?_
  refine Run.seq ?_
  refine Run.go ?_
  refine End.kp [0] ?_
  refine Run.ret (hQ _ _ ⟨.inr rfl, _, rfl, _, rfl, ?_⟩)
  exact ⟨rfl, rfl⟩
-- GONE gat_ok
end Go.Proofs.YtdgpmopcmacicaaPi

/- The walk of GatingHolds. -/
set_option linter.unusedVariables false
set_option linter.unusedSimpArgs false
namespace Go.Proofs.YtdgpmopcmacicaaPi
set_option maxHeartbeats 4000000
-- GONE Gating_walk
end Go.Proofs.YtdgpmopcmacicaaPi

/- Plain law of GatingHolds: what is found is how a register keeps its value. -/
set_option linter.unusedVariables false
set_option linter.unusedSimpArgs false
namespace Go.Proofs.YtdgpmopcmacicaaPi

/-- A register that keeps its value q unless its enable is 1. -/
def keepsB (en d q : BitVec 64) : BitVec 64 := (en &&& d) ||| (~~~ en &&& q)
section
variable {g : LGraph} (hg : GraphOk g) {inn st : List Int} (h1 : inn.length = g.inn.length) (h2 : st.length = g.regs.length)
abbrev gb (g : LGraph) (inn st : List Int) (l : Int) : BitVec 64 := litB (graphVals g inn st) l
include hg h1 h2
theorem flip_and (l : Int) (h0 : 0 ≤ l) {x : Int × Int} (h : nodeOf g (flipL l) = some x) : gb g inn st l = ~~~ (gb g inn st x.1 &&& gb g inn st x.2) := by
  have e := g_nodeOf hg h1 h2 h
  rw [litB_flip _ _ h0] at e
  rw [← e]
  apply bv_ext
  intro i hi
  simp [gb, hi]
theorem hit_keeps (q : Int) (q0 : 0 ≤ q) (p s : Int × Int) (hs : 0 ≤ s.1) (h : hitM q p s = true) : gb g inn st p.1 &&& gb g inn st p.2 = ~~~ gb g inn st s.1 &&& gb g inn st q := by
  have _ := hg
  have _ := h1
  have _ := h2
  simp only [hitM, Bool.or_eq_true, Bool.and_eq_true, beq_iff_eq] at h
  rcases h with ⟨h, h'⟩ | ⟨h, h'⟩
  · rw [h, h', gb, litB_flip _ _ hs]
  · rw [h, h']
    simp only [gb, litB_flip _ _ hs]
    apply bv_ext
    intro i hi
    simp only [BitVec.getLsbD_and]
    rw [Bool.and_comm]
theorem find_law (next q : Int) (h0 : 0 ≤ next) (hn : next < 2 * (1 + (g.inn.length : Int) + g.regs.length + g.ands.length)) (q0 : 0 ≤ q) (q1 : q < 2 * (1 + (g.inn.length : Int) + g.regs.length + g.ands.length)) :
    ((0 ≤ (findV g next q).1 ∧ (findV g next q).1 < 2 * (1 + (g.inn.length : Int) + g.regs.length + g.ands.length)) ∧ (0 ≤ (findV g next q).2 ∧ (findV g next q).2 < 2 * (1 + (g.inn.length : Int) + g.regs.length + g.ands.length))) ∧
    gb g inn st next = keepsB (gb g inn st (findV g next q).1) (gb g inn st (findV g next q).2) (gb g inn st q) := by
  have off := g_off hg h1 h2
  have on := g_on hg h1 h2
  have rng : ∀ {l : Int} {x : Int × Int}, nodeOf g l = some x → (0 ≤ x.1 ∧ x.1 < 2 * (1 + (g.inn.length : Int) + g.regs.length + g.ands.length)) ∧ 0 ≤ x.2 ∧ x.2 < 2 * (1 + (g.inn.length : Int) + g.regs.length + g.ands.length) := fun h => by
    obtain ⟨i, hi, _⟩ := nodeOf_mem h
    have := hg.ands i _ hi
    have := (List.getElem?_eq_some_iff.1 hi).1
    omega
  unfold findV
  by_cases hne : next = q
  · rw [if_pos hne]
    refine ⟨by omega, ?_⟩
    subst hne
    simp only [gb, keepsB, off]
    apply bv_ext
    intro i hi
    simp only [BitVec.getLsbD_not, BitVec.getLsbD_and, BitVec.getLsbD_or, hi, decide_true, Bool.true_and, BitVec.getLsbD_zero, Bool.and_false, Bool.false_or, Bool.not_false]
  rw [if_neg hne]
  cases hm : muxV g next q with
  | some s =>
    simp only
    unfold muxV at hm
    simp only [Option.bind_eq_some_iff] at hm
    obtain ⟨x, hx, a, ha, b, hb, hp⟩ := hm
    obtain ⟨⟨x1, x2⟩, x3, x4⟩ := rng hx
    obtain ⟨⟨a1, a2⟩, a3, a4⟩ := rng ha
    obtain ⟨⟨b1, b2⟩, b3, b4⟩ := rng hb
    have ex := flip_and hg h1 h2 next h0 hx
    have ea := flip_and hg h1 h2 x.1 x1 ha
    have eb := flip_and hg h1 h2 x.2 x3 hb
    have main : ∀ (s p r : Int × Int), ((p = a ∧ r = b) ∨ (p = b ∧ r = a)) → (s = p ∨ s = swapP p) → hitM q r s = true →
        ((0 ≤ s.1 ∧ s.1 < 2 * (1 + (g.inn.length : Int) + g.regs.length + g.ands.length)) ∧ (0 ≤ s.2 ∧ s.2 < 2 * (1 + (g.inn.length : Int) + g.regs.length + g.ands.length))) ∧ gb g inn st next = keepsB (gb g inn st s.1) (gb g inn st s.2) (gb g inn st q) := by
      intro s p r hpr hsp hh
      have hrs : (0 ≤ s.1 ∧ s.1 < 2 * (1 + (g.inn.length : Int) + g.regs.length + g.ands.length)) ∧ (0 ≤ s.2 ∧ s.2 < 2 * (1 + (g.inn.length : Int) + g.regs.length + g.ands.length)) := by
        have hs1 : (s.1 = p.1 ∧ s.2 = p.2) ∨ (s.1 = p.2 ∧ s.2 = p.1) := by rcases hsp with rfl | rfl <;> simp
        rcases hpr with ⟨rfl, rfl⟩ | ⟨rfl, rfl⟩ <;> exact ⟨by omega, by omega⟩
      refine ⟨hrs, ?_⟩
      have hk := hit_keeps hg h1 h2 q q0 r s hrs.1.1 hh
      have hs2 : gb g inn st s.1 &&& gb g inn st s.2 = gb g inn st p.1 &&& gb g inn st p.2 := by
        rcases hsp with rfl | rfl
        · rfl
        · simp only [swapP]
          apply bv_ext
          intro i hi
          simp only [BitVec.getLsbD_and]
          rw [Bool.and_comm]
      rw [keepsB, hs2, ← hk, ex, ea, eb]
      rcases hpr with ⟨rfl, rfl⟩ | ⟨rfl, rfl⟩
      · apply bv_ext
        intro i hi
        simp [hi]
      · apply bv_ext
        intro i hi
        simp only [BitVec.getLsbD_not, BitVec.getLsbD_and, BitVec.getLsbD_or, hi, decide_true, Bool.true_and]
        cases (gb g inn st p.1).getLsbD i <;> cases (gb g inn st p.2).getLsbD i <;> cases (gb g inn st r.1).getLsbD i <;> cases (gb g inn st r.2).getLsbD i <;> rfl
    unfold pickM at hp
    split at hp
    · rename_i ht
      simp only [Option.some.injEq] at hp
      subst hp
      exact main _ a b (.inl ⟨rfl, rfl⟩) (.inl rfl) ht
    split at hp
    · rename_i ht
      simp only [Option.some.injEq] at hp
      subst hp
      exact main _ a b (.inl ⟨rfl, rfl⟩) (.inr rfl) ht
    split at hp
    · rename_i ht
      simp only [Option.some.injEq] at hp
      subst hp
      exact main _ b a (.inr ⟨rfl, rfl⟩) (.inl rfl) ht
    split at hp
    · rename_i ht
      simp only [Option.some.injEq] at hp
      subst hp
      exact main _ b a (.inr ⟨rfl, rfl⟩) (.inr rfl) ht
    · simp at hp
  | none =>
    simp only
    cases hc : (nodeOf g next).bind (clearV q) with
    | some s =>
      simp only
      simp only [Option.bind_eq_some_iff] at hc
      obtain ⟨x, hx, hc⟩ := hc
      obtain ⟨⟨x1, x2⟩, x3, x4⟩ := rng hx
      have ex := g_nodeOf hg h1 h2 hx
      have f1 := flipL_lt x.1 _ x1 x2
      have f2 := flipL_lt x.2 _ x3 x4
      unfold clearV at hc
      split at hc
      · rename_i e
        simp only [Option.some.injEq] at hc
        subst hc
        refine ⟨⟨f2, by omega, by omega⟩, ?_⟩
        simp only [gb, keepsB, off, litB_flip _ _ x3, ex, e]
        apply bv_ext
        intro i hi
        simp only [BitVec.getLsbD_not, BitVec.getLsbD_and, BitVec.getLsbD_or, hi, decide_true, Bool.true_and, BitVec.getLsbD_zero, Bool.and_false, Bool.false_or, Bool.not_not]
        rw [Bool.and_comm]
      split at hc
      · rename_i e
        simp only [Option.some.injEq] at hc
        subst hc
        refine ⟨⟨f1, by omega, by omega⟩, ?_⟩
        simp only [gb, keepsB, off, litB_flip _ _ x1, ex, e]
        apply bv_ext
        intro i hi
        simp only [BitVec.getLsbD_not, BitVec.getLsbD_and, BitVec.getLsbD_or, hi, decide_true, Bool.true_and, BitVec.getLsbD_zero, Bool.and_false, Bool.false_or, Bool.not_not]
      · simp at hc
    | none =>
      simp only
      cases hd : (nodeOf g (flipL next)).bind (setV q) with
      | some s =>
        simp only
        simp only [Option.bind_eq_some_iff] at hd
        obtain ⟨x, hx, hd⟩ := hd
        obtain ⟨⟨x1, x2⟩, x3, x4⟩ := rng hx
        have ex := flip_and hg h1 h2 next h0 hx
        have f1 := flipL_lt x.1 _ x1 x2
        have f2 := flipL_lt x.2 _ x3 x4
        unfold setV at hd
        split at hd
        · rename_i e
          simp only [Option.some.injEq] at hd
          subst hd
          refine ⟨⟨f2, by omega, by omega⟩, ?_⟩
          simp only [gb, keepsB, on, litB_flip _ _ x3] at ex ⊢
          rw [ex, e, litB_flip _ _ q0]
          apply bv_ext
          intro i hi
          simp only [BitVec.getLsbD_not, BitVec.getLsbD_and, BitVec.getLsbD_or, BitVec.getLsbD_allOnes, hi, decide_true, Bool.true_and, Bool.and_true, Bool.not_not]
          cases (litB (graphVals g inn st) q).getLsbD i <;> cases (litB (graphVals g inn st) x.2).getLsbD i <;> rfl
        split at hd
        · rename_i e
          simp only [Option.some.injEq] at hd
          subst hd
          refine ⟨⟨f1, by omega, by omega⟩, ?_⟩
          simp only [gb, keepsB, on, litB_flip _ _ x1] at ex ⊢
          rw [ex, e, litB_flip _ _ q0]
          apply bv_ext
          intro i hi
          simp only [BitVec.getLsbD_not, BitVec.getLsbD_and, BitVec.getLsbD_or, BitVec.getLsbD_allOnes, hi, decide_true, Bool.true_and, Bool.and_true, Bool.not_not]
          cases (litB (graphVals g inn st) q).getLsbD i <;> cases (litB (graphVals g inn st) x.1).getLsbD i <;> rfl
        · simp at hd
      | none =>
        simp only
        refine ⟨by omega, ?_⟩
        simp only [gb, keepsB, on]
        apply bv_ext
        intro i hi
        simp only [BitVec.getLsbD_not, BitVec.getLsbD_and, BitVec.getLsbD_or, BitVec.getLsbD_allOnes, hi, decide_true, Bool.true_and, Bool.not_true, Bool.false_and, Bool.or_false]
end
end Go.Proofs.YtdgpmopcmacicaaPi

/- Plain law: bit 0 of words. -/
set_option linter.unusedVariables false
set_option linter.unusedSimpArgs false
namespace Go.Proofs.YtdgpmopcmacicaaPi

/-- Bit 0 of a word. -/
def bit0 (x : Int) : Bool := (BitVec.ofInt 64 x).getLsbD 0
theorem back0 (r : BitVec 64) : bit0 (IntKind.u64.wrap r.toNat) = r.getLsbD 0 := by
  have h : IntKind.u64.wrap r.toNat = r.toNat := wrapU (by have := r.isLt; omega)
  rw [bit0, h]
  congr 1
  apply BitVec.eq_of_toNat_eq
  simp
theorem bit0_and (x y : Int) : bit0 (bits .and .u64 x y) = (bit0 x && bit0 y) := by
  show bit0 (IntKind.u64.wrap (BitVec.ofInt 64 x &&& BitVec.ofInt 64 y).toNat) = _
  rw [back0, BitVec.getLsbD_and]
  rfl
theorem bit0_or (x y : Int) : bit0 (bits .or .u64 x y) = (bit0 x || bit0 y) := by
  show bit0 (IntKind.u64.wrap (BitVec.ofInt 64 x ||| BitVec.ofInt 64 y).toNat) = _
  rw [back0, BitVec.getLsbD_or]
  rfl
theorem bit0_not (y : Int) : bit0 (bits .xor .u64 (if IntKind.u64.signed = true then -1 else IntKind.u64.max) y) = !bit0 y := by
  show bit0 (IntKind.u64.wrap (BitVec.ofInt 64 _ ^^^ BitVec.ofInt 64 y).toNat) = _
  rw [back0, BitVec.getLsbD_xor]
  have : (BitVec.ofInt 64 (if IntKind.u64.signed = true then -1 else IntKind.u64.max)).getLsbD 0 = true := by decide
  rw [this]
  simp [bit0]
theorem one_iff (x : Int) : (bits .and .u64 x 1 == 1) = bit0 x := by
  have h1 : bits .and .u64 x 1 = ((BitVec.ofInt 64 x &&& 1#64).toNat : Int) := by
    show IntKind.u64.wrap (BitVec.ofInt 64 x &&& BitVec.ofInt 64 1).toNat = _
    rw [wrapU (by have := (BitVec.ofInt 64 x &&& BitVec.ofInt 64 1).isLt; omega)]
    rfl
  rw [h1, bit0]
  generalize BitVec.ofInt 64 x = b
  have h2 : (b &&& 1#64).toNat = b.toNat % 2 := by
    rw [BitVec.toNat_and]
    exact Nat.and_one_is_mod _
  have h3 : b.getLsbD 0 = decide (b.toNat % 2 = 1) := by
    rw [BitVec.getLsbD, Nat.testBit_zero]
  rw [h2, h3]
  by_cases h : b.toNat % 2 = 1
  · simp [h]
  · have h0 : b.toNat % 2 = 0 := by omega
    simp [h0]
end Go.Proofs.YtdgpmopcmacicaaPi

/- The walk of Form: a netlist whose parts are in order is accepted. -/
set_option linter.unusedVariables false
set_option linter.unusedSimpArgs false
set_option maxRecDepth 100000
namespace Go.Proofs.YtdgpmopcmacicaaPi

structure NetOk (n : LNet) : Prop where
  small : NetSmall n
  names : ∀ s ∈ n.inn ++ n.flops.map LFlop.name, NameOk s
  nodup : (n.inn ++ n.flops.map LFlop.name).Nodup
  onames : ∀ s ∈ n.out, NameOk s
  onodup : n.out.Nodup
  olen : n.out.length = n.outs.length
  gates : ∀ (i : Nat) (g : LGate), n.gates[i]? = some g → g.ins.length ≤ 6 ∧ bits .andNot .u64 g.table (2 ^ ((2 : Int) ^ g.ins.length).toNat - 1) = 0 ∧ ∀ k ∈ g.ins, 0 ≤ k ∧ k < 2 + n.inn.length + n.flops.length + i
  ends : EndsOk n
abbrev nms (n : LNet) (i : Nat) : List ByteArray := n.inn ++ (n.flops.take i).map LFlop.name
theorem nms_len (n : LNet) (i : Nat) (h : i ≤ n.flops.length) : (strs (nms n i)).length = n.inn.length + i := by simp; omega
theorem nms_next (n : LNet) (i : Nat) (f : LFlop) (h : n.flops[i]? = some f) : nms n (i + 1) = nms n i ++ [f.name] := by simp [nms, List.take_add_one, h]
theorem Form_ok (n : LNet) (hn : NetOk n) (up : Frs) : ACalls Try.prog 83 [n.pv] up fun v u => v = .i 0 ∧ u = up := by
  have hsm := hn.small
  obtain ⟨z1, z2, z3, z4, z5⟩ := hn.small
  have d1 : decide ((n.inn.length : Int) > 128) = false := decide_eq_false (by omega)
  have d2 : decide ((n.out.length : Int) > 128) = false := decide_eq_false (by omega)
  have d3 : decide ((n.flops.length : Int) > 288) = false := decide_eq_false (by omega)
  have d4 : decide ((n.gates.length : Int) > 1200) = false := decide_eq_false (by omega)
  have d5 : ((n.out.length : Int) != n.outs.length) = false := by rw [hn.olen]; simp
  refine ACalls.code Try.func83 rfl 111 rfl (by simp) [.tmp 2] rfl fun Q hQ => ?_
  simp only [ups, PV.up, argEnv]
  have ft := And.intro ty_2 (And.intro ty_3 (And.intro ty_4 (And.intro ty_9 (And.intro ty_22 (And.intro ty_27 (And.intro ty_39 (And.intro ty_57 (And.intro ty_58 (And.intro ty_60 (And.intro ty_171 (And.intro ty_197 (And.intro ty_200 trivial))))))))))))
  refine Run.seq ?_
  have fx := And.intro d5 (And.intro d4 (And.intro d3 (And.intro d2 (And.intro d1 (And.intro ints_len (And.intro gim_len (And.intro fim_len (And.intro strs_len ft))))))))
  refine Run.go ?_
  refine End.kp [1] ?_
  refine Run.seq ?_
  refine Run.seq ?_
  refine Run.go ?_
  refine End.kp [1, 34] ?_
  refine Run.cond _ rfl (fun hb => ?_) (fun hb => ?_)
  · have hb := hb
    simp at hb
  · have hb := hb
    refine Run.skip ?_
    refine End.kp [1] ?_
    refine Run.seq ?_
    refine Run.seq ?_
    have fx := And.intro d5 (And.intro d4 (And.intro d3 (And.intro d2 (And.intro d1 (And.intro ints_len (And.intro gim_len (And.intro fim_len (And.intro strs_len ft))))))))
    refine Run.go ?_
    refine End.kp [1, 41] ?_
    refine Run.cond _ rfl (fun hb => ?_) (fun hb => ?_)
    · have hb := hb
      simp at hb
    · have hb := hb
      refine Run.skip ?_
      refine End.kp [1] ?_
      refine Run.seq ?_
      have fx := And.intro d5 (And.intro d4 (And.intro d3 (And.intro d2 (And.intro d1 (And.intro ints_len (And.intro gim_len (And.intro fim_len (And.intro strs_len ft))))))))
      refine Run.region rfl fun K hK => GOps.sim ?_
      refine GOps.call rfl rfl rfl rfl (by kernel_rfl) (ACalls.sim ?_)
      refine (CloneX_ok n.inn (by omega) _ _).mono fun v u hv => ?_
      obtain ⟨rfl, rfl⟩ := hv
      refine ⟨_, _, rfl, GOps.sim ?_⟩
      refine GOps.done (hK _ ?_); clear hK K
      refine End.kp [1, 3] ?_
      refine Run.seq ?_
      refine Run.seq ?_
      refine Run.go ?_
      refine End.kp [1, 3, 46, 47, 48] ?_
      refine Run.block ?_
      refine Run.ghost (Ghost.form [(1, .ptr 0 0 0), (3, .ms 0 1 (n.inn.length + 0)), (46, .im (.sl (n.flops.map LFlop.im))), (47, .i n.flops.length), (48, .i (0 : Nat))] 2 ⟨rfl, rfl, rfl, rfl, rfl, trivial⟩ rfl rfl) ?_
      refine Run.loop (fun m st => ∃ (i : Nat), m = n.flops.length - i ∧ i ≤ n.flops.length ∧ st = ⟨[(1, .ptr 0 0 0), (3, .ms 0 1 (n.inn.length + i)), (46, .im (.sl (n.flops.map LFlop.im))), (47, .i n.flops.length), (48, .i (i : Nat))], [.box [.im (.sl (strs n.inn)), .im (.sl (strs n.out)), .im (.sl (n.flops.map LFlop.im)), .im (.sl (n.gates.map LGate.im)), .im (.sl (ints n.outs))], .row 9 1 (strs (nms n i)) 0], up⟩) n.flops.length ⟨0, rfl, by omega, by simp⟩ fun m st hI => ?_
      obtain ⟨i, rfl, hi, rfl⟩ := hI
      have hsl := nms_len n i hi
      have hap : (n.inn.length + i + 1) * 16 ≤ 140737488355328 := by omega
      refine Run.seq ?_
      have fx := And.intro hap (And.intro hsl (And.intro d5 (And.intro d4 (And.intro d3 (And.intro d2 (And.intro d1 (And.intro ints_len (And.intro gim_len (And.intro fim_len (And.intro strs_len ft))))))))))
      refine Run.go ?_
      refine End.kp [1, 3, 46, 47, 48, 49] ?_
      refine Run.seq ?_
      refine Run.cond _ rfl (fun hb => ?_) (fun hb => ?_)
      · have hb := of_decide_eq_true hb
        have hin : i < n.flops.length := by omega
        have wi := wsucc hin (by omega)
        obtain ⟨f, hf, hfm, hg⟩ := flop_at n.flops i hin
        refine Run.skip ?_
        refine End.kp [1, 3, 46, 47, 48] ?_
        refine Run.seq ?_
        refine Run.block ?_
        refine Run.seq ?_
        have fx := And.intro (@Int.toNat_natCast) (And.intro (@Int.natCast_nonneg) (And.intro hg (And.intro wi (And.intro hap (And.intro hsl (And.intro d5 (And.intro d4 (And.intro d3 (And.intro d2 (And.intro d1 (And.intro ints_len (And.intro gim_len (And.intro fim_len (And.intro strs_len ft))))))))))))))
        refine Run.go ?_
        refine End.kp [1, 3, 5, 46, 47, 48] ?_
        refine Run.go ?_
        refine End.blk ?_
        refine End.kp [1, 3, 46, 47, 48] ?_
        refine Run.go ?_
        refine End.lp ?_
        refine ⟨n.flops.length - (i + 1), _, by omega, Ghost.form [(1, .ptr 0 0 0), (3, .ms 0 1 (n.inn.length + (i + 1))), (46, .im (.sl (n.flops.map LFlop.im))), (47, .i n.flops.length), (48, .i (i + 1 : Nat))] 2 ⟨rfl, rfl, rfl, rfl, rfl, trivial⟩ rfl rfl, i + 1, rfl, by omega, ?_⟩
        rw [nms_next n i f hf]
        simp
      · have hb := of_decide_eq_false hb
        have hiN : i = n.flops.length := by omega
        subst hiN
        have hall : nms n n.flops.length = n.inn ++ n.flops.map LFlop.name := by simp [nms]
        refine Run.exit rfl ?_
        refine End.kp [1, 3] ?_
        refine Run.seq ?_
        refine Run.seq ?_
        have fx := And.intro hap (And.intro hsl (And.intro d5 (And.intro d4 (And.intro d3 (And.intro d2 (And.intro d1 (And.intro ints_len (And.intro gim_len (And.intro fim_len (And.intro strs_len ft))))))))))
        refine Run.region rfl fun K hK => GOps.sim ?_
        refine GOps.call rfl rfl rfl rfl (by kernel_rfl) (ACalls.sim ?_)
        refine (Names_ok (nms n n.flops.length) (by rw [hall]; simp; omega) (by rw [hall]; exact hn.names) (by rw [hall]; exact hn.nodup) _).mono fun v u hv => ?_
        obtain ⟨rfl, rfl⟩ := hv
        refine ⟨_, _, rfl, GOps.sim ?_⟩
        refine GOps.done (hK _ ?_); clear hK K
        refine End.kp [1, 6] ?_
        refine Run.seq ?_
        refine Run.go ?_
        refine End.kp [1, 6, 61] ?_
        refine Run.cond _ rfl (fun hb => ?_) (fun hb => ?_)
        · have hb := hb
          simp at hb
        · have hb := hb
          refine Run.skip ?_
          refine End.kp [1] ?_
          refine Run.seq ?_
          refine Run.seq ?_
          have fx := And.intro hap (And.intro hsl (And.intro d5 (And.intro d4 (And.intro d3 (And.intro d2 (And.intro d1 (And.intro ints_len (And.intro gim_len (And.intro fim_len (And.intro strs_len ft))))))))))
          refine Run.region rfl fun K hK => GOps.sim ?_
          refine GOps.call rfl rfl rfl rfl (by kernel_rfl) (ACalls.sim ?_)
          refine (Names_ok n.out (by omega) hn.onames hn.onodup _).mono fun v u hv => ?_
          obtain ⟨rfl, rfl⟩ := hv
          refine ⟨_, _, rfl, GOps.sim ?_⟩
          refine GOps.done (hK _ ?_); clear hK K
          refine End.kp [1, 7] ?_
          refine Run.seq ?_
          refine Run.go ?_
          refine End.kp [1, 7, 67] ?_
          refine Run.cond _ rfl (fun hb => ?_) (fun hb => ?_)
          · have hb := hb
            simp at hb
          · have hb := hb
            refine Run.skip ?_
            refine End.kp [1] ?_
            refine Run.seq ?_
            have fx := And.intro hap (And.intro hsl (And.intro d5 (And.intro d4 (And.intro d3 (And.intro d2 (And.intro d1 (And.intro ints_len (And.intro gim_len (And.intro fim_len (And.intro strs_len ft))))))))))
            refine Run.region rfl fun K hK => GOps.sim ?_
            refine GOps.call rfl rfl rfl rfl (by kernel_rfl) (ACalls.sim ?_)
            refine (First_ok n hsm _).mono fun v u hv => ?_
            obtain ⟨rfl, rfl⟩ := hv
            refine ⟨_, _, rfl, GOps.sim ?_⟩
            refine GOps.done (hK _ ?_); clear hK K
            refine End.kp [1, 8] ?_
            refine Run.seq ?_
            refine Run.seq ?_
            refine Run.go ?_
            refine End.kp [1, 8, 72, 73, 74] ?_
            refine Run.block ?_
            refine Run.ghost (Ghost.form [(1, .ptr 0 0 0), (8, .i (2 + n.inn.length + n.flops.length)), (72, .im (.sl (n.gates.map LGate.im))), (73, .i n.gates.length), (74, .i (0 : Nat))] 1 ⟨rfl, rfl, rfl, rfl, rfl, trivial⟩ rfl rfl) ?_
            refine Run.loop (fun m st => ∃ (i : Nat), m = n.gates.length - i ∧ i ≤ n.gates.length ∧ st = ⟨[(1, .ptr 0 0 0), (8, .i (2 + n.inn.length + n.flops.length)), (72, .im (.sl (n.gates.map LGate.im))), (73, .i n.gates.length), (74, .i (i : Nat))], [.box [.im (.sl (strs n.inn)), .im (.sl (strs n.out)), .im (.sl (n.flops.map LFlop.im)), .im (.sl (n.gates.map LGate.im)), .im (.sl (ints n.outs))]], up⟩) n.gates.length ⟨0, rfl, by omega, rfl⟩ fun m st hI => ?_
            obtain ⟨i, rfl, hi, rfl⟩ := hI
            refine Run.seq ?_
            have fx := And.intro hap (And.intro hsl (And.intro d5 (And.intro d4 (And.intro d3 (And.intro d2 (And.intro d1 (And.intro ints_len (And.intro gim_len (And.intro fim_len (And.intro strs_len ft))))))))))
            refine Run.go ?_
            refine End.kp [1, 8, 72, 73, 74, 75] ?_
            refine Run.seq ?_
            refine Run.cond _ rfl (fun hb => ?_) (fun hb => ?_)
            · have hb := of_decide_eq_true hb
              have hin : i < n.gates.length := by omega
              have wi := wsucc hin (by omega)
              obtain ⟨g, hgi, hgm, hg⟩ := gate_at n.gates i hin
              obtain ⟨e1, e2, e3⟩ := hn.gates i g hgi
              have d6 : decide ((g.ins.length : Int) > 6) = false := decide_eq_false (by omega)
              have wfi : IntKind.i64.wrap (2 + (n.inn.length : Int) + n.flops.length + i) = 2 + (n.inn.length : Int) + n.flops.length + i := wrap64 (by omega)
              refine Run.skip ?_
              refine End.kp [1, 8, 72, 73, 74] ?_
              refine Run.seq ?_
              refine Run.block ?_
              refine Run.seq ?_
              have fx := And.intro (@Int.toNat_natCast) (And.intro (@Int.natCast_nonneg) (And.intro wfi (And.intro d6 (And.intro hg (And.intro wi (And.intro hap (And.intro hsl (And.intro d5 (And.intro d4 (And.intro d3 (And.intro d2 (And.intro d1 (And.intro ints_len (And.intro gim_len (And.intro fim_len (And.intro strs_len ft))))))))))))))))
              refine Run.go ?_
              refine End.kp [1, 8, 9, 10, 72, 73, 74] ?_
              refine Run.seq ?_
              refine Run.seq ?_
              refine Run.go ?_
              refine End.kp [1, 8, 9, 10, 72, 73, 74, 82] ?_
              refine Run.cond _ rfl (fun hb => ?_) (fun hb => ?_)
              · have hb := hb
                simp at hb
              · have hb := hb
                refine Run.skip ?_
                refine End.kp [1, 8, 9, 10, 72, 73, 74] ?_
                refine Run.seq ?_
                refine Run.seq ?_
                have fx := And.intro (@Int.toNat_natCast) (And.intro (@Int.natCast_nonneg) (And.intro wfi (And.intro d6 (And.intro hg (And.intro wi (And.intro hap (And.intro hsl (And.intro d5 (And.intro d4 (And.intro d3 (And.intro d2 (And.intro d1 (And.intro ints_len (And.intro gim_len (And.intro fim_len (And.intro strs_len ft))))))))))))))))
                refine Run.drawA fun K hK => ?_
                refine DOps.sim ?_
                refine DOps.call (.u (2 ^ ((2 : Int) ^ g.ins.length).toNat - 1)) [] [] rfl rfl rfl rfl (by kernel_rfl) (by simp [Agree]) (fun u hu => Mask_ok g.ins.length e1 u) ?_
                have fx := And.intro e2 (And.intro (@Int.toNat_natCast) (And.intro (@Int.natCast_nonneg) (And.intro wfi (And.intro d6 (And.intro hg (And.intro wi (And.intro hap (And.intro hsl (And.intro d5 (And.intro d4 (And.intro d3 (And.intro d2 (And.intro d1 (And.intro ints_len (And.intro gim_len (And.intro fim_len (And.intro strs_len ft)))))))))))))))))
                refine DOps.sim ?_
                refine DOps.nil (metAll_quiet rfl) (hK _ ?_); clear hK K
                refine End.kp [1, 8, 9, 10, 72, 73, 74, 90] ?_
                refine Run.cond _ rfl (fun hb => ?_) (fun hb => ?_)
                · have hb := hb
                  simp at hb
                · have hb := hb
                  refine Run.skip ?_
                  refine End.kp [1, 8, 9, 10, 72, 73, 74] ?_
                  refine Run.seq ?_
                  have fx := And.intro e2 (And.intro (@Int.toNat_natCast) (And.intro (@Int.natCast_nonneg) (And.intro wfi (And.intro d6 (And.intro hg (And.intro wi (And.intro hap (And.intro hsl (And.intro d5 (And.intro d4 (And.intro d3 (And.intro d2 (And.intro d1 (And.intro ints_len (And.intro gim_len (And.intro fim_len (And.intro strs_len ft)))))))))))))))))
                  refine Run.go ?_
                  refine End.kp [1, 8, 9, 72, 73, 74, 92, 93, 94] ?_
                  refine Run.block ?_
                  refine Run.ghost (Ghost.form [(1, .ptr 0 0 0), (8, .i (2 + n.inn.length + n.flops.length)), (9, .i (i : Nat)), (72, .im (.sl (n.gates.map LGate.im))), (73, .i n.gates.length), (74, .i (i : Nat)), (92, .im (.sl (ints g.ins))), (93, .i g.ins.length), (94, .i (0 : Nat))] 1 ⟨rfl, rfl, rfl, rfl, rfl, rfl, rfl, rfl, rfl, trivial⟩ rfl rfl) ?_
                  refine Run.loop (fun m st => ∃ (k : Nat), m = g.ins.length - k ∧ k ≤ g.ins.length ∧ st = ⟨[(1, .ptr 0 0 0), (8, .i (2 + n.inn.length + n.flops.length)), (9, .i (i : Nat)), (72, .im (.sl (n.gates.map LGate.im))), (73, .i n.gates.length), (74, .i (i : Nat)), (92, .im (.sl (ints g.ins))), (93, .i g.ins.length), (94, .i (k : Nat))], [.box [.im (.sl (strs n.inn)), .im (.sl (strs n.out)), .im (.sl (n.flops.map LFlop.im)), .im (.sl (n.gates.map LGate.im)), .im (.sl (ints n.outs))]], up⟩) g.ins.length ⟨0, rfl, by omega, rfl⟩ fun m st hI => ?_
                  obtain ⟨k, rfl, hk, rfl⟩ := hI
                  refine Run.seq ?_
                  have fx := And.intro e2 (And.intro (@Int.toNat_natCast) (And.intro (@Int.natCast_nonneg) (And.intro wfi (And.intro d6 (And.intro hg (And.intro wi (And.intro hap (And.intro hsl (And.intro d5 (And.intro d4 (And.intro d3 (And.intro d2 (And.intro d1 (And.intro ints_len (And.intro gim_len (And.intro fim_len (And.intro strs_len ft)))))))))))))))))
                  refine Run.go ?_
                  refine End.kp [1, 8, 9, 72, 73, 74, 92, 93, 94, 95] ?_
                  refine Run.seq ?_
                  refine Run.cond _ rfl (fun hb => ?_) (fun hb => ?_)
                  · have hb := of_decide_eq_true hb
                    have hkn : k < g.ins.length := by omega
                    have wk := wsucc hkn (by omega)
                    obtain ⟨x, _, hxm, hx⟩ := int_at g.ins k hkn
                    obtain ⟨x1, x2⟩ := e3 x hxm
                    have d7 : decide (x < 0) = false := decide_eq_false (by omega)
                    have d8 : decide (x ≥ 2 + (n.inn.length : Int) + n.flops.length + i) = false := decide_eq_false (by omega)
                    refine Run.skip ?_
                    refine End.kp [1, 8, 9, 72, 73, 74, 92, 93, 94] ?_
                    refine Run.seq ?_
                    refine Run.block ?_
                    refine Run.seq ?_
                    have fx := And.intro d8 (And.intro d7 (And.intro hx (And.intro wk (And.intro e2 (And.intro (@Int.toNat_natCast) (And.intro (@Int.natCast_nonneg) (And.intro wfi (And.intro d6 (And.intro hg (And.intro wi (And.intro hap (And.intro hsl (And.intro d5 (And.intro d4 (And.intro d3 (And.intro d2 (And.intro d1 (And.intro ints_len (And.intro gim_len (And.intro fim_len (And.intro strs_len ft)))))))))))))))))))))
                    refine Run.go ?_
                    refine End.kp [1, 8, 9, 12, 72, 73, 74, 92, 93, 94] ?_
                    refine Run.seq ?_
                    refine Run.go ?_
                    refine End.kp [1, 8, 9, 72, 73, 74, 92, 93, 94, 106] ?_
                    refine Run.cond _ rfl (fun hb => ?_) (fun hb => ?_)
                    · have hb := hb
                      simp at hb
                    · have hb := hb
                      refine Run.skip ?_
                      refine End.blk ?_
                      refine End.kp [1, 8, 9, 72, 73, 74, 92, 93, 94] ?_
                      have fx := And.intro d8 (And.intro d7 (And.intro hx (And.intro wk (And.intro e2 (And.intro (@Int.toNat_natCast) (And.intro (@Int.natCast_nonneg) (And.intro wfi (And.intro d6 (And.intro hg (And.intro wi (And.intro hap (And.intro hsl (And.intro d5 (And.intro d4 (And.intro d3 (And.intro d2 (And.intro d1 (And.intro ints_len (And.intro gim_len (And.intro fim_len (And.intro strs_len ft)))))))))))))))))))))
                      refine Run.go ?_
                      refine End.lp ?_
                      refine ⟨g.ins.length - (k + 1), _, by omega, Ghost.form [(1, .ptr 0 0 0), (8, .i (2 + n.inn.length + n.flops.length)), (9, .i (i : Nat)), (72, .im (.sl (n.gates.map LGate.im))), (73, .i n.gates.length), (74, .i (i : Nat)), (92, .im (.sl (ints g.ins))), (93, .i g.ins.length), (94, .i (k + 1 : Nat))] 1 ⟨rfl, rfl, rfl, rfl, rfl, rfl, rfl, rfl, rfl, trivial⟩ rfl rfl, k + 1, rfl, by omega, rfl⟩
                  · have hb := of_decide_eq_false hb
                    refine Run.exit rfl ?_
                    refine End.blk ?_
                    refine End.kp [1, 8, 72, 73, 74] ?_
                    have fx := And.intro e2 (And.intro (@Int.toNat_natCast) (And.intro (@Int.natCast_nonneg) (And.intro wfi (And.intro d6 (And.intro hg (And.intro wi (And.intro hap (And.intro hsl (And.intro d5 (And.intro d4 (And.intro d3 (And.intro d2 (And.intro d1 (And.intro ints_len (And.intro gim_len (And.intro fim_len (And.intro strs_len ft)))))))))))))))))
                    refine Run.go ?_
                    refine End.lp ?_
                    refine ⟨n.gates.length - (i + 1), _, by omega, Ghost.form [(1, .ptr 0 0 0), (8, .i (2 + n.inn.length + n.flops.length)), (72, .im (.sl (n.gates.map LGate.im))), (73, .i n.gates.length), (74, .i (i + 1 : Nat))] 1 ⟨rfl, rfl, rfl, rfl, rfl, trivial⟩ rfl rfl, i + 1, rfl, by omega, rfl⟩
            · have hb := of_decide_eq_false hb
              refine Run.exit rfl ?_
              refine End.kp [1] ?_
              refine Run.seq ?_
              have fx := And.intro hap (And.intro hsl (And.intro d5 (And.intro d4 (And.intro d3 (And.intro d2 (And.intro d1 (And.intro ints_len (And.intro gim_len (And.intro fim_len (And.intro strs_len ft))))))))))
              refine Run.region rfl fun K hK => GOps.sim ?_
              refine GOps.call rfl rfl rfl rfl (by kernel_rfl) (ACalls.sim ?_)
              refine (ends_ok n hsm hn.ends _).mono fun v u hv => ?_
              obtain ⟨rfl, rfl⟩ := hv
              refine ⟨_, _, rfl, GOps.sim ?_⟩
              refine GOps.done (hK _ ?_); clear hK K
              refine End.kp [2] ?_
              refine Run.ret (hQ _ _ ⟨.inr rfl, _, rfl, _, rfl, ?_⟩)
              exact ⟨rfl, rfl⟩
end Go.Proofs.YtdgpmopcmacicaaPi

/- The walks of values and Values: what all nets have. -/
set_option linter.unusedVariables false
set_option linter.unusedSimpArgs false
set_option maxRecDepth 100000
namespace Go.Proofs.YtdgpmopcmacicaaPi

def gateVal (g : LGate) (v : List Int) : Int := lookV g.table (g.ins.map fun k => v.getD k.toNat 0)
def valsN : List LGate → List Int → List Int
  | [], v => v
  | g :: gs, v => valsN gs (v ++ [gateVal g v])
def valuesV (n : LNet) (inn st : List Int) : List Int := valsN n.gates ([0, 18446744073709551615] ++ inn ++ st)
theorem gate_drop (l : List LGate) (i : Nat) (g : LGate) (h : l[i]? = some g) : l.drop i = g :: l.drop (i + 1) := by
  obtain ⟨hi, rfl⟩ := List.getElem?_eq_some_iff.1 h
  exact List.drop_eq_getElem_cons hi
theorem int_drop (l : List Int) (i : Nat) (g : Int) (h : l[i]? = some g) : l.take (i + 1) = l.take i ++ [g] := by simp [List.take_add_one, h]
theorem values_ok (n : LNet) (hn : NetOk n) (inn st : List Int) (h1 : inn.length = n.inn.length) (h2 : st.length = n.flops.length) (up : Frs) : ACalls Try.prog 86 [n.pv, .im (.sl (us inn)), .im (.sl (us st))] up fun v u => v = .im (.sl (us (valuesV n inn st))) ∧ u = up := by
  have hsm := hn.small
  obtain ⟨z1, z2, z3, z4, z5⟩ := hn.small
  have a1 : (2 + inn.length) * 8 ≤ 140737488355328 := by omega
  have a2 : (2 + inn.length + st.length) * 8 ≤ 140737488355328 := by omega
  have b1 : inn.length + 1 + 1 = 2 + inn.length := by omega
  have al : ∀ l : List Int, (us l).all (fun r => r.length == 1) = true := fun l => by simp
  refine ACalls.code Try.func86 rfl 50 rfl (by simp) [.tmp 6] rfl fun Q hQ => ?_
  simp only [ups, PV.up, argEnv]
  have ft := And.intro ty_2 (And.intro ty_3 (And.intro ty_22 (And.intro ty_58 (And.intro ty_60 (And.intro ty_98 (And.intro ty_171 (And.intro ty_200 trivial)))))))
  refine Run.seq ?_
  have fx := And.intro (@List.length_append.{0}) (And.intro b1 (And.intro al (And.intro a2 (And.intro a1 (And.intro ints_len (And.intro gim_len (And.intro us_len ft)))))))
  refine Run.go ?_
  refine End.kp [1, 2, 3] ?_
  refine Run.seq ?_
  refine Run.go ?_
  refine End.kp [2, 3, 7] ?_
  refine Run.seq ?_
  refine Run.go ?_
  refine End.kp [3, 7] ?_
  refine Run.seq ?_
  refine Run.seq ?_
  refine Run.go ?_
  refine End.kp [7, 20, 21, 22] ?_
  refine Run.block ?_
  refine Run.ghost (Ghost.form [(7, .ms 0 1 (2 + inn.length + st.length)), (20, .im (.sl (n.gates.map LGate.im))), (21, .i n.gates.length), (22, .i (0 : Nat))] 2 ⟨rfl, rfl, rfl, rfl, trivial⟩ rfl rfl) ?_
  refine Run.loop (fun m s => ∃ (i : Nat) (v : List Int), m = n.gates.length - i ∧ i ≤ n.gates.length ∧ v.length = 2 + inn.length + st.length + i ∧ valsN (n.gates.drop i) v = valuesV n inn st ∧ s = ⟨[(7, .ms 0 1 v.length), (20, .im (.sl (n.gates.map LGate.im))), (21, .i n.gates.length), (22, .i (i : Nat))], [.box [.im (.sl (strs n.inn)), .im (.sl (strs n.out)), .im (.sl (n.flops.map LFlop.im)), .im (.sl (n.gates.map LGate.im)), .im (.sl (ints n.outs))], .row 171 1 (us v) 0], up⟩) n.gates.length ⟨0, [0, 18446744073709551615] ++ inn ++ st, rfl, by omega, by simp; omega, rfl, ?_⟩ fun m s hI => ?_
  · simp
    omega
  obtain ⟨i, v, rfl, hi, hvl, hV, rfl⟩ := hI
  have hav : (v.length + 1) * 8 ≤ 140737488355328 := by omega
  refine Run.seq ?_
  have fx := And.intro hav (And.intro (@List.length_append.{0}) (And.intro b1 (And.intro al (And.intro a2 (And.intro a1 (And.intro ints_len (And.intro gim_len (And.intro us_len ft))))))))
  refine Run.go ?_
  refine End.kp [7, 20, 21, 22, 23] ?_
  refine Run.seq ?_
  refine Run.cond _ rfl (fun hb => ?_) (fun hb => ?_)
  · have hb := of_decide_eq_true hb
    have hin : i < n.gates.length := by omega
    have wi := wsucc hin (by omega)
    obtain ⟨g, hgi, hgm, hg⟩ := gate_at n.gates i hin
    obtain ⟨e1, e2, e3⟩ := hn.gates i g hgi
    rw [gate_drop _ i g hgi, valsN] at hV
    refine Run.skip ?_
    refine End.kp [7, 20, 21, 22] ?_
    refine Run.seq ?_
    refine Run.block ?_
    refine Run.seq ?_
    have fx := And.intro (@Int.toNat_natCast) (And.intro (@Int.natCast_nonneg) (And.intro hg (And.intro wi (And.intro hav (And.intro (@List.length_append.{0}) (And.intro b1 (And.intro al (And.intro a2 (And.intro a1 (And.intro ints_len (And.intro gim_len (And.intro us_len ft))))))))))))
    refine Run.go ?_
    refine End.kp [7, 9, 20, 21, 22] ?_
    refine Run.seq ?_
    refine Run.go ?_
    refine End.kp [7, 9, 10, 20, 21, 22] ?_
    refine Run.seq ?_
    refine Run.seq ?_
    refine Run.go ?_
    refine End.kp [7, 9, 10, 20, 21, 22, 27, 28, 29] ?_
    refine Run.block ?_
    refine Run.ghost (Ghost.thaw (u := 10) 171 1 (by decide) rfl) ?_
    refine Run.ghost (Ghost.form [(7, .ms 0 1 v.length), (9, .ptr 0 2 0), (10, .ms 0 3 0), (20, .im (.sl (n.gates.map LGate.im))), (21, .i n.gates.length), (22, .i (i : Nat)), (27, .im (.sl (ints g.ins))), (28, .i g.ins.length), (29, .i (0 : Nat))] 4 ⟨rfl, rfl, rfl, rfl, rfl, rfl, rfl, rfl, rfl, trivial⟩ rfl rfl) ?_
    refine Run.loop (fun m s => ∃ (q : Nat), m = g.ins.length - q ∧ q ≤ g.ins.length ∧ s = ⟨[(7, .ms 0 1 v.length), (9, .ptr 0 2 0), (10, .ms 0 3 q), (20, .im (.sl (n.gates.map LGate.im))), (21, .i n.gates.length), (22, .i (i : Nat)), (27, .im (.sl (ints g.ins))), (28, .i g.ins.length), (29, .i (q : Nat))], [.box [.im (.sl (strs n.inn)), .im (.sl (strs n.out)), .im (.sl (n.flops.map LFlop.im)), .im (.sl (n.gates.map LGate.im)), .im (.sl (ints n.outs))], .row 171 1 (us v) 0, .box [.im (.int .i64 (-1)), .im (.int .u64 g.table), .im (.sl (ints g.ins))], .row 171 1 (us ((g.ins.take q).map fun k => v.getD k.toNat 0)) 0], up⟩) g.ins.length ⟨0, rfl, by omega, rfl⟩ fun m s hI => ?_
    obtain ⟨q, rfl, hq, rfl⟩ := hI
    have hql : ((g.ins.take q).map fun k => v.getD k.toNat 0).length = q := by simp; omega
    have haq : (q + 1) * 8 ≤ 140737488355328 := by omega
    refine Run.seq ?_
    have fx := And.intro haq (And.intro hql (And.intro (@Int.toNat_natCast) (And.intro (@Int.natCast_nonneg) (And.intro hg (And.intro wi (And.intro hav (And.intro (@List.length_append.{0}) (And.intro b1 (And.intro al (And.intro a2 (And.intro a1 (And.intro ints_len (And.intro gim_len (And.intro us_len ft))))))))))))))
    refine Run.go ?_
    refine End.kp [7, 9, 10, 20, 21, 22, 27, 28, 29, 30] ?_
    refine Run.seq ?_
    refine Run.cond _ rfl (fun hb => ?_) (fun hb => ?_)
    · have hb := of_decide_eq_true hb
      have hqn : q < g.ins.length := by omega
      have wq := wsucc hqn (by omega)
      obtain ⟨x, hxi, hxm, hx⟩ := int_at g.ins q hqn
      obtain ⟨x1, x2⟩ := e3 x hxm
      have hxl : x < (v.length : Int) := by omega
      have hvx := us_get v x.toNat (by omega)
      have htk := int_drop g.ins q x hxi
      refine Run.skip ?_
      refine End.kp [7, 9, 10, 20, 21, 22, 27, 28, 29] ?_
      refine Run.seq ?_
      refine Run.block ?_
      refine Run.seq ?_
      have fx := And.intro hvx (And.intro hxl (And.intro x1 (And.intro hx (And.intro wq (And.intro haq (And.intro hql (And.intro (@Int.toNat_natCast) (And.intro (@Int.natCast_nonneg) (And.intro hg (And.intro wi (And.intro hav (And.intro (@List.length_append.{0}) (And.intro b1 (And.intro al (And.intro a2 (And.intro a1 (And.intro ints_len (And.intro gim_len (And.intro us_len ft)))))))))))))))))))
      refine Run.go ?_
      refine End.kp [7, 9, 10, 12, 20, 21, 22, 27, 28, 29] ?_
      refine Run.go ?_
      refine End.blk ?_
      refine End.kp [7, 9, 10, 20, 21, 22, 27, 28, 29] ?_
      refine Run.go ?_
      refine End.lp ?_
      refine ⟨g.ins.length - (q + 1), _, by omega, Ghost.form [(7, .ms 0 1 v.length), (9, .ptr 0 2 0), (10, .ms 0 3 (q + 1)), (20, .im (.sl (n.gates.map LGate.im))), (21, .i n.gates.length), (22, .i (i : Nat)), (27, .im (.sl (ints g.ins))), (28, .i g.ins.length), (29, .i (q + 1 : Nat))] 4 ⟨rfl, rfl, rfl, rfl, rfl, rfl, rfl, rfl, rfl, trivial⟩ rfl rfl, q + 1, rfl, by omega, ?_⟩
      rw [htk]
      simp
    · have hb := of_decide_eq_false hb
      have hqe : q = g.ins.length := by omega
      subst hqe
      rw [List.take_length] at hql ⊢
      refine Run.exit rfl ?_
      refine End.kp [7, 9, 10, 20, 21, 22] ?_
      have fx := And.intro haq (And.intro hql (And.intro (@Int.toNat_natCast) (And.intro (@Int.natCast_nonneg) (And.intro hg (And.intro wi (And.intro hav (And.intro (@List.length_append.{0}) (And.intro b1 (And.intro al (And.intro a2 (And.intro a1 (And.intro ints_len (And.intro gim_len (And.intro us_len ft))))))))))))))
      refine Run.region rfl fun K hK => GOps.sim ?_
      refine GOps.call rfl rfl rfl rfl (by kernel_rfl) (ACalls.sim ?_)
      refine (look_ok g.table (g.ins.map fun k => v.getD k.toNat 0) (by simpa using e1) _).mono fun v u hv => ?_
      obtain ⟨rfl, rfl⟩ := hv
      refine ⟨_, _, rfl, GOps.sim ?_⟩
      refine GOps.done (hK _ ?_); clear hK K
      refine End.blk ?_
      refine End.kp [7, 20, 21, 22] ?_
      refine Run.go ?_
      refine End.lp ?_
      refine ⟨n.gates.length - (i + 1), _, by omega, Ghost.form [(7, .ms 0 1 (v.length + 1)), (20, .im (.sl (n.gates.map LGate.im))), (21, .i n.gates.length), (22, .i (i + 1 : Nat))] 2 ⟨rfl, rfl, rfl, rfl, trivial⟩ rfl rfl, i + 1, v ++ [gateVal g v], rfl, by omega, by simp; omega, hV, ?_⟩
      simp [gateVal]
  · have hb := of_decide_eq_false hb
    have hiN : i = n.gates.length := by omega
    subst hiN
    rw [List.drop_length, valsN] at hV
    refine Run.exit rfl ?_
    refine End.kp [7] ?_
    refine Run.seq ?_
    refine Run.ghost (Ghost.shut (t := 7) (j := 1) rfl rfl (us_len v)) ?_
    simp only [eput, edel]
    have fx := And.intro hav (And.intro (@List.length_append.{0}) (And.intro b1 (And.intro al (And.intro a2 (And.intro a1 (And.intro ints_len (And.intro gim_len (And.intro us_len ft))))))))
    refine Run.go ?_
    refine End.kp [6] ?_
    refine Run.ret (hQ _ _ ⟨.inr rfl, _, rfl, _, rfl, ?_⟩)
    exact ⟨by rw [hV], rfl⟩
-- GONE NValues_ok
end Go.Proofs.YtdgpmopcmacicaaPi

/- The walks of results, Words and Eval. -/
set_option linter.unusedVariables false
set_option linter.unusedSimpArgs false
set_option maxRecDepth 100000
namespace Go.Proofs.YtdgpmopcmacicaaPi

def outV (n : LNet) (v : List Int) : List Int := n.outs.map fun k => v.getD k.toNat 0
def nextF (n : LNet) (v : List Int) (i : Nat) (f : LFlop) : Int :=
  bits .or .u64 (bits .and .u64 (v.getD f.en.toNat 0) (v.getD f.d.toNat 0)) (bits .and .u64 (bits .xor .u64 (if IntKind.u64.signed = true then -1 else IntKind.u64.max) (v.getD f.en.toNat 0)) (v.getD (2 + (n.inn.length : Int) + i).toNat 0))
def nextsF (n : LNet) (v : List Int) : Nat → List LFlop → List Int
  | _, [] => []
  | i, f :: fs => nextF n v i f :: nextsF n v (i + 1) fs
theorem nextsF_len (n : LNet) (v : List Int) : ∀ (fs : List LFlop) (i : Nat), (nextsF n v i fs).length = fs.length
  | [], i => rfl
  | f :: fs, i => by simp [nextsF, nextsF_len n v fs]
theorem flop_drop (l : List LFlop) (i : Nat) (g : LFlop) (h : l[i]? = some g) : l.drop i = g :: l.drop (i + 1) := by
  obtain ⟨hi, rfl⟩ := List.getElem?_eq_some_iff.1 h
  exact List.drop_eq_getElem_cons hi
theorem nresults_ok (n : LNet) (hn : NetOk n) (v : List Int) (hv : v.length = 2 + n.inn.length + n.flops.length + n.gates.length) (up : Frs) : ACalls Try.prog 85 [n.pv, .im (.sl (us v))] up fun r u => r = .tup [.im (.sl (us (outV n v))), .im (.sl (us (nextsF n v 0 n.flops)))] ∧ u = up := by
  obtain ⟨z1, z2, z3, z4, z5⟩ := hn.small
  refine ACalls.code Try.func85 rfl 69 rfl (by simp) [.tmp 4, .tmp 5] rfl fun Q hQ => ?_
  simp only [ups, PV.up, argEnv]
  have ft := And.intro ty_2 (And.intro ty_3 (And.intro ty_4 (And.intro ty_9 (And.intro ty_22 (And.intro ty_27 (And.intro ty_57 (And.intro ty_60 (And.intro ty_98 (And.intro ty_171 (And.intro ty_197 trivial))))))))))
  refine Run.seq ?_
  have fx := And.intro strs_len (And.intro ints_len (And.intro fim_len (And.intro us_len ft)))
  refine Run.go ?_
  refine End.kp [1, 2, 4, 5] ?_
  refine Run.seq ?_
  refine Run.seq ?_
  refine Run.go ?_
  refine End.kp [1, 2, 4, 5, 12, 13, 14] ?_
  refine Run.block ?_
  refine Run.ghost (Ghost.thaw (u := 4) 171 1 (by decide) rfl) ?_
  refine Run.ghost (Ghost.form [(1, .im (.sl (us v))), (2, .ptr 0 0 0), (4, .ms 0 1 0), (5, .nils), (12, .im (.sl (ints n.outs))), (13, .i n.outs.length), (14, .i (0 : Nat))] 2 ⟨rfl, rfl, rfl, rfl, rfl, rfl, rfl, trivial⟩ rfl rfl) ?_
  refine Run.loop (fun m s => ∃ (i : Nat), m = n.outs.length - i ∧ i ≤ n.outs.length ∧ s = ⟨[(1, .im (.sl (us v))), (2, .ptr 0 0 0), (4, .ms 0 1 i), (5, .nils), (12, .im (.sl (ints n.outs))), (13, .i n.outs.length), (14, .i (i : Nat))], [.box [.im (.sl (strs n.inn)), .im (.sl (strs n.out)), .im (.sl (n.flops.map LFlop.im)), .im (.sl (n.gates.map LGate.im)), .im (.sl (ints n.outs))], .row 171 1 (us ((n.outs.take i).map fun k => v.getD k.toNat 0)) 0], up⟩) n.outs.length ⟨0, rfl, by omega, rfl⟩ fun m s hI => ?_
  obtain ⟨i, rfl, hi, rfl⟩ := hI
  have hol : ((n.outs.take i).map fun k => v.getD k.toNat 0).length = i := by simp; omega
  have hao : (i + 1) * 8 ≤ 140737488355328 := by omega
  refine Run.seq ?_
  have fx := And.intro hao (And.intro hol (And.intro strs_len (And.intro ints_len (And.intro fim_len (And.intro us_len ft)))))
  refine Run.go ?_
  refine End.kp [1, 2, 4, 5, 12, 13, 14, 15] ?_
  refine Run.seq ?_
  refine Run.cond _ rfl (fun hb => ?_) (fun hb => ?_)
  · have hb := of_decide_eq_true hb
    have hin : i < n.outs.length := by omega
    have wi := wsucc hin (by omega)
    obtain ⟨x, hxi, hxm, hx⟩ := int_at n.outs i hin
    obtain ⟨x1, x2⟩ := hn.ends.outs x hxm
    have hvx := us_get v x.toNat (by omega)
    have htk := int_drop n.outs i x hxi
    refine Run.skip ?_
    refine End.kp [1, 2, 4, 5, 12, 13, 14] ?_
    refine Run.seq ?_
    refine Run.block ?_
    refine Run.seq ?_
    have fx := And.intro (@Int.toNat_natCast) (And.intro (@Int.natCast_nonneg) (And.intro hvx (And.intro x1 (And.intro hx (And.intro wi (And.intro hao (And.intro hol (And.intro strs_len (And.intro ints_len (And.intro fim_len (And.intro us_len ft)))))))))))
    refine Run.go ?_
    refine End.kp [1, 2, 4, 5, 7, 12, 13, 14] ?_
    refine Run.go ?_
    refine End.blk ?_
    refine End.kp [1, 2, 4, 5, 12, 13, 14] ?_
    refine Run.go ?_
    refine End.lp ?_
    refine ⟨n.outs.length - (i + 1), _, by omega, Ghost.form [(1, .im (.sl (us v))), (2, .ptr 0 0 0), (4, .ms 0 1 (i + 1)), (5, .nils), (12, .im (.sl (ints n.outs))), (13, .i n.outs.length), (14, .i (i + 1 : Nat))] 2 ⟨rfl, rfl, rfl, rfl, rfl, rfl, rfl, trivial⟩ rfl rfl, i + 1, rfl, by omega, ?_⟩
    rw [htk]
    simp
  · have hb := of_decide_eq_false hb
    have hiN : i = n.outs.length := by omega
    subst hiN
    rw [List.take_length] at hol ⊢
    refine Run.exit rfl ?_
    refine End.kp [1, 2, 4, 5] ?_
    refine Run.seq ?_
    refine Run.seq ?_
    have fx := And.intro hao (And.intro hol (And.intro strs_len (And.intro ints_len (And.intro fim_len (And.intro us_len ft)))))
    refine Run.go ?_
    refine End.kp [1, 2, 4, 5, 27, 28, 29] ?_
    refine Run.block ?_
    refine Run.ghost (Ghost.thaw (u := 5) 171 1 (by decide) rfl) ?_
    refine Run.ghost (Ghost.form [(1, .im (.sl (us v))), (2, .ptr 0 0 0), (4, .ms 0 1 n.outs.length), (5, .ms 0 2 0), (27, .im (.sl (n.flops.map LFlop.im))), (28, .i n.flops.length), (29, .i (0 : Nat))] 3 ⟨rfl, rfl, rfl, rfl, rfl, rfl, rfl, trivial⟩ rfl rfl) ?_
    refine Run.loop (fun m s => ∃ (i : Nat) (dn : List Int), m = n.flops.length - i ∧ i ≤ n.flops.length ∧ dn.length = i ∧ dn ++ nextsF n v i (n.flops.drop i) = nextsF n v 0 n.flops ∧ s = ⟨[(1, .im (.sl (us v))), (2, .ptr 0 0 0), (4, .ms 0 1 n.outs.length), (5, .ms 0 2 i), (27, .im (.sl (n.flops.map LFlop.im))), (28, .i n.flops.length), (29, .i (i : Nat))], [.box [.im (.sl (strs n.inn)), .im (.sl (strs n.out)), .im (.sl (n.flops.map LFlop.im)), .im (.sl (n.gates.map LGate.im)), .im (.sl (ints n.outs))], .row 171 1 (us (outV n v)) 0, .row 171 1 (us dn) 0], up⟩) n.flops.length ⟨0, [], rfl, by omega, rfl, rfl, rfl⟩ fun m s hI => ?_
    obtain ⟨i, dn, rfl, hi, hdn, hN, rfl⟩ := hI
    have haf : (i + 1) * 8 ≤ 140737488355328 := by omega
    refine Run.seq ?_
    have fx := And.intro haf (And.intro hdn (And.intro hao (And.intro hol (And.intro strs_len (And.intro ints_len (And.intro fim_len (And.intro us_len ft)))))))
    refine Run.go ?_
    refine End.kp [1, 2, 4, 5, 27, 28, 29, 30] ?_
    refine Run.seq ?_
    refine Run.cond _ rfl (fun hb => ?_) (fun hb => ?_)
    · have hb := of_decide_eq_true hb
      have hin : i < n.flops.length := by omega
      have wi := wsucc hin (by omega)
      obtain ⟨f, hfi, hfm, hf⟩ := flop_at n.flops i hin
      obtain ⟨⟨x1, x2⟩, x3, x4⟩ := hn.ends.flops f hfm
      have hvd := us_get v f.d.toNat (by omega)
      have hve := us_get v f.en.toNat (by omega)
      have w1 : IntKind.i64.wrap (2 + (n.inn.length : Int)) = 2 + (n.inn.length : Int) := wrap64 (by omega)
      have w2 : IntKind.i64.wrap (2 + (n.inn.length : Int) + i) = 2 + (n.inn.length : Int) + i := wrap64 (by omega)
      have hv0 : 0 ≤ 2 + (n.inn.length : Int) + i := by omega
      have hvo := us_get v (2 + (n.inn.length : Int) + i).toNat (by omega)
      rw [flop_drop _ i f hfi, nextsF] at hN
      refine Run.skip ?_
      refine End.kp [1, 2, 4, 5, 27, 28, 29] ?_
      refine Run.seq ?_
      refine Run.block ?_
      refine Run.seq ?_
      have fx := And.intro (@Int.toNat_natCast) (And.intro (@Int.natCast_nonneg) (And.intro w2 (And.intro w1 (And.intro hv0 (And.intro hvo (And.intro hve (And.intro hvd (And.intro x3 (And.intro x1 (And.intro hf (And.intro wi (And.intro haf (And.intro hdn (And.intro hao (And.intro hol (And.intro strs_len (And.intro ints_len (And.intro fim_len (And.intro us_len ft)))))))))))))))))))
      refine Run.go ?_
      refine End.kp [1, 2, 4, 5, 8, 9, 27, 28, 29] ?_
      refine Run.seq ?_
      refine Run.go ?_
      refine End.kp [1, 2, 4, 5, 9, 10, 27, 28, 29] ?_
      refine Run.ghost (.spares 1) ?_
      simp only [ASt.pushN, ASt.push, List.append_assoc, List.cons_append, List.nil_append]
      refine Run.drawA fun K hK => ?_
      refine DOps.sim ?_
      refine DOps.nil (by rfl) (hK _ ?_); clear hK K
      refine End.blk ?_
      refine End.kp [1, 2, 4, 5, 27, 28, 29] ?_
      refine Run.go ?_
      refine End.lp ?_
      refine ⟨n.flops.length - (i + 1), _, by omega, Ghost.form [(1, .im (.sl (us v))), (2, .ptr 0 0 0), (4, .ms 0 1 n.outs.length), (5, .ms 0 2 (i + 1)), (27, .im (.sl (n.flops.map LFlop.im))), (28, .i n.flops.length), (29, .i (i + 1 : Nat))] 3 ⟨rfl, rfl, rfl, rfl, rfl, rfl, rfl, trivial⟩ rfl rfl, i + 1, dn ++ [nextF n v i f], rfl, by omega, by simp [hdn], by simpa using hN, ?_⟩
      simp [nextF]
    · have hb := of_decide_eq_false hb
      have hiN : i = n.flops.length := by omega
      subst hiN
      rw [List.drop_length, nextsF, List.append_nil] at hN
      refine Run.exit rfl ?_
      refine End.kp [4, 5] ?_
      refine Run.seq ?_
      refine Run.ghost (Ghost.shut (t := 4) (j := 1) rfl rfl (by rw [us_len]; exact hol)) ?_
      simp only [eput, edel]
      refine Run.ghost (Ghost.shut (t := 5) (j := 2) rfl rfl (by rw [us_len, hdn])) ?_
      simp only [eput, edel]
      have fx := And.intro haf (And.intro hdn (And.intro hao (And.intro hol (And.intro strs_len (And.intro ints_len (And.intro fim_len (And.intro us_len ft)))))))
      refine Run.go ?_
      refine End.kp [4, 5] ?_
      refine Run.ret (hQ _ _ ⟨.inr rfl, _, rfl, _, rfl, ?_⟩)
      exact ⟨by rw [hN], rfl⟩
theorem valsN_len : ∀ (gs : List LGate) (v : List Int), (valsN gs v).length = v.length + gs.length
  | [], v => by simp [valsN]
  | g :: gs, v => by
    rw [valsN, valsN_len gs]
    simp
    omega
theorem valuesV_len (n : LNet) (inn st : List Int) (h1 : inn.length = n.inn.length) (h2 : st.length = n.flops.length) : (valuesV n inn st).length = 2 + n.inn.length + n.flops.length + n.gates.length := by
  rw [valuesV, valsN_len]
  simp
  omega
-- GONE NWords_ok
-- GONE NEval_ok
end Go.Proofs.YtdgpmopcmacicaaPi

/- Plain law: bit 0 of words. -/
set_option linter.unusedVariables false
set_option linter.unusedSimpArgs false
namespace Go.Proofs.YtdgpmopcmacicaaPi

theorem valsN_pre : ∀ (gs : List LGate) (v : List Int) (k : Nat), k < v.length → (valsN gs v).getD k 0 = v.getD k 0
  | [], v, k, h => rfl
  | g :: gs, v, k, h => by
    rw [valsN, valsN_pre gs _ k (by simp; omega)]
    simp [List.getElem?_append_left h]
theorem nextsF_get (n : LNet) (v : List Int) : ∀ (fs : List LFlop) (j i : Nat) (f : LFlop), fs[i]? = some f → (nextsF n v j fs)[i]? = some (nextF n v (j + i) f)
  | [], j, i, f, h => by simp at h
  | g :: gs, j, 0, f, h => by
    simp at h
    subst h
    rfl
  | g :: gs, j, i + 1, f, h => by
    rw [nextsF, List.getElem?_cons_succ, nextsF_get n v gs (j + 1) i f (by simpa using h)]
    congr 2
    omega
end Go.Proofs.YtdgpmopcmacicaaPi

/- Plain law: what a run of a graph shows depends on lane 0 of the state alone. -/
set_option linter.unusedVariables false
set_option linter.unusedSimpArgs false
namespace Go.Proofs.YtdgpmopcmacicaaPi

def same0 (v v' : List Int) : Prop := v.length = v'.length ∧ ∀ k, bit0 (v.getD k 0) = bit0 (v'.getD k 0)
theorem laneB_bit0 (v : List Int) : laneB v = v.map bit0 := by
  unfold laneB
  exact List.map_congr_left fun x _ => one_iff x
theorem same0_of {v v' : List Int} (h : same0 v v') (l : Int) : bit0 (ofV v l) = bit0 (ofV v' l) := by
  unfold ofV
  split
  · rw [vnot, vnot, bit0_not, bit0_not, h.2]
  · exact h.2 _
theorem same0_app {v v' w w' : List Int} (h : same0 v v') (k : same0 w w') : same0 (v ++ w) (v' ++ w') := by
  refine ⟨by simp [h.1, k.1], fun q => ?_⟩
  simp only [List.getD_eq_getElem?_getD, List.getElem?_append]
  rw [h.1]
  split
  · have := h.2 q
    simpa only [List.getD_eq_getElem?_getD] using this
  · have := k.2 (q - v'.length)
    simpa only [List.getD_eq_getElem?_getD] using this
theorem same0_refl (v : List Int) : same0 v v := ⟨rfl, fun _ => rfl⟩
theorem same0_one {x y : Int} (h : bit0 x = bit0 y) : same0 [x] [y] := ⟨rfl, fun k => by
  cases k with
  | zero => simpa using h
  | succ k => simp⟩
theorem same0_valsA : ∀ (ps : List (Int × Int)) {v v' : List Int}, same0 v v' → same0 (valsA ps v) (valsA ps v')
  | [], v, v', h => h
  | p :: ps, v, v', h => by
    simp only [valsA]
    refine same0_valsA ps (same0_app h (same0_one ?_))
    rw [bit0_and, bit0_and, same0_of h, same0_of h]
theorem same0_vals (g : LGraph) (inn : List Int) {st st' : List Int} (h : same0 st st') : same0 (graphVals g inn st) (graphVals g inn st') := same0_valsA _ (same0_app (same0_refl _) h)
end Go.Proofs.YtdgpmopcmacicaaPi

/- The walks of makers of graphs: New, Nodes, fail, In, and, known, And. -/
set_option linter.unusedVariables false
set_option linter.unusedSimpArgs false
set_option maxRecDepth 100000
namespace Go.Proofs.YtdgpmopcmacicaaPi
set_option maxHeartbeats 4000000
def seenE : Int → List (Int × Int) → List (List Im × Im)
  | _, [] => []
  | b, p :: ps => ([.int .i64 p.1, .int .i64 p.2], .int .i64 (2 * b)) :: seenE (b + 1) ps
theorem seenE_snoc (p : Int × Int) : ∀ (ps : List (Int × Int)) (b : Int), seenE b (ps ++ [p]) = seenE b ps ++ [([.int .i64 p.1, .int .i64 p.2], .int .i64 (2 * (b + ps.length)))]
  | [], b => by simp [seenE]
  | x :: ps, b => by
    simp only [List.cons_append, seenE, seenE_snoc p ps (b + 1), List.length_cons]
    rw [show b + 1 + (ps.length : Int) = b + ((ps.length + 1 : Nat) : Int) by omega]
/-- Where a pair stands first. -/
def findA (p : Int × Int) : List (Int × Int) → Nat → Option Nat
  | [], _ => none
  | x :: ps, i => if x = p then some i else findA p ps (i + 1)
theorem findKs_seen (p : Int × Int) : ∀ (ps : List (Int × Int)) (b : Int) (i : Nat), findKs Try.prog [34, 34] [.int .i64 p.1, .int .i64 p.2] (seenE b ps) i = some ((findA p ps i).map fun k => (k, .int .i64 (2 * (b + (k : Int) - i))))
  | [], b, i => rfl
  | x :: ps, b, i => by
    have he : eqIms Try.prog [34, 34] ([Im.int .i64 p.1, .int .i64 p.2].map .im) ([Im.int .i64 x.1, .int .i64 x.2].map .im) = some (decide (x = p)) := by
      simp only [List.map_cons, List.map_nil, eqIms, ty_34, Option.isSome_some, and_self, if_true, Option.map_some, Option.some.injEq]
      by_cases h : x = p
      · subst h; simp
      · rw [decide_eq_false h]
        by_cases h1 : p.1 = x.1
        · have h2 : ¬ p.2 = x.2 := fun e => h (Prod.ext h1.symm e.symm)
          simp [h1, h2]
        · simp [h1]
    simp only [seenE, findKs, he]
    by_cases h : x = p
    · simp only [decide_eq_true h, findA, if_pos h, List.length_cons, List.length_nil, Option.map_some]
      simp
    · simp only [decide_eq_false h, findA, if_neg h, List.length_cons, List.length_nil]
      rw [if_pos (by omega), findKs_seen p ps (b + 1) (i + 1)]
      congr 1
      cases findA p ps (i + 1) with
      | none => rfl
      | some k => simp only [Option.map_some, Option.some.injEq, Prod.mk.injEq, true_and, Im.int.injEq]; omega
/-- A maker: its names, registers, ands, and the first error. -/
structure LMk where
  inn : List ByteArray
  regs : List LReg
  ands : List (Int × Int)
  bad : Int
abbrev LMk.first (m : LMk) : Int := 1 + m.inn.length + m.regs.length
abbrev mkBox (r q : Nat) (m : LMk) : AObj := .box [.im (.sl (strs m.inn)), .im (.sl (m.regs.map LReg.im)), .ms 0 r m.ands.length, .map 0 q, .i m.bad]
abbrev mkRow (m : LMk) : AObj := .row 37 2 (m.ands.map nd) 0
abbrev mkMap (m : LMk) : AObj := .map (seenE m.first m.ands)
structure MkAt (up : Frs) (d j r q : Nat) (m : LMk) : Prop where
  box : fget up d j = some (mkBox r q m)
  row : fget up d r = some (mkRow m)
  map : fget up d q = some (mkMap m)
structure MkSmall (m : LMk) : Prop where
  inn : m.inn.length ≤ 200
  regs : m.regs.length ≤ 300
  ands : m.ands.length ≤ 4000
def setMk (up : Frs) (d j r q : Nat) (m : LMk) : Frs := fset (fset (fset up d j (mkBox r q m)) d r (mkRow m)) d q (mkMap m)
theorem setMk_self {up : Frs} {d j r q : Nat} {m : LMk} (h : MkAt up d j r q m) : setMk up d j r q m = up := by
  rw [setMk, fset_self up d j _ h.box, fset_self up d r _ h.row, fset_self up d q _ h.map]
/-- The and of two literals. -/
def mkAnd (m : LMk) (a b : Int) : Int × LMk :=
  if min a b = 0 ∨ min a b = flipL (max a b) then (0, m) else if min a b = 1 ∨ min a b = max a b then (max a b, m) else
  match findA (min a b, max a b) m.ands 0 with
  | some k => (2 * (m.first + k), m)
  | none => (2 * (m.first + m.ands.length), { m with ands := m.ands ++ [(min a b, max a b)] })
theorem mNodes_ok (m : LMk) (hm : MkSmall m) (up : Frs) (d j r q : Nat) (hk : MkAt up d j r q m) : ACalls Try.prog 115 [.ptr d j 0] up fun v u => v = .i (1 + m.inn.length + m.regs.length + m.ands.length) ∧ u = up := by
  obtain ⟨z1, z2, z3⟩ := hm
  have kb := hk.box
  have kr := hk.row
  have kq := hk.map
  have w1 : IntKind.i64.wrap (1 + (m.inn.length : Int)) = 1 + (m.inn.length : Int) := wrap64 (by omega)
  have w2 : IntKind.i64.wrap (1 + (m.inn.length : Int) + m.regs.length) = 1 + (m.inn.length : Int) + m.regs.length := wrap64 (by omega)
  have w3 : IntKind.i64.wrap (1 + (m.inn.length : Int) + m.regs.length + m.ands.length) = 1 + (m.inn.length : Int) + m.regs.length + m.ands.length := wrap64 (by omega)
  refine ACalls.code Try.func115 rfl 21 rfl (by simp) [.tmp 2] rfl fun Q hQ => ?_
  simp only [ups, PV.up, argEnv]
  have ft := And.intro ty_2 (And.intro ty_3 (And.intro ty_9 (And.intro ty_27 (And.intro ty_29 (And.intro ty_30 (And.intro ty_37 (And.intro ty_47 (And.intro ty_48 (And.intro ty_140 trivial)))))))))
  refine Run.seq ?_
  have fx := And.intro w3 (And.intro w2 (And.intro w1 (And.intro rim_len (And.intro strs_len (And.intro kb ft)))))
  refine Run.go ?_
  refine End.kp [0] ?_
  refine Run.seq ?_
  refine Run.drawA fun K hK => ?_
  refine DOps.sim ?_
  refine DOps.nil (metAll_quiet rfl) (hK _ ?_); clear hK K
  refine End.kp [2] ?_
  refine Run.ret (hQ _ _ ⟨.inr rfl, _, rfl, _, rfl, ?_⟩)
  exact ⟨rfl, rfl⟩
theorem mIn_ok (i : Nat) (m : LMk) (hm : MkSmall m) (up : Frs) (d j r q : Nat) (hk : MkAt up d j r q m) (hi : i < m.inn.length) : ACalls Try.prog 21 [.ptr d j 0, .i i] up fun v u => v = .i (2 * (1 + i)) ∧ u = up := by
  obtain ⟨z1, z2, z3⟩ := hm
  have kb := hk.box
  have kr := hk.row
  have kq := hk.map
  have w1 : IntKind.i64.wrap (1 + (m.inn.length : Int)) = 1 + (m.inn.length : Int) := wrap64 (by omega)
  have w2 : IntKind.i64.wrap (1 + (m.inn.length : Int) + m.regs.length) = 1 + (m.inn.length : Int) + m.regs.length := wrap64 (by omega)
  have w3 : IntKind.i64.wrap (1 + (m.inn.length : Int) + m.regs.length + m.ands.length) = 1 + (m.inn.length : Int) + m.regs.length + m.ands.length := wrap64 (by omega)
  
  have d1 : decide ((i : Int) < 0) = false := decide_eq_false (by omega)
  have d2 : decide ((m.inn.length : Int) ≤ i) = false := decide_eq_false (by omega)
  have w4 : IntKind.i64.wrap (1 + (i : Int)) = 1 + i := wrap64 (by omega)
  have w5 : IntKind.i64.wrap (2 * (1 + (i : Int))) = 2 * (1 + i) := wrap64 (by omega)
  refine ACalls.code Try.func21 rfl 21 rfl (by simp) [.tmp 4] rfl fun Q hQ => ?_
  simp only [ups, PV.up, argEnv]
  have ft := And.intro ty_3 (And.intro ty_4 (And.intro ty_9 (And.intro ty_27 (And.intro ty_34 (And.intro ty_39 (And.intro ty_48 (And.intro ty_140 trivial)))))))
  refine Run.seq ?_
  have fx := And.intro (@ge_iff_le Int _) (And.intro w5 (And.intro w4 (And.intro d2 (And.intro d1 (And.intro strs_len (And.intro kb ft))))))
  refine Run.go ?_
  refine End.kp [0, 1] ?_
  refine Run.seq ?_
  refine Run.seq ?_
  refine Run.go ?_
  refine End.kp [0, 1, 15] ?_
  refine Run.cond _ rfl (fun hb => ?_) (fun hb => ?_)
  · have hb2 := hb
    simp at hb
  · have hb2 := hb
    refine Run.skip ?_
    refine End.kp [1] ?_
    refine Run.seq ?_
    have fx := And.intro (@ge_iff_le Int _) (And.intro w5 (And.intro w4 (And.intro d2 (And.intro d1 (And.intro strs_len (And.intro kb ft))))))
    refine Run.go ?_
    refine End.kp [4] ?_
    refine Run.ret (hQ _ _ ⟨.inr rfl, _, rfl, _, rfl, ?_⟩)
    exact ⟨rfl, rfl⟩
theorem mand_zero (a b : Int) (h : min a b = 0 ∨ min a b = flipL (max a b)) (a0 : 0 ≤ a ∧ a ≤ 1000000) (b0 : 0 ≤ b ∧ b ≤ 1000000) (up : Frs) (d j : Nat) : ACalls Try.prog 73 [.ptr d j 0, .i a, .i b] up fun v u => v = .tup [.i 0, .im (.bool true)] ∧ u = up := by
  have hlo : (if b < a then b else a) = min a b := by split <;> omega
  have hhi : (if a < b then b else a) = max a b := by split <;> omega
  have fh := xor_one (max a b) (by omega) (by omega)
  refine ACalls.code Try.func73 rfl 78 rfl (by simp) [.tmp 6, .tmp 7] rfl fun Q hQ => ?_
  simp only [ups, PV.up, argEnv]
  have ft := And.intro ty_2 (And.intro ty_3 (And.intro ty_4 (And.intro ty_30 (And.intro ty_34 (And.intro ty_37 (And.intro ty_39 (And.intro ty_48 (And.intro ty_119 (And.intro ty_140 trivial)))))))))
  refine Run.seq ?_
  have fx := And.intro fh (And.intro hhi (And.intro hlo ft))
  refine Run.go ?_
  refine End.kp [0, 1, 2] ?_
  refine Run.seq ?_
  refine Run.go ?_
  refine End.kp [0, 1, 2] ?_
  refine Run.seq ?_
  refine Run.block ?_
  refine Run.seq ?_
  rcases Bool.eq_false_or_eq_true ((min a b == 0)) with hs2 | hs2
  · skip
    have fx := And.intro hs2 (And.intro fh (And.intro hhi (And.intro hlo ft)))
    refine Run.go ?_
    refine End.kp [0, 1, 2, 18] ?_
    refine Run.cond _ rfl (fun hb => ?_) (fun hb => ?_)
    · have hb2 := hb
      refine Run.seq ?_
      have fx := And.intro hs2 (And.intro fh (And.intro hhi (And.intro hlo ft)))
      refine Run.go ?_
      refine End.kp [6, 7] ?_
      refine Run.ret (hQ _ _ ⟨.inr rfl, _, rfl, _, rfl, ?_⟩)
      exact ⟨rfl, rfl⟩
    · have hb2 := hb
      simp at hb
  · skip
    have fx := And.intro hs2 (And.intro fh (And.intro hhi (And.intro hlo ft)))
    refine Run.go ?_
    refine End.kp [0, 1, 2, 18] ?_
    refine Run.cond _ rfl (fun hb => ?_) (fun hb => ?_)
    · have hb2 := hb
      refine Run.seq ?_
      have fx := And.intro hs2 (And.intro fh (And.intro hhi (And.intro hlo ft)))
      refine Run.go ?_
      refine End.kp [6, 7] ?_
      refine Run.ret (hQ _ _ ⟨.inr rfl, _, rfl, _, rfl, ?_⟩)
      exact ⟨rfl, rfl⟩
    · rcases h with h | h
      · simp [h] at hs2
      · simp [h] at hb
      skip
theorem mand_one (a b : Int) (h0 : ¬ (min a b = 0 ∨ min a b = flipL (max a b))) (h : min a b = 1 ∨ min a b = max a b) (a0 : 0 ≤ a ∧ a ≤ 1000000) (b0 : 0 ≤ b ∧ b ≤ 1000000) (up : Frs) (d j : Nat) : ACalls Try.prog 73 [.ptr d j 0, .i a, .i b] up fun v u => v = .tup [.i (max a b), .im (.bool true)] ∧ u = up := by
  have hlo : (if b < a then b else a) = min a b := by split <;> omega
  have hhi : (if a < b then b else a) = max a b := by split <;> omega
  have fh := xor_one (max a b) (by omega) (by omega)
  have e1 : (min a b == 0) = false := by simpa using fun e => h0 (.inl e)
  have e2 : (min a b == flipL (max a b)) = false := by simpa using fun e => h0 (.inr e)
  refine ACalls.code Try.func73 rfl 78 rfl (by simp) [.tmp 6, .tmp 7] rfl fun Q hQ => ?_
  simp only [ups, PV.up, argEnv]
  have ft := And.intro ty_2 (And.intro ty_3 (And.intro ty_4 (And.intro ty_30 (And.intro ty_34 (And.intro ty_37 (And.intro ty_39 (And.intro ty_48 (And.intro ty_119 (And.intro ty_140 trivial)))))))))
  refine Run.seq ?_
  have fx := And.intro e2 (And.intro e1 (And.intro fh (And.intro hhi (And.intro hlo ft))))
  refine Run.go ?_
  refine End.kp [0, 1, 2] ?_
  refine Run.seq ?_
  refine Run.go ?_
  refine End.kp [0, 1, 2] ?_
  refine Run.seq ?_
  refine Run.block ?_
  refine Run.seq ?_
  refine Run.go ?_
  refine End.kp [0, 1, 2, 18] ?_
  refine Run.cond _ rfl (fun hb => ?_) (fun hb => ?_)
  · have hb2 := hb
    simp at hb
  · have hb2 := hb
    refine Run.seq ?_
    rcases Bool.eq_false_or_eq_true ((min a b == 1)) with hs4 | hs4
    · skip
      have fx := And.intro hs4 (And.intro e2 (And.intro e1 (And.intro fh (And.intro hhi (And.intro hlo ft)))))
      refine Run.go ?_
      refine End.kp [0, 1, 2, 27] ?_
      refine Run.cond _ rfl (fun hb => ?_) (fun hb => ?_)
      · have hb2 := hb
        refine Run.seq ?_
        have fx := And.intro hs4 (And.intro e2 (And.intro e1 (And.intro fh (And.intro hhi (And.intro hlo ft)))))
        refine Run.go ?_
        refine End.kp [6, 7] ?_
        refine Run.ret (hQ _ _ ⟨.inr rfl, _, rfl, _, rfl, ?_⟩)
        exact ⟨rfl, rfl⟩
      · have hb2 := hb
        simp at hb
    · skip
      have fx := And.intro hs4 (And.intro e2 (And.intro e1 (And.intro fh (And.intro hhi (And.intro hlo ft)))))
      refine Run.go ?_
      refine End.kp [0, 1, 2, 27] ?_
      refine Run.cond _ rfl (fun hb => ?_) (fun hb => ?_)
      · have hb2 := hb
        refine Run.seq ?_
        have fx := And.intro hs4 (And.intro e2 (And.intro e1 (And.intro fh (And.intro hhi (And.intro hlo ft)))))
        refine Run.go ?_
        refine End.kp [6, 7] ?_
        refine Run.ret (hQ _ _ ⟨.inr rfl, _, rfl, _, rfl, ?_⟩)
        exact ⟨rfl, rfl⟩
      · rcases h with h | h
        · simp [h] at hs4
        · simp [h] at hb
        skip
theorem mand_old (a b : Int) (h0 : ¬ (min a b = 0 ∨ min a b = flipL (max a b))) (h1 : ¬ (min a b = 1 ∨ min a b = max a b)) (a0 : 0 ≤ a ∧ a ≤ 1000000) (b0 : 0 ≤ b ∧ b ≤ 1000000) (m : LMk) (hm : MkSmall m) (up : Frs) (d j r q : Nat) (hk : MkAt up d j r q m) (k : Nat) (hf : findA (min a b, max a b) m.ands 0 = some k) : ACalls Try.prog 73 [.ptr d j 0, .i a, .i b] up fun v u => v = .tup [.i (2 * (m.first + k)), .im (.bool true)] ∧ u = up := by
  obtain ⟨z1, z2, z3⟩ := hm
  have kb := hk.box
  have kr := hk.row
  have kq := hk.map
  have w1 : IntKind.i64.wrap (1 + (m.inn.length : Int)) = 1 + (m.inn.length : Int) := wrap64 (by omega)
  have w2 : IntKind.i64.wrap (1 + (m.inn.length : Int) + m.regs.length) = 1 + (m.inn.length : Int) + m.regs.length := wrap64 (by omega)
  have w3 : IntKind.i64.wrap (1 + (m.inn.length : Int) + m.regs.length + m.ands.length) = 1 + (m.inn.length : Int) + m.regs.length + m.ands.length := wrap64 (by omega)
  
  have hlo : (if b < a then b else a) = min a b := by split <;> omega
  have hhi : (if a < b then b else a) = max a b := by split <;> omega
  have fh := xor_one (max a b) (by omega) (by omega)
  have e1 : (min a b == 0) = false := by simpa using fun e => h0 (.inl e)
  have e2 : (min a b == flipL (max a b)) = false := by simpa using fun e => h0 (.inr e)
  have e3 : (min a b == 1) = false := by simpa using fun e => h1 (.inl e)
  have e4 : (min a b == max a b) = false := by simpa using fun e => h1 (.inr e)
  have hfind := findKs_seen (min a b, max a b) m.ands m.first 0
  rw [hf] at hfind
  
  simp only [Option.map_some] at hfind
  have ek : 2 * (m.first + (k : Int) - ((0 : Nat) : Int)) = 2 * (m.first + k) := by omega
  rw [ek] at hfind
  refine ACalls.code Try.func73 rfl 78 rfl (by simp) [.tmp 6, .tmp 7] rfl fun Q hQ => ?_
  simp only [ups, PV.up, argEnv]
  have ft := And.intro ty_2 (And.intro ty_3 (And.intro ty_4 (And.intro ty_30 (And.intro ty_34 (And.intro ty_37 (And.intro ty_39 (And.intro ty_48 (And.intro ty_119 (And.intro ty_140 trivial)))))))))
  refine Run.seq ?_
  have fx := And.intro e4 (And.intro e3 (And.intro e2 (And.intro e1 (And.intro fh (And.intro hhi (And.intro hlo (And.intro kq (And.intro kr (And.intro kb ft)))))))))
  refine Run.go ?_
  refine End.kp [0, 1, 2] ?_
  refine Run.seq ?_
  refine Run.go ?_
  refine End.kp [0, 1, 2] ?_
  refine Run.seq ?_
  refine Run.block ?_
  refine Run.seq ?_
  refine Run.go ?_
  refine End.kp [0, 1, 2, 18] ?_
  refine Run.cond _ rfl (fun hb => ?_) (fun hb => ?_)
  · have hb2 := hb
    simp at hb
  · have hb2 := hb
    refine Run.seq ?_
    have fx := And.intro e4 (And.intro e3 (And.intro e2 (And.intro e1 (And.intro fh (And.intro hhi (And.intro hlo (And.intro kq (And.intro kr (And.intro kb ft)))))))))
    refine Run.go ?_
    refine End.kp [0, 1, 2, 27] ?_
    refine Run.cond _ rfl (fun hb => ?_) (fun hb => ?_)
    · have hb2 := hb
      simp at hb
    · have hb2 := hb
      refine Run.skip ?_
      refine End.blk ?_
      refine End.kp [0, 1, 2] ?_
      refine Run.seq ?_
      have fx := And.intro e4 (And.intro e3 (And.intro e2 (And.intro e1 (And.intro fh (And.intro hhi (And.intro hlo (And.intro kq (And.intro kr (And.intro kb ft)))))))))
      refine Run.go ?_
      refine End.kp [0, 8] ?_
      refine Run.seq ?_
      refine Run.seq ?_
      refine Run.drawA fun K hK => ?_
      refine DOps.sim ?_
      refine DOps.lookK (d := d + 1) (j := q) [.int .i64 (min a b), .int .i64 (max a b)] (seenE m.first m.ands) _ hfind kq ?_
      simp only [hitPV, if_true]
      have fx := And.intro e4 (And.intro e3 (And.intro e2 (And.intro e1 (And.intro fh (And.intro hhi (And.intro hlo (And.intro kq (And.intro kr (And.intro kb ft)))))))))
      refine DOps.sim ?_
      refine DOps.nil (by rfl) (hK _ ?_); clear hK K
      refine End.kp [0, 8, 9, 10] ?_
      refine Run.seq ?_
      refine Run.go ?_
      refine End.kp [0, 8, 9, 48] ?_
      refine Run.cond _ rfl (fun hb => ?_) (fun hb => ?_)
      · have hb2 := hb
        refine Run.seq ?_
        have fx := And.intro e4 (And.intro e3 (And.intro e2 (And.intro e1 (And.intro fh (And.intro hhi (And.intro hlo (And.intro kq (And.intro kr (And.intro kb ft)))))))))
        refine Run.go ?_
        refine End.kp [6, 7] ?_
        refine Run.ret (hQ _ _ ⟨.inr rfl, _, rfl, _, rfl, ?_⟩)
        exact ⟨rfl, rfl⟩
      · have hb2 := hb
        simp at hb
theorem mand_new (a b : Int) (h0 : ¬ (min a b = 0 ∨ min a b = flipL (max a b))) (h1 : ¬ (min a b = 1 ∨ min a b = max a b)) (a0 : 0 ≤ a ∧ a ≤ 1000000) (b0 : 0 ≤ b ∧ b ≤ 1000000) (m : LMk) (hm : MkSmall m) (up : Frs) (d j r q : Nat) (hk : MkAt up d j r q m) (hf : findA (min a b, max a b) m.ands 0 = none) (hn : m.ands.length < 4000) : ACalls Try.prog 73 [.ptr d j 0, .i a, .i b] up fun v u => v = .tup [.i (2 * (m.first + m.ands.length)), .im (.bool true)] ∧ u = setMk up d j r q { m with ands := m.ands ++ [(min a b, max a b)] } := by
  obtain ⟨z1, z2, z3⟩ := hm
  have kb := hk.box
  have kr := hk.row
  have kq := hk.map
  have w1 : IntKind.i64.wrap (1 + (m.inn.length : Int)) = 1 + (m.inn.length : Int) := wrap64 (by omega)
  have w2 : IntKind.i64.wrap (1 + (m.inn.length : Int) + m.regs.length) = 1 + (m.inn.length : Int) + m.regs.length := wrap64 (by omega)
  have w3 : IntKind.i64.wrap (1 + (m.inn.length : Int) + m.regs.length + m.ands.length) = 1 + (m.inn.length : Int) + m.regs.length + m.ands.length := wrap64 (by omega)
  
  have hlo : (if b < a then b else a) = min a b := by split <;> omega
  have hhi : (if a < b then b else a) = max a b := by split <;> omega
  have fh := xor_one (max a b) (by omega) (by omega)
  have e1 : (min a b == 0) = false := by simpa using fun e => h0 (.inl e)
  have e2 : (min a b == flipL (max a b)) = false := by simpa using fun e => h0 (.inr e)
  have e3 : (min a b == 1) = false := by simpa using fun e => h1 (.inl e)
  have e4 : (min a b == max a b) = false := by simpa using fun e => h1 (.inr e)
  have hfind := findKs_seen (min a b, max a b) m.ands m.first 0
  rw [hf] at hfind
  
  simp only [Option.map_none] at hfind
  have e5 : ((m.ands.length : Int) == 4000) = false := by simp; omega
  have w4 : IntKind.i64.wrap (2 * (1 + (m.inn.length : Int) + m.regs.length + m.ands.length)) = 2 * (1 + (m.inn.length : Int) + m.regs.length + m.ands.length) := wrap64 (by omega)
  have n1 : ¬ (d = d ∧ j = r) := ref_ne kr kb (by simp)
  have n2 : ¬ (d = d ∧ j = q) := ref_ne kq kb (by simp)
  have n3 : ¬ (d = d ∧ r = q) := ref_ne kq kr (by simp)
  have hap : (m.ands.length + 1) * 16 ≤ 140737488355328 := by omega
  have kq2 : ∀ o o2, fget (fset (fset up d r o) d j o2) d q = some (mkMap m) := fun o o2 => by rw [fget_fset_ne (fun e => n2 ⟨rfl, e.2.symm⟩), fget_fset_ne (fun e => n3 ⟨rfl, e.2.symm⟩)]; exact kq
  have kb2 : ∀ o, fget (fset up d r o) d j = some (mkBox r q m) := fun o => by rw [fget_fset_ne n1]; exact kb
  have kb3 : ∀ o o2, fget (fset (fset up d r o) d j o2) d j = some o2 := fun o o2 => fget_fset_same _ _ _ _ _ (kb2 o)
  refine ACalls.code Try.func73 rfl 78 rfl (by simp) [.tmp 6, .tmp 7] rfl fun Q hQ => ?_
  simp only [ups, PV.up, argEnv]
  have ft := And.intro ty_2 (And.intro ty_3 (And.intro ty_4 (And.intro ty_30 (And.intro ty_34 (And.intro ty_37 (And.intro ty_39 (And.intro ty_48 (And.intro ty_119 (And.intro ty_140 trivial)))))))))
  refine Run.seq ?_
  have fx := And.intro hap (And.intro nd_len (And.intro w4 (And.intro e5 (And.intro e4 (And.intro e3 (And.intro e2 (And.intro e1 (And.intro fh (And.intro hhi (And.intro hlo (And.intro kb3 (And.intro kb2 (And.intro kq (And.intro kr (And.intro kb ft)))))))))))))))
  refine Run.go ?_
  refine End.kp [0, 1, 2] ?_
  refine Run.seq ?_
  refine Run.go ?_
  refine End.kp [0, 1, 2] ?_
  refine Run.seq ?_
  refine Run.block ?_
  refine Run.seq ?_
  refine Run.go ?_
  refine End.kp [0, 1, 2, 18] ?_
  refine Run.cond _ rfl (fun hb => ?_) (fun hb => ?_)
  · have hb2 := hb
    simp at hb
  · have hb2 := hb
    refine Run.seq ?_
    have fx := And.intro hap (And.intro nd_len (And.intro w4 (And.intro e5 (And.intro e4 (And.intro e3 (And.intro e2 (And.intro e1 (And.intro fh (And.intro hhi (And.intro hlo (And.intro kb3 (And.intro kb2 (And.intro kq (And.intro kr (And.intro kb ft)))))))))))))))
    refine Run.go ?_
    refine End.kp [0, 1, 2, 27] ?_
    refine Run.cond _ rfl (fun hb => ?_) (fun hb => ?_)
    · have hb2 := hb
      simp at hb
    · have hb2 := hb
      refine Run.skip ?_
      refine End.blk ?_
      refine End.kp [0, 1, 2] ?_
      refine Run.seq ?_
      have fx := And.intro hap (And.intro nd_len (And.intro w4 (And.intro e5 (And.intro e4 (And.intro e3 (And.intro e2 (And.intro e1 (And.intro fh (And.intro hhi (And.intro hlo (And.intro kb3 (And.intro kb2 (And.intro kq (And.intro kr (And.intro kb ft)))))))))))))))
      refine Run.go ?_
      refine End.kp [0, 8] ?_
      refine Run.seq ?_
      refine Run.seq ?_
      refine Run.drawA fun K hK => ?_
      refine DOps.sim ?_
      refine DOps.lookK (d := d + 1) (j := q) [.int .i64 (min a b), .int .i64 (max a b)] (seenE m.first m.ands) _ hfind kq ?_
      simp only [hitPV, if_true]
      have fx := And.intro hap (And.intro nd_len (And.intro w4 (And.intro e5 (And.intro e4 (And.intro e3 (And.intro e2 (And.intro e1 (And.intro fh (And.intro hhi (And.intro hlo (And.intro kb3 (And.intro kb2 (And.intro kq (And.intro kr (And.intro kb ft)))))))))))))))
      refine DOps.sim ?_
      refine DOps.nil (by rfl) (hK _ ?_); clear hK K
      refine End.kp [0, 8, 9, 10] ?_
      refine Run.seq ?_
      refine Run.go ?_
      refine End.kp [0, 8, 9, 48] ?_
      refine Run.cond _ rfl (fun hb => ?_) (fun hb => ?_)
      · have hb2 := hb
        simp at hb
      · have hb2 := hb
        refine Run.skip ?_
        refine End.kp [0, 8] ?_
        refine Run.seq ?_
        refine Run.seq ?_
        have fx := And.intro hap (And.intro nd_len (And.intro w4 (And.intro e5 (And.intro e4 (And.intro e3 (And.intro e2 (And.intro e1 (And.intro fh (And.intro hhi (And.intro hlo (And.intro kb3 (And.intro kb2 (And.intro kq (And.intro kr (And.intro kb ft)))))))))))))))
        refine Run.go ?_
        refine End.kp [0, 8, 55] ?_
        refine Run.cond _ rfl (fun hb => ?_) (fun hb => ?_)
        · have hb2 := hb
          simp at hb
        · have hb2 := hb
          refine Run.skip ?_
          refine End.kp [0, 8] ?_
          refine Run.seq ?_
          have fx := And.intro hap (And.intro nd_len (And.intro w4 (And.intro e5 (And.intro e4 (And.intro e3 (And.intro e2 (And.intro e1 (And.intro fh (And.intro hhi (And.intro hlo (And.intro kb3 (And.intro kb2 (And.intro kq (And.intro kr (And.intro kb ft)))))))))))))))
          refine Run.region rfl fun K hK => GOps.sim ?_
          refine GOps.call rfl rfl rfl rfl (by kernel_rfl) (ACalls.sim ?_)
          refine (mNodes_ok m ⟨z1, z2, z3⟩ _ (d + 1) j r q ⟨kb, kr, kq⟩).mono fun v u hv => ?_
          obtain ⟨rfl, rfl⟩ := hv
          refine ⟨_, _, rfl, GOps.sim ?_⟩
          refine GOps.done (hK _ ?_); clear hK K
          refine End.kp [0, 8, 11] ?_
          refine Run.seq ?_
          refine Run.ghost (.spares 1) ?_
          simp only [ASt.pushN, ASt.push, List.append_assoc, List.cons_append, List.nil_append]
          refine Run.drawA fun K hK => ?_
          refine DOps.sim ?_
          refine DOps.nil (by rfl) (hK _ ?_); clear hK K
          refine End.kp [0, 8, 11] ?_
          refine Run.seq ?_
          refine Run.drawA fun K hK => ?_
          refine DOps.sim ?_
          refine DOps.updK (d := d + 1) (j := q) [.int .i64 (min a b), .int .i64 (max a b)] (seenE m.first m.ands) hfind (by exact kq2 _ _) ?_
          refine DOps.sim ?_
          refine DOps.nil (by rfl) (hK _ ?_); clear hK K
          refine End.kp [11] ?_
          refine Run.seq ?_
          refine Run.go ?_
          refine End.kp [6, 7] ?_
          refine Run.ret (hQ _ _ ⟨.inr rfl, _, rfl, _, rfl, ?_⟩)
          refine ⟨rfl, ?_⟩
          have e1 : mkMap { m with ands := m.ands ++ [(min a b, max a b)] } = .map (seenE m.first m.ands ++ [([.int .i64 (min a b), .int .i64 (max a b)], .int .i64 (2 * (m.first + m.ands.length)))]) := by
            simp only [mkMap]
            rw [seenE_snoc]
          have e2 : mkRow { m with ands := m.ands ++ [(min a b, max a b)] } = .row 37 2 (m.ands.map nd ++ [[.int .i64 (min a b), .int .i64 (max a b)]]) 0 := by simp
          have e3 : mkBox r q { m with ands := m.ands ++ [(min a b, max a b)] } = .box [.im (.sl (strs m.inn)), .im (.sl (m.regs.map LReg.im)), .ms 0 r (m.ands.length + 1), .map 0 q, .i m.bad] := by simp
          rw [setMk, e1, e2, e3, fset_comm up d r d j _ _ (fun e => n1 ⟨rfl, e.2.symm⟩)]
end Go.Proofs.YtdgpmopcmacicaaPi

/- The walks of New, known, And, graphs, slices.Equal. -/
set_option linter.unusedVariables false
set_option linter.unusedSimpArgs false
set_option maxRecDepth 100000
namespace Go.Proofs.YtdgpmopcmacicaaPi
set_option maxHeartbeats 4000000
theorem CloneR_nil (up : Frs) : ACalls Try.prog 71 [.im (.sl (([] : List LReg).map LReg.im))] up fun v u => v = .im (.sl (([] : List LReg).map LReg.im)) ∧ u = up := by
  refine ACalls.code Try.func71 rfl 8 rfl (by simp) [.tmp 2] rfl fun Q hQ => ?_
  simp only [ups, PV.up, argEnv]
  have ft := And.intro ty_4 (And.intro ty_29 (And.intro ty_47 trivial))
  refine Run.seq ?_
  have fx := And.intro (@List.map_nil.{0, 0}) ft
  refine Run.go ?_
  refine End.kp [0] ?_
  refine Run.seq ?_
  refine Run.seq ?_
  refine Run.go ?_
  refine End.kp [0, 4] ?_
  refine Run.cond_any rfl ?_ ?_
  · skip
    refine Run.seq ?_
    have fx := And.intro (@List.map_nil.{0, 0}) ft
    refine Run.go ?_
    refine End.kp [2] ?_
    refine Run.resC hQ ?_
    exact ⟨rfl, rfl⟩
  · skip
    refine Run.skip ?_
    refine End.kp [0] ?_
    refine Run.seq ?_
    have fx := And.intro (@List.map_nil.{0, 0}) ft
    refine Run.go ?_
    refine End.kp [2] ?_
    refine Run.resC hQ ?_
    exact ⟨rfl, rfl⟩
theorem CloneR_cons (x : LReg) (xs : List LReg) (h : xs.length ≤ 1000000) (up : Frs) : ACalls Try.prog 71 [.im (.sl ((x :: xs).map LReg.im))] up fun v u => v = .im (.sl ((x :: xs).map LReg.im)) ∧ u = up := by
  have hall : (xs.map LReg.im).all (fun r => r.length == 3) = true := by simp
  have hlen : ((xs.map LReg.im).length + 1) * 32 ≤ 140737488355328 := by rw [List.length_map]; omega
  refine ACalls.code Try.func71 rfl 8 rfl (by simp) [.tmp 2] rfl fun Q hQ => ?_
  simp only [ups, PV.up, argEnv]
  have ft := And.intro ty_4 (And.intro ty_29 (And.intro ty_47 trivial))
  refine Run.seq ?_
  have fx := And.intro hlen (And.intro hall (And.intro (@List.map_cons.{0, 0}) ft))
  refine Run.go ?_
  refine End.kp [0] ?_
  refine Run.seq ?_
  refine Run.seq ?_
  refine Run.go ?_
  refine End.kp [0, 4] ?_
  refine Run.cond _ rfl (fun hb => ?_) (fun hb => ?_)
  · have hb := hb
    simp at hb
  · have hb := hb
    refine Run.skip ?_
    refine End.kp [0] ?_
    refine Run.seq ?_
    have fx := And.intro hlen (And.intro hall (And.intro (@List.map_cons.{0, 0}) ft))
    refine Run.go ?_
    refine End.move (Ghost.shut (t := 2) (j := 0) rfl rfl rfl) ?_
    simp only [eput, edel]
    refine End.kp [2] ?_
    refine Run.ret (hQ _ _ ⟨.inr rfl, _, rfl, _, rfl, ?_⟩)
    exact ⟨rfl, rfl⟩
theorem CloneR_ok (q : List LReg) (h : q.length ≤ 1000000) (up : Frs) : ACalls Try.prog 71 [.im (.sl (q.map LReg.im))] up fun v u => v = .im (.sl (q.map LReg.im)) ∧ u = up := by
  cases q with
  | nil => exact CloneR_nil up
  | cons x xs => exact CloneR_cons x xs (by simp at h; omega) up
theorem New_ok (inn : List ByteArray) (regs : List LReg) (h1 : inn.length ≤ 1000) (h2 : regs.length ≤ 1000) (f : List AObj) (rest : Frs) : ACalls Try.prog 18 [.im (.sl (strs inn)), .im (.sl (regs.map LReg.im))] (f :: rest) fun v u =>
    v = .ptr 0 (f.length + 1) 0 ∧ u = (f ++ [mkMap ⟨inn, regs, [], 0⟩, mkBox (f.length + 2) (f.length + 0) ⟨inn, regs, [], 0⟩, mkRow ⟨inn, regs, [], 0⟩]) :: rest := by
  refine ACalls.codeX Try.func18 rfl 12 rfl (by simp) [.tmp 4] rfl fun Q hQ => ?_
  simp only [ups, PV.up, argEnv]
  have ft := And.intro ty_3 (And.intro ty_9 (And.intro ty_27 (And.intro ty_29 (And.intro ty_47 (And.intro ty_48 (And.intro ty_119 (And.intro ty_140 trivial)))))))
  refine Run.seq ?_
  have fx := ft
  refine Run.go ?_
  refine End.kp [0, 1] ?_
  refine Run.seq ?_
  refine Run.region rfl fun K hK => GOps.sim ?_
  refine GOps.call rfl rfl rfl rfl (by kernel_rfl) (ACalls.sim ?_)
  refine (CloneS_ok inn (by omega) _).mono fun v u hv => ?_
  obtain ⟨rfl, rfl⟩ := hv
  refine ⟨_, _, rfl, GOps.sim ?_⟩
  refine GOps.call rfl rfl rfl rfl (by kernel_rfl) (ACalls.sim ?_)
  refine (CloneR_ok regs (by omega) _).mono fun v u hv => ?_
  obtain ⟨rfl, rfl⟩ := hv
  refine ⟨_, _, rfl, GOps.sim ?_⟩
  refine GOps.done (hK _ ?_); clear hK K
  refine End.move (Ghost.thawBox (j := 1) (i := 2) 37 2 (by decide) rfl rfl) ?_
  refine End.kp [4] ?_
  refine Run.ret (hQ _ _ ⟨.inr rfl, _, rfl, _, _, rfl, ?_⟩)
  exact ⟨rfl, rfl⟩
theorem mknown_ok (m : LMk) (hm : MkSmall m) (up : Frs) (d j r q : Nat) (hk : MkAt up d j r q m) (l : List Int) (hl : ∀ x ∈ l, 0 ≤ x ∧ x < 2 * (1 + (m.inn.length : Int) + m.regs.length + m.ands.length)) (hn : l.length ≤ 1000) : ACalls Try.prog 72 [.ptr d j 0, .im (.sl (ints l))] up fun v u => v = .im (.bool true) ∧ u = up := by
  have hm2 := hm
  obtain ⟨z1, z2, z3⟩ := hm
  refine ACalls.code Try.func72 rfl 21 rfl (by simp) [.tmp 4] rfl fun Q hQ => ?_
  simp only [ups, PV.up, argEnv]
  have ft := And.intro ty_3 (And.intro ty_4 (And.intro ty_31 (And.intro ty_34 (And.intro ty_39 (And.intro ty_48 trivial)))))
  refine Run.seq ?_
  have fx := And.intro ints_len ft
  refine Run.go ?_
  refine End.kp [0, 1] ?_
  refine Run.seq ?_
  refine Run.seq ?_
  refine Run.go ?_
  refine End.kp [0, 7, 8, 9] ?_
  refine Run.block ?_
  refine Run.ghost (Ghost.form [(0, .ptr (d + 1) j 0), (7, .im (.sl (ints l))), (8, .i l.length), (9, .i (0 : Nat))] 0 ⟨rfl, rfl, rfl, rfl, trivial⟩ rfl rfl) ?_
  refine Run.loop (fun m' st => ∃ i : Nat, m' = l.length - i ∧ i ≤ l.length ∧ st = ⟨[(0, .ptr (d + 1) j 0), (7, .im (.sl (ints l))), (8, .i l.length), (9, .i (i : Nat))], [], up⟩) l.length ⟨0, rfl, by omega, rfl⟩ fun m' st hI => ?_
  obtain ⟨i, rfl, hi, rfl⟩ := hI
  refine Run.seq ?_
  have fx := And.intro ints_len ft
  refine Run.go ?_
  refine End.kp [0, 7, 8, 9, 10] ?_
  refine Run.seq ?_
  refine Run.cond _ rfl (fun hb => ?_) (fun hb => ?_)
  · have hb2 := of_decide_eq_true hb
    have hin : i < l.length := by omega
    have wi := wsucc hin (by omega)
    obtain ⟨x, hxi, hxm, hx⟩ := int_at l i hin
    obtain ⟨x1, x2⟩ := hl x hxm
    refine Run.skip ?_
    refine End.kp [0, 7, 8, 9] ?_
    refine Run.seq ?_
    refine Run.block ?_
    refine Run.seq ?_
    have fx := And.intro (@Int.toNat_natCast) (And.intro (@Int.natCast_nonneg) (And.intro hx (And.intro wi (And.intro ints_len ft))))
    refine Run.go ?_
    refine End.kp [0, 6, 7, 8, 9] ?_
    refine Run.seq ?_
    refine Run.region rfl fun K hK => GOps.sim ?_
    refine GOps.call rfl rfl rfl rfl (by kernel_rfl) (ACalls.sim ?_)
    refine (mNodes_ok m hm2 _ (d + 1) j r q ⟨hk.box, hk.row, hk.map⟩).mono fun v u hv => ?_
    obtain ⟨rfl, rfl⟩ := hv
    refine ⟨_, _, rfl, GOps.sim ?_⟩
    refine GOps.call rfl rfl rfl rfl (by kernel_rfl) (ACalls.sim ?_)
    refine (before_ok x (1 + (m.inn.length : Int) + m.regs.length + m.ands.length) x1 x2 (by omega) _).mono fun v u hv => ?_
    obtain ⟨rfl, rfl⟩ := hv
    refine ⟨_, _, rfl, GOps.sim ?_⟩
    refine GOps.done (hK _ ?_); clear hK K
    refine End.kp [0, 7, 8, 9, 17] ?_
    refine Run.cond _ rfl (fun hb => ?_) (fun hb => ?_)
    · have hb2 := hb
      simp at hb
    · have hb2 := hb
      refine Run.skip ?_
      refine End.blk ?_
      refine End.kp [0, 7, 8, 9] ?_
      have fx := And.intro (@Int.toNat_natCast) (And.intro (@Int.natCast_nonneg) (And.intro hx (And.intro wi (And.intro ints_len ft))))
      refine Run.go ?_
      refine End.lp ?_
      refine ⟨l.length - (i + 1), _, by omega, Ghost.form [(0, .ptr (d + 1) j 0), (7, .im (.sl (ints l))), (8, .i l.length), (9, .i (i + 1 : Nat))] 0 ⟨rfl, rfl, rfl, rfl, trivial⟩ rfl rfl, i + 1, rfl, by omega, rfl⟩
  · have hb2 := of_decide_eq_false hb
    refine Run.exit rfl ?_
    refine End.kp [] ?_
    refine Run.seq ?_
    have fx := And.intro ints_len ft
    refine Run.go ?_
    refine End.kp [4] ?_
    refine Run.ret (hQ _ _ ⟨.inr rfl, _, rfl, _, rfl, ?_⟩)
    exact ⟨rfl, rfl⟩
theorem mand_ok (a b : Int) (m : LMk) (hm : MkSmall m) (up : Frs) (d j r q : Nat) (hk : MkAt up d j r q m) (hn : m.ands.length < 4000) (a0 : 0 ≤ a ∧ a ≤ 1000000) (b0 : 0 ≤ b ∧ b ≤ 1000000) : ACalls Try.prog 73 [.ptr d j 0, .i a, .i b] up fun v u => v = .tup [.i (mkAnd m a b).1, .im (.bool true)] ∧ u = setMk up d j r q (mkAnd m a b).2 := by
  unfold mkAnd
  by_cases h0 : min a b = 0 ∨ min a b = flipL (max a b)
  · rw [if_pos h0]
    refine (mand_zero a b h0 a0 b0 up d j).mono fun v u ⟨h1, h2⟩ => ⟨h1, by rw [h2]; exact (setMk_self hk).symm⟩
  rw [if_neg h0]
  by_cases h1 : min a b = 1 ∨ min a b = max a b
  · rw [if_pos h1]
    refine (mand_one a b h0 h1 a0 b0 up d j).mono fun v u ⟨h1, h2⟩ => ⟨h1, by rw [h2]; exact (setMk_self hk).symm⟩
  rw [if_neg h1]
  cases hf : findA (min a b, max a b) m.ands 0 with
  | some k => exact (mand_old a b h0 h1 a0 b0 m hm up d j r q hk k hf).mono fun v u ⟨h1, h2⟩ => ⟨h1, by rw [h2]; exact (setMk_self hk).symm⟩
  | none => exact mand_new a b h0 h1 a0 b0 m hm up d j r q hk hf hn
theorem mAnd_ok (a b : Int) (m : LMk) (hm : MkSmall m) (up : Frs) (d j r q : Nat) (hk : MkAt up d j r q m) (hn : m.ands.length < 4000) (a0 : 0 ≤ a ∧ a < 2 * (1 + (m.inn.length : Int) + m.regs.length + m.ands.length)) (b0 : 0 ≤ b ∧ b < 2 * (1 + (m.inn.length : Int) + m.regs.length + m.ands.length)) : ACalls Try.prog 20 [.ptr d j 0, .i a, .i b] up fun v u => v = .i (mkAnd m a b).1 ∧ u = setMk up d j r q (mkAnd m a b).2 := by
  have hm2 := hm
  obtain ⟨z1, z2, z3⟩ := hm
  refine ACalls.code Try.func20 rfl 23 rfl (by simp) [.tmp 6] rfl fun Q hQ => ?_
  simp only [ups, PV.up, argEnv]
  have ft := And.intro ty_2 (And.intro ty_4 (And.intro ty_31 (And.intro ty_34 (And.intro ty_48 trivial))))
  refine Run.seq ?_
  have fx := ft
  refine Run.go ?_
  refine End.kp [0, 1, 2] ?_
  refine Run.seq ?_
  refine Run.seq ?_
  refine Run.region rfl fun K hK => GOps.sim ?_
  refine GOps.call rfl rfl rfl rfl (by kernel_rfl) (ACalls.sim ?_)
  refine (mknown_ok m hm2 _ (d + 1) j r q ⟨hk.box, hk.row, hk.map⟩ [a, b] (fun x hx => by simp at hx; rcases hx with rfl | rfl <;> assumption) (by simp)).mono fun v u hv => ?_
  obtain ⟨rfl, rfl⟩ := hv
  refine ⟨_, _, rfl, GOps.sim ?_⟩
  refine GOps.done (hK _ ?_); clear hK K
  refine End.kp [0, 1, 2, 14] ?_
  refine Run.cond _ rfl (fun hb => ?_) (fun hb => ?_)
  · have hb2 := hb
    simp at hb
  · have hb2 := hb
    refine Run.skip ?_
    refine End.kp [0, 1, 2] ?_
    refine Run.seq ?_
    have fx := ft
    refine Run.region rfl fun K hK => GOps.sim ?_
    refine GOps.call rfl rfl rfl rfl (by kernel_rfl) (ACalls.sim ?_)
    refine (mand_ok a b m hm2 _ (d + 1) j r q ⟨hk.box, hk.row, hk.map⟩ hn (by omega) (by omega)).mono fun v u hv => ?_
    obtain ⟨rfl, rfl⟩ := hv
    refine ⟨_, _, rfl, GOps.sim ?_⟩
    refine GOps.done (hK _ ?_); clear hK K
    refine End.kp [7] ?_
    refine Run.seq ?_
    refine Run.go ?_
    refine End.kp [6] ?_
    refine Run.ret (hQ _ _ ⟨.inr rfl, _, rfl, _, rfl, ?_⟩)
    exact ⟨rfl, rfl⟩
-- GONE graphs_ok
theorem EqB_same (p q : List Bool) (h : p = q) (hn : p.length ≤ 1000000) (up : Frs) : ACalls Try.prog 31 [.im (.sl (bools p)), .im (.sl (bools q))] up fun v u => v = .im (.bool true) ∧ u = up := by
  have d1 : ((p.length : Int) != q.length) = false := by rw [h]; simp
  refine ACalls.code Try.func31 rfl 26 rfl (by simp) [.tmp 4] rfl fun Q hQ => ?_
  simp only [ups, PV.up, argEnv]
  have ft := And.intro ty_3 (And.intro ty_4 (And.intro ty_71 trivial))
  refine Run.seq ?_
  have fx := And.intro d1 (And.intro bools_len ft)
  refine Run.go ?_
  refine End.kp [0, 1] ?_
  refine Run.seq ?_
  refine Run.seq ?_
  refine Run.go ?_
  refine End.kp [0, 1, 10] ?_
  refine Run.cond _ rfl (fun hb => ?_) (fun hb => ?_)
  · have hb2 := hb
    simp at hb
  · have hb2 := hb
    refine Run.skip ?_
    refine End.kp [0, 1] ?_
    refine Run.seq ?_
    refine Run.seq ?_
    have fx := And.intro d1 (And.intro bools_len ft)
    refine Run.go ?_
    refine End.kp [0, 1, 12, 13] ?_
    refine Run.block ?_
    refine Run.ghost (Ghost.form [(0, .im (.sl (bools p))), (1, .im (.sl (bools q))), (12, .i p.length), (13, .i (0 : Nat))] 0 ⟨rfl, rfl, rfl, rfl, trivial⟩ rfl rfl) ?_
    refine Run.loop (fun m' st => ∃ i : Nat, m' = p.length - i ∧ i ≤ p.length ∧ st = ⟨[(0, .im (.sl (bools p))), (1, .im (.sl (bools q))), (12, .i p.length), (13, .i (i : Nat))], [], up⟩) p.length ⟨0, rfl, by omega, rfl⟩ fun m' st hI => ?_
    obtain ⟨i, rfl, hi, rfl⟩ := hI
    refine Run.seq ?_
    have fx := And.intro d1 (And.intro bools_len ft)
    refine Run.go ?_
    refine End.kp [0, 1, 12, 13, 14] ?_
    refine Run.seq ?_
    refine Run.cond _ rfl (fun hb => ?_) (fun hb => ?_)
    · have hb2 := of_decide_eq_true hb
      have hin : i < p.length := by omega
      have hiq : i < q.length := by rw [← h]; exact hin
      have wi := wsucc hin (by omega)
      have hp := bools_get p i hin
      have hq := bools_get q i hiq
      have hlp : (i : Int) < (p.length : Int) := by omega
      have hlq : (i : Int) < (q.length : Int) := by omega
      refine Run.skip ?_
      refine End.kp [0, 1, 12, 13] ?_
      refine Run.seq ?_
      refine Run.block ?_
      refine Run.seq ?_
      have fx := And.intro (@Int.toNat_natCast) (And.intro (@Int.natCast_nonneg) (And.intro hlq (And.intro hlp (And.intro hq (And.intro hp (And.intro wi (And.intro d1 (And.intro bools_len ft))))))))
      refine Run.go ?_
      refine End.kp [0, 1, 5, 12, 13] ?_
      refine Run.seq ?_
      refine Run.drawA fun K hK => ?_
      refine DOps.sim ?_
      refine DOps.nil (metAll_quiet rfl) (hK _ ?_); clear hK K
      refine End.kp [0, 1, 12, 13, 24] ?_
      refine Run.cond _ rfl (fun hb => ?_) (fun hb => ?_)
      · have hb2 := hb
        simp [h] at hb
      · have hb2 := hb
        refine Run.skip ?_
        refine End.blk ?_
        refine End.kp [0, 1, 12, 13] ?_
        have fx := And.intro (@Int.toNat_natCast) (And.intro (@Int.natCast_nonneg) (And.intro hlq (And.intro hlp (And.intro hq (And.intro hp (And.intro wi (And.intro d1 (And.intro bools_len ft))))))))
        refine Run.go ?_
        refine End.lp ?_
        refine ⟨p.length - (i + 1), _, by omega, Ghost.form [(0, .im (.sl (bools p))), (1, .im (.sl (bools q))), (12, .i p.length), (13, .i (i + 1 : Nat))] 0 ⟨rfl, rfl, rfl, rfl, trivial⟩ rfl rfl, i + 1, rfl, by omega, rfl⟩
    · have hb2 := of_decide_eq_false hb
      refine Run.exit rfl ?_
      refine End.kp [] ?_
      refine Run.seq ?_
      have fx := And.intro d1 (And.intro bools_len ft)
      refine Run.go ?_
      refine End.kp [4] ?_
      refine Run.ret (hQ _ _ ⟨.inr rfl, _, rfl, _, rfl, ?_⟩)
      exact ⟨rfl, rfl⟩
end Go.Proofs.YtdgpmopcmacicaaPi

/- The walks of Roots, cone, moved, Clean of graphs. -/
set_option linter.unusedVariables false
set_option linter.unusedSimpArgs false
set_option maxRecDepth 100000
namespace Go.Proofs.YtdgpmopcmacicaaPi
set_option maxHeartbeats 4000000
abbrev iI (x : Int) : List Im := [.int .i64 x]
theorem CloneRI_nil (k : Nat) (up : Frs) (hk : fget up 0 k = some .dead) : ACalls Try.prog 71 [.im (.sl (([] : List LReg).map LReg.im))] up fun v u => v = .ms 0 k 0 ∧ u = fset up 0 k (.row 47 3 (([] : List LReg).map LReg.im) 0) := by
  refine ACalls.codeI Try.func71 rfl 8 rfl (by simp) [.tmp 2] rfl k fun Q hQ => ?_
  simp only [ups, PV.up, argEnv]
  have ft := And.intro ty_4 (And.intro ty_29 (And.intro ty_47 trivial))
  refine Run.seq ?_
  have fx := And.intro (@List.map_nil.{0, 0}) ft
  refine Run.go ?_
  refine End.kp [0] ?_
  refine Run.seq ?_
  refine Run.seq ?_
  refine Run.go ?_
  refine End.kp [0, 4] ?_
  refine Run.cond_any rfl ?_ ?_
  · skip
    refine Run.seq ?_
    have fx := And.intro (@List.map_nil.{0, 0}) ft
    refine Run.go ?_
    refine End.move (Ghost.thaw (u := 2) 47 3 (by decide) rfl) ?_
    refine End.kp [2] ?_
    have fx := And.intro (@List.map_nil.{0, 0}) ft
    refine Run.resI 0 hQ hk ?_
    exact ⟨rfl, rfl⟩
  · skip
    refine Run.skip ?_
    refine End.kp [0] ?_
    refine Run.seq ?_
    have fx := And.intro (@List.map_nil.{0, 0}) ft
    refine Run.go ?_
    refine End.kp [2] ?_
    refine Run.resI 0 hQ hk ?_
    exact ⟨rfl, rfl⟩
theorem CloneRI_cons (k : Nat) (x : LReg) (xs : List LReg) (h : xs.length ≤ 1000000) (up : Frs) (hk : fget up 0 k = some .dead) : ACalls Try.prog 71 [.im (.sl ((x :: xs).map LReg.im))] up fun v u => v = .ms 0 k (x :: xs).length ∧ u = fset up 0 k (.row 47 3 ((x :: xs).map LReg.im) 0) := by
  have hall : (xs.map LReg.im).all (fun r => r.length == 3) = true := by simp
  have hlen : (xs.length + 1) * 32 ≤ 140737488355328 := by omega
  refine ACalls.codeI Try.func71 rfl 8 rfl (by simp) [.tmp 2] rfl k fun Q hQ => ?_
  simp only [ups, PV.up, argEnv]
  have ft := And.intro ty_4 (And.intro ty_29 (And.intro ty_47 trivial))
  refine Run.seq ?_
  have fx := And.intro (@List.length_map.{0, 0}) (And.intro hlen (And.intro hall (And.intro (@List.map_cons.{0, 0}) ft)))
  refine Run.go ?_
  refine End.kp [0] ?_
  refine Run.seq ?_
  refine Run.seq ?_
  refine Run.go ?_
  refine End.kp [0, 4] ?_
  refine Run.cond _ rfl (fun hb => ?_) (fun hb => ?_)
  · have hb := hb
    simp at hb
  · have hb := hb
    refine Run.skip ?_
    refine End.kp [0] ?_
    refine Run.seq ?_
    have fx := And.intro (@List.length_map.{0, 0}) (And.intro hlen (And.intro hall (And.intro (@List.map_cons.{0, 0}) ft)))
    refine Run.go ?_
    refine End.kp [2] ?_
    refine Run.resI 0 hQ hk ?_
    exact ⟨rfl, rfl⟩
theorem CloneRI_ok (q : List LReg) (h : q.length ≤ 1000000) (k : Nat) (up : Frs) (hk : fget up 0 k = some .dead) : ACalls Try.prog 71 [.im (.sl (q.map LReg.im))] up fun v u => v = .ms 0 k q.length ∧ u = fset up 0 k (.row 47 3 (q.map LReg.im) 0) := by
  cases q with
  | nil => exact CloneRI_nil k up hk
  | cons x xs => exact CloneRI_cons k x xs (by simp at h; omega) up hk
theorem CloneN_nil (up : Frs) : ACalls Try.prog 116 [.im (.sl (([] : List (Int × Int)).map nd))] up fun v u => v = .im (.sl (([] : List (Int × Int)).map nd)) ∧ u = up := by
  refine ACalls.code Try.func116 rfl 8 rfl (by simp) [.tmp 2] rfl fun Q hQ => ?_
  simp only [ups, PV.up, argEnv]
  have ft := And.intro ty_4 (And.intro ty_30 (And.intro ty_37 trivial))
  refine Run.seq ?_
  have fx := And.intro (@List.map_nil.{0, 0}) ft
  refine Run.go ?_
  refine End.kp [0] ?_
  refine Run.seq ?_
  refine Run.seq ?_
  refine Run.go ?_
  refine End.kp [0, 4] ?_
  refine Run.cond_any rfl ?_ ?_
  · skip
    refine Run.seq ?_
    have fx := And.intro (@List.map_nil.{0, 0}) ft
    refine Run.go ?_
    refine End.kp [2] ?_
    refine Run.resC hQ ?_
    exact ⟨rfl, rfl⟩
  · skip
    refine Run.skip ?_
    refine End.kp [0] ?_
    refine Run.seq ?_
    have fx := And.intro (@List.map_nil.{0, 0}) ft
    refine Run.go ?_
    refine End.kp [2] ?_
    refine Run.resC hQ ?_
    exact ⟨rfl, rfl⟩
theorem CloneN_cons (x : (Int × Int)) (xs : List (Int × Int)) (h : xs.length ≤ 1000000) (up : Frs) : ACalls Try.prog 116 [.im (.sl ((x :: xs).map nd))] up fun v u => v = .im (.sl ((x :: xs).map nd)) ∧ u = up := by
  have hall : (xs.map nd).all (fun r => r.length == 2) = true := by simp
  have hlen : ((xs.map nd).length + 1) * 16 ≤ 140737488355328 := by rw [List.length_map]; omega
  refine ACalls.code Try.func116 rfl 8 rfl (by simp) [.tmp 2] rfl fun Q hQ => ?_
  simp only [ups, PV.up, argEnv]
  have ft := And.intro ty_4 (And.intro ty_30 (And.intro ty_37 trivial))
  refine Run.seq ?_
  have fx := And.intro hlen (And.intro hall (And.intro (@List.map_cons.{0, 0}) ft))
  refine Run.go ?_
  refine End.kp [0] ?_
  refine Run.seq ?_
  refine Run.seq ?_
  refine Run.go ?_
  refine End.kp [0, 4] ?_
  refine Run.cond _ rfl (fun hb => ?_) (fun hb => ?_)
  · have hb := hb
    simp at hb
  · have hb := hb
    refine Run.skip ?_
    refine End.kp [0] ?_
    refine Run.seq ?_
    have fx := And.intro hlen (And.intro hall (And.intro (@List.map_cons.{0, 0}) ft))
    refine Run.go ?_
    refine End.move (Ghost.shut (t := 2) (j := 0) rfl rfl rfl) ?_
    simp only [eput, edel]
    refine End.kp [2] ?_
    refine Run.ret (hQ _ _ ⟨.inr rfl, _, rfl, _, rfl, ?_⟩)
    exact ⟨rfl, rfl⟩
theorem CloneN_ok (q : List (Int × Int)) (h : q.length ≤ 1000000) (up : Frs) : ACalls Try.prog 116 [.im (.sl (q.map nd))] up fun v u => v = .im (.sl (q.map nd)) ∧ u = up := by
  cases q with
  | nil => exact CloneN_nil up
  | cons x xs => exact CloneN_cons x xs (by simp at h; omega) up
theorem bools_set (q : List Bool) (i : Nat) (b : Bool) : (bools q).set i [.bool b] = bools (q.set i b) := by simp [List.map_set]
theorem GNodes_ok (g : LGraph) (hg : GSmall g) (up : Frs) : ACalls Try.prog 51 [g.pv] up fun v u => v = .i (1 + g.inn.length + g.regs.length + g.ands.length) ∧ u = up := by
  have hg2 := hg
  obtain ⟨z1, z2, z3, z4, z5⟩ := hg
  have w1 : IntKind.i64.wrap (1 + (g.inn.length : Int) + g.regs.length + g.ands.length) = 1 + (g.inn.length : Int) + g.regs.length + g.ands.length := wrap64 (by omega)
  refine ACalls.code Try.func51 rfl 9 rfl (by simp) [.tmp 2] rfl fun Q hQ => ?_
  simp only [ups, PV.up, argEnv]
  have ft := And.intro ty_3 (And.intro ty_30 (And.intro ty_33 (And.intro ty_37 trivial)))
  refine Run.seq ?_
  have fx := And.intro w1 (And.intro nd_len ft)
  refine Run.go ?_
  refine End.kp [1] ?_
  refine Run.seq ?_
  refine Run.drawA fun K hK => ?_
  refine DOps.sim ?_
  refine DOps.call (.i (1 + (g.inn.length : Int) + g.regs.length)) [] [] rfl rfl rfl rfl (by kernel_rfl) (by simp [Agree]) (fun u hu => GFirst_ok g hg2 u) ?_
  refine DOps.sim ?_
  refine DOps.nil (metAll_quiet rfl) (hK _ ?_); clear hK K
  refine End.kp [2] ?_
  refine Run.ret (hQ _ _ ⟨.inr rfl, _, rfl, _, rfl, ?_⟩)
  exact ⟨rfl, rfl⟩
end Go.Proofs.YtdgpmopcmacicaaPi

/- The walks of moved$1, moved of graphs. -/
set_option linter.unusedVariables false
set_option linter.unusedSimpArgs false
set_option maxRecDepth 100000
namespace Go.Proofs.YtdgpmopcmacicaaPi
set_option maxHeartbeats 4000000
end Go.Proofs.YtdgpmopcmacicaaPi

/- The walk of Clean of graphs. -/
set_option linter.unusedVariables false
set_option linter.unusedSimpArgs false
set_option maxRecDepth 100000
namespace Go.Proofs.YtdgpmopcmacicaaPi
set_option maxHeartbeats 4000000
end Go.Proofs.YtdgpmopcmacicaaPi

/- The walk of Strash of graphs. -/
set_option linter.unusedVariables false
set_option linter.unusedSimpArgs false
set_option maxRecDepth 100000
namespace Go.Proofs.YtdgpmopcmacicaaPi
set_option maxHeartbeats 4000000
end Go.Proofs.YtdgpmopcmacicaaPi

/- The walks of runs, GraphTidies. -/
set_option linter.unusedVariables false
set_option linter.unusedSimpArgs false
set_option maxRecDepth 100000
namespace Go.Proofs.YtdgpmopcmacicaaPi
set_option maxHeartbeats 4000000
theorem runG_row (g : LGraph) : ∀ (t : List (List Bool)) (st : List Int), ∀ r ∈ runG g st t, r.length = g.outs.length
  | [], st, r, h => by simp [runG] at h
  | x :: t, st, r, h => by
    simp only [runG, List.mem_cons] at h
    rcases h with rfl | h
    · simp [outsG]
    · exact runG_row g t _ r h
abbrev runI (g : LGraph) (tr : List (List Bool)) : List (List Bool) := runG g (lanes0 (initG g)) tr
theorem EqF_same (p : List (List Bool)) (hn : p.length ≤ 1000000) (hr : ∀ r ∈ p, r.length ≤ 1000000) (up : Frs) : ACalls Try.prog 30 [.im (.sl (boolss p)), .im (.sl (boolss p)), .fn 31 []] up fun v u => v = .im (.bool true) ∧ u = up := by
  have d1 : ((p.length : Int) != p.length) = false := by simp
  refine ACalls.code Try.func30 rfl 32 rfl (by simp) [.tmp 6] rfl fun Q hQ => ?_
  simp only [ups, PV.up, argEnv]
  have ft := And.intro ty_3 (And.intro ty_4 (And.intro ty_63 (And.intro ty_71 trivial)))
  refine Run.seq ?_
  have fx := And.intro d1 (And.intro boolss_len ft)
  refine Run.go ?_
  refine End.kp [0, 1, 2] ?_
  refine Run.seq ?_
  refine Run.seq ?_
  refine Run.go ?_
  refine End.kp [0, 1, 2, 14] ?_
  refine Run.cond _ rfl (fun hb => ?_) (fun hb => ?_)
  · have hb2 := hb
    simp at hb
  · have hb2 := hb
    refine Run.skip ?_
    refine End.kp [0, 1, 2] ?_
    refine Run.seq ?_
    refine Run.seq ?_
    have fx := And.intro d1 (And.intro boolss_len ft)
    refine Run.go ?_
    refine End.kp [1, 2, 15, 16, 17] ?_
    refine Run.block ?_
    refine Run.ghost (Ghost.form [(1, .im (.sl (boolss p))), (2, .fn 31 []), (15, .im (.sl (boolss p))), (16, .i p.length), (17, .i (0 : Nat))] 0 ⟨rfl, rfl, rfl, rfl, rfl, trivial⟩ rfl rfl) ?_
    refine Run.loop (fun m' st => ∃ i : Nat, m' = p.length - i ∧ i ≤ p.length ∧ st = ⟨[(1, .im (.sl (boolss p))), (2, .fn 31 []), (15, .im (.sl (boolss p))), (16, .i p.length), (17, .i (i : Nat))], [], up⟩) p.length ⟨0, rfl, by omega, rfl⟩ fun m' st hI => ?_
    obtain ⟨i, rfl, hi, rfl⟩ := hI
    refine Run.seq ?_
    have fx := And.intro d1 (And.intro boolss_len ft)
    refine Run.go ?_
    refine End.kp [1, 2, 15, 16, 17, 18] ?_
    refine Run.seq ?_
    refine Run.cond _ rfl (fun hb => ?_) (fun hb => ?_)
    · have hb2 := of_decide_eq_true hb
      have hin : i < p.length := by omega
      have wi := wsucc hin (by omega)
      obtain ⟨r, hri, hrm, _, hrr⟩ := boolss_at p i hin
      have hrl := hr r hrm
      have hil : (i : Int) < (p.length : Int) := by omega
      refine Run.skip ?_
      refine End.kp [1, 2, 15, 16, 17] ?_
      refine Run.seq ?_
      refine Run.block ?_
      refine Run.seq ?_
      have fx := And.intro (@Int.toNat_natCast) (And.intro (@Int.natCast_nonneg) (And.intro hil (And.intro hrr (And.intro wi (And.intro d1 (And.intro boolss_len ft))))))
      refine Run.go ?_
      refine End.kp [1, 2, 7, 8, 15, 16, 17] ?_
      refine Run.seq ?_
      refine Run.go ?_
      refine End.kp [1, 2, 8, 9, 15, 16, 17] ?_
      refine Run.seq ?_
      refine Run.region rfl fun K hK => GOps.sim ?_
      refine GOps.call rfl rfl rfl rfl (by kernel_rfl) (ACalls.sim ?_)
      refine (EqB_same r r rfl (by omega) _).mono fun v u hv => ?_
      obtain ⟨rfl, rfl⟩ := hv
      refine ⟨_, _, rfl, GOps.sim ?_⟩
      refine GOps.done (hK _ ?_); clear hK K
      refine End.kp [1, 2, 15, 16, 17, 30] ?_
      refine Run.cond _ rfl (fun hb => ?_) (fun hb => ?_)
      · have hb2 := hb
        simp at hb
      · have hb2 := hb
        refine Run.skip ?_
        refine End.blk ?_
        refine End.kp [1, 2, 15, 16, 17] ?_
        have fx := And.intro (@Int.toNat_natCast) (And.intro (@Int.natCast_nonneg) (And.intro hil (And.intro hrr (And.intro wi (And.intro d1 (And.intro boolss_len ft))))))
        refine Run.go ?_
        refine End.lp ?_
        refine ⟨p.length - (i + 1), _, by omega, Ghost.form [(1, .im (.sl (boolss p))), (2, .fn 31 []), (15, .im (.sl (boolss p))), (16, .i p.length), (17, .i (i + 1 : Nat))] 0 ⟨rfl, rfl, rfl, rfl, rfl, trivial⟩ rfl rfl, i + 1, rfl, by omega, rfl⟩
    · have hb2 := of_decide_eq_false hb
      refine Run.exit rfl ?_
      refine End.kp [] ?_
      refine Run.seq ?_
      have fx := And.intro d1 (And.intro boolss_len ft)
      refine Run.go ?_
      refine End.kp [6] ?_
      refine Run.ret (hQ _ _ ⟨.inr rfl, _, rfl, _, rfl, ?_⟩)
      exact ⟨rfl, rfl⟩
-- GONE runs_ok
-- GONE Tidies_walk
end Go.Proofs.YtdgpmopcmacicaaPi

/- Merged: WGF WGG WGH. -/
/- The walks of Copy of graphs, and of pair, depends of makers. -/
set_option linter.unusedVariables false
set_option linter.unusedSimpArgs false
set_option maxRecDepth 100000
namespace Go.Proofs.YtdgpmopcmacicaaPi
set_option maxHeartbeats 4000000
theorem CloneL_nil (up : Frs) : ACalls Try.prog 111 [.im (.sl (([] : List Int).map iI))] up fun v u => v = .im (.sl (([] : List Int).map iI)) ∧ u = up := by
  refine ACalls.code Try.func111 rfl 8 rfl (by simp) [.tmp 2] rfl fun Q hQ => ?_
  simp only [ups, PV.up, argEnv]
  have ft := And.intro ty_4 (And.intro ty_31 (And.intro ty_34 trivial))
  refine Run.seq ?_
  have fx := And.intro (@List.map_nil.{0, 0}) ft
  refine Run.go ?_
  refine End.kp [0] ?_
  refine Run.seq ?_
  refine Run.seq ?_
  refine Run.go ?_
  refine End.kp [0, 4] ?_
  refine Run.cond_any rfl ?_ ?_
  · skip
    refine Run.seq ?_
    have fx := And.intro (@List.map_nil.{0, 0}) ft
    refine Run.go ?_
    refine End.kp [2] ?_
    refine Run.resC hQ ?_
    exact ⟨rfl, rfl⟩
  · skip
    refine Run.skip ?_
    refine End.kp [0] ?_
    refine Run.seq ?_
    have fx := And.intro (@List.map_nil.{0, 0}) ft
    refine Run.go ?_
    refine End.kp [2] ?_
    refine Run.resC hQ ?_
    exact ⟨rfl, rfl⟩
theorem CloneL_cons (x : Int) (xs : List Int) (h : xs.length ≤ 1000000) (up : Frs) : ACalls Try.prog 111 [.im (.sl ((x :: xs).map iI))] up fun v u => v = .im (.sl ((x :: xs).map iI)) ∧ u = up := by
  have hall : (xs.map iI).all (fun r => r.length == 1) = true := by simp
  have hlen : ((xs.map iI).length + 1) * 8 ≤ 140737488355328 := by rw [List.length_map]; omega
  refine ACalls.code Try.func111 rfl 8 rfl (by simp) [.tmp 2] rfl fun Q hQ => ?_
  simp only [ups, PV.up, argEnv]
  have ft := And.intro ty_4 (And.intro ty_31 (And.intro ty_34 trivial))
  refine Run.seq ?_
  have fx := And.intro hlen (And.intro hall (And.intro (@List.map_cons.{0, 0}) ft))
  refine Run.go ?_
  refine End.kp [0] ?_
  refine Run.seq ?_
  refine Run.seq ?_
  refine Run.go ?_
  refine End.kp [0, 4] ?_
  refine Run.cond _ rfl (fun hb => ?_) (fun hb => ?_)
  · have hb := hb
    simp at hb
  · have hb := hb
    refine Run.skip ?_
    refine End.kp [0] ?_
    refine Run.seq ?_
    have fx := And.intro hlen (And.intro hall (And.intro (@List.map_cons.{0, 0}) ft))
    refine Run.go ?_
    refine End.move (Ghost.shut (t := 2) (j := 0) rfl rfl rfl) ?_
    simp only [eput, edel]
    refine End.kp [2] ?_
    refine Run.ret (hQ _ _ ⟨.inr rfl, _, rfl, _, rfl, ?_⟩)
    exact ⟨rfl, rfl⟩
theorem CloneL_ok (q : List Int) (h : q.length ≤ 1000000) (up : Frs) : ACalls Try.prog 111 [.im (.sl (q.map iI))] up fun v u => v = .im (.sl (q.map iI)) ∧ u = up := by
  cases q with
  | nil => exact CloneL_nil up
  | cons x xs => exact CloneL_cons x xs (by simp at h; omega) up
abbrev LMk.top (m : LMk) : Int := 2 * (m.first + m.ands.length)
abbrev InM (m : LMk) (a : Int) : Prop := 0 ≤ a ∧ a < m.top
structure AfterM (m m' : LMk) (n : Nat) : Prop where
  inn : m'.inn = m.inn
  regs : m'.regs = m.regs
  less : m.ands.length ≤ m'.ands.length
  most : m'.ands.length ≤ m.ands.length + n
theorem AfterM.first {m m' : LMk} {n : Nat} (h : AfterM m m' n) : m'.first = m.first := by rw [LMk.first, LMk.first, h.inn, h.regs]
theorem AfterM.small {m m' : LMk} {n : Nat} (h : AfterM m m' n) (hm : MkSmall m) (hn : m.ands.length + n ≤ 4000) : MkSmall m' := ⟨by rw [h.inn]; exact hm.inn, by rw [h.regs]; exact hm.regs, by have := h.most; omega⟩
theorem AfterM.up {m m' : LMk} {n : Nat} (h : AfterM m m' n) {a : Int} (ha : InM m a) : InM m' a := by
  have := h.first
  have := h.less
  unfold InM LMk.top at *
  omega
theorem AfterM.trans {m m' m2 : LMk} {n k : Nat} (h : AfterM m m' n) (h' : AfterM m' m2 k) : AfterM m m2 (n + k) := ⟨by rw [h'.inn, h.inn], by rw [h'.regs, h.regs], by have := h.less; have := h'.less; omega, by have := h.most; have := h'.most; omega⟩
theorem AfterM.refl (m : LMk) (n : Nat) : AfterM m m n := ⟨rfl, rfl, Nat.le_refl _, by omega⟩
theorem Not_ok (l : Int) (h0 : 0 ≤ l) (h1 : l ≤ 1000000000) (up : Frs) : ACalls Try.prog 22 [.i l] up fun v u => v = .i (flipL l) ∧ u = up := by
  have d1 : decide (l < 0) = false := decide_eq_false (by omega)
  have hx := xor_one l h0 h1
  refine ACalls.code Try.func22 rfl 8 rfl (by simp) [.tmp 2] rfl fun Q hQ => ?_
  simp only [ups, PV.up, argEnv]
  have ft := And.intro ty_4 (And.intro ty_34 trivial)
  refine Run.seq ?_
  have fx := And.intro hx (And.intro d1 ft)
  refine Run.go ?_
  refine End.kp [0] ?_
  refine Run.seq ?_
  refine Run.seq ?_
  refine Run.go ?_
  refine End.kp [0, 4] ?_
  refine Run.cond _ rfl (fun hb => ?_) (fun hb => ?_)
  · have hb2 := hb
    simp at hb
  · have hb2 := hb
    refine Run.skip ?_
    refine End.kp [0] ?_
    refine Run.seq ?_
    have fx := And.intro hx (And.intro d1 ft)
    refine Run.go ?_
    refine End.kp [2] ?_
    refine Run.ret (hQ _ _ ⟨.inr rfl, _, rfl, _, rfl, ?_⟩)
    exact ⟨rfl, rfl⟩
-- GONE mpair_ok
end Go.Proofs.YtdgpmopcmacicaaPi

/- The walks of depends, table, Table of makers. -/
set_option linter.unusedVariables false
set_option linter.unusedSimpArgs false
namespace Go.Proofs.YtdgpmopcmacicaaPi
set_option maxHeartbeats 4000000
-- GONE depends_ok
end Go.Proofs.YtdgpmopcmacicaaPi

/- The walk of table of makers. -/
set_option linter.unusedVariables false
set_option linter.unusedSimpArgs false
namespace Go.Proofs.YtdgpmopcmacicaaPi
set_option maxHeartbeats 4000000
theorem shlU (n : Nat) (h : n ≤ 6) : IntKind.u64.wrap (1 * 2 ^ min n IntKind.u64.bits) = ((2 ^ n : Nat) : Int) := by
  have : n = 0 ∨ n = 1 ∨ n = 2 ∨ n = 3 ∨ n = 4 ∨ n = 5 ∨ n = 6 := by omega
  rcases this with rfl | rfl | rfl | rfl | rfl | rfl | rfl <;> decide +kernel
theorem bit_and_one (t : Int) : bits .and .u64 t 1 = 0 ∨ bits .and .u64 t 1 = 1 := by
  have h : bits .and .u64 t 1 = ((bv t &&& 1#64).toNat : Int) := by
    show IntKind.u64.wrap (BitVec.ofInt 64 t &&& BitVec.ofInt 64 1).toNat = _
    rw [wrapU (by have := (BitVec.ofInt 64 t &&& BitVec.ofInt 64 1).isLt; omega)]
    rfl
  rw [h]
  have h2 : (bv t &&& 1#64).toNat = (bv t).toNat % 2 := by
    rw [BitVec.toNat_and]
    exact Nat.and_one_is_mod _
  rw [h2]
  omega
-- GONE mtable_zero
-- GONE mtable_succ
end Go.Proofs.YtdgpmopcmacicaaPi

/- Merged: WGI WGJ WGK. -/
/- The walks of Table, Graph of makers. -/
set_option linter.unusedVariables false
set_option linter.unusedSimpArgs false
set_option maxRecDepth 100000
namespace Go.Proofs.YtdgpmopcmacicaaPi
set_option maxHeartbeats 4000000
-- GONE mTable_ok
end Go.Proofs.YtdgpmopcmacicaaPi

/- The walks of Next, Words of a stream without numbers. -/
set_option linter.unusedVariables false
set_option linter.unusedSimpArgs false
namespace Go.Proofs.YtdgpmopcmacicaaPi
set_option maxHeartbeats 4000000
end Go.Proofs.YtdgpmopcmacicaaPi

/- The walk of GraphTables. -/
set_option linter.unusedVariables false
set_option linter.unusedSimpArgs false
namespace Go.Proofs.YtdgpmopcmacicaaPi
set_option maxHeartbeats 4000000
-- GONE Tables_walk
end Go.Proofs.YtdgpmopcmacicaaPi

/- Merged: PTidyA PTidyB PTab. -/
/- Plain law: Clean and Strash of graphs keep what a graph shows. -/
set_option linter.unusedVariables false
set_option linter.unusedSimpArgs false
namespace Go.Proofs.YtdgpmopcmacicaaPi

/-- Lane 0 of a literal. -/
def lb (v : List Int) (l : Int) : Bool := bit0 (ofV v l)
theorem lb_litB (v : List Int) (l : Int) : lb v l = (litB v l).getLsbD 0 := by
  rw [← bv_of]; rfl
theorem lb_def (v : List Int) (l : Int) : lb v l = if l % 2 = 1 then !bit0 (v.getD (l / 2).toNat 0) else bit0 (v.getD (l / 2).toNat 0) := by
  unfold lb ofV
  split
  · rw [vnot, bit0_not]
  · rfl
theorem lb_even (v : List Int) (k : Nat) : lb v (2 * (k : Int)) = bit0 (v.getD k 0) := by
  rw [lb_def, if_neg (by omega), show (2 * (k : Int) / 2).toNat = k by omega]
/-- The node's value. -/
theorem node_lb {g : LGraph} (hg : GraphOk g) {inn st : List Int} (h1 : inn.length = g.inn.length) (h2 : st.length = g.regs.length) (i : Nat) (p : Int × Int) (hp : g.ands[i]? = some p) : bit0 ((graphVals g inn st).getD (1 + g.inn.length + g.regs.length + i) 0) = (lb (graphVals g inn st) p.1 && lb (graphVals g inn st) p.2) := by
  have h := g_and hg h1 h2 i p hp
  rw [← lb_even, show (2 * ((1 + g.inn.length + g.regs.length + i : Nat) : Int)) = 2 * (1 + (g.inn.length : Int) + g.regs.length + i) by omega, lb_litB, h, lb_litB, lb_litB]
  simp
/- The cone. -/
theorem set_getD (v : List Bool) (i k : Nat) : (v.set i true).getD k false = if i = k ∧ k < v.length then true else v.getD k false := by
  simp only [List.getD_eq_getElem?_getD, List.getElem?_set]
  by_cases h : i = k
  · subst h
    by_cases h2 : i < v.length
    · simp [h2]
    · simp [h2]
  · simp [h]
theorem set_mono {v : List Bool} {i k : Nat} (h : v.getD k false = true) : (v.set i true).getD k false = true := by
  rw [set_getD]
  split
  · rfl
  · exact h
section
variable {g : LGraph} (hg : GraphOk g)
include hg
end

section
variable {g : LGraph} (hg : GraphOk g) {inn st : List Int} (h1 : inn.length = g.inn.length) (h2 : st.length = g.regs.length)
include hg h1 h2
end
end Go.Proofs.YtdgpmopcmacicaaPi

/- Plain law: Strash of graphs keeps what a graph shows; done again Clean and Strash change nothing. -/
set_option linter.unusedVariables false
set_option linter.unusedSimpArgs false
namespace Go.Proofs.YtdgpmopcmacicaaPi

section
variable {g : LGraph} {inn st : List Int} (h1 : inn.length = g.inn.length) (h2 : st.length = g.regs.length)
include h1 h2
end
end Go.Proofs.YtdgpmopcmacicaaPi

/- Plain law: a table has its values over any literals. -/
set_option linter.unusedVariables false
set_option linter.unusedSimpArgs false
namespace Go.Proofs.YtdgpmopcmacicaaPi

theorem bv_shift (t : Int) (h : U64 t) (s : Nat) : bv (t.fdiv (2 ^ s)) = bv t >>> s := by
  obtain ⟨h0, h1⟩ := h
  obtain ⟨r, rfl⟩ : ∃ r : Nat, t = r := ⟨t.toNat, by omega⟩
  have e2 : ((2 : Int) ^ s) = ((2 ^ s : Nat) : Int) := by simp
  have e : ((r : Int).fdiv (2 ^ s)) = ((r / 2 ^ s : Nat) : Int) := by
    rw [e2, Int.fdiv_eq_ediv_of_nonneg _ (Int.natCast_nonneg _)]
    rfl
  have hle : r / 2 ^ s ≤ r := Nat.div_le_self _ _
  apply BitVec.eq_of_toNat_eq
  rw [e, BitVec.toNat_ushiftRight, BitVec.toNat_ofInt, BitVec.toNat_ofInt, Nat.shiftRight_eq_div_pow]
  have a1 : ((((r / 2 ^ s : Nat) : Int)) % ((2 ^ 64 : Nat) : Int)).toNat = r / 2 ^ s := by
    generalize r / 2 ^ s = y at hle
    omega
  have a2 : ((r : Int) % ((2 ^ 64 : Nat) : Int)).toNat = r := by omega
  rw [a1, a2]
/-- The bit of a table. -/
def tb (t : Int) (k : Nat) : Bool := (bv t).getLsbD k
theorem tb_shift (t : Int) (h : U64 t) (s k : Nat) : tb (t.fdiv (2 ^ s)) k = tb t (s + k) := by
  unfold tb
  rw [bv_shift t h, BitVec.getLsbD_ushiftRight]
theorem pow_le64 {n : Nat} (h : n ≤ 6) : 2 ^ n ≤ 64 := Nat.le_trans (Nat.pow_le_pow_right (by omega) h) (by decide)

section
variable {g : LGraph} {inn st : List Int} (h1 : inn.length = g.inn.length) (h2 : st.length = g.regs.length)
include h1 h2
end
/-- The number that literals read as. -/
def idxL (f : Int → Bool) (l : List Int) : Nat → Nat
  | 0 => 0
  | n + 1 => if f (l.getD n 0) = true then 2 ^ n + idxL f l n else idxL f l n
theorem idxL_lt (f : Int → Bool) (l : List Int) : ∀ n, idxL f l n < 2 ^ n
  | 0 => by simp [idxL]
  | n + 1 => by
    have := idxL_lt f l n
    rw [idxL, Nat.pow_succ]
    split <;> omega
section
variable {g : LGraph} {inn st : List Int} (h1 : inn.length = g.inn.length) (h2 : st.length = g.regs.length)
include h1 h2
end
theorem idx_bits (f : Int → Bool) (l : List Int) (K : Nat) : ∀ n, (∀ q, q < n → f (l.getD q 0) = K.testBit q) → idxL f l n = K % 2 ^ n
  | 0, _ => by simp [idxL, Nat.mod_one]
  | n + 1, h => by
    rw [idxL, h n (by omega), idx_bits f l K n (fun q hq => h q (by omega)), Nat.pow_succ, Nat.mod_mul, Nat.testBit_eq_decide_div_mod_eq]
    have h2 : K / 2 ^ n % 2 < 2 := Nat.mod_lt _ (by omega)
    by_cases hb : K / 2 ^ n % 2 = 1
    · rw [hb, if_pos (by simp)]
      omega
    · have h0 : K / 2 ^ n % 2 = 0 := by omega
      rw [h0, if_neg (by simp)]
      omega
end Go.Proofs.YtdgpmopcmacicaaPi

/- The walks of slices.Concat of rows of bools, and of rows of words, that are not all empty. -/
set_option linter.unusedVariables false
set_option linter.unusedSimpArgs false
set_option maxRecDepth 100000
namespace Go.Proofs.YtdgpmopcmacicaaPi
set_option maxHeartbeats 4000000
def sumL {α : Type} (ps : List (List α)) : Nat := (ps.map List.length).foldr (· + ·) 0
theorem sumL_take {α : Type} (ps : List (List α)) (i : Nat) (r : List α) (h : ps[i]? = some r) : sumL (ps.take (i + 1)) = sumL (ps.take i) + r.length := by
  induction ps generalizing i with
  | nil => simp at h
  | cons p ps ih =>
    cases i with
    | zero => simp at h; subst h; simp [sumL]
    | succ i =>
      have := ih i (by simpa using h)
      simp only [sumL, List.take_succ_cons, List.map_cons, List.foldr_cons] at this ⊢
      omega
theorem flat_take {α : Type} (ps : List (List α)) (i : Nat) (r : List α) (h : ps[i]? = some r) : (ps.take (i + 1)).flatten = (ps.take i).flatten ++ r := by simp [List.take_add_one, h]
theorem sumL_le {α : Type} (ps : List (List α)) (i : Nat) : sumL (ps.take i) ≤ sumL ps := by
  induction ps generalizing i with
  | nil => simp
  | cons p ps ih =>
    cases i with
    | zero => simp [sumL]
    | succ i =>
      have := ih i
      simp only [sumL, List.take_succ_cons, List.map_cons, List.foldr_cons] at this ⊢
      omega
theorem flat_len {α : Type} (ps : List (List α)) : ps.flatten.length = sumL ps := by
  induction ps with
  | nil => rfl
  | cons p ps ih => simp only [List.flatten_cons, List.length_append, sumL, List.map_cons, List.foldr_cons] at ih ⊢; rw [ih]
-- GONE ConcatU_ok
end Go.Proofs.YtdgpmopcmacicaaPi

/- The walks of slices.Concat at literals, and of net. -/
set_option linter.unusedVariables false
set_option linter.unusedSimpArgs false
set_option maxRecDepth 100000
namespace Go.Proofs.YtdgpmopcmacicaaPi
set_option maxHeartbeats 4000000
abbrev intss (l : List (List Int)) : List (List Im) := l.map fun r => [.sl (ints r)]
theorem intss_len (l : List (List Int)) : (intss l).length = l.length := by simp
theorem intss_at (q : List (List Int)) (i : Nat) (h : i < q.length) : ∃ r, q[i]? = some r ∧ r ∈ q ∧ q.getD i [] = r ∧ (intss q)[i]? = some [.sl (ints r)] :=
  ⟨q[i], List.getElem?_eq_getElem h, List.getElem_mem h, by simp [h], by simp [h]⟩
/-- The net of the node of a literal. -/
def netOf (l : Int) : Int := if l < 2 then 0 else l / 2 + 1
theorem ConcatL_ok (ps : List (List Int)) (h0 : 0 < sumL ps) (h1 : sumL ps ≤ 100000) (h2 : ps.length ≤ 1000) (up : Frs) : ACalls Try.prog 119 [.im (.sl (intss ps))] up fun v u => v = .im (.sl (ints ps.flatten)) ∧ u = up := by
  refine ACalls.code Try.func119 rfl 36 rfl (by simp) [.tmp 2] rfl fun Q hQ => ?_
  simp only [ups, PV.up, argEnv]
  have ft := And.intro ty_3 (And.intro ty_4 (And.intro ty_9 (And.intro ty_31 (And.intro ty_34 (And.intro ty_246 trivial)))))
  refine Run.seq ?_
  have fx := And.intro intss_len ft
  refine Run.go ?_
  refine End.kp [0] ?_
  refine Run.seq ?_
  refine Run.go ?_
  refine End.kp [0, 3] ?_
  refine Run.seq ?_
  refine Run.seq ?_
  refine Run.go ?_
  refine End.kp [0, 3, 9, 10, 11] ?_
  refine Run.block ?_
  refine Run.ghost (Ghost.form [(0, .im (.sl (intss ps))), (3, .i 0), (9, .im (.sl (intss ps))), (10, .i ps.length), (11, .i (0 : Nat))] 0 ⟨rfl, rfl, rfl, rfl, rfl, trivial⟩ rfl rfl) ?_
  refine Run.loop (fun m' st => ∃ i : Nat, m' = ps.length - i ∧ i ≤ ps.length ∧ st = ⟨[(0, .im (.sl (intss ps))), (3, .i (sumL (ps.take i) : Nat)), (9, .im (.sl (intss ps))), (10, .i ps.length), (11, .i (i : Nat))], [], up⟩) ps.length ⟨0, rfl, by omega, by simp [sumL]⟩ fun m' st hI => ?_
  obtain ⟨i, rfl, hi, rfl⟩ := hI
  refine Run.seq ?_
  have fx := And.intro intss_len ft
  refine Run.go ?_
  refine End.kp [0, 3, 9, 10, 11, 12] ?_
  refine Run.seq ?_
  refine Run.cond _ rfl (fun hb => ?_) (fun hb => ?_)
  · have hb2 := of_decide_eq_true hb
    have hin : i < ps.length := by omega
    have wi := wsucc hin (by omega)
    obtain ⟨r, hri, hrm, _, hrr⟩ := intss_at ps i hin
    have hil : (i : Int) < (ps.length : Int) := by omega
    have ht := sumL_take ps i r hri
    have hle := sumL_le ps (i + 1)
    have wa : IntKind.i64.wrap ((sumL (ps.take i) : Int) + r.length) = (sumL (ps.take (i + 1)) : Int) := by rw [wrap64 (by omega)]; omega
    have hn0 : decide ((sumL (ps.take (i + 1)) : Int) < 0) = false := decide_eq_false (by omega)
    refine Run.skip ?_
    refine End.kp [0, 3, 9, 10, 11] ?_
    refine Run.seq ?_
    refine Run.block ?_
    refine Run.seq ?_
    have fx := And.intro (@Int.toNat_natCast) (And.intro (@Int.natCast_nonneg) (And.intro hn0 (And.intro wa (And.intro ints_len (And.intro hil (And.intro hrr (And.intro wi (And.intro intss_len ft))))))))
    refine Run.go ?_
    refine End.kp [0, 3, 5, 9, 10, 11] ?_
    refine Run.seq ?_
    refine Run.go ?_
    refine End.kp [0, 3, 9, 10, 11] ?_
    refine Run.seq ?_
    refine Run.go ?_
    refine End.kp [0, 3, 9, 10, 11, 20] ?_
    refine Run.cond _ rfl (fun hb => ?_) (fun hb => ?_)
    · have hb3 := hb
      simp at hb
    · have hb3 := hb
      refine Run.skip ?_
      refine End.blk ?_
      refine End.kp [0, 3, 9, 10, 11] ?_
      have fx := And.intro (@Int.toNat_natCast) (And.intro (@Int.natCast_nonneg) (And.intro hn0 (And.intro wa (And.intro ints_len (And.intro hil (And.intro hrr (And.intro wi (And.intro intss_len ft))))))))
      refine Run.go ?_
      refine End.lp ?_
      refine ⟨ps.length - (i + 1), _, by omega, Ghost.form [(0, .im (.sl (intss ps))), (3, .i (sumL (ps.take (i + 1)) : Nat)), (9, .im (.sl (intss ps))), (10, .i ps.length), (11, .i (i + 1 : Nat))] 0 ⟨rfl, rfl, rfl, rfl, rfl, trivial⟩ rfl rfl, i + 1, rfl, by omega, rfl⟩
  · have hb2 := of_decide_eq_false hb
    have hiN : i = ps.length := by omega
    subst hiN
    rw [List.take_length]
    refine Run.exit rfl ?_
    refine End.kp [0, 3] ?_
    refine Run.seq ?_
    have fx := And.intro intss_len ft
    refine Run.region rfl fun K hK => GOps.sim ?_
    refine GOps.callM rfl rfl rfl rfl (by kernel_rfl) (ACalls.sim ?_)
    refine (growL_ok (sumL ps) h0 (by omega) _ _).mono fun v u hv => ?_
    obtain ⟨rfl, rfl⟩ := hv
    refine ⟨_, _, rfl, GOps.sim ?_⟩
    refine GOps.done (hK _ ?_); clear hK K
    refine End.kp [0, 6] ?_
    refine Run.seq ?_
    refine Run.seq ?_
    refine Run.go ?_
    refine End.kp [6, 25, 26, 27] ?_
    refine Run.block ?_
    refine Run.ghost (Ghost.form [(6, .ms 0 0 0), (25, .im (.sl (intss ps))), (26, .i ps.length), (27, .i (0 : Nat))] 1 ⟨rfl, rfl, rfl, rfl, trivial⟩ rfl rfl) ?_
    refine Run.loop (fun m' st => ∃ i : Nat, m' = ps.length - i ∧ i ≤ ps.length ∧ st = ⟨[(6, .ms 0 0 (ps.take i).flatten.length), (25, .im (.sl (intss ps))), (26, .i ps.length), (27, .i (i : Nat))], [.row 34 1 (ints (ps.take i).flatten) 0], up⟩) ps.length ⟨0, rfl, by omega, rfl⟩ fun m' st hI => ?_
    obtain ⟨i, rfl, hi, rfl⟩ := hI
    have hfl : (ints (ps.take i).flatten).length = (ps.take i).flatten.length := by rw [ints_len]
    have hfs := flat_len (ps.take i)
    have hsl := sumL_le ps i
    refine Run.seq ?_
    have fx := And.intro hfl (And.intro intss_len ft)
    refine Run.go ?_
    refine End.kp [6, 25, 26, 27, 28] ?_
    refine Run.seq ?_
    refine Run.cond _ rfl (fun hb => ?_) (fun hb => ?_)
    · have hb2 := of_decide_eq_true hb
      have hin : i < ps.length := by omega
      have wi := wsucc hin (by omega)
      obtain ⟨r, hri, hrm, _, hrr⟩ := intss_at ps i hin
      have hil : (i : Int) < (ps.length : Int) := by omega
      have ht := sumL_take ps i r hri
      have hle := sumL_le ps (i + 1)
      have hft := flat_take ps i r hri
      have hcap : ((ps.take i).flatten.length + r.length) * 8 ≤ 140737488355328 := by omega
      have hcap2 : (ps.take i).flatten.length + r.length ≤ 140737488355328 := by omega
      have hall : (ints r).all (fun r => r.length == 1) = true := by simp
      refine Run.skip ?_
      refine End.kp [6, 25, 26, 27] ?_
      refine Run.seq ?_
      refine Run.block ?_
      refine Run.seq ?_
      have fx := And.intro (@Int.toNat_natCast) (And.intro (@Int.natCast_nonneg) (And.intro hall (And.intro hcap2 (And.intro hcap (And.intro ints_len (And.intro hil (And.intro hrr (And.intro wi (And.intro hfl (And.intro intss_len ft))))))))))
      refine Run.go ?_
      refine End.kp [6, 8, 25, 26, 27] ?_
      refine Run.go ?_
      refine End.blk ?_
      refine End.kp [6, 25, 26, 27] ?_
      refine Run.go ?_
      refine End.lp ?_
      refine ⟨ps.length - (i + 1), _, by omega, Ghost.form [(6, .ms 0 0 ((ps.take i).flatten.length + r.length)), (25, .im (.sl (intss ps))), (26, .i ps.length), (27, .i (i + 1 : Nat))] 1 ⟨rfl, rfl, rfl, rfl, trivial⟩ rfl rfl, i + 1, rfl, by omega, ?_⟩
      rw [hft]
      simp
    · have hb2 := of_decide_eq_false hb
      have hiN : i = ps.length := by omega
      subst hiN
      rw [List.take_length] at hfl ⊢
      refine Run.exit rfl ?_
      refine End.kp [6] ?_
      refine Run.seq ?_
      refine Run.ghost (Ghost.shut (t := 6) (j := 0) rfl rfl hfl) ?_
      simp only [eput, edel]
      have fx := And.intro hfl (And.intro intss_len ft)
      refine Run.go ?_
      refine End.kp [2] ?_
      refine Run.ret (hQ _ _ ⟨.inr rfl, _, rfl, _, rfl, ?_⟩)
      exact ⟨rfl, rfl⟩
theorem growL0_ok (up : Frs) : ACalls Try.prog 159 [.nils, .i 0] up fun v u => v = .im (.sl []) ∧ u = up := by
  refine ACalls.code Try.func159 rfl 27 rfl (by simp) [.tmp 4] rfl fun Q hQ => ?_
  simp only [ups, PV.up, argEnv]
  have ft := And.intro ty_3 (And.intro ty_4 (And.intro ty_9 (And.intro ty_31 (And.intro ty_34 trivial))))
  refine Run.seq ?_
  have fx := ft
  refine Run.go ?_
  refine End.kp [0, 1] ?_
  refine Run.seq ?_
  refine Run.seq ?_
  refine Run.go ?_
  refine End.kp [0, 1, 6] ?_
  refine Run.cond _ rfl (fun hb => ?_) (fun hb => ?_)
  · have hb2 := hb
    simp at hb
  · have hb2 := hb
    refine Run.skip ?_
    refine End.kp [0, 1] ?_
    refine Run.seq ?_
    refine Run.seq ?_
    have fx := ft
    refine Run.region rfl fun K hK => GOps.sim ?_
    refine GOps.capNil (GOps.sim ?_)
    refine GOps.done (hK _ ?_); clear hK K
    refine End.kp [0, 1] ?_
    refine Run.seq ?_
    have fx := ft
    refine Run.go ?_
    refine End.kp [0, 1, 16] ?_
    refine Run.cond _ rfl (fun hb => ?_) (fun hb => ?_)
    · have hb3 := hb
      exact absurd hb (by decide)
    · have hb3 := hb
      refine Run.skip ?_
      refine End.kp [0] ?_
      refine Run.seq ?_
      have fx := ft
      refine Run.go ?_
      refine End.kp [4] ?_
      refine Run.ret (hQ _ _ ⟨.inr rfl, _, rfl, _, rfl, ?_⟩)
      exact ⟨rfl, rfl⟩
theorem ConcatL0_ok (up : Frs) : ACalls Try.prog 119 [.im (.sl [[.sl []], [.sl []]])] up fun v u => v = .im (.sl []) ∧ u = up := by
  refine ACalls.code Try.func119 rfl 36 rfl (by simp) [.tmp 2] rfl fun Q hQ => ?_
  simp only [ups, PV.up, argEnv]
  have ft := And.intro ty_3 (And.intro ty_4 (And.intro ty_9 (And.intro ty_31 (And.intro ty_34 (And.intro ty_246 trivial)))))
  refine Run.seq ?_
  have fx := ft
  refine Run.go ?_
  refine End.kp [0] ?_
  refine Run.seq ?_
  refine Run.go ?_
  refine End.kp [0, 3] ?_
  refine Run.seq ?_
  refine Run.seq ?_
  refine Run.go ?_
  refine End.kp [0, 3, 9, 10, 11] ?_
  refine Run.block ?_
  refine Run.ghost (Ghost.form [(0, .im (.sl [[.sl []], [.sl []]])), (3, .i 0), (9, .im (.sl [[.sl []], [.sl []]])), (10, .i 2), (11, .i ((0 : Nat) : Int))] 0 ⟨rfl, rfl, rfl, rfl, rfl, trivial⟩ rfl rfl) ?_
  refine Run.loop (fun m' st => ∃ i : Nat, m' = 2 - i ∧ i ≤ 2 ∧ st = ⟨[(0, .im (.sl [[.sl []], [.sl []]])), (3, .i 0), (9, .im (.sl [[.sl []], [.sl []]])), (10, .i 2), (11, .i (i : Nat))], [], up⟩) 2 ⟨0, rfl, by omega, rfl⟩ fun m' st hI => ?_
  obtain ⟨i, rfl, hi, rfl⟩ := hI
  refine Run.seq ?_
  have fx := ft
  refine Run.go ?_
  refine End.kp [0, 3, 9, 10, 11, 12] ?_
  refine Run.seq ?_
  refine Run.cond _ rfl (fun hb => ?_) (fun hb => ?_)
  · have hb2 := of_decide_eq_true hb
    have hin : i < 2 := by omega
    have wi := wsucc (i := i) (n := 2) hin (by omega)
    have hil : (i : Int) < ((0 + 1 + 1 : Nat) : Int) := by omega
    have hrr : ([[.sl []], [.sl []]] : List (List Im))[i]? = some [.sl []] := by rcases (show i = 0 ∨ i = 1 by omega) with rfl | rfl <;> rfl
    refine Run.skip ?_
    refine End.kp [0, 3, 9, 10, 11] ?_
    refine Run.seq ?_
    refine Run.block ?_
    refine Run.seq ?_
    have fx := And.intro (@Int.toNat_natCast) (And.intro (@Int.natCast_nonneg) (And.intro hil (And.intro hrr (And.intro wi ft))))
    refine Run.go ?_
    refine End.kp [0, 3, 5, 9, 10, 11] ?_
    refine Run.seq ?_
    refine Run.go ?_
    refine End.kp [0, 3, 9, 10, 11] ?_
    refine Run.seq ?_
    refine Run.go ?_
    refine End.kp [0, 3, 9, 10, 11, 20] ?_
    refine Run.cond _ rfl (fun hb => ?_) (fun hb => ?_)
    · have hb3 := hb
      exact absurd hb (by decide)
    · have hb3 := hb
      refine Run.skip ?_
      refine End.blk ?_
      refine End.kp [0, 3, 9, 10, 11] ?_
      have fx := And.intro (@Int.toNat_natCast) (And.intro (@Int.natCast_nonneg) (And.intro hil (And.intro hrr (And.intro wi ft))))
      refine Run.go ?_
      refine End.lp ?_
      refine ⟨2 - (i + 1), _, by omega, Ghost.form [(0, .im (.sl [[.sl []], [.sl []]])), (3, .i 0), (9, .im (.sl [[.sl []], [.sl []]])), (10, .i 2), (11, .i (i + 1 : Nat))] 0 ⟨rfl, rfl, rfl, rfl, rfl, trivial⟩ rfl rfl, i + 1, rfl, by omega, rfl⟩
  · have hb2 := hb
    refine Run.exit rfl ?_
    refine End.kp [0, 3] ?_
    refine Run.seq ?_
    have fx := ft
    refine Run.region rfl fun K hK => GOps.sim ?_
    refine GOps.callM rfl rfl rfl rfl (by kernel_rfl) (ACalls.sim ?_)
    refine (growL0_ok _).mono fun v u hv => ?_
    obtain ⟨rfl, rfl⟩ := hv
    refine ⟨_, _, rfl, GOps.sim ?_⟩
    refine GOps.done (hK _ ?_); clear hK K
    refine End.kp [0, 6] ?_
    refine Run.seq ?_
    refine Run.seq ?_
    refine Run.go ?_
    refine End.kp [6, 25, 26, 27] ?_
    refine Run.block ?_
    refine Run.ghost (Ghost.form [(6, .im (.sl [])), (25, .im (.sl [[.sl []], [.sl []]])), (26, .i 2), (27, .i ((0 : Nat) : Int))] 0 ⟨rfl, rfl, rfl, rfl, trivial⟩ rfl rfl) ?_
    refine Run.loop (fun m' st => ∃ i : Nat, m' = 2 - i ∧ i ≤ 2 ∧ st = ⟨[(6, .im (.sl [])), (25, .im (.sl [[.sl []], [.sl []]])), (26, .i 2), (27, .i (i : Nat))], [], up⟩) 2 ⟨0, rfl, by omega, rfl⟩ fun m' st hI => ?_
    obtain ⟨i, rfl, hi, rfl⟩ := hI
    refine Run.seq ?_
    have fx := ft
    refine Run.go ?_
    refine End.kp [6, 25, 26, 27, 28] ?_
    refine Run.seq ?_
    refine Run.cond _ rfl (fun hb => ?_) (fun hb => ?_)
    · have hb2 := of_decide_eq_true hb
      have hin : i < 2 := by omega
      have wi := wsucc (i := i) (n := 2) hin (by omega)
      have hil : (i : Int) < ((0 + 1 + 1 : Nat) : Int) := by omega
      have hrr : ([[.sl []], [.sl []]] : List (List Im))[i]? = some [.sl []] := by rcases (show i = 0 ∨ i = 1 by omega) with rfl | rfl <;> rfl
      refine Run.skip ?_
      refine End.kp [6, 25, 26, 27] ?_
      refine Run.seq ?_
      refine Run.block ?_
      refine Run.seq ?_
      have fx := And.intro (@Int.toNat_natCast) (And.intro (@Int.natCast_nonneg) (And.intro hil (And.intro hrr (And.intro wi ft))))
      refine Run.go ?_
      refine End.kp [6, 8, 25, 26, 27] ?_
      refine Run.region rfl fun K hK => GOps.sim ?_
      refine GOps.appendE (GOps.sim ?_)
      refine GOps.done (hK _ ?_); clear hK K
      refine End.blk ?_
      refine End.kp [6, 25, 26, 27] ?_
      have fx := And.intro (@Int.toNat_natCast) (And.intro (@Int.natCast_nonneg) (And.intro hil (And.intro hrr (And.intro wi ft))))
      refine Run.go ?_
      refine End.lp ?_
      refine ⟨2 - (i + 1), _, by omega, Ghost.form [(6, .im (.sl [])), (25, .im (.sl [[.sl []], [.sl []]])), (26, .i 2), (27, .i (i + 1 : Nat))] 0 ⟨rfl, rfl, rfl, rfl, trivial⟩ rfl rfl, i + 1, rfl, by omega, rfl⟩
    · have hb2 := hb
      refine Run.exit rfl ?_
      refine End.kp [6] ?_
      refine Run.seq ?_
      have fx := ft
      refine Run.go ?_
      refine End.kp [2] ?_
      refine Run.ret (hQ _ _ ⟨.inr rfl, _, rfl, _, rfl, ?_⟩)
      exact ⟨rfl, rfl⟩
theorem netLit_ok (l : Int) (h0 : 0 ≤ l) (h1 : l ≤ 1000000) (up : Frs) : ACalls Try.prog 120 [.i l] up fun v u => v = .i (netOf l) ∧ u = up := by
  have hd := tdiv2 l h0 (by omega)
  have w1 : IntKind.i64.wrap (l / 2 + 1) = l / 2 + 1 := wrap64 (by omega)
  refine ACalls.code Try.func120 rfl 8 rfl (by simp) [.tmp 2] rfl fun Q hQ => ?_
  simp only [ups, PV.up, argEnv]
  have ft := And.intro ty_3 (And.intro ty_4 (And.intro ty_34 trivial))
  refine Run.seq ?_
  have fx := And.intro w1 (And.intro hd ft)
  refine Run.go ?_
  refine End.kp [0] ?_
  refine Run.seq ?_
  refine Run.seq ?_
  refine Run.go ?_
  refine End.kp [0, 4] ?_
  refine Run.cond _ rfl (fun hb => ?_) (fun hb => ?_)
  · have hb2 := of_decide_eq_true hb
    refine Run.seq ?_
    have fx := And.intro w1 (And.intro hd ft)
    refine Run.go ?_
    refine End.kp [2] ?_
    refine Run.ret (hQ _ _ ⟨.inr rfl, _, rfl, _, rfl, ?_⟩)
    exact ⟨by rw [netOf, if_pos hb2], rfl⟩
  · have hb2 := of_decide_eq_false hb
    refine Run.skip ?_
    refine End.kp [0] ?_
    refine Run.seq ?_
    have fx := And.intro w1 (And.intro hd ft)
    refine Run.go ?_
    refine End.kp [2] ?_
    refine Run.ret (hQ _ _ ⟨.inr rfl, _, rfl, _, rfl, ?_⟩)
    exact ⟨by rw [netOf, if_neg hb2], rfl⟩
end Go.Proofs.YtdgpmopcmacicaaPi

