/- Plain law of GatingHolds: what is found is how a register keeps its value. -/
import Derived.Test.YtkmnmokjlpenhaaWV
import Derived.Test.YtkmnmokjlpenhaaPWords
set_option linter.unusedVariables false
set_option linter.unusedSimpArgs false
namespace Go.Proofs.YtkmnmokjlpenhaaPi

/-- A register that keeps its value q unless its enable is 1. -/
def keepsB (en d q : BitVec 64) : BitVec 64 := (en &&& d) ||| (~~~ en &&& q)
section
variable {g : LGraph} (hg : GraphOk g) {inn st : List Int} (h1 : inn.length = g.inn.length) (h2 : st.length = g.regs.length)
abbrev gb (g : LGraph) (inn st : List Int) (l : Int) : BitVec 64 := litB (graphVals g inn st) l
include hg h1 h2
theorem flip_and (l : Int) (h0 : 0 ≤ l) {x : Int × Int} (h : nodeOf g (flipL l) = some x) : gb g inn st l = ~~~ (gb g inn st x.1 &&& gb g inn st x.2) := by
  have e := g_nodeOf hg h1 h2 h
  rw [litB_flip _ _ h0] at e
  rw [← e]
  apply bv_ext
  intro i hi
  simp [gb, hi]
theorem hit_keeps (q : Int) (q0 : 0 ≤ q) (p s : Int × Int) (hs : 0 ≤ s.1) (h : hitM q p s = true) : gb g inn st p.1 &&& gb g inn st p.2 = ~~~ gb g inn st s.1 &&& gb g inn st q := by
  have _ := hg
  have _ := h1
  have _ := h2
  simp only [hitM, Bool.or_eq_true, Bool.and_eq_true, beq_iff_eq] at h
  rcases h with ⟨h, h'⟩ | ⟨h, h'⟩
  · rw [h, h', gb, litB_flip _ _ hs]
  · rw [h, h']
    simp only [gb, litB_flip _ _ hs]
    apply bv_ext
    intro i hi
    simp only [BitVec.getLsbD_and]
    rw [Bool.and_comm]
theorem find_law (next q : Int) (h0 : 0 ≤ next) (hn : next < 2 * (1 + (g.inn.length : Int) + g.regs.length + g.ands.length)) (q0 : 0 ≤ q) (q1 : q < 2 * (1 + (g.inn.length : Int) + g.regs.length + g.ands.length)) :
    ((0 ≤ (findV g next q).1 ∧ (findV g next q).1 < 2 * (1 + (g.inn.length : Int) + g.regs.length + g.ands.length)) ∧ (0 ≤ (findV g next q).2 ∧ (findV g next q).2 < 2 * (1 + (g.inn.length : Int) + g.regs.length + g.ands.length))) ∧
    gb g inn st next = keepsB (gb g inn st (findV g next q).1) (gb g inn st (findV g next q).2) (gb g inn st q) := by
  have off := g_off hg h1 h2
  have on := g_on hg h1 h2
  have rng : ∀ {l : Int} {x : Int × Int}, nodeOf g l = some x → (0 ≤ x.1 ∧ x.1 < 2 * (1 + (g.inn.length : Int) + g.regs.length + g.ands.length)) ∧ 0 ≤ x.2 ∧ x.2 < 2 * (1 + (g.inn.length : Int) + g.regs.length + g.ands.length) := fun h => by
    obtain ⟨i, hi, _⟩ := nodeOf_mem h
    have := hg.ands i _ hi
    have := (List.getElem?_eq_some_iff.1 hi).1
    omega
  unfold findV
  by_cases hne : next = q
  · rw [if_pos hne]
    refine ⟨by omega, ?_⟩
    subst hne
    simp only [gb, keepsB, off]
    apply bv_ext
    intro i hi
    simp only [BitVec.getLsbD_not, BitVec.getLsbD_and, BitVec.getLsbD_or, hi, decide_true, Bool.true_and, BitVec.getLsbD_zero, Bool.and_false, Bool.false_or, Bool.not_false]
  rw [if_neg hne]
  cases hm : muxV g next q with
  | some s =>
    simp only
    unfold muxV at hm
    simp only [Option.bind_eq_some_iff] at hm
    obtain ⟨x, hx, a, ha, b, hb, hp⟩ := hm
    obtain ⟨⟨x1, x2⟩, x3, x4⟩ := rng hx
    obtain ⟨⟨a1, a2⟩, a3, a4⟩ := rng ha
    obtain ⟨⟨b1, b2⟩, b3, b4⟩ := rng hb
    have ex := flip_and hg h1 h2 next h0 hx
    have ea := flip_and hg h1 h2 x.1 x1 ha
    have eb := flip_and hg h1 h2 x.2 x3 hb
    have main : ∀ (s p r : Int × Int), ((p = a ∧ r = b) ∨ (p = b ∧ r = a)) → (s = p ∨ s = swapP p) → hitM q r s = true →
        ((0 ≤ s.1 ∧ s.1 < 2 * (1 + (g.inn.length : Int) + g.regs.length + g.ands.length)) ∧ (0 ≤ s.2 ∧ s.2 < 2 * (1 + (g.inn.length : Int) + g.regs.length + g.ands.length))) ∧ gb g inn st next = keepsB (gb g inn st s.1) (gb g inn st s.2) (gb g inn st q) := by
      intro s p r hpr hsp hh
      have hrs : (0 ≤ s.1 ∧ s.1 < 2 * (1 + (g.inn.length : Int) + g.regs.length + g.ands.length)) ∧ (0 ≤ s.2 ∧ s.2 < 2 * (1 + (g.inn.length : Int) + g.regs.length + g.ands.length)) := by
        have hs1 : (s.1 = p.1 ∧ s.2 = p.2) ∨ (s.1 = p.2 ∧ s.2 = p.1) := by rcases hsp with rfl | rfl <;> simp
        rcases hpr with ⟨rfl, rfl⟩ | ⟨rfl, rfl⟩ <;> exact ⟨by omega, by omega⟩
      refine ⟨hrs, ?_⟩
      have hk := hit_keeps hg h1 h2 q q0 r s hrs.1.1 hh
      have hs2 : gb g inn st s.1 &&& gb g inn st s.2 = gb g inn st p.1 &&& gb g inn st p.2 := by
        rcases hsp with rfl | rfl
        · rfl
        · simp only [swapP]
          apply bv_ext
          intro i hi
          simp only [BitVec.getLsbD_and]
          rw [Bool.and_comm]
      rw [keepsB, hs2, ← hk, ex, ea, eb]
      rcases hpr with ⟨rfl, rfl⟩ | ⟨rfl, rfl⟩
      · apply bv_ext
        intro i hi
        simp [hi]
      · apply bv_ext
        intro i hi
        simp only [BitVec.getLsbD_not, BitVec.getLsbD_and, BitVec.getLsbD_or, hi, decide_true, Bool.true_and]
        cases (gb g inn st p.1).getLsbD i <;> cases (gb g inn st p.2).getLsbD i <;> cases (gb g inn st r.1).getLsbD i <;> cases (gb g inn st r.2).getLsbD i <;> rfl
    unfold pickM at hp
    split at hp
    · rename_i ht
      simp only [Option.some.injEq] at hp
      subst hp
      exact main _ a b (.inl ⟨rfl, rfl⟩) (.inl rfl) ht
    split at hp
    · rename_i ht
      simp only [Option.some.injEq] at hp
      subst hp
      exact main _ a b (.inl ⟨rfl, rfl⟩) (.inr rfl) ht
    split at hp
    · rename_i ht
      simp only [Option.some.injEq] at hp
      subst hp
      exact main _ b a (.inr ⟨rfl, rfl⟩) (.inl rfl) ht
    split at hp
    · rename_i ht
      simp only [Option.some.injEq] at hp
      subst hp
      exact main _ b a (.inr ⟨rfl, rfl⟩) (.inr rfl) ht
    · simp at hp
  | none =>
    simp only
    cases hc : (nodeOf g next).bind (clearV q) with
    | some s =>
      simp only
      simp only [Option.bind_eq_some_iff] at hc
      obtain ⟨x, hx, hc⟩ := hc
      obtain ⟨⟨x1, x2⟩, x3, x4⟩ := rng hx
      have ex := g_nodeOf hg h1 h2 hx
      have f1 := flipL_lt x.1 _ x1 x2
      have f2 := flipL_lt x.2 _ x3 x4
      unfold clearV at hc
      split at hc
      · rename_i e
        simp only [Option.some.injEq] at hc
        subst hc
        refine ⟨⟨f2, by omega, by omega⟩, ?_⟩
        simp only [gb, keepsB, off, litB_flip _ _ x3, ex, e]
        apply bv_ext
        intro i hi
        simp only [BitVec.getLsbD_not, BitVec.getLsbD_and, BitVec.getLsbD_or, hi, decide_true, Bool.true_and, BitVec.getLsbD_zero, Bool.and_false, Bool.false_or, Bool.not_not]
        rw [Bool.and_comm]
      split at hc
      · rename_i e
        simp only [Option.some.injEq] at hc
        subst hc
        refine ⟨⟨f1, by omega, by omega⟩, ?_⟩
        simp only [gb, keepsB, off, litB_flip _ _ x1, ex, e]
        apply bv_ext
        intro i hi
        simp only [BitVec.getLsbD_not, BitVec.getLsbD_and, BitVec.getLsbD_or, hi, decide_true, Bool.true_and, BitVec.getLsbD_zero, Bool.and_false, Bool.false_or, Bool.not_not]
      · simp at hc
    | none =>
      simp only
      cases hd : (nodeOf g (flipL next)).bind (setV q) with
      | some s =>
        simp only
        simp only [Option.bind_eq_some_iff] at hd
        obtain ⟨x, hx, hd⟩ := hd
        obtain ⟨⟨x1, x2⟩, x3, x4⟩ := rng hx
        have ex := flip_and hg h1 h2 next h0 hx
        have f1 := flipL_lt x.1 _ x1 x2
        have f2 := flipL_lt x.2 _ x3 x4
        unfold setV at hd
        split at hd
        · rename_i e
          simp only [Option.some.injEq] at hd
          subst hd
          refine ⟨⟨f2, by omega, by omega⟩, ?_⟩
          simp only [gb, keepsB, on, litB_flip _ _ x3] at ex ⊢
          rw [ex, e, litB_flip _ _ q0]
          apply bv_ext
          intro i hi
          simp only [BitVec.getLsbD_not, BitVec.getLsbD_and, BitVec.getLsbD_or, BitVec.getLsbD_allOnes, hi, decide_true, Bool.true_and, Bool.and_true, Bool.not_not]
          cases (litB (graphVals g inn st) q).getLsbD i <;> cases (litB (graphVals g inn st) x.2).getLsbD i <;> rfl
        split at hd
        · rename_i e
          simp only [Option.some.injEq] at hd
          subst hd
          refine ⟨⟨f1, by omega, by omega⟩, ?_⟩
          simp only [gb, keepsB, on, litB_flip _ _ x1] at ex ⊢
          rw [ex, e, litB_flip _ _ q0]
          apply bv_ext
          intro i hi
          simp only [BitVec.getLsbD_not, BitVec.getLsbD_and, BitVec.getLsbD_or, BitVec.getLsbD_allOnes, hi, decide_true, Bool.true_and, Bool.and_true, Bool.not_not]
          cases (litB (graphVals g inn st) q).getLsbD i <;> cases (litB (graphVals g inn st) x.1).getLsbD i <;> rfl
        · simp at hd
      | none =>
        simp only
        refine ⟨by omega, ?_⟩
        simp only [gb, keepsB, on]
        apply bv_ext
        intro i hi
        simp only [BitVec.getLsbD_not, BitVec.getLsbD_and, BitVec.getLsbD_or, BitVec.getLsbD_allOnes, hi, decide_true, Bool.true_and, Bool.not_true, Bool.false_and, Bool.or_false]
end
theorem gatesAt (g : LGraph) (inn st : List Int) (hg : GraphOk g) (h1 : inn.length = g.inn.length) (h2 : st.length = g.regs.length) (hs : ∃ rows, st = spreadV rows g.regs.length) (hi : ∃ rows, inn = spreadV rows g.inn.length) : GatesAt g inn st := by
  intro i hin
  obtain ⟨z1, z2, z3, z4, z5⟩ := hg.small
  have hr : g.regs[i]? = some g.regs[i] := List.getElem?_eq_getElem hin
  obtain ⟨y1, y2⟩ := hg.regs g.regs[i] (List.getElem_mem hin)
  have hen : enV g i = findV g g.regs[i].next (2 * (1 + (g.inn.length : Int) + i)) := by simp [enV, hin]
  have hrd : g.regs.getD i regD = g.regs[i] := by simp [hin]
  obtain ⟨⟨k1, k2⟩, k3⟩ := find_law hg h1 h2 g.regs[i].next (2 * (1 + (g.inn.length : Int) + i)) y1 y2 (by omega) (by omega)
  rw [hen, hrd]
  refine ⟨k1, k2, ?_⟩
  obtain ⟨ra, hst⟩ := hs
  obtain ⟨rb, hinn⟩ := hi
  have hv : ∀ x ∈ graphVals g inn st, U64 x := valsA_u64 g.ands _ fun x hx => by
    simp only [List.mem_append, List.mem_singleton] at hx
    rcases hx with (rfl | hx) | hx
    · exact ⟨by simp, by simp⟩
    · rw [hinn] at hx; exact spreadV_u64 _ _ x hx
    · rw [hst] at hx; exact spreadV_u64 _ _ x hx
  refine u64_eq (ofV_u64 hv _) (u64_or _ _) ?_
  rw [bv_or, bv_and, bv_and, bv_vnot, bv_of, bv_of, bv_of]
  simp only [gb, g_reg hg h1 h2 i hin] at k3
  exact k3
end Go.Proofs.YtkmnmokjlpenhaaPi
