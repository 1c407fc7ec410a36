/- Plain law: drawn graphs are in order. -/
import Derived.Test.YtkmnmokjlpenhaaWO
import Derived.Test.YtkmnmokjlpenhaaWP
import Derived.Test.YtkmnmokjlpenhaaPNames
set_option linter.unusedVariables false
set_option linter.unusedSimpArgs false
namespace Go.Proofs.YtkmnmokjlpenhaaPi
set_option maxHeartbeats 4000000
theorem words_mem (l : List Int) (k i : Nat) (a : Int) : ∀ s ∈ (wordsV l k i a).1, NameOk s := (words_ok l k i a).1
theorem drawnG_ok (l : List Int) (a : Int) (ins regs ands outs : Nat) (h1 : ins + regs ≤ 26) (h2 : ands ≤ 100) (h3 : outs ≤ 26) : GraphOk (graphV l a ins regs ands outs).1 := by
  obtain ⟨p1, p2, p3, p4, p5, p6, p7⟩ := graphV_pos l a ins regs ands outs
  have hw := (wordsV_pos l (ins + regs) 0 a).2.2
  have hnames : ((graphV l a ins regs ands outs).1.inn ++ (graphV l a ins regs ands outs).1.regs.map LReg.name) = (wordsV l (ins + regs) 0 a).1 := by
    have hr : (graphV l a ins regs ands outs).1.regs.map LReg.name = (wordsV l (ins + regs) 0 a).1.drop ins := by
      refine List.ext_getElem? fun i => ?_
      rw [List.getElem?_map]
      by_cases hi : i < regs
      · have hg : (graphV l a ins regs ands outs).1.regs[i]? = some (graphV l a ins regs ands outs).1.regs[i] := List.getElem?_eq_getElem (by omega)
        have := drawN_mem (regX l (((1 + ins + regs : Nat) : Int) + ands) ((wordsV l (ins + regs) 0 a).1.drop ins)) (drawN (andX l ((1 + ins + regs : Nat) : Int)) (wordsV l outs 0 (wordsV l (ins + regs) 0 a).2).2 ands).2 (fun i r => r.name = ((wordsV l (ins + regs) 0 a).1.drop ins).getD i ByteArray.empty) (fun i b => rfl) regs i _ hg
        rw [hg, Option.map_some, this, List.getD_eq_getElem?_getD]
        have hlt : i < ((wordsV l (ins + regs) 0 a).1.drop ins).length := by rw [List.length_drop, hw]; omega
        rw [List.getElem?_eq_getElem hlt]
        rfl
      · rw [List.getElem?_eq_none (by omega), List.getElem?_eq_none (by rw [List.length_drop, hw]; omega)]
        rfl
    rw [hr]
    exact List.take_append_drop ins _
  refine ⟨⟨by omega, by omega, by omega, by omega, by omega⟩, ?_, ?_, ?_, ?_, by omega, ?_, ?_, ?_⟩
  · rw [hnames]
    exact words_mem l _ _ _
  · rw [hnames]
    exact words_nodup l _ _ (by omega)
  · exact words_mem l _ _ _
  · exact words_nodup l _ _ (by omega)
  · intro i p hp
    rw [p3, p5]
    have := drawN_mem (andX l ((1 + ins + regs : Nat) : Int)) (wordsV l outs 0 (wordsV l (ins + regs) 0 a).2).2 (fun i p => (0 ≤ p.1 ∧ p.1 < 2 * (((1 + ins + regs : Nat) : Int) + i)) ∧ 0 ≤ p.2 ∧ p.2 < 2 * (((1 + ins + regs : Nat) : Int) + i))
      (fun i b => ⟨litX_range l b _ (by omega), litX_range l _ _ (by omega)⟩) ands i p hp
    omega
  · intro r hr
    rw [p3, p5, p6]
    obtain ⟨i, hi⟩ := List.mem_iff_getElem?.1 hr
    have := drawN_mem (regX l (((1 + ins + regs : Nat) : Int) + ands) ((wordsV l (ins + regs) 0 a).1.drop ins)) (drawN (andX l ((1 + ins + regs : Nat) : Int)) (wordsV l outs 0 (wordsV l (ins + regs) 0 a).2).2 ands).2 (fun i r => 0 ≤ r.next ∧ r.next < 2 * (((1 + ins + regs : Nat) : Int) + ands)) (fun i b => litX_range l b _ (by omega)) regs i r hi
    omega
  · intro x hx
    rw [p3, p5, p6]
    obtain ⟨i, hi⟩ := List.mem_iff_getElem?.1 hx
    have := drawN_mem (fun _ b => litX l b (((1 + ins + regs : Nat) : Int) + ands)) (drawN (regX l (((1 + ins + regs : Nat) : Int) + ands) ((wordsV l (ins + regs) 0 a).1.drop ins)) (drawN (andX l ((1 + ins + regs : Nat) : Int)) (wordsV l outs 0 (wordsV l (ins + regs) 0 a).2).2 ands).2 regs).2 (fun i x => 0 ≤ x ∧ x < 2 * (((1 + ins + regs : Nat) : Int) + ands)) (fun i b => litX_range l b _ (by omega)) outs i x hi
    omega
theorem small_ok (l : List Int) (a : Int) (ands : Nat) (h : ands ≤ 99) : GraphOk (smallV l a ands).1 ∧ a ≤ (smallV l a ands).2 ∧ (smallV l a ands).2 ≤ a + 1000 := by
  obtain ⟨r1, s1⟩ := nextV_range l a 5 (by omega)
  obtain ⟨r2, s2⟩ := nextV_range l (a + 1) 4 (by omega)
  obtain ⟨r3, s3⟩ := nextV_range l (a + 1 + 1) (ands + 1) (by omega)
  obtain ⟨r4, s4⟩ := nextV_range l (a + 1 + 1 + 1) (4 - 1 + 1) (by omega)
  have h2 := graphV_pos l (a + 1 + 1 + 1 + 1) (nextV l a 5).toNat (nextV l (a + 1) 4).toNat (nextV l (a + 1 + 1) (ands + 1)).toNat (1 + nextV l (a + 1 + 1 + 1) (4 - 1 + 1)).toNat
  refine ⟨drawnG_ok l _ _ _ _ _ (by omega) (by omega) (by omega), ?_, ?_⟩
  · simp only [smallV]; omega
  · simp only [smallV]; omega
theorem mv1_range (l : List Int) (ins regs x b n : Int) (hr : 1 ≤ regs) (h0 : 0 ≤ ins) (hn : 1 + ins + regs ≤ n) (hx : 0 ≤ x ∧ x < 2 * n) : 0 ≤ (mv1 l ins regs x b).1 ∧ (mv1 l ins regs x b).1 < 2 * n := by
  unfold mv1
  split
  · have h1 := nextV_range l (b + 1) regs hr
    have h2 := nextV_range l (b + 1 + 1) 2 (by omega)
    simp only [rX]
    omega
  · exact hx
theorem moving_ok (l : List Int) (a : Int) (ands : Nat) (h0 : 1 ≤ ands) (h : ands ≤ 99) : GraphOk (movingV l a ands).1 ∧ a ≤ (movingV l a ands).2 ∧ (movingV l a ands).2 ≤ a + 2000 ∧ (movingV l a ands).1.inn.length ≤ 3 ∧ (movingV l a ands).1.regs.length ≤ 7 ∧ 2 ≤ (movingV l a ands).1.regs.length ∧ (movingV l a ands).1.ands.length ≤ ands ∧ 1 ≤ (movingV l a ands).1.ands.length := by
  obtain ⟨r1, s1⟩ := nextV_range l a (3 - 1 + 1) (by omega)
  obtain ⟨r2, s2⟩ := nextV_range l (a + 1) (7 - 2 + 1) (by omega)
  obtain ⟨r3, s3⟩ := nextV_range l (a + 1 + 1) (ands - 1 + 1) (by omega)
  obtain ⟨r4, s4⟩ := nextV_range l (a + 1 + 1 + 1) (3 - 1 + 1) (by omega)
  simp only [movingV]
  obtain ⟨ins, e1⟩ : ∃ k : Nat, 1 + nextV l a (3 - 1 + 1) = k := ⟨(1 + nextV l a (3 - 1 + 1)).toNat, by omega⟩
  obtain ⟨regs, e2⟩ : ∃ k : Nat, 2 + nextV l (a + 1) (7 - 2 + 1) = k := ⟨(2 + nextV l (a + 1) (7 - 2 + 1)).toNat, by omega⟩
  obtain ⟨k, e3⟩ : ∃ k : Nat, 1 + nextV l (a + 1 + 1) (ands - 1 + 1) = k := ⟨(1 + nextV l (a + 1 + 1) (ands - 1 + 1)).toNat, by omega⟩
  obtain ⟨outs, e4⟩ : ∃ k : Nat, 1 + nextV l (a + 1 + 1 + 1) (3 - 1 + 1) = k := ⟨(1 + nextV l (a + 1 + 1 + 1) (3 - 1 + 1)).toNat, by omega⟩
  simp only [e1, e2, e3, e4, Int.toNat_natCast]
  have hok := drawnG_ok l (a + 1 + 1 + 1 + 1) ins regs k outs (by omega) (by omega) (by omega)
  obtain ⟨p1, p2, p3, p4, p5, p6, p7⟩ := graphV_pos l (a + 1 + 1 + 1 + 1) ins regs k outs
  generalize graphV l (a + 1 + 1 + 1 + 1) ins regs k outs = G at hok p1 p2 p3 p4 p5 p6 p7
  obtain ⟨g, a5⟩ := G
  simp only at hok p1 p2 p3 p4 p5 p6 p7 ⊢
  have pM := drawN_pos (mvX l ins regs g.ands) a5 6 (mvX_pos l ins regs g.ands) g.ands.length
  have hl : (drawN (mvX l ins regs g.ands) a5 g.ands.length).1.length = g.ands.length := drawN_len _ _ _
  obtain ⟨⟨z1, z2, z3, z4, z5⟩, k1, k2, k3, k4, k5, k6, k7, k8⟩ := hok
  refine ⟨⟨⟨z1, z2, z3, by simp only [hl]; exact z4, z5⟩, k1, k2, k3, k4, k5, ?_, ?_, ?_⟩, by omega, by omega, by omega, by omega, by omega, by omega, by omega⟩
  · intro i p hp
    simp only at hp ⊢
    have hi : i < g.ands.length := by have := (List.getElem?_eq_some_iff.1 hp).1; omega
    have hb := k6 i g.ands[i] (List.getElem?_eq_getElem hi)
    have := drawN_mem (mvX l ins regs g.ands) a5 (fun i p => i < g.ands.length → (0 ≤ p.1 ∧ p.1 < 2 * (1 + (g.inn.length : Int) + g.regs.length + i)) ∧ 0 ≤ p.2 ∧ p.2 < 2 * (1 + (g.inn.length : Int) + g.regs.length + i)) (fun i b hi => by
      have hb := k6 i g.ands[i] (List.getElem?_eq_getElem hi)
      have hd : g.ands.getD i (0, 0) = g.ands[i] := by simp [hi]
      simp only [mvX, hd]
      exact ⟨mv1_range l ins regs _ _ _ (by omega) (by omega) (by omega) hb.1, mv1_range l ins regs _ _ _ (by omega) (by omega) (by omega) hb.2⟩) _ i p hp hi
    exact this
  · intro r hr
    have := k7 r hr
    simp only
    omega
  · intro x hx
    have := k8 x hx
    simp only
    omega
theorem small_len (l : List Int) (a : Int) (ands : Nat) : (smallV l a ands).1.inn.length ≤ 4 ∧ (smallV l a ands).1.regs.length ≤ 3 := by
  obtain ⟨r1, s1⟩ := nextV_range l a 5 (by omega)
  obtain ⟨r2, s2⟩ := nextV_range l (a + 1) 4 (by omega)
  have h2 := graphV_pos l (a + 1 + 1 + 1 + 1) (nextV l a 5).toNat (nextV l (a + 1) 4).toNat (nextV l (a + 1 + 1) (ands + 1)).toNat (1 + nextV l (a + 1 + 1 + 1) (4 - 1 + 1)).toNat
  simp only [smallV]
  omega
end Go.Proofs.YtkmnmokjlpenhaaPi
