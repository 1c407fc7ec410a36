/- Plain law: a netlist that is drawn is in order. -/
import Derived.Test.YtkmnmokjlpenhaaWI
set_option linter.unusedVariables false
set_option linter.unusedSimpArgs false
namespace Go.Proofs.YtkmnmokjlpenhaaPi

theorem chr_nat (n : Int) (h0 : 0 ≤ n) (h1 : n < 256) : (chr n).toNat = n.toNat := by
  simp only [chr, UInt8.toNat_ofNat']
  omega
/-- The letter that tells one drawn name from the others. -/
def tag (s : ByteArray) : Option UInt8 := if s.data.toList[1]? = some 46 then s.data.toList[3]? else s.data.toList[1]?
theorem chr_46 (n : Int) (h0 : 97 ≤ n) (h1 : n < 256) : chr n ≠ 46 := fun e => by
  have := chr_nat n (by omega) h1
  rw [e] at this
  simp at this
  omega
theorem ba_app (a b : Array UInt8) : (ByteArray.mk a ++ ByteArray.mk b).data.toList = a.toList ++ b.toList := by simp
theorem name_tag (l : List Int) (a i : Int) (hi : 0 ≤ i) : tag (nameV l a i).1 = some (chr (97 + i % 26)) := by
  have m0 := Int.emod_nonneg i (show (26 : Int) ≠ 0 by decide)
  have m1 := Int.emod_lt_of_pos i (show (0 : Int) < 26 by decide)
  have hne := chr_46 (97 + i % 26) (by omega) (by omega)
  unfold nameV
  split
  · simp [tag, hne]
  · split
    · simp [tag]
    · simp [tag, hne]
theorem chr_mem (n : Int) (h0 : 33 ≤ n) (h1 : n ≤ 126) : 33 ≤ (chr n).toNat ∧ (chr n).toNat ≤ 126 := by
  rw [chr_nat n (by omega) (by omega)]
  omega
theorem name_ok (l : List Int) (a i : Int) : NameOk (nameV l a i).1 := by
  have m0 := Int.emod_nonneg i (show (26 : Int) ≠ 0 by decide)
  have m1 := Int.emod_lt_of_pos i (show (0 : Int) < 26 by decide)
  have m2 := Int.emod_nonneg (i / 26) (show (26 : Int) ≠ 0 by decide)
  have m3 := Int.emod_lt_of_pos (i / 26) (show (0 : Int) < 26 by decide)
  obtain ⟨r0, r1⟩ := nextV_range l a 26 (by omega)
  obtain ⟨r4, r5⟩ := nextV_range l (a + 1 + 1) 10 (by omega)
  have c1 := chr_mem (97 + nextV l a 26) (by omega) (by omega)
  have c2 := chr_mem (97 + i % 26) (by omega) (by omega)
  have c3 := chr_mem (97 + i / 26 % 26) (by omega) (by omega)
  have c4 := chr_mem (48 + nextV l (a + 1 + 1) 10) (by omega) (by omega)
  unfold nameV
  split
  · refine ⟨by simp [ba_size], by simp [ba_size], fun b hb => ?_⟩
    simp only [ByteArray.data_append, Array.toList_append, List.mem_append, List.mem_cons, List.not_mem_nil, or_false] at hb
    rcases hb with (rfl | rfl | rfl) | (rfl | rfl) | rfl <;> first | assumption | decide
  · split
    · refine ⟨by simp [ba_size], by simp [ba_size], fun b hb => ?_⟩
      simp only [ByteArray.data_append, Array.toList_append, List.mem_append, List.mem_cons, List.not_mem_nil, or_false] at hb
      rcases hb with (rfl | rfl) | (rfl | rfl | rfl) <;> first | assumption | decide
    · refine ⟨by simp [ba_size], by simp [ba_size], fun b hb => ?_⟩
      simp only [List.mem_cons, List.not_mem_nil, or_false] at hb
      rcases hb with rfl | rfl | rfl <;> assumption
theorem words_ok (l : List Int) : ∀ (k i : Nat) (a : Int), (∀ s ∈ (wordsV l k i a).1, NameOk s) ∧ (wordsV l k i a).1.map tag = (List.range' i k).map fun i : Nat => some (chr (97 + (i : Int) % 26))
  | 0, i, a => by simp [wordsV]
  | k + 1, i, a => by
    obtain ⟨h1, h2⟩ := words_ok l k (i + 1) (nameV l a i).2
    refine ⟨fun s hs => ?_, ?_⟩
    · simp only [wordsV, List.mem_cons] at hs
      rcases hs with rfl | hs
      · exact name_ok l a i
      · exact h1 s hs
    · simp only [wordsV, List.map_cons, List.range'_succ, h2, name_tag l a i (by omega)]
theorem words_nodup (l : List Int) (k : Nat) (a : Int) (hk : k ≤ 26) : (wordsV l k 0 a).1.Nodup := by
  have h : ((wordsV l k 0 a).1.map tag).Pairwise (· ≠ ·) := by
    rw [(words_ok l k 0 a).2, List.pairwise_map]
    refine (List.pairwise_lt_range' (s := 0) (n := k)).imp_of_mem ?_
    intro x y hx hy hxy e
    simp only [List.mem_range'_1] at hx hy
    simp only [Option.some.injEq] at e
    have := congrArg UInt8.toNat e
    rw [chr_nat _ (by omega) (by omega), chr_nat _ (by omega) (by omega)] at this
    omega
  rw [List.pairwise_map] at h
  exact h.imp fun hne e => hne (by rw [e])
theorem andNot_zero (w m : Int) : bits .andNot .u64 (bits .and .u64 w m) m = 0 := by
  show IntKind.u64.wrap (BitVec.ofInt 64 (IntKind.u64.wrap (BitVec.ofInt 64 w &&& BitVec.ofInt 64 m).toNat) &&& ~~~(BitVec.ofInt 64 m)).toNat = 0
  rw [wrapU (x := ((BitVec.ofInt 64 w &&& BitVec.ofInt 64 m).toNat : Int)) (by have := (BitVec.ofInt 64 w &&& BitVec.ofInt 64 m).isLt; omega)]
  have e : BitVec.ofInt 64 ((BitVec.ofInt 64 w &&& BitVec.ofInt 64 m).toNat : Int) = BitVec.ofInt 64 w &&& BitVec.ofInt 64 m := by
    generalize BitVec.ofInt 64 w &&& BitVec.ofInt 64 m = r
    apply BitVec.eq_of_toNat_eq
    simp
  rw [e]
  have z : BitVec.ofInt 64 w &&& BitVec.ofInt 64 m &&& ~~~(BitVec.ofInt 64 m) = 0#64 := by
    apply BitVec.eq_of_getLsbD_eq
    intro i hi
    simp only [BitVec.getLsbD_and, BitVec.getLsbD_not, BitVec.getLsbD_zero]
    cases (BitVec.ofInt 64 m).getLsbD i <;> simp
  rw [z]
  rfl
theorem gates_ok (l : List Int) (first : Int) (hf : 1 ≤ first) : ∀ (k j : Nat) (a : Int) (i : Nat) (g : LGate), (gatesV l first k j a).1[i]? = some g →
    g.ins.length ≤ 6 ∧ bits .andNot .u64 g.table (2 ^ ((2 : Int) ^ g.ins.length).toNat - 1) = 0 ∧ ∀ x ∈ g.ins, 0 ≤ x ∧ x < first + ((j + i : Nat) : Int)
  | 0, j, a, i, g, h => by simp [gatesV] at h
  | k + 1, j, a, 0, g, h => by
    simp only [gatesV, List.getElem?_cons_zero, Option.some.injEq] at h
    subst h
    obtain ⟨h1, h2, h3⟩ := netsV_all l (first + j) (by omega) (gateN l a) (a + 1)
    have h4 := (gateN_le l a).1
    refine ⟨by simp only [gateV]; omega, ?_, ?_⟩
    · simp only [gateV, h2]
      exact andNot_zero _ _
    · simpa [gateV] using h3
  | k + 1, j, a, i + 1, g, h => by
    simp only [gatesV, List.getElem?_cons_succ] at h
    have := gates_ok l first hf k (j + 1) _ i g h
    rw [show j + 1 + i = j + (i + 1) by omega] at this
    exact this
theorem flops_ok (l : List Int) (most : Int) (hm : 2 ≤ most) : ∀ (ns : List ByteArray) (a : Int), (flopsV l most ns a).1.map LFlop.name = ns ∧ ∀ f ∈ (flopsV l most ns a).1, (0 ≤ f.d ∧ f.d < most) ∧ 0 ≤ f.en ∧ f.en < most
  | [], a => by simp [flopsV]
  | nm :: ns, a => by
    obtain ⟨h1, h2⟩ := flops_ok l most hm ns (flopV l a most nm).2
    have h3 := netV_range l a most (by omega)
    have h4 := netV_range l (a + 1 + 1 + 1 + 1) most (by omega)
    have h5 : (flopV l a most nm).1.name = nm ∧ (0 ≤ (flopV l a most nm).1.d ∧ (flopV l a most nm).1.d < most) ∧ 0 ≤ (flopV l a most nm).1.en ∧ (flopV l a most nm).1.en < most := by
      unfold flopV
      split
      · exact ⟨rfl, h3, h4⟩
      · exact ⟨rfl, h3, by simp only; omega, by simp only; omega⟩
    refine ⟨by simp only [flopsV, List.map_cons, h1, h5.1], fun f hf => ?_⟩
    simp only [flopsV, List.mem_cons] at hf
    rcases hf with rfl | hf
    · exact h5.2
    · exact h2 f hf
theorem drawn_ok (l : List Int) (ins flops gates outs : Nat) (a : Int) (b1 : ins ≤ 10) (b2 : flops ≤ 10) (b3 : gates ≤ 50) (b4 : outs ≤ 10) :
    NetOk (netlistV l a ins flops gates outs).1 ∧ 0 ≤ (netlistV l a ins flops gates outs).2 - a ∧ (netlistV l a ins flops gates outs).2 ≤ a + 1000 := by
  obtain ⟨p1, p2, p3⟩ := wordsV_pos l (ins + flops) 0 a
  obtain ⟨w1, _⟩ := words_ok l (ins + flops) 0 a
  have w2 := words_nodup l (ins + flops) a (by omega)
  simp only [netlistV]
  generalize wordsV l (ins + flops) 0 a = W at *
  obtain ⟨q1, q2, q3⟩ := wordsV_pos l outs 0 W.2
  obtain ⟨v1, _⟩ := words_ok l outs 0 W.2
  have v2 := words_nodup l outs W.2 (by omega)
  generalize wordsV l outs 0 W.2 = O at *
  have hfc : ((2 + ins + flops : Nat) : Int) = 2 + (ins : Int) + flops := by omega
  rw [hfc]
  obtain ⟨g1, g2, g3⟩ := gatesV_pos l (2 + (ins : Int) + flops) (by omega) gates 0 O.2
  have g4 := gates_ok l (2 + (ins : Int) + flops) (by omega) gates 0 O.2
  generalize gatesV l (2 + (ins : Int) + flops) gates 0 O.2 = G at *
  obtain ⟨f1, f2, f3⟩ := flopsV_pos l (2 + (ins : Int) + flops + gates) (W.1.drop ins) G.2
  obtain ⟨f4, f5⟩ := flops_ok l (2 + (ins : Int) + flops + gates) (by omega) (W.1.drop ins) G.2
  generalize flopsV l (2 + (ins : Int) + flops + gates) (W.1.drop ins) G.2 = V at *
  obtain ⟨o1, o2, o3⟩ := netsV_all l (2 + (ins : Int) + flops + gates) (by omega) outs V.2
  generalize netsV l (2 + (ins : Int) + flops + gates) outs V.2 = Z at *
  have hd : (W.1.drop ins).length = flops := by rw [List.length_drop]; omega
  have ht : (W.1.take ins).length = ins := by rw [List.length_take]; omega
  rw [hd] at f2 f3
  refine ⟨⟨⟨by simp only; omega, by simp only; omega, by simp only; omega, by simp only; omega, by simp only; omega⟩, ?_, ?_, v1, v2, by simp only; omega, fun i g hg => ?_, ⟨fun f hf => ?_, fun k hk => ?_⟩⟩, by omega, by omega⟩
  · rw [f4, List.take_append_drop]
    exact w1
  · rw [f4, List.take_append_drop]
    exact w2
  · have := g4 i g hg
    simp only [ht, f3]
    rw [Nat.zero_add] at this
    exact this
  · have := f5 f hf
    simp only [ht, f3, g3]
    exact this
  · have := o3 k hk
    simp only [ht, f3, g3]
    exact this
end Go.Proofs.YtkmnmokjlpenhaaPi
