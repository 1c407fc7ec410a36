/- Plain law: drawn names are in order, and no two of them are the same. -/
import Derived.Test.YtkmnmokjlpenhaaWC
import Derived.Test.YtkmnmokjlpenhaaWG
set_option linter.unusedVariables false
set_option linter.unusedSimpArgs false
namespace Go.Proofs.YtkmnmokjlpenhaaPi

theorem chr_nat (n : Int) (h0 : 0 ≤ n) (h1 : n < 256) : (chr n).toNat = n.toNat := by
  simp only [chr, UInt8.toNat_ofNat']
  omega
/-- The letter that tells one drawn name from the others. -/
def tag (s : ByteArray) : Option UInt8 := if s.data.toList[1]? = some 46 then s.data.toList[3]? else s.data.toList[1]?
theorem chr_46 (n : Int) (h0 : 97 ≤ n) (h1 : n < 256) : chr n ≠ 46 := fun e => by
  have := chr_nat n (by omega) h1
  rw [e] at this
  simp at this
  omega
theorem ba_app (a b : Array UInt8) : (ByteArray.mk a ++ ByteArray.mk b).data.toList = a.toList ++ b.toList := by simp
theorem name_tag (l : List Int) (a i : Int) (hi : 0 ≤ i) : tag (nameV l a i).1 = some (chr (97 + i % 26)) := by
  have m0 := Int.emod_nonneg i (show (26 : Int) ≠ 0 by decide)
  have m1 := Int.emod_lt_of_pos i (show (0 : Int) < 26 by decide)
  have hne := chr_46 (97 + i % 26) (by omega) (by omega)
  unfold nameV
  split
  · simp [tag, hne]
  · split
    · simp [tag]
    · simp [tag, hne]
theorem chr_mem (n : Int) (h0 : 33 ≤ n) (h1 : n ≤ 126) : 33 ≤ (chr n).toNat ∧ (chr n).toNat ≤ 126 := by
  rw [chr_nat n (by omega) (by omega)]
  omega
theorem name_ok (l : List Int) (a i : Int) : NameOk (nameV l a i).1 := by
  have m0 := Int.emod_nonneg i (show (26 : Int) ≠ 0 by decide)
  have m1 := Int.emod_lt_of_pos i (show (0 : Int) < 26 by decide)
  have m2 := Int.emod_nonneg (i / 26) (show (26 : Int) ≠ 0 by decide)
  have m3 := Int.emod_lt_of_pos (i / 26) (show (0 : Int) < 26 by decide)
  obtain ⟨r0, r1⟩ := nextV_range l a 26 (by omega)
  obtain ⟨r4, r5⟩ := nextV_range l (a + 1 + 1) 10 (by omega)
  have c1 := chr_mem (97 + nextV l a 26) (by omega) (by omega)
  have c2 := chr_mem (97 + i % 26) (by omega) (by omega)
  have c3 := chr_mem (97 + i / 26 % 26) (by omega) (by omega)
  have c4 := chr_mem (48 + nextV l (a + 1 + 1) 10) (by omega) (by omega)
  unfold nameV
  split
  · refine ⟨by simp [ba_size], by simp [ba_size], fun b hb => ?_⟩
    simp only [ByteArray.data_append, Array.toList_append, List.mem_append, List.mem_cons, List.not_mem_nil, or_false] at hb
    rcases hb with (rfl | rfl | rfl) | (rfl | rfl) | rfl <;> first | assumption | decide
  · split
    · refine ⟨by simp [ba_size], by simp [ba_size], fun b hb => ?_⟩
      simp only [ByteArray.data_append, Array.toList_append, List.mem_append, List.mem_cons, List.not_mem_nil, or_false] at hb
      rcases hb with (rfl | rfl) | (rfl | rfl | rfl) <;> first | assumption | decide
    · refine ⟨by simp [ba_size], by simp [ba_size], fun b hb => ?_⟩
      simp only [List.mem_cons, List.not_mem_nil, or_false] at hb
      rcases hb with rfl | rfl | rfl <;> assumption
theorem words_ok (l : List Int) : ∀ (k i : Nat) (a : Int), (∀ s ∈ (wordsV l k i a).1, NameOk s) ∧ (wordsV l k i a).1.map tag = (List.range' i k).map fun i : Nat => some (chr (97 + (i : Int) % 26))
  | 0, i, a => by simp [wordsV]
  | k + 1, i, a => by
    obtain ⟨h1, h2⟩ := words_ok l k (i + 1) (nameV l a i).2
    refine ⟨fun s hs => ?_, ?_⟩
    · simp only [wordsV, List.mem_cons] at hs
      rcases hs with rfl | hs
      · exact name_ok l a i
      · exact h1 s hs
    · simp only [wordsV, List.map_cons, List.range'_succ, h2, name_tag l a i (by omega)]
theorem words_nodup (l : List Int) (k : Nat) (a : Int) (hk : k ≤ 26) : (wordsV l k 0 a).1.Nodup := by
  have h : ((wordsV l k 0 a).1.map tag).Pairwise (· ≠ ·) := by
    rw [(words_ok l k 0 a).2, List.pairwise_map]
    refine (List.pairwise_lt_range' (s := 0) (n := k)).imp_of_mem ?_
    intro x y hx hy hxy e
    simp only [List.mem_range'_1] at hx hy
    simp only [Option.some.injEq] at e
    have := congrArg UInt8.toNat e
    rw [chr_nat _ (by omega) (by omega), chr_nat _ (by omega) (by omega)] at this
    omega
  rw [List.pairwise_map] at h
  exact h.imp fun hne e => hne (by rw [e])
end Go.Proofs.YtkmnmokjlpenhaaPi
