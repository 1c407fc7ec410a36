/- The walks of the function that draws names. -/
import Derived.Test.YtkmnmokjlpenhaaWB
set_option linter.unusedVariables false
set_option linter.unusedSimpArgs false
set_option maxRecDepth 100000
namespace Go.Proofs.YtkmnmokjlpenhaaPi

def chr (n : Int) : UInt8 := UInt8.ofNat n.toNat
abbrev strs (l : List ByteArray) : List (List Im) := l.map fun s => [.str s]
theorem strs_len (l : List ByteArray) : (strs l).length = l.length := by simp
def nameV (l : List Int) (a : Int) (i : Int) : ByteArray × Int :=
  if nextV l (a + 1) 5 = 0 then (⟨#[chr (97 + nextV l a 26), chr (97 + i % 26), chr (97 + i / 26 % 26)]⟩ ++ (⟨#[91]⟩ ++ ⟨#[chr (48 + nextV l (a + 1 + 1) 10)]⟩ ++ ⟨#[93]⟩), a + 1 + 1 + 1)
  else if nextV l (a + 1) 5 = 1 then (⟨#[109, 46]⟩ ++ ⟨#[chr (97 + nextV l a 26), chr (97 + i % 26), chr (97 + i / 26 % 26)]⟩, a + 1 + 1)
  else (⟨#[chr (97 + nextV l a 26), chr (97 + i % 26), chr (97 + i / 26 % 26)]⟩, a + 1 + 1)
def wordsV (l : List Int) : Nat → Nat → Int → List ByteArray × Int
  | 0, _, a => ([], a)
  | k + 1, i, a => ((nameV l a i).1 :: (wordsV l k (i + 1) (nameV l a i).2).1, (wordsV l k (i + 1) (nameV l a i).2).2)
theorem nameV_pos (l : List Int) (a i : Int) : a < (nameV l a i).2 ∧ (nameV l a i).2 ≤ a + 3 := by
  unfold nameV
  split
  · exact ⟨by simp only; omega, by simp only; omega⟩
  · split <;> exact ⟨by simp only; omega, by simp only; omega⟩
theorem wordsV_pos (l : List Int) : ∀ (k i : Nat) (a : Int), a ≤ (wordsV l k i a).2 ∧ (wordsV l k i a).2 ≤ a + 3 * k ∧ (wordsV l k i a).1.length = k
  | 0, i, a => by simp [wordsV]
  | k + 1, i, a => by
    have h1 := nameV_pos l a i
    have h2 := wordsV_pos l k (i + 1) (nameV l a i).2
    refine ⟨?_, ?_, ?_⟩
    · simp only [wordsV]; omega
    · simp only [wordsV]; omega
    · simp only [wordsV, List.length_cons]; omega
theorem wrap8 {x : Int} (h : 0 ≤ x ∧ x < 256) : IntKind.u8.wrap x = x := by
  unfold IntKind.wrap
  simp only [IntKind.bits, IntKind.signed]
  simp
  omega
theorem ba_size (a : Array UInt8) : (ByteArray.mk a).size = a.size := rfl
theorem Words_ok (N : Nat) (hN : N ≤ 300) (l : List Int) (a : Int) (hs : StmOk l a) (hf : a + 1000 < 1099511627776) (up : Frs) (d j : Nat) (hl : fget up d j = some (stm l a)) : ACalls Try.prog 60 [.ptr d j 0, .i N] up fun v u => v = .im (.sl (strs (wordsV l N 0 a).1)) ∧ u = fset up d j (stm l (wordsV l N 0 a).2) := by
  have hset : ∀ o, fget (fset up d j o) d j = some o := fun o => fget_fset_same _ _ _ _ _ hl
  have hp := hs.pos
  refine ACalls.code Try.func60 rfl 51 rfl (by simp) [.tmp 4] rfl fun Q hQ => ?_
  simp only [ups, PV.up, argEnv]
  have ft := And.intro ty_2 (And.intro ty_3 (And.intro ty_4 (And.intro ty_5 (And.intro ty_9 (And.intro ty_23 (And.intro ty_26 (And.intro ty_165 trivial)))))))
  refine Run.seq ?_
  have fx := And.intro hset (And.intro hl ft)
  refine Run.go ?_
  refine End.kp [0, 1] ?_
  refine Run.seq ?_
  refine Run.go ?_
  refine End.kp [0, 1, 5] ?_
  refine Run.seq ?_
  refine Run.seq ?_
  refine Run.go ?_
  refine End.kp [0, 5, 8, 9] ?_
  refine Run.block ?_
  refine Run.ghost (Ghost.thaw (u := 5) 9 1 (by decide) rfl) ?_
  refine Run.ghost (Ghost.shape [(0, .ptr (d + 1) j 0), (5, .ms 0 0 (0)), (8, .i N), (9, .i (0 : Nat))] 1 ?_ rfl rfl) ?_
  · simp [eget, eput, edel]
  refine Run.loop (fun m s => ∃ (i : Nat) (done : List ByteArray) (b : Int), m = N - i ∧ i ≤ N ∧ done.length = i ∧ (wordsV l (N - i) i b).2 = (wordsV l N 0 a).2 ∧ done ++ (wordsV l (N - i) i b).1 = (wordsV l N 0 a).1 ∧ a ≤ b ∧ b ≤ a + 3 * i ∧
    s = ⟨[(0, .ptr (d + 1) j 0), (5, .ms 0 0 (i)), (8, .i N), (9, .i (i : Nat))], [.row 9 1 (strs done) 0], fset up d j (stm l b)⟩) N ⟨0, [], a, rfl, by omega, rfl, rfl, rfl, by omega, by omega, by rw [fset_self up d j _ hl]; rfl⟩ fun m s hI => ?_
  obtain ⟨i, done, b, rfl, hi, hdl, hw2, hw1, hb0, hb1, rfl⟩ := hI
  have hsl : (strs done).length = i := by rw [strs_len, hdl]
  have hs0 : StmOk l b := ⟨hs.vals, hs.len, by omega, by omega⟩
  refine Run.seq ?_
  have fx := And.intro hsl (And.intro hset (And.intro hl ft))
  refine Run.go ?_
  refine End.kp [0, 5, 8, 9, 10] ?_
  refine Run.seq ?_
  refine Run.cond _ rfl (fun hb => ?_) (fun hb => ?_)
  · have hb := of_decide_eq_true hb
    have hin : i < N := by omega
    have hap : (i + 1) * 16 ≤ 140737488355328 := by omega
    obtain ⟨r0, r1⟩ := nextV_range l b 26 (by omega)
    obtain ⟨r2, r3⟩ := nextV_range l (b + 1) 5 (by omega)
    obtain ⟨r4, r5⟩ := nextV_range l (b + 1 + 1) 10 (by omega)
    have m0 := Int.emod_nonneg (i : Int) (show (26 : Int) ≠ 0 by decide)
    have m1 := Int.emod_lt_of_pos (i : Int) (show (0 : Int) < 26 by decide)
    have m2 := Int.emod_nonneg ((i : Int) / 26) (show (26 : Int) ≠ 0 by decide)
    have m3 := Int.emod_lt_of_pos ((i : Int) / 26) (show (0 : Int) < 26 by decide)
    have d0 : (0 : Int) ≤ (i : Int) / 26 := by omega
    have d1 : (i : Int) / 26 ≤ i := by omega
    have t1 : (i : Int).tmod 26 = (i : Int) % 26 := Int.tmod_eq_emod_of_nonneg (by omega)
    have t2 : (i : Int).tdiv 26 = (i : Int) / 26 := Int.tdiv_eq_ediv_of_nonneg (by omega)
    have t3 : ((i : Int) / 26).tmod 26 = (i : Int) / 26 % 26 := Int.tmod_eq_emod_of_nonneg d0
    have w0 : IntKind.i64.wrap ((i : Int) / 26) = (i : Int) / 26 := wrap64 (by omega)
    have w1 : IntKind.i64.wrap (97 + nextV l b 26) = 97 + nextV l b 26 := wrap64 (by omega)
    have w2 : IntKind.i64.wrap (97 + (i : Int) % 26) = 97 + (i : Int) % 26 := wrap64 (by omega)
    have w3 : IntKind.i64.wrap (97 + (i : Int) / 26 % 26) = 97 + (i : Int) / 26 % 26 := wrap64 (by omega)
    have w4 : IntKind.i64.wrap (48 + nextV l (b + 1 + 1) 10) = 48 + nextV l (b + 1 + 1) 10 := wrap64 (by omega)
    have v1 : IntKind.u8.wrap (97 + nextV l b 26) = 97 + nextV l b 26 := wrap8 (by omega)
    have v2 : IntKind.u8.wrap (97 + (i : Int) % 26) = 97 + (i : Int) % 26 := wrap8 (by omega)
    have v3 : IntKind.u8.wrap (97 + (i : Int) / 26 % 26) = 97 + (i : Int) / 26 % 26 := wrap8 (by omega)
    have v4 : IntKind.u8.wrap (48 + nextV l (b + 1 + 1) 10) = 48 + nextV l (b + 1 + 1) 10 := wrap8 (by omega)
    have z1 : 0 ≤ 97 + nextV l b 26 ∧ 97 + nextV l b 26 < 256 := by omega
    have z2 : 0 ≤ 97 + (i : Int) % 26 ∧ 97 + (i : Int) % 26 < 256 := by omega
    have z3 : 0 ≤ 97 + (i : Int) / 26 % 26 ∧ 97 + (i : Int) / 26 % 26 < 256 := by omega
    have z4 : 0 ≤ 48 + nextV l (b + 1 + 1) 10 ∧ 48 + nextV l (b + 1 + 1) 10 < 256 := by omega
    have wi : IntKind.i64.wrap ((i : Int) + 1) = ((i + 1 : Nat) : Int) := by rw [wrap64 (by omega)]; omega
    refine Run.skip ?_
    refine End.kp [0, 5, 8, 9] ?_
    refine Run.seq ?_
    refine Run.block ?_
    refine Run.seq ?_
    have fx := And.intro (@ByteArray.size_append) (And.intro (@List.size_toArray.{0}) (And.intro (@ba_size) (And.intro wi (And.intro z4 (And.intro z3 (And.intro z2 (And.intro z1 (And.intro v4 (And.intro v3 (And.intro v2 (And.intro v1 (And.intro w4 (And.intro w3 (And.intro w2 (And.intro w1 (And.intro w0 (And.intro t3 (And.intro t2 (And.intro t1 (And.intro hap (And.intro hsl (And.intro hset (And.intro hl ft)))))))))))))))))))))))
    refine Run.go ?_
    refine End.kp [0, 5, 6, 8, 9] ?_
    refine Run.seq ?_
    refine Run.region rfl fun K hK => GOps.sim ?_
    refine GOps.call rfl rfl rfl rfl (by kernel_rfl) (ACalls.sim ?_)
    refine (Next_ok l b 26 hs0 (by omega) _ (d + 1) j (hset _)).mono fun v u hv => ?_
    obtain ⟨rfl, rfl⟩ := hv
    refine ⟨_, _, rfl, GOps.sim ?_⟩
    refine GOps.done (hK _ ?_); clear hK K
    refine End.kp [0, 5, 7, 8, 9] ?_
    refine Run.seq ?_
    refine Run.seq ?_
    refine Run.region rfl fun K hK => GOps.sim ?_
    refine GOps.call rfl rfl rfl rfl (by kernel_rfl) (ACalls.sim ?_)
    refine (Next_ok l (b + 1) 5 (hs0.plus 1 (by omega) (by omega)) (by omega) _ (d + 1) j (hset _)).mono fun v u hv => ?_
    obtain ⟨rfl, rfl⟩ := hv
    refine ⟨_, _, rfl, GOps.sim ?_⟩
    refine GOps.done (hK _ ?_); clear hK K
    refine End.kp [0, 5, 7, 8, 9, 28] ?_
    refine Run.block ?_
    refine Run.seq ?_
    refine Run.go ?_
    refine End.kp [0, 5, 7, 8, 9, 28, 29] ?_
    refine Run.cond _ rfl (fun hb => ?_) (fun hb => ?_)
    · have hb5 : nextV l (b + 1) 5 = 0 := eq_of_beq hb
      have fx := And.intro (@ByteArray.size_append) (And.intro (@List.size_toArray.{0}) (And.intro (@ba_size) (And.intro wi (And.intro z4 (And.intro z3 (And.intro z2 (And.intro z1 (And.intro v4 (And.intro v3 (And.intro v2 (And.intro v1 (And.intro w4 (And.intro w3 (And.intro w2 (And.intro w1 (And.intro w0 (And.intro t3 (And.intro t2 (And.intro t1 (And.intro hap (And.intro hsl (And.intro hset (And.intro hl ft)))))))))))))))))))))))
      refine Run.region rfl fun K hK => GOps.sim ?_
      refine GOps.call rfl rfl rfl rfl (by kernel_rfl) (ACalls.sim ?_)
      refine (Next_ok l (b + 1 + 1) 10 ((hs0.plus 1 (by omega) (by omega)).plus 1 (by omega) (by omega)) (by omega) _ (d + 1) j (hset _)).mono fun v u hv => ?_
      obtain ⟨rfl, rfl⟩ := hv
      refine ⟨_, _, rfl, GOps.sim ?_⟩
      refine GOps.done (hK _ ?_); clear hK K
      refine End.blk ?_
      refine End.kp [0, 5, 7, 8, 9] ?_
      refine Run.go ?_
      refine End.blk ?_
      refine End.kp [0, 5, 8, 9] ?_
      refine Run.go ?_
      refine End.lp ?_
      have hn : nameV l b i = (⟨#[chr (97 + nextV l b 26), chr (97 + (i : Int) % 26), chr (97 + (i : Int) / 26 % 26)]⟩ ++ (⟨#[91]⟩ ++ ⟨#[chr (48 + nextV l (b + 1 + 1) 10)]⟩ ++ ⟨#[93]⟩), b + 1 + 1 + 1) := by simp [nameV, chr, hb5]
      have hp := nameV_pos l b i
      have hwi : wordsV l (N - i) i b = ((nameV l b i).1 :: (wordsV l (N - (i + 1)) (i + 1) (nameV l b i).2).1, (wordsV l (N - (i + 1)) (i + 1) (nameV l b i).2).2) := by
        rw [show N - i = (N - (i + 1)) + 1 by omega]
        rfl
      rw [hwi] at hw1 hw2
      refine ⟨N - (i + 1), _, by omega, Ghost.shape [(0, .ptr (d + 1) j 0), (5, .ms 0 0 (i + 1)), (8, .i N), (9, .i (i + 1 : Nat))] 1 ?_ rfl rfl, i + 1, done ++ [(nameV l b i).1], (nameV l b i).2, rfl, by omega, by simp [hdl], hw2, by simpa using hw1, by omega, by omega, ?_⟩
      · simp only [List.mem_cons, List.not_mem_nil, or_false, forall_eq_or_imp, forall_eq, eget]
        simp
      · rw [hn]
        simp [chr]
    · have hb5 : ¬ nextV l (b + 1) 5 = 0 := fun e => by simp [e] at hb
      refine Run.seq ?_
      have fx := And.intro (@ByteArray.size_append) (And.intro (@List.size_toArray.{0}) (And.intro (@ba_size) (And.intro wi (And.intro z4 (And.intro z3 (And.intro z2 (And.intro z1 (And.intro v4 (And.intro v3 (And.intro v2 (And.intro v1 (And.intro w4 (And.intro w3 (And.intro w2 (And.intro w1 (And.intro w0 (And.intro t3 (And.intro t2 (And.intro t1 (And.intro hap (And.intro hsl (And.intro hset (And.intro hl ft)))))))))))))))))))))))
      refine Run.go ?_
      refine End.kp [0, 5, 7, 8, 9, 41] ?_
      refine Run.cond _ rfl (fun hb => ?_) (fun hb => ?_)
      · have hb6 : nextV l (b + 1) 5 = 1 := eq_of_beq hb
        have fx := And.intro (@ByteArray.size_append) (And.intro (@List.size_toArray.{0}) (And.intro (@ba_size) (And.intro wi (And.intro z4 (And.intro z3 (And.intro z2 (And.intro z1 (And.intro v4 (And.intro v3 (And.intro v2 (And.intro v1 (And.intro w4 (And.intro w3 (And.intro w2 (And.intro w1 (And.intro w0 (And.intro t3 (And.intro t2 (And.intro t1 (And.intro hap (And.intro hsl (And.intro hset (And.intro hl ft)))))))))))))))))))))))
        refine Run.go ?_
        refine End.blk ?_
        refine End.kp [0, 5, 7, 8, 9] ?_
        refine Run.go ?_
        refine End.blk ?_
        refine End.kp [0, 5, 8, 9] ?_
        refine Run.go ?_
        refine End.lp ?_
        have hn : nameV l b i = (⟨#[109, 46]⟩ ++ ⟨#[chr (97 + nextV l b 26), chr (97 + (i : Int) % 26), chr (97 + (i : Int) / 26 % 26)]⟩, b + 1 + 1) := by simp [nameV, chr, hb5, hb6]
        have hp := nameV_pos l b i
        have hwi : wordsV l (N - i) i b = ((nameV l b i).1 :: (wordsV l (N - (i + 1)) (i + 1) (nameV l b i).2).1, (wordsV l (N - (i + 1)) (i + 1) (nameV l b i).2).2) := by
          rw [show N - i = (N - (i + 1)) + 1 by omega]
          rfl
        rw [hwi] at hw1 hw2
        refine ⟨N - (i + 1), _, by omega, Ghost.shape [(0, .ptr (d + 1) j 0), (5, .ms 0 0 (i + 1)), (8, .i N), (9, .i (i + 1 : Nat))] 1 ?_ rfl rfl, i + 1, done ++ [(nameV l b i).1], (nameV l b i).2, rfl, by omega, by simp [hdl], hw2, by simpa using hw1, by omega, by omega, ?_⟩
        · simp only [List.mem_cons, List.not_mem_nil, or_false, forall_eq_or_imp, forall_eq, eget]
          simp
        · rw [hn]
          simp [chr]
      · have hb6 : ¬ nextV l (b + 1) 5 = 1 := fun e => by simp [e] at hb
        refine Run.skip ?_
        refine End.blk ?_
        refine End.kp [0, 5, 7, 8, 9] ?_
        have fx := And.intro (@ByteArray.size_append) (And.intro (@List.size_toArray.{0}) (And.intro (@ba_size) (And.intro wi (And.intro z4 (And.intro z3 (And.intro z2 (And.intro z1 (And.intro v4 (And.intro v3 (And.intro v2 (And.intro v1 (And.intro w4 (And.intro w3 (And.intro w2 (And.intro w1 (And.intro w0 (And.intro t3 (And.intro t2 (And.intro t1 (And.intro hap (And.intro hsl (And.intro hset (And.intro hl ft)))))))))))))))))))))))
        refine Run.go ?_
        refine End.blk ?_
        refine End.kp [0, 5, 8, 9] ?_
        refine Run.go ?_
        refine End.lp ?_
        have hn : nameV l b i = (⟨#[chr (97 + nextV l b 26), chr (97 + (i : Int) % 26), chr (97 + (i : Int) / 26 % 26)]⟩, b + 1 + 1) := by simp [nameV, chr, hb5, hb6]
        have hp := nameV_pos l b i
        have hwi : wordsV l (N - i) i b = ((nameV l b i).1 :: (wordsV l (N - (i + 1)) (i + 1) (nameV l b i).2).1, (wordsV l (N - (i + 1)) (i + 1) (nameV l b i).2).2) := by
          rw [show N - i = (N - (i + 1)) + 1 by omega]
          rfl
        rw [hwi] at hw1 hw2
        refine ⟨N - (i + 1), _, by omega, Ghost.shape [(0, .ptr (d + 1) j 0), (5, .ms 0 0 (i + 1)), (8, .i N), (9, .i (i + 1 : Nat))] 1 ?_ rfl rfl, i + 1, done ++ [(nameV l b i).1], (nameV l b i).2, rfl, by omega, by simp [hdl], hw2, by simpa using hw1, by omega, by omega, ?_⟩
        · simp only [List.mem_cons, List.not_mem_nil, or_false, forall_eq_or_imp, forall_eq, eget]
          simp
        · rw [hn]
          simp [chr]
  · have hb := of_decide_eq_false hb
    have hiN : i = N := by omega
    subst hiN
    simp only [Nat.sub_self, wordsV, List.append_nil] at hw1 hw2
    refine Run.exit rfl ?_
    refine End.kp [5] ?_
    refine Run.seq ?_
    refine Run.ghost (Ghost.shut (t := 5) (j := 0) rfl rfl hsl) ?_
    simp only [eput, edel]
    have fx := And.intro hsl (And.intro hset (And.intro hl ft))
    refine Run.go ?_
    refine End.kp [4] ?_
    refine Run.ret (hQ _ _ ⟨.inr rfl, _, rfl, _, rfl, ?_⟩)
    exact ⟨by rw [hw1], by rw [hw2]⟩
end Go.Proofs.YtkmnmokjlpenhaaPi
