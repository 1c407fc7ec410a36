/- The walks of the drawing functions (Below, Next). -/
import Derived.Test.YtkmnmokjlpenhaaPiTy
import Derived.Test.YtkmnmokjlpenhaaPiGo
set_option linter.unusedVariables false
set_option linter.unusedSimpArgs false
set_option maxRecDepth 100000
namespace Go.Proofs.YtkmnmokjlpenhaaPi

abbrev I64 (x : Int) : Prop := -9223372036854775808 ≤ x ∧ x ≤ 9223372036854775807
theorem wrap64 {x : Int} (h : I64 x) : IntKind.i64.wrap x = x := by
  unfold IntKind.wrap
  simp only [IntKind.bits, IntKind.signed]
  simp
  omega
abbrev PV.i (x : Int) : PV := .im (.int .i64 x)
def below (x n : Int) : Int := if n < 1 then 0 else x % n
theorem Below_ok (x n : Int) (hx : I64 x) (hn : I64 n) (up : Frs) : ACalls Try.prog 35 [.i x, .i n] up fun v u => v = .i (below x n) ∧ u = up := by
  refine ACalls.code Try.func35 rfl 16 rfl (by simp) [.tmp 4] rfl fun Q hQ => ?_
  simp only [ups, PV.up, argEnv]
  refine Run.seq ?_
  refine Run.region rfl fun K hK => GOps.run ?_
  simp only [lookupV, updateV, lookupK, updateK, slicePV, pe0, pe1, pe2, pe3, pe4, pe5, pe6, pe7, pr0, pr1, Nat.reduceAdd, Nat.reduceMul, Nat.reduceLeDiff, Nat.reduceLT, Nat.reduceEqDiff, Nat.reduceBEq, Nat.reduceSub, reduceCtorEq, reduceIte, Int.reduceToNat, Int.reduceLE, Int.reduceEq, Int.reduceNe, Int.reduceBEq, Int.reduceBNe, Int.reduceLT, Int.reduceGT, Int.reduceGE, Int.reduceNeg, ty_3, ty_4]
  refine GOps.done (hK _ ?_); clear hK K
  refine End.keep [0, 1] ?_
  simp only [pk0, Nat.reduceBEq, reduceIte]
  refine Run.seq ?_
  refine Run.seq ?_
  refine Run.region rfl fun K hK => GOps.run ?_
  simp only [lookupV, updateV, lookupK, updateK, slicePV, pe0, pe1, pe2, pe3, pe4, pe5, pe6, pe7, pr0, pr1, Nat.reduceAdd, Nat.reduceMul, Nat.reduceLeDiff, Nat.reduceLT, Nat.reduceEqDiff, Nat.reduceBEq, Nat.reduceSub, reduceCtorEq, reduceIte, Int.reduceToNat, Int.reduceLE, Int.reduceEq, Int.reduceNe, Int.reduceBEq, Int.reduceBNe, Int.reduceLT, Int.reduceGT, Int.reduceGE, Int.reduceNeg, ty_3, ty_4]
  refine GOps.done (hK _ ?_); clear hK K
  refine End.keep [0, 1, 6] ?_
  simp only [pk0, Nat.reduceBEq, reduceIte]
  refine Run.cond _ rfl (fun hb => ?_) (fun hb => ?_)
  · have hb := of_decide_eq_true hb
    refine Run.seq ?_
    refine Run.region rfl fun K hK => GOps.run ?_
    simp only [lookupV, updateV, lookupK, updateK, slicePV, pe0, pe1, pe2, pe3, pe4, pe5, pe6, pe7, pr0, pr1, Nat.reduceAdd, Nat.reduceMul, Nat.reduceLeDiff, Nat.reduceLT, Nat.reduceEqDiff, Nat.reduceBEq, Nat.reduceSub, reduceCtorEq, reduceIte, Int.reduceToNat, Int.reduceLE, Int.reduceEq, Int.reduceNe, Int.reduceBEq, Int.reduceBNe, Int.reduceLT, Int.reduceGT, Int.reduceGE, Int.reduceNeg, ty_3, ty_4]
    refine GOps.done (hK _ ?_); clear hK K
    refine End.keep [4] ?_
    simp only [pk0, Nat.reduceBEq, reduceIte]
    refine Run.ret (hQ _ _ ⟨.inr rfl, _, rfl, _, rfl, ?_⟩)
    simp [below, hb]
  · have hb := of_decide_eq_false hb
    have hn0 : ¬ n = 0 := by omega
    have ht : x.tmod n = if x < 0 then (if x % n = 0 then 0 else x % n - n) else x % n := by
      rw [Int.tmod_eq_emod]
      have h1 : n.natAbs = n := by omega
      by_cases h0 : x < 0
      · by_cases h2 : n ∣ x
        · have := Int.emod_eq_zero_of_dvd h2
          simp [h2, h0, this]
        · have : ¬ x % n = 0 := fun e => h2 (Int.dvd_of_emod_eq_zero e)
          rw [if_neg (by omega), if_pos h0, if_neg this]
          omega
      · rw [if_pos (by omega), if_neg h0]
        omega
    have hm0 := Int.emod_nonneg x hn0
    have hm1 := Int.emod_lt_of_pos x (show 0 < n by omega)
    refine Run.skip ?_
    refine End.keep [0, 1] ?_
    simp only [pk0, Nat.reduceBEq, reduceIte]
    refine Run.seq ?_
    refine Run.region rfl fun K hK => GOps.run ?_
    simp only [lookupV, updateV, lookupK, updateK, slicePV, pe0, pe1, pe2, pe3, pe4, pe5, pe6, pe7, pr0, pr1, Nat.reduceAdd, Nat.reduceMul, Nat.reduceLeDiff, Nat.reduceLT, Nat.reduceEqDiff, Nat.reduceBEq, Nat.reduceSub, reduceCtorEq, reduceIte, Int.reduceToNat, Int.reduceLE, Int.reduceEq, Int.reduceNe, Int.reduceBEq, Int.reduceBNe, Int.reduceLT, Int.reduceGT, Int.reduceGE, Int.reduceNeg, ty_3, ty_4, hn0]
    refine GOps.done (hK _ ?_); clear hK K
    refine End.keep [0, 1] ?_
    simp only [pk0, Nat.reduceBEq, reduceIte]
    refine Run.seq ?_
    refine Run.seq ?_
    refine Run.region rfl fun K hK => GOps.run ?_
    simp only [lookupV, updateV, lookupK, updateK, slicePV, pe0, pe1, pe2, pe3, pe4, pe5, pe6, pe7, pr0, pr1, Nat.reduceAdd, Nat.reduceMul, Nat.reduceLeDiff, Nat.reduceLT, Nat.reduceEqDiff, Nat.reduceBEq, Nat.reduceSub, reduceCtorEq, reduceIte, Int.reduceToNat, Int.reduceLE, Int.reduceEq, Int.reduceNe, Int.reduceBEq, Int.reduceBNe, Int.reduceLT, Int.reduceGT, Int.reduceGE, Int.reduceNeg, ty_3, ty_4]
    refine GOps.done (hK _ ?_); clear hK K
    refine End.keep [0, 1, 11] ?_
    simp only [pk0, Nat.reduceBEq, reduceIte]
    refine Run.cond _ rfl (fun hb => ?_) (fun hb => ?_)
    · have hc := of_decide_eq_true hb
      refine Run.region rfl fun K hK => GOps.run ?_
      simp only [lookupV, updateV, lookupK, updateK, slicePV, pe0, pe1, pe2, pe3, pe4, pe5, pe6, pe7, pr0, pr1, Nat.reduceAdd, Nat.reduceMul, Nat.reduceLeDiff, Nat.reduceLT, Nat.reduceEqDiff, Nat.reduceBEq, Nat.reduceSub, reduceCtorEq, reduceIte, Int.reduceToNat, Int.reduceLE, Int.reduceEq, Int.reduceNe, Int.reduceBEq, Int.reduceBNe, Int.reduceLT, Int.reduceGT, Int.reduceGE, Int.reduceNeg, ty_3, ty_4]
      refine GOps.done (hK _ ?_); clear hK K
      refine End.keep [0] ?_
      simp only [pk0, Nat.reduceBEq, reduceIte]
      refine Run.seq ?_
      refine Run.region rfl fun K hK => GOps.run ?_
      simp only [lookupV, updateV, lookupK, updateK, slicePV, pe0, pe1, pe2, pe3, pe4, pe5, pe6, pe7, pr0, pr1, Nat.reduceAdd, Nat.reduceMul, Nat.reduceLeDiff, Nat.reduceLT, Nat.reduceEqDiff, Nat.reduceBEq, Nat.reduceSub, reduceCtorEq, reduceIte, Int.reduceToNat, Int.reduceLE, Int.reduceEq, Int.reduceNe, Int.reduceBEq, Int.reduceBNe, Int.reduceLT, Int.reduceGT, Int.reduceGE, Int.reduceNeg, ty_3, ty_4]
      refine GOps.done (hK _ ?_); clear hK K
      refine End.keep [4] ?_
      simp only [pk0, Nat.reduceBEq, reduceIte]
      refine Run.ret (hQ _ _ ⟨.inr rfl, _, rfl, _, rfl, ?_⟩)
      refine ⟨?_, rfl⟩
      have e : x.tmod n + n = x % n := by
        rw [ht] at hc ⊢
        split at hc
        · split at hc
          · omega
          · rename_i h1 h2; rw [if_pos h1, if_neg h2]; omega
        · omega
      rw [e, wrap64 (by omega)]
      simp [below, hb, show ¬ n < 1 by omega]
    · have hc := of_decide_eq_false hb
      refine Run.skip ?_
      refine End.keep [0] ?_
      simp only [pk0, Nat.reduceBEq, reduceIte]
      refine Run.seq ?_
      refine Run.region rfl fun K hK => GOps.run ?_
      simp only [lookupV, updateV, lookupK, updateK, slicePV, pe0, pe1, pe2, pe3, pe4, pe5, pe6, pe7, pr0, pr1, Nat.reduceAdd, Nat.reduceMul, Nat.reduceLeDiff, Nat.reduceLT, Nat.reduceEqDiff, Nat.reduceBEq, Nat.reduceSub, reduceCtorEq, reduceIte, Int.reduceToNat, Int.reduceLE, Int.reduceEq, Int.reduceNe, Int.reduceBEq, Int.reduceBNe, Int.reduceLT, Int.reduceGT, Int.reduceGE, Int.reduceNeg, ty_3, ty_4]
      refine GOps.done (hK _ ?_); clear hK K
      refine End.keep [4] ?_
      simp only [pk0, Nat.reduceBEq, reduceIte]
      refine Run.ret (hQ _ _ ⟨.inr rfl, _, rfl, _, rfl, ?_⟩)
      refine ⟨?_, rfl⟩
      have e : x.tmod n = x % n := by
        rw [ht] at hc ⊢
        split at hc
        · split at hc
          · rename_i h1 h2; rw [if_pos h1, if_pos h2, h2]
          · omega
        · rename_i h1; rw [if_neg h1]
      rw [e]
      simp [below, show ¬ n < 1 by omega]
abbrev ints (l : List Int) : List (List Im) := l.map fun x => [.int .i64 x]
/-- A stream of numbers: the list, and how many were drawn. -/
abbrev stm (l : List Int) (a : Int) : AObj := .box [.im (.sl (ints l)), .i a]
def nextV (l : List Int) (a n : Int) : Int :=
  if l = [] then below ((a + 1) * 7919) n else below (below (l.getD (a % l.length).toNat 0) 1073741824 + a / l.length * (7919 + a % l.length)) n
theorem ints_len (l : List Int) : (ints l).length = l.length := by simp
theorem ints_get (l : List Int) (i : Nat) (h : i < l.length) : (ints l)[i]? = some [.int .i64 (l.getD i 0)] := by simp [h]
structure StmOk (l : List Int) (a : Int) : Prop where
  vals : ∀ x ∈ l, I64 x
  len : l.length ≤ 9223372036854775807
  pos : 0 ≤ a
  few : a < 1099511627776
theorem Next_ok (l : List Int) (a n : Int) (hs : StmOk l a) (hn : I64 n) (up : Frs) (d j : Nat) (hl : fget up d j = some (stm l a)) : ACalls Try.prog 16 [.ptr d j 0, .i n] up fun v u => v = .i (nextV l a n) ∧ u = fset up d j (stm l (a + 1)) := by
  have hset : ∀ o, fget (fset up d j o) d j = some o := fun o => fget_fset_same _ _ _ _ _ hl
  have hw1 : IntKind.i64.wrap (a + 1) = a + 1 := wrap64 (by have := hs.pos; have := hs.few; omega)
  have hw2 : IntKind.i64.wrap ((a + 1) * 7919) = (a + 1) * 7919 := wrap64 (by have := hs.pos; have := hs.few; omega)
  refine ACalls.code Try.func16 rfl 64 rfl (by simp) [.tmp 4] rfl fun Q hQ => ?_
  simp only [ups, PV.up, argEnv]
  refine Run.seq ?_
  refine Run.region rfl fun K hK => GOps.run ?_
  simp only [lookupV, updateV, lookupK, updateK, slicePV, pe0, pe1, pe2, pe3, pe4, pe5, pe6, pe7, pr0, pr1, Nat.reduceAdd, Nat.reduceMul, Nat.reduceLeDiff, Nat.reduceLT, Nat.reduceEqDiff, Nat.reduceBEq, Nat.reduceSub, reduceCtorEq, reduceIte, Int.reduceToNat, Int.reduceLE, Int.reduceEq, Int.reduceNe, Int.reduceBEq, Int.reduceBNe, Int.reduceLT, Int.reduceGT, Int.reduceGE, Int.reduceNeg, ty_3, ty_4, ty_22, ty_23, ty_25, hl, hset, hw1, hw2, ints_len]
  refine GOps.done (hK _ ?_); clear hK K
  refine End.keep [0, 1] ?_
  simp only [pk0, Nat.reduceBEq, reduceIte]
  refine Run.seq ?_
  refine Run.region rfl fun K hK => GOps.run ?_
  simp only [lookupV, updateV, lookupK, updateK, slicePV, pe0, pe1, pe2, pe3, pe4, pe5, pe6, pe7, pr0, pr1, Nat.reduceAdd, Nat.reduceMul, Nat.reduceLeDiff, Nat.reduceLT, Nat.reduceEqDiff, Nat.reduceBEq, Nat.reduceSub, reduceCtorEq, reduceIte, Int.reduceToNat, Int.reduceLE, Int.reduceEq, Int.reduceNe, Int.reduceBEq, Int.reduceBNe, Int.reduceLT, Int.reduceGT, Int.reduceGE, Int.reduceNeg, ty_3, ty_4, ty_22, ty_23, ty_25, hl, hset, hw1, hw2, ints_len]
  refine GOps.done (hK _ ?_); clear hK K
  refine End.keep [0, 1] ?_
  simp only [pk0, Nat.reduceBEq, reduceIte]
  refine Run.seq ?_
  refine Run.seq ?_
  refine Run.region rfl fun K hK => GOps.run ?_
  simp only [lookupV, updateV, lookupK, updateK, slicePV, pe0, pe1, pe2, pe3, pe4, pe5, pe6, pe7, pr0, pr1, Nat.reduceAdd, Nat.reduceMul, Nat.reduceLeDiff, Nat.reduceLT, Nat.reduceEqDiff, Nat.reduceBEq, Nat.reduceSub, reduceCtorEq, reduceIte, Int.reduceToNat, Int.reduceLE, Int.reduceEq, Int.reduceNe, Int.reduceBEq, Int.reduceBNe, Int.reduceLT, Int.reduceGT, Int.reduceGE, Int.reduceNeg, ty_3, ty_4, ty_22, ty_23, ty_25, hl, hset, hw1, hw2, ints_len]
  refine GOps.done (hK _ ?_); clear hK K
  refine End.keep [0, 1, 19] ?_
  simp only [pk0, Nat.reduceBEq, reduceIte]
  refine Run.cond _ rfl (fun hb => ?_) (fun hb => ?_)
  · have hb := hb
    refine Run.seq ?_
    -- region 3: call F35(t24, t25) : 3,3
    refine Run.region rfl fun K hK => GOps.run ?_
    simp only [lookupV, updateV, lookupK, updateK, slicePV, pe0, pe1, pe2, pe3, pe4, pe5, pe6, pe7, pr0, pr1, Nat.reduceAdd, Nat.reduceMul, Nat.reduceLeDiff, Nat.reduceLT, Nat.reduceEqDiff, Nat.reduceBEq, Nat.reduceSub, reduceCtorEq, reduceIte, Int.reduceToNat, Int.reduceLE, Int.reduceEq, Int.reduceNe, Int.reduceBEq, Int.reduceBNe, Int.reduceLT, Int.reduceGT, Int.reduceGE, Int.reduceNeg, ty_3, ty_4, ty_22, ty_23, ty_25, hl, hset, hw1, hw2, ints_len]
    refine GOps.call rfl rfl rfl rfl (by kernel_rfl) ?_  -- call F35(t24, t25) : 3,3
    simp only [lookupV, updateV, lookupK, updateK, slicePV, pe0, pe1, pe2, pe3, pe4, pe5, pe6, pe7, pr0, pr1, Nat.reduceAdd, Nat.reduceMul, Nat.reduceLeDiff, Nat.reduceLT, Nat.reduceEqDiff, Nat.reduceBEq, Nat.reduceSub, reduceCtorEq, reduceIte, Int.reduceToNat, Int.reduceLE, Int.reduceEq, Int.reduceNe, Int.reduceBEq, Int.reduceBNe, Int.reduceLT, Int.reduceGT, Int.reduceGE, Int.reduceNeg, hw2]
    refine (Below_ok ((a + 1) * 7919) n (by have := hs.pos; have := hs.few; constructor <;> omega) hn _).mono fun v u hv => ?_
    obtain ⟨rfl, rfl⟩ := hv
    refine ⟨_, _, rfl, GOps.run ?_⟩
    simp only [lookupV, updateV, lookupK, updateK, slicePV, pe0, pe1, pe2, pe3, pe4, pe5, pe6, pe7, pr0, pr1, Nat.reduceAdd, Nat.reduceMul, Nat.reduceLeDiff, Nat.reduceLT, Nat.reduceEqDiff, Nat.reduceBEq, Nat.reduceSub, reduceCtorEq, reduceIte, Int.reduceToNat, Int.reduceLE, Int.reduceEq, Int.reduceNe, Int.reduceBEq, Int.reduceBNe, Int.reduceLT, Int.reduceGT, Int.reduceGE, Int.reduceNeg, ty_3, ty_4, ty_22, ty_23, ty_25, hl, hset, hw1, hw2, ints_len]
    refine GOps.done (hK _ ?_); clear hK K
    refine End.keep [4] ?_
    simp only [pk0, Nat.reduceBEq, reduceIte]
    refine Run.ret (hQ _ _ ⟨.inr rfl, _, rfl, _, rfl, ?_⟩)
    have h0 : l = [] := by simpa using hb
    exact ⟨by simp [nextV, h0], rfl⟩
  · have hne : l ≠ [] := fun e => by subst e; simp at hb
    have hpos : 0 < l.length := List.length_pos_iff.2 hne
    have hlz : ¬ ((l.length : Int) = 0) := by omega
    have hp := hs.pos
    have hf := hs.few
    have hll := hs.len
    have hw3 : IntKind.i64.wrap (a + 1 - 1) = a := by rw [show a + 1 - 1 = a by omega]; exact wrap64 (by omega)
    have hm : a.tmod l.length = a % l.length := Int.tmod_eq_emod_of_nonneg hp
    have hd : a.tdiv l.length = a / l.length := Int.tdiv_eq_ediv_of_nonneg hp
    have hm0 := Int.emod_nonneg a hlz
    have hm1 := Int.emod_lt_of_pos a (show (0 : Int) < l.length by omega)
    have hd0 : 0 ≤ a / l.length := Int.ediv_nonneg hp (by omega)
    have hia : a % l.length ≤ a := by
      have h2 := Int.mul_ediv_add_emod a l.length
      have h3 : 0 ≤ (l.length : Int) * (a / l.length) := Int.mul_nonneg (by omega) hd0
      omega
    have hd1 : a / l.length ≤ a := Int.ediv_le_self _ hp
    have hw4 : IntKind.i64.wrap (a / l.length) = a / l.length := wrap64 (by omega)
    have hlt : (a % l.length).toNat < l.length := by omega
    have hx := ints_get l (a % l.length).toNat hlt
    generalize hi : a % (l.length : Int) = i at *
    generalize hr : a / (l.length : Int) = r at *
    have hmul : r * (7919 + i) ≤ 10000000000000000 := by
      have h1 : r * i ≤ a := by
        have h2 := Int.mul_ediv_add_emod a l.length
        rw [hi, hr] at h2
        have h3 : r * i ≤ r * l.length := Int.mul_le_mul_of_nonneg_left (by omega) hd0
        rw [Int.mul_comm] at h2
        omega
      rw [Int.mul_add]
      omega
    have hmul0 : 0 ≤ r * (7919 + i) := Int.mul_nonneg hd0 (by omega)
    have hb1 : 0 ≤ below (l.getD i.toNat 0) 1073741824 ∧ below (l.getD i.toNat 0) 1073741824 < 1073741824 := by
      simp only [below]
      rw [if_neg (by decide)]
      exact ⟨Int.emod_nonneg _ (by decide), Int.emod_lt_of_pos _ (by decide)⟩
    have hw7 : IntKind.i64.wrap (below (l.getD i.toNat 0) 1073741824 + r * (7919 + i)) = below (l.getD i.toNat 0) 1073741824 + r * (7919 + i) := wrap64 (by omega)
    have hw5 : IntKind.i64.wrap (7919 + i) = 7919 + i := wrap64 (by omega)
    have hw6 : IntKind.i64.wrap (r * (7919 + i)) = r * (7919 + i) := wrap64 (by omega)
    refine Run.skip ?_
    refine End.keep [0, 1] ?_
    simp only [pk0, Nat.reduceBEq, reduceIte]
    refine Run.seq ?_
    refine Run.draw [[], [0], [0, 1], [0, 1, 2], [0, 1, 2, 3], [], [5], [5, 6], [5, 6, 7], [5, 6, 7, 8], [0, 1, 2, 3, 4, 5, 6, 7, 8, 9], [0, 1, 2, 3, 4, 5, 6, 7, 8, 9, 10]] (by kernel_rfl) rfl (by kernel_rfl) (by kernel_rfl) fun K hK => DOps.run ?_
    simp only [lookupV, updateV, lookupK, updateK, slicePV, pe0, pe1, pe2, pe3, pe4, pe5, pe6, pe7, pr0, pr1, Nat.reduceAdd, Nat.reduceMul, Nat.reduceLeDiff, Nat.reduceLT, Nat.reduceEqDiff, Nat.reduceBEq, Nat.reduceSub, reduceCtorEq, reduceIte, Int.reduceToNat, Int.reduceLE, Int.reduceEq, Int.reduceNe, Int.reduceBEq, Int.reduceBNe, Int.reduceLT, Int.reduceGT, Int.reduceGE, Int.reduceNeg, ty_3, ty_4, ty_22, ty_23, ty_25, hl, hset, hw1, hw3, ints_len, hlz, hm, hd, hw4, hw5, hw6, hx, hm0, hw7]
    refine DOps.nil (metAll_quiet rfl) (hK _ ?_); clear hK K
    refine End.keep [0, 1, 5] ?_
    simp only [pk0, Nat.reduceBEq, reduceIte]
    refine Run.seq ?_
    refine Run.draw [[], [0], [0, 1], [0, 1, 2], [0, 1, 2, 3], [], [5], [5, 6], [5, 6, 7], [5, 6, 7, 8], [0, 1, 2, 3, 4, 5, 6, 7, 8, 9], [0, 1, 2, 3, 4, 5, 6, 7, 8, 9, 10]] (by kernel_rfl) rfl (by kernel_rfl) (by kernel_rfl) fun K hK => DOps.run ?_
    simp only [lookupV, updateV, lookupK, updateK, slicePV, pe0, pe1, pe2, pe3, pe4, pe5, pe6, pe7, pr0, pr1, Nat.reduceAdd, Nat.reduceMul, Nat.reduceLeDiff, Nat.reduceLT, Nat.reduceEqDiff, Nat.reduceBEq, Nat.reduceSub, reduceCtorEq, reduceIte, Int.reduceToNat, Int.reduceLE, Int.reduceEq, Int.reduceNe, Int.reduceBEq, Int.reduceBNe, Int.reduceLT, Int.reduceGT, Int.reduceGE, Int.reduceNeg, ty_3, ty_4, ty_22, ty_23, ty_25, hl, hset, hw1, hw3, ints_len, hlz, hm, hd, hw4, hw5, hw6, hx, hm0, hw7]
    refine DOps.nil (metAll_quiet rfl) (hK _ ?_); clear hK K
    refine End.keep [0, 1, 5, 6] ?_
    simp only [pk0, Nat.reduceBEq, reduceIte]
    refine Run.seq ?_
    -- region 6: call F35(t55, 1073741824) : 3,3; call F35(t61, t62) : 3,3
    refine Run.region rfl fun K hK => GOps.run ?_
    simp only [lookupV, updateV, lookupK, updateK, slicePV, pe0, pe1, pe2, pe3, pe4, pe5, pe6, pe7, pr0, pr1, Nat.reduceAdd, Nat.reduceMul, Nat.reduceLeDiff, Nat.reduceLT, Nat.reduceEqDiff, Nat.reduceBEq, Nat.reduceSub, reduceCtorEq, reduceIte, Int.reduceToNat, Int.reduceLE, Int.reduceEq, Int.reduceNe, Int.reduceBEq, Int.reduceBNe, Int.reduceLT, Int.reduceGT, Int.reduceGE, Int.reduceNeg, ty_3, ty_4, ty_22, ty_23, ty_25, hl, hset, hw1, hw3, ints_len, hlz, hm, hd, hw4, hw5, hw6, hx, hm0, hw7]
    refine GOps.call rfl rfl rfl rfl (by kernel_rfl) ?_  -- call F35(t55, 1073741824) : 3,3
    refine (Below_ok (l.getD i.toNat 0) 1073741824 (by
      have hm : l.getD i.toNat 0 ∈ l := by rw [List.getD_eq_getElem?_getD, List.getElem?_eq_getElem hlt]; simp
      exact hs.vals _ hm) (by omega) _).mono fun v u hv => ?_
    obtain ⟨rfl, rfl⟩ := hv
    refine ⟨_, _, rfl, GOps.run ?_⟩
    simp only [lookupV, updateV, lookupK, updateK, slicePV, pe0, pe1, pe2, pe3, pe4, pe5, pe6, pe7, pr0, pr1, Nat.reduceAdd, Nat.reduceMul, Nat.reduceLeDiff, Nat.reduceLT, Nat.reduceEqDiff, Nat.reduceBEq, Nat.reduceSub, reduceCtorEq, reduceIte, Int.reduceToNat, Int.reduceLE, Int.reduceEq, Int.reduceNe, Int.reduceBEq, Int.reduceBNe, Int.reduceLT, Int.reduceGT, Int.reduceGE, Int.reduceNeg, ty_3, ty_4, ty_22, ty_23, ty_25, hl, hset, hw1, hw3, ints_len, hlz, hm, hd, hw4, hw5, hw6, hx, hm0, hw7]
    refine GOps.call rfl rfl rfl rfl (by kernel_rfl) ?_  -- call F35(t61, t62) : 3,3
    simp only [lookupV, updateV, lookupK, updateK, slicePV, pe0, pe1, pe2, pe3, pe4, pe5, pe6, pe7, pr0, pr1, Nat.reduceAdd, Nat.reduceMul, Nat.reduceLeDiff, Nat.reduceLT, Nat.reduceEqDiff, Nat.reduceBEq, Nat.reduceSub, reduceCtorEq, reduceIte, Int.reduceToNat, Int.reduceLE, Int.reduceEq, Int.reduceNe, Int.reduceBEq, Int.reduceBNe, Int.reduceLT, Int.reduceGT, Int.reduceGE, Int.reduceNeg, hw7]
    refine (Below_ok (below (l.getD i.toNat 0) 1073741824 + r * (7919 + i)) n (by omega) hn _).mono fun v u hv => ?_
    obtain ⟨rfl, rfl⟩ := hv
    refine ⟨_, _, rfl, GOps.run ?_⟩
    simp only [lookupV, updateV, lookupK, updateK, slicePV, pe0, pe1, pe2, pe3, pe4, pe5, pe6, pe7, pr0, pr1, Nat.reduceAdd, Nat.reduceMul, Nat.reduceLeDiff, Nat.reduceLT, Nat.reduceEqDiff, Nat.reduceBEq, Nat.reduceSub, reduceCtorEq, reduceIte, Int.reduceToNat, Int.reduceLE, Int.reduceEq, Int.reduceNe, Int.reduceBEq, Int.reduceBNe, Int.reduceLT, Int.reduceGT, Int.reduceGE, Int.reduceNeg, ty_3, ty_4, ty_22, ty_23, ty_25, hl, hset, hw1, hw3, ints_len, hlz, hm, hd, hw4, hw5, hw6, hx, hm0, hw7]
    refine GOps.done (hK _ ?_); clear hK K
    refine End.keep [4] ?_
    simp only [pk0, Nat.reduceBEq, reduceIte]
    refine Run.ret (hQ _ _ ⟨.inr rfl, _, rfl, _, rfl, ?_⟩)
    refine ⟨?_, rfl⟩
    simp only [nextV, if_neg hne, hi, hr]
end Go.Proofs.YtkmnmokjlpenhaaPi
