/- The walks of the functions that draw words, masks, picks and nets. -/
import Derived.Test.YtkmnmokjlpenhaaWA
set_option linter.unusedVariables false
set_option linter.unusedSimpArgs false
set_option maxRecDepth 100000
namespace Go.Proofs.YtkmnmokjlpenhaaPi
theorem below_range (x n : Int) (h : 1 ≤ n) : 0 ≤ below x n ∧ below x n < n := by
  unfold below
  rw [if_neg (by omega)]
  exact ⟨Int.emod_nonneg _ (by omega), Int.emod_lt_of_pos _ (by omega)⟩
theorem nextV_range (l : List Int) (a n : Int) (h : 1 ≤ n) : 0 ≤ nextV l a n ∧ nextV l a n < n := by
  unfold nextV
  split <;> exact below_range _ _ h
theorem StmOk.next {l : List Int} {a : Int} (h : StmOk l a) (hf : a + 1 < 1099511627776) : StmOk l (a + 1) := ⟨h.vals, h.len, by have := h.pos; omega, hf⟩
theorem StmOk.plus {l : List Int} {a : Int} (h : StmOk l a) (k : Int) (hk : 0 ≤ k) (hf : a + k < 1099511627776) : StmOk l (a + k) := ⟨h.vals, h.len, by have := h.pos; omega, hf⟩
abbrev PV.u (x : Int) : PV := .im (.int .u64 x)
theorem wrapU {x : Int} (h : 0 ≤ x ∧ x ≤ 18446744073709551615) : IntKind.u64.wrap x = x := by
  unfold IntKind.wrap
  simp only [IntKind.bits, IntKind.signed]
  simp
  omega
def wordV (l : List Int) (a : Int) : Int :=
  bits .xor .u64 (bits .xor .u64 (IntKind.u64.wrap (nextV l a 1073741824)) (IntKind.u64.wrap (IntKind.u64.wrap (nextV l (a + 1) 1073741824) * 2 ^ 25))) (IntKind.u64.wrap (IntKind.u64.wrap (nextV l (a + 1 + 1) 1073741824) * 2 ^ 50))
theorem word_ok (l : List Int) (a : Int) (hs : StmOk l a) (hf : a + 1000 < 1099511627776) (up : Frs) (d j : Nat) (hl : fget up d j = some (stm l a)) : ACalls Try.prog 76 [.ptr d j 0] up fun v u => v = .u (wordV l a) ∧ u = fset up d j (stm l (a + 1 + 1 + 1)) := by
  have hset : ∀ o, fget (fset up d j o) d j = some o := fun o => fget_fset_same _ _ _ _ _ hl
  have hp := hs.pos
  refine ACalls.code Try.func76 rfl 16 rfl (by simp) [.tmp 2] rfl fun Q hQ => ?_
  simp only [ups, PV.up, argEnv]
  have ft := And.intro ty_3 (And.intro ty_23 (And.intro ty_37 (And.intro ty_188 trivial)))
  refine Run.seq ?_
  have fx := And.intro hset (And.intro hl ft)
  refine Run.go ?_
  refine End.kp [0] ?_
  refine Run.seq ?_
  refine Run.region rfl fun K hK => GOps.sim ?_
  refine GOps.call rfl rfl rfl rfl (by kernel_rfl) (ACalls.sim ?_)
  refine (Next_ok l a 1073741824 hs (by omega) _ (d + 1) j hl).mono fun v u hv => ?_
  obtain ⟨rfl, rfl⟩ := hv
  refine ⟨_, _, rfl, GOps.sim ?_⟩
  refine GOps.call rfl rfl rfl rfl (by kernel_rfl) (ACalls.sim ?_)
  refine (Next_ok l (a + 1) 1073741824 (hs.plus 1 (by omega) (by omega)) (by omega) _ (d + 1) j (hset _)).mono fun v u hv => ?_
  obtain ⟨rfl, rfl⟩ := hv
  refine ⟨_, _, rfl, GOps.sim ?_⟩
  refine GOps.call rfl rfl rfl rfl (by kernel_rfl) (ACalls.sim ?_)
  refine (Next_ok l (a + 1 + 1) 1073741824 ((hs.plus 1 (by omega) (by omega)).plus 1 (by omega) (by omega)) (by omega) _ (d + 1) j (hset _)).mono fun v u hv => ?_
  obtain ⟨rfl, rfl⟩ := hv
  refine ⟨_, _, rfl, GOps.sim ?_⟩
  refine GOps.done (hK _ ?_); clear hK K
  refine End.kp [2] ?_
  refine Run.ret (hQ _ _ ⟨.inr rfl, _, rfl, _, rfl, ?_⟩)
  exact ⟨rfl, rfl⟩
theorem mask_ok (w : Int) (h0 : 0 ≤ w) (h1 : w ≤ 64) (up : Frs) : ACalls Try.prog 77 [.i w] up fun v u => v = .u (2 ^ w.toNat - 1) ∧ u = up := by
  refine ACalls.code Try.func77 rfl 8 rfl (by simp) [.tmp 2] rfl fun Q hQ => ?_
  simp only [ups, PV.up, argEnv]
  have ft := And.intro ty_3 (And.intro ty_4 (And.intro ty_37 trivial))
  refine Run.seq ?_
  have fx := ft
  refine Run.go ?_
  refine End.kp [0] ?_
  refine Run.seq ?_
  refine Run.seq ?_
  refine Run.go ?_
  refine End.kp [0, 4] ?_
  refine Run.cond _ rfl (fun hb => ?_) (fun hb => ?_)
  · have hb := of_decide_eq_true hb
    refine Run.seq ?_
    have fx := ft
    refine Run.go ?_
    refine End.kp [2] ?_
    refine Run.ret (hQ _ _ ⟨.inr rfl, _, rfl, _, rfl, ?_⟩)
    have : w = 64 := by omega
    subst this
    exact ⟨rfl, rfl⟩
    
  · have hb := of_decide_eq_false hb
    have hw : ¬ w < 0 := by omega
    have hmin : min w.toNat IntKind.u64.bits = w.toNat := by simp only [IntKind.bits]; omega
    have hpow : (2 : Int) ^ w.toNat ≤ 9223372036854775808 := by
      have h2 : (2 : Nat) ^ w.toNat ≤ 9223372036854775808 := Nat.le_trans (Nat.pow_le_pow_right (by decide) (show w.toNat ≤ 63 by omega)) (by decide)
      have h3 : ((2 : Nat) ^ w.toNat : Int) = (((2 : Nat) ^ w.toNat : Nat) : Int) := (Int.natCast_pow 2 w.toNat).symm
      have h4 : (2 : Int) ^ w.toNat = (((2 : Nat) ^ w.toNat : Nat) : Int) := h3
      rw [h4]
      exact Int.ofNat_le.2 h2
    have hpow0 : (1 : Int) ≤ 2 ^ w.toNat := by
      have h4 : (2 : Int) ^ w.toNat = (((2 : Nat) ^ w.toNat : Nat) : Int) := (Int.natCast_pow 2 w.toNat).symm
      rw [h4]
      exact Int.ofNat_le.2 Nat.one_le_two_pow
    have hw1 : IntKind.u64.wrap (1 * 2 ^ w.toNat) = 2 ^ w.toNat := by rw [Int.one_mul]; exact wrapU (by omega)
    have hw2 : IntKind.u64.wrap (2 ^ w.toNat - 1) = 2 ^ w.toNat - 1 := wrapU (by omega)
    
    refine Run.skip ?_
    refine End.kp [0] ?_
    refine Run.seq ?_
    have fx := And.intro hw2 (And.intro hw1 (And.intro hmin (And.intro hw ft)))
    refine Run.go ?_
    refine End.kp [2] ?_
    refine Run.ret (hQ _ _ ⟨.inr rfl, _, rfl, _, rfl, ?_⟩)
    exact ⟨rfl, rfl⟩
theorem Pick_ok (q : List Int) (hq : 1 ≤ q.length) (hq2 : q.length ≤ 1000) (l : List Int) (a : Int) (hs : StmOk l a) (hf : a + 1000 < 1099511627776) (up : Frs) (d j : Nat) (hl : fget up d j = some (stm l a)) : ACalls Try.prog 75 [.ptr d j 0, .im (.sl (ints q))] up fun v u => v = .i (q.getD (nextV l a q.length).toNat 0) ∧ u = fset up d j (stm l (a + 1)) := by
  have hset : ∀ o, fget (fset up d j o) d j = some o := fun o => fget_fset_same _ _ _ _ _ hl
  have hp := hs.pos
  
  obtain ⟨hr0, hr1⟩ := nextV_range l a q.length (by omega)
  have hx := ints_get q (nextV l a q.length).toNat (by omega)
  refine ACalls.code Try.func75 rfl 12 rfl (by simp) [.tmp 4] rfl fun Q hQ => ?_
  simp only [ups, PV.up, argEnv]
  have ft := And.intro ty_3 (And.intro ty_22 (And.intro ty_23 trivial))
  refine Run.seq ?_
  have fx := And.intro hr0 (And.intro hx (And.intro ints_len (And.intro hset (And.intro hl ft))))
  refine Run.go ?_
  refine End.kp [0, 1] ?_
  refine Run.seq ?_
  refine Run.region rfl fun K hK => GOps.sim ?_
  refine GOps.call rfl rfl rfl rfl (by kernel_rfl) (ACalls.sim ?_)
  refine (Next_ok l a q.length hs (by omega) _ (d + 1) j hl).mono fun v u hv => ?_
  obtain ⟨rfl, rfl⟩ := hv
  refine ⟨_, _, rfl, GOps.sim ?_⟩
  refine GOps.done (hK _ ?_); clear hK K
  refine End.kp [4] ?_
  refine Run.ret (hQ _ _ ⟨.inr rfl, _, rfl, _, rfl, ?_⟩)
  exact ⟨rfl, rfl⟩
def netV (l : List Int) (a most : Int) : Int := if nextV l a 2 = 0 then most - 1 - nextV l (a + 1) (min most 5) else nextV l (a + 1) most
theorem netV_range (l : List Int) (a most : Int) (h : 1 ≤ most) : 0 ≤ netV l a most ∧ netV l a most < most := by
  unfold netV
  split
  · have := nextV_range l (a + 1) (min most 5) (by omega)
    omega
  · exact nextV_range _ _ _ h
theorem net_ok (most : Int) (hm : 1 ≤ most) (hm2 : most ≤ 1000000) (k : Nat) (l : List Int) (a : Int) (hs : StmOk l a) (hf : a + 1000 < 1099511627776) (up : Frs) (d j : Nat) (hl : fget up (d + 1) j = some (stm l a)) (hk : fget up 0 k = some (.box [.ptr (d + 1) j 0])) : ACalls Try.prog 74 [.i most, .ptr 0 k 0] up fun v u => v = .i (netV l a most) ∧ u = fset up (d + 1) j (stm l (a + 1 + 1)) := by
  have hset : ∀ o, fget (fset up (d + 1) j o) (d + 1) j = some o := fun o => fget_fset_same _ _ _ _ _ hl
  have hk2 : ∀ o, fget (fset up (d + 1) j o) 0 k = some (.box [.ptr (d + 1) j 0]) := fun o => by rw [fget_fset, if_neg (by omega)]; exact hk
  have hp := hs.pos
  have hs1 := hs.plus 1 (by omega) (by omega)
  refine ACalls.code Try.func74 rfl 17 rfl (by simp) [.tmp 3] rfl fun Q hQ => ?_
  simp only [ups, PV.up, argEnv]
  have ft := And.intro ty_3 (And.intro ty_4 (And.intro ty_23 trivial))
  refine Run.seq ?_
  have fx := And.intro hk2 (And.intro hk (And.intro hset (And.intro hl ft)))
  refine Run.go ?_
  refine End.kp [0, 1] ?_
  refine Run.seq ?_
  refine Run.seq ?_
  refine Run.region rfl fun K hK => GOps.sim ?_
  refine GOps.call rfl rfl rfl rfl (by kernel_rfl) (ACalls.sim ?_)
  refine (Next_ok l a 2 hs (by omega) _ (d + 2) j hl).mono fun v u hv => ?_
  obtain ⟨rfl, rfl⟩ := hv
  refine ⟨_, _, rfl, GOps.sim ?_⟩
  refine GOps.done (hK _ ?_); clear hK K
  refine End.kp [0, 1, 6] ?_
  refine Run.cond _ rfl (fun hb => ?_) (fun hb => ?_)
  · have hb := eq_of_beq hb
    have hmin : (if (5 : Int) < most then 5 else most) = min most 5 := by split <;> omega
    obtain ⟨hr0, hr1⟩ := nextV_range l (a + 1) (min most 5) (by omega)
    have hw1 : IntKind.i64.wrap (most - 1) = most - 1 := wrap64 (by omega)
    have hw2 : IntKind.i64.wrap (most - 1 - nextV l (a + 1) (min most 5)) = most - 1 - nextV l (a + 1) (min most 5) := wrap64 (by omega)
    
    refine Run.seq ?_
    have fx := And.intro hw2 (And.intro hw1 (And.intro hmin (And.intro hk2 (And.intro hk (And.intro hset (And.intro hl ft))))))
    refine Run.region rfl fun K hK => GOps.sim ?_
    refine GOps.call rfl rfl rfl rfl (by kernel_rfl) (ACalls.sim ?_)
    refine (Next_ok l (a + 1) (min most 5) hs1 (by omega) _ (d + 2) j (hset _)).mono fun v u hv => ?_
    obtain ⟨rfl, rfl⟩ := hv
    refine ⟨_, _, rfl, GOps.sim ?_⟩
    refine GOps.done (hK _ ?_); clear hK K
    refine End.kp [3] ?_
    refine Run.ret (hQ _ _ ⟨.inr rfl, _, rfl, _, rfl, ?_⟩)
    exact ⟨by simp [netV, hb], rfl⟩
  · have hb : ¬ nextV l a 2 = 0 := fun e => by simp [e] at hb
    
    refine Run.skip ?_
    refine End.kp [0, 1] ?_
    refine Run.seq ?_
    have fx := And.intro hk2 (And.intro hk (And.intro hset (And.intro hl ft)))
    refine Run.region rfl fun K hK => GOps.sim ?_
    refine GOps.call rfl rfl rfl rfl (by kernel_rfl) (ACalls.sim ?_)
    refine (Next_ok l (a + 1) most hs1 (by omega) _ (d + 2) j (hset _)).mono fun v u hv => ?_
    obtain ⟨rfl, rfl⟩ := hv
    refine ⟨_, _, rfl, GOps.sim ?_⟩
    refine GOps.done (hK _ ?_); clear hK K
    refine End.kp [3] ?_
    refine Run.ret (hQ _ _ ⟨.inr rfl, _, rfl, _, rfl, ?_⟩)
    exact ⟨by simp [netV, hb], rfl⟩
end Go.Proofs.YtkmnmokjlpenhaaPi
