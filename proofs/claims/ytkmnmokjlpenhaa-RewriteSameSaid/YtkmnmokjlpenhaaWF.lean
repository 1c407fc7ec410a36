/- The walks of the tables of netlists: Mask, look, Look, nets. -/
import Derived.Test.YtkmnmokjlpenhaaWE
set_option linter.unusedVariables false
set_option linter.unusedSimpArgs false
set_option maxRecDepth 100000
namespace Go.Proofs.YtkmnmokjlpenhaaPi

theorem small_pow : ∀ k : Nat, k ≤ 6 → (2 : Int) ^ k ≤ 64 ∧ (1 : Int) ≤ 2 ^ k := by
  intro k hk
  have : k = 0 ∨ k = 1 ∨ k = 2 ∨ k = 3 ∨ k = 4 ∨ k = 5 ∨ k = 6 := by omega
  rcases this with rfl | rfl | rfl | rfl | rfl | rfl | rfl <;> decide
theorem small_pow2 : ∀ k : Nat, k < 6 → IntKind.u64.wrap (1 * 2 ^ ((2 : Int) ^ k).toNat) = 2 ^ ((2 : Int) ^ k).toNat ∧ IntKind.u64.wrap (2 ^ ((2 : Int) ^ k).toNat - 1) = 2 ^ ((2 : Int) ^ k).toNat - 1 := by
  intro k hk
  have : k = 0 ∨ k = 1 ∨ k = 2 ∨ k = 3 ∨ k = 4 ∨ k = 5 := by omega
  rcases this with rfl | rfl | rfl | rfl | rfl | rfl <;> decide
def lookIns (k : Nat) : List Int → Nat → Int → Int
  | [], _, all => all
  | v :: vs, i, all => lookIns k vs (i + 1) (if bits .and .i64 ((k : Int).fdiv (2 ^ min i IntKind.i64.bits)) 1 == 1 then bits .and .u64 all v else bits .andNot .u64 all v)
def lookOut (table : Int) (ins : List Int) : Nat → Nat → Int → Int
  | 0, _, out => out
  | n + 1, k, out => lookOut table ins n (k + 1) (if bits .and .u64 (table.fdiv (2 ^ min k IntKind.u64.bits)) 1 == 0 then out else bits .or .u64 out (lookIns k ins 0 18446744073709551615))
def lookV (table : Int) (ins : List Int) : Int := lookOut table ins (2 ^ ins.length) 0 0
theorem Mask_ok (k : Nat) (hk : k ≤ 6) (up : Frs) : ACalls Try.prog 80 [.i k] up fun v u => v = .u (2 ^ ((2 : Int) ^ k).toNat - 1) ∧ u = up := by
  have d1 : decide ((k : Int) < 0) = false := decide_eq_false (by omega)
  have d2 : decide ((k : Int) > 6) = false := decide_eq_false (by omega)
  have d3 : ¬ ((k : Int) < 0) := by omega
  refine ACalls.code Try.func80 rfl 17 rfl (by simp) [.tmp 2] rfl fun Q hQ => ?_
  simp only [ups, PV.up, argEnv]
  have ft := And.intro ty_3 (And.intro ty_4 (And.intro ty_37 (And.intro ty_188 trivial)))
  refine Run.seq ?_
  have fx := And.intro d2 (And.intro d1 ft)
  refine Run.go ?_
  refine End.kp [0] ?_
  refine Run.seq ?_
  refine Run.block ?_
  refine Run.seq ?_
  refine Run.go ?_
  refine End.kp [0, 3] ?_
  refine Run.cond _ rfl (fun hb => ?_) (fun hb => ?_)
  · have hb := hb
    simp at hb
  · have hb := hb
    refine Run.seq ?_
    have fx := And.intro d2 (And.intro d1 ft)
    refine Run.go ?_
    refine End.kp [0, 10] ?_
    refine Run.cond _ rfl (fun hb => ?_) (fun hb => ?_)
    · have hb : (k : Int) = 6 := eq_of_beq hb
      refine Run.seq ?_
      have fx := And.intro d2 (And.intro d1 ft)
      refine Run.go ?_
      refine End.kp [2] ?_
      refine Run.ret (hQ _ _ ⟨.inr rfl, _, rfl, _, rfl, ?_⟩)
      have : k = 6 := by omega
      subst this
      exact ⟨rfl, rfl⟩
    · have hb : ¬ (k : Int) = 6 := fun e => by simp [e] at hb
      have hk5 : k < 6 := by omega
      obtain ⟨p1, p2⟩ := small_pow k hk
      obtain ⟨w2, w3⟩ := small_pow2 k hk5
      have hm : min k IntKind.u64.bits = k := by simp only [IntKind.bits]; omega
      have hle : ((2 : Int) ^ k).toNat ≤ 64 := by
        generalize (2 : Int) ^ k = z at p1
        omega
      have hm2 : min ((2 : Int) ^ k).toNat IntKind.u64.bits = ((2 : Int) ^ k).toNat := Nat.min_eq_left (by simp only [IntKind.bits]; exact hle)
      have w1 : IntKind.u64.wrap (1 * 2 ^ k) = 2 ^ k := by rw [Int.one_mul]; exact wrapU (by omega)
      have hp0 : ¬ ((2 : Int) ^ k < 0) := by omega
      refine Run.skip ?_
      refine End.blk ?_
      refine End.kp [0] ?_
      refine Run.seq ?_
      have fx := And.intro hp0 (And.intro w3 (And.intro w2 (And.intro w1 (And.intro hm2 (And.intro hm (And.intro d3 (And.intro d2 (And.intro d1 ft))))))))
      refine Run.go ?_
      refine End.kp [2] ?_
      refine Run.ret (hQ _ _ ⟨.inr rfl, _, rfl, _, rfl, ?_⟩)
      exact ⟨rfl, rfl⟩
theorem look_ok (table : Int) (ins : List Int) (hn : ins.length ≤ 6) (up : Frs) : ACalls Try.prog 135 [.u table, .im (.sl (us ins))] up fun v u => v = .u (lookV table ins) ∧ u = up := by
  obtain ⟨p1, p2⟩ := small_pow ins.length hn
  have hcast : ((2 ^ ins.length : Nat) : Int) = (2 : Int) ^ ins.length := Int.natCast_pow 2 ins.length
  have hm : min ins.length IntKind.i64.bits = ins.length := by simp only [IntKind.bits]; omega
  have wsh : IntKind.i64.wrap (1 * 2 ^ ins.length) = ((2 ^ ins.length : Nat) : Int) := by rw [Int.one_mul, hcast]; exact wrap64 (by omega)
  have hn0 : ¬ ((ins.length : Int) < 0) := by omega
  have hN64 : 2 ^ ins.length ≤ 64 := by omega
  refine ACalls.code Try.func135 rfl 45 rfl (by simp) [.tmp 4] rfl fun Q hQ => ?_
  simp only [ups, PV.up, argEnv]
  have ft := And.intro ty_3 (And.intro ty_4 (And.intro ty_37 (And.intro ty_56 trivial)))
  refine Run.seq ?_
  have fx := And.intro (@Int.toNat_natCast) (And.intro hn0 (And.intro wsh (And.intro hm (And.intro us_len ft))))
  refine Run.go ?_
  refine End.kp [0, 1] ?_
  refine Run.seq ?_
  refine Run.go ?_
  refine End.kp [0, 1, 5] ?_
  refine Run.seq ?_
  refine Run.seq ?_
  refine Run.go ?_
  refine End.kp [0, 1, 5, 12, 13] ?_
  refine Run.block ?_
  refine Run.ghost (Ghost.form [(0, .u table), (1, .im (.sl (us ins))), (5, .u 0), (12, .i ((2 ^ ins.length : Nat) : Int)), (13, .i (0 : Nat))] 0 ⟨rfl, rfl, rfl, rfl, rfl, trivial⟩ rfl rfl) ?_
  refine Run.loop (fun m s => ∃ (k : Nat) (out : Int), m = 2 ^ ins.length - k ∧ k ≤ 2 ^ ins.length ∧ lookOut table ins (2 ^ ins.length - k) k out = lookV table ins ∧ s = ⟨[(0, .u table), (1, .im (.sl (us ins))), (5, .u out), (12, .i ((2 ^ ins.length : Nat) : Int)), (13, .i (k : Nat))], [], up⟩) (2 ^ ins.length) ⟨0, 0, by omega, by omega, rfl, rfl⟩ fun m s hI => ?_
  obtain ⟨k, out, rfl, hk, hL, rfl⟩ := hI
  have hk0 : ¬ ((k : Int) < 0) := by omega
  refine Run.seq ?_
  have fx := And.intro hk0 (And.intro (@Int.toNat_natCast) (And.intro hn0 (And.intro wsh (And.intro hm (And.intro us_len ft)))))
  refine Run.go ?_
  refine End.kp [0, 1, 5, 12, 13, 14] ?_
  refine Run.seq ?_
  refine Run.cond _ rfl (fun hb => ?_) (fun hb => ?_)
  · have hb := of_decide_eq_true hb
    have hkN : k < 2 ^ ins.length := by omega
    have wk := wsucc hkN (by omega)
    have hLs : lookOut table ins (2 ^ ins.length - k) k out = lookOut table ins (2 ^ ins.length - (k + 1)) (k + 1) (if bits .and .u64 (table.fdiv (2 ^ min k IntKind.u64.bits)) 1 == 0 then out else bits .or .u64 out (lookIns k ins 0 18446744073709551615)) := by
      rw [show 2 ^ ins.length - k = 2 ^ ins.length - (k + 1) + 1 by omega]
      rfl
    rw [hLs] at hL
    refine Run.skip ?_
    refine End.kp [0, 1, 5, 12, 13] ?_
    refine Run.seq ?_
    refine Run.block ?_
    refine Run.seq ?_
    have fx := And.intro wk (And.intro hk0 (And.intro (@Int.toNat_natCast) (And.intro hn0 (And.intro wsh (And.intro hm (And.intro us_len ft))))))
    refine Run.go ?_
    refine End.kp [0, 1, 5, 6, 12, 13] ?_
    refine Run.seq ?_
    refine Run.seq ?_
    refine Run.go ?_
    refine End.kp [0, 1, 5, 6, 12, 13, 20] ?_
    refine Run.cond _ rfl (fun hb => ?_) (fun hb => ?_)
    · have hb := hb
      rw [if_pos hb] at hL
      refine Run.exit rfl ?_
      refine End.kp [0, 1, 5, 12, 13] ?_
      have fx := And.intro wk (And.intro hk0 (And.intro (@Int.toNat_natCast) (And.intro hn0 (And.intro wsh (And.intro hm (And.intro us_len ft))))))
      refine Run.go ?_
      refine End.lp ?_
      refine ⟨2 ^ ins.length - (k + 1), _, by omega, Ghost.form [(0, .u table), (1, .im (.sl (us ins))), (5, .u out), (12, .i ((2 ^ ins.length : Nat) : Int)), (13, .i (k + 1 : Nat))] 0 ⟨rfl, rfl, rfl, rfl, rfl, trivial⟩ rfl rfl, k + 1, out, rfl, by omega, hL, rfl⟩
    · have hb := hb
      rw [if_neg (by rw [hb]; simp)] at hL
      refine Run.skip ?_
      refine End.kp [0, 1, 5, 6, 12, 13] ?_
      refine Run.seq ?_
      have fx := And.intro wk (And.intro hk0 (And.intro (@Int.toNat_natCast) (And.intro hn0 (And.intro wsh (And.intro hm (And.intro us_len ft))))))
      refine Run.go ?_
      refine End.kp [0, 1, 5, 6, 7, 12, 13] ?_
      refine Run.seq ?_
      refine Run.seq ?_
      refine Run.go ?_
      refine End.kp [0, 1, 5, 6, 7, 12, 13, 21, 22, 23] ?_
      refine Run.block ?_
      refine Run.ghost (Ghost.form [(0, .u table), (1, .im (.sl (us ins))), (5, .u out), (6, .i (k : Nat)), (7, .u 18446744073709551615), (12, .i ((2 ^ ins.length : Nat) : Int)), (13, .i (k : Nat)), (21, .im (.sl (us ins))), (22, .i ins.length), (23, .i (0 : Nat))] 0 ⟨rfl, rfl, rfl, rfl, rfl, rfl, rfl, rfl, rfl, rfl, trivial⟩ rfl rfl) ?_
      refine Run.loop (fun m s => ∃ (i : Nat) (all : Int), m = ins.length - i ∧ i ≤ ins.length ∧ lookIns k (ins.drop i) i all = lookIns k ins 0 18446744073709551615 ∧ s = ⟨[(0, .u table), (1, .im (.sl (us ins))), (5, .u out), (6, .i (k : Nat)), (7, .u all), (12, .i ((2 ^ ins.length : Nat) : Int)), (13, .i (k : Nat)), (21, .im (.sl (us ins))), (22, .i ins.length), (23, .i (i : Nat))], [], up⟩) ins.length ⟨0, _, by omega, by omega, rfl, rfl⟩ fun m s hI => ?_
      obtain ⟨i, all, rfl, hi, hA, rfl⟩ := hI
      have hi0 : ¬ ((i : Int) < 0) := by omega
      refine Run.seq ?_
      have fx := And.intro hi0 (And.intro wk (And.intro hk0 (And.intro (@Int.toNat_natCast) (And.intro hn0 (And.intro wsh (And.intro hm (And.intro us_len ft)))))))
      refine Run.go ?_
      refine End.kp [0, 1, 5, 6, 7, 12, 13, 21, 22, 23, 24] ?_
      refine Run.seq ?_
      refine Run.cond _ rfl (fun hb => ?_) (fun hb => ?_)
      · have hb := of_decide_eq_true hb
        have hin : i < ins.length := by omega
        have wi := wsucc hin (by omega)
        have hg := us_get ins i hin
        rw [drop_getD ins i 0 hin, lookIns] at hA
        generalize ins.getD i 0 = v at hg hA
        refine Run.skip ?_
        refine End.kp [0, 1, 5, 6, 7, 12, 13, 21, 22, 23] ?_
        refine Run.seq ?_
        refine Run.block ?_
        refine Run.seq ?_
        have fx := And.intro (@Int.natCast_nonneg) (And.intro hg (And.intro wi (And.intro hi0 (And.intro wk (And.intro hk0 (And.intro (@Int.toNat_natCast) (And.intro hn0 (And.intro wsh (And.intro hm (And.intro us_len ft))))))))))
        refine Run.go ?_
        refine End.kp [0, 1, 5, 6, 7, 8, 9, 12, 13, 21, 22, 23] ?_
        refine Run.seq ?_
        refine Run.go ?_
        refine End.kp [0, 1, 5, 6, 7, 9, 12, 13, 21, 22, 23, 32] ?_
        refine Run.cond _ rfl (fun hb => ?_) (fun hb => ?_)
        · have hb := hb
          rw [if_pos hb] at hA
          have fx := And.intro (@Int.natCast_nonneg) (And.intro hg (And.intro wi (And.intro hi0 (And.intro wk (And.intro hk0 (And.intro (@Int.toNat_natCast) (And.intro hn0 (And.intro wsh (And.intro hm (And.intro us_len ft))))))))))
          refine Run.go ?_
          refine End.blk ?_
          refine End.kp [0, 1, 5, 6, 7, 12, 13, 21, 22, 23] ?_
          refine Run.go ?_
          refine End.lp ?_
          refine ⟨ins.length - (i + 1), _, by omega, Ghost.form [(0, .u table), (1, .im (.sl (us ins))), (5, .u out), (6, .i (k : Nat)), (7, .u (bits .and .u64 all v)), (12, .i ((2 ^ ins.length : Nat) : Int)), (13, .i (k : Nat)), (21, .im (.sl (us ins))), (22, .i ins.length), (23, .i (i + 1 : Nat))] 0 ⟨rfl, rfl, rfl, rfl, rfl, rfl, rfl, rfl, rfl, rfl, trivial⟩ rfl rfl, i + 1, _, rfl, by omega, hA, rfl⟩
        · have hb := hb
          rw [if_neg (by rw [hb]; simp)] at hA
          have fx := And.intro (@Int.natCast_nonneg) (And.intro hg (And.intro wi (And.intro hi0 (And.intro wk (And.intro hk0 (And.intro (@Int.toNat_natCast) (And.intro hn0 (And.intro wsh (And.intro hm (And.intro us_len ft))))))))))
          refine Run.go ?_
          refine End.blk ?_
          refine End.kp [0, 1, 5, 6, 7, 12, 13, 21, 22, 23] ?_
          refine Run.go ?_
          refine End.lp ?_
          refine ⟨ins.length - (i + 1), _, by omega, Ghost.form [(0, .u table), (1, .im (.sl (us ins))), (5, .u out), (6, .i (k : Nat)), (7, .u (bits .andNot .u64 all v)), (12, .i ((2 ^ ins.length : Nat) : Int)), (13, .i (k : Nat)), (21, .im (.sl (us ins))), (22, .i ins.length), (23, .i (i + 1 : Nat))] 0 ⟨rfl, rfl, rfl, rfl, rfl, rfl, rfl, rfl, rfl, rfl, trivial⟩ rfl rfl, i + 1, _, rfl, by omega, hA, rfl⟩
      · have hb := of_decide_eq_false hb
        have hiN : i = ins.length := by omega
        subst hiN
        rw [List.drop_length, lookIns] at hA
        rw [← hA] at hL
        refine Run.exit rfl ?_
        refine End.kp [0, 1, 5, 7, 12, 13] ?_
        have fx := And.intro hi0 (And.intro wk (And.intro hk0 (And.intro (@Int.toNat_natCast) (And.intro hn0 (And.intro wsh (And.intro hm (And.intro us_len ft)))))))
        refine Run.go ?_
        refine End.blk ?_
        refine End.kp [0, 1, 5, 12, 13] ?_
        refine Run.go ?_
        refine End.lp ?_
        refine ⟨2 ^ ins.length - (k + 1), _, by omega, Ghost.form [(0, .u table), (1, .im (.sl (us ins))), (5, .u (bits .or .u64 out all)), (12, .i ((2 ^ ins.length : Nat) : Int)), (13, .i (k + 1 : Nat))] 0 ⟨rfl, rfl, rfl, rfl, rfl, trivial⟩ rfl rfl, k + 1, _, rfl, by omega, hL, rfl⟩
  · have hb := of_decide_eq_false hb
    have hkN : k = 2 ^ ins.length := by omega
    subst hkN
    rw [Nat.sub_self, lookOut] at hL
    refine Run.exit rfl ?_
    refine End.kp [5] ?_
    refine Run.seq ?_
    have fx := And.intro hk0 (And.intro (@Int.toNat_natCast) (And.intro hn0 (And.intro wsh (And.intro hm (And.intro us_len ft)))))
    refine Run.go ?_
    refine End.kp [4] ?_
    refine Run.ret (hQ _ _ ⟨.inr rfl, _, rfl, _, rfl, ?_⟩)
    exact ⟨by rw [hL], rfl⟩
theorem Look_ok (table : Int) (ins : List Int) (hn : ins.length ≤ 6) (up : Frs) : ACalls Try.prog 81 [.u table, .im (.sl (us ins))] up fun v u => v = .u (lookV table ins) ∧ u = up := by
  refine ACalls.code Try.func81 rfl 11 rfl (by simp) [.tmp 4] rfl fun Q hQ => ?_
  simp only [ups, PV.up, argEnv]
  have ft := And.intro ty_3 (And.intro ty_4 (And.intro ty_37 (And.intro ty_56 trivial)))
  refine Run.seq ?_
  have fx := And.intro us_len ft
  refine Run.go ?_
  refine End.kp [0, 1] ?_
  refine Run.seq ?_
  refine Run.seq ?_
  refine Run.go ?_
  refine End.kp [0, 1, 7] ?_
  refine Run.cond _ rfl (fun hb => ?_) (fun hb => ?_)
  · have hb := of_decide_eq_true hb
    omega
  · have hb := of_decide_eq_false hb
    refine Run.skip ?_
    refine End.kp [0, 1] ?_
    refine Run.seq ?_
    have fx := And.intro us_len ft
    refine Run.region rfl fun K hK => GOps.sim ?_
    refine GOps.call rfl rfl rfl rfl (by kernel_rfl) (ACalls.sim ?_)
    refine (look_ok table ins hn _).mono fun v u hv => ?_
    obtain ⟨rfl, rfl⟩ := hv
    refine ⟨_, _, rfl, GOps.sim ?_⟩
    refine GOps.done (hK _ ?_); clear hK K
    refine End.kp [4] ?_
    refine Run.ret (hQ _ _ ⟨.inr rfl, _, rfl, _, rfl, ?_⟩)
    exact ⟨rfl, rfl⟩
theorem nets_ok (up : Frs) : ACalls Try.prog 18 [] up fun v u => v = .im (.bool true) ∧ u = up := by
  have hM : (2 : Int) ^ ((2 : Int) ^ 1).toNat - 1 = 3 := by decide
  have hL : lookV 8 [12, 10] = 8 := by decide
  refine ACalls.code Try.func18 rfl 8 rfl (by simp) [.tmp 0] rfl fun Q hQ => ?_
  simp only [ups, PV.up, argEnv]
  have ft := And.intro ty_2 (And.intro ty_3 (And.intro ty_4 (And.intro ty_37 (And.intro ty_56 trivial))))
  refine Run.seq ?_
  have fx := And.intro hL (And.intro hM ft)
  refine Run.go ?_
  refine End.kp [] ?_
  refine Run.seq ?_
  refine Run.region rfl fun K hK => GOps.sim ?_
  refine GOps.call rfl rfl rfl rfl (by kernel_rfl) (ACalls.sim ?_)
  refine (Mask_ok 1 (by decide) _).mono fun v u hv => ?_
  obtain ⟨rfl, rfl⟩ := hv
  refine ⟨_, _, rfl, GOps.sim ?_⟩
  refine GOps.call rfl rfl rfl rfl (by kernel_rfl) (ACalls.sim ?_)
  refine (Look_ok 8 [12, 10] (by decide) _).mono fun v u hv => ?_
  obtain ⟨rfl, rfl⟩ := hv
  refine ⟨_, _, rfl, GOps.sim ?_⟩
  refine GOps.done (hK _ ?_); clear hK K
  refine End.kp [0] ?_
  refine Run.ret (hQ _ _ ⟨.inr rfl, _, rfl, _, rfl, ?_⟩)
  exact ⟨rfl, rfl⟩
end Go.Proofs.YtkmnmokjlpenhaaPi
