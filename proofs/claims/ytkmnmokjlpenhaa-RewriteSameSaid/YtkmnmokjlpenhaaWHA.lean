/- The walks of tables of six inputs: Var, Cofactor, Move, Flip, Depends; slices.Index and Contains at numbers. -/
import Derived.Test.YtkmnmokjlpenhaaWF
import Derived.Test.YtkmnmokjlpenhaaPTabB
set_option linter.unusedVariables false
set_option linter.unusedSimpArgs false
set_option maxRecDepth 100000
namespace Go.Proofs.YtkmnmokjlpenhaaPi
set_option maxHeartbeats 4000000
theorem varW_ne : ∀ i : Nat, i < 6 → (varW i == 0) = false := by decide +kernel
theorem nI_at (L : List Nat) (i : Nat) (h : i < L.length) : ∃ x, L[i]? = some x ∧ x ∈ L ∧ L.getD i 0 = x ∧ (ints (nI L))[i]? = some [.int .i64 (x : Int)] :=
  ⟨L[i], List.getElem?_eq_getElem h, List.getElem_mem h, by simp [h], by simp [h]⟩
theorem nI_len (L : List Nat) : (ints (nI L)).length = L.length := by simp
theorem Var_ok (i : Nat) (hi : i < 6) (up : Frs) : ACalls Try.prog 36 [.i i] up fun v u => v = .u (varW i) ∧ u = up := by
  have d1 : decide ((i : Int) < 0) = false := decide_eq_false (by omega)
  have d2 : decide ((i : Int) ≥ 6) = false := decide_eq_false (by omega)
  have hi0 : ¬ ((i : Int) < 0) := by omega
  obtain ⟨f, hf⟩ : ∃ f : Nat → Bool, f = fun k => k.testBit i := ⟨_, rfl⟩
  have h0 : tw f 0 = 0 := by simp [tableB]
  refine ACalls.code Try.func36 rfl 25 rfl (by simp) [.tmp 2] rfl fun Q hQ => ?_
  simp only [ups, PV.up, argEnv]
  have ft := And.intro ty_3 (And.intro ty_4 (And.intro ty_37 trivial))
  refine Run.seq ?_
  have fx := And.intro (@ge_iff_le Int _) (And.intro hi0 (And.intro d2 (And.intro d1 ft)))
  refine Run.go ?_
  refine End.kp [0] ?_
  refine Run.seq ?_
  refine Run.seq ?_
  refine Run.go ?_
  refine End.kp [0, 10] ?_
  refine Run.cond _ rfl (fun hb => ?_) (fun hb => ?_)
  · have hb2 := hb
    simp at hb
  · have hb2 := hb
    refine Run.skip ?_
    refine End.kp [0] ?_
    refine Run.seq ?_
    have fx := And.intro (@ge_iff_le Int _) (And.intro hi0 (And.intro d2 (And.intro d1 ft)))
    refine Run.go ?_
    refine End.kp [0, 3] ?_
    refine Run.seq ?_
    refine Run.seq ?_
    refine Run.go ?_
    refine End.kp [0, 3, 11] ?_
    refine Run.block ?_
    rw [← h0]
    refine Run.ghost (Ghost.form [(0, .i i), (3, .u (tw f 0)), (11, .i (0 : Nat))] 0 ⟨rfl, rfl, rfl, trivial⟩ rfl rfl) ?_
    refine Run.loop (fun m s => ∃ k : Nat, m = 64 - k ∧ k ≤ 64 ∧ s = ⟨[(0, .i i), (3, .u (tw f k)), (11, .i (k : Nat))], [], up⟩) 64 ⟨0, rfl, by omega, rfl⟩ fun m s hI => ?_
    obtain ⟨k, rfl, hk, rfl⟩ := hI
    have hk0 : ¬ ((k : Int) < 0) := by omega
    refine Run.seq ?_
    have fx := And.intro hk0 (And.intro (@ge_iff_le Int _) (And.intro hi0 (And.intro d2 (And.intro d1 ft))))
    refine Run.go ?_
    refine End.kp [0, 3, 11, 12] ?_
    refine Run.seq ?_
    refine Run.cond _ rfl (fun hb => ?_) (fun hb => ?_)
    · have hb2 := of_decide_eq_true hb
      have hkn : k < 64 := by omega
      have wk := wsucc hkn (by omega)
      have hkb : bits .and .i64 ((k : Int).fdiv (2 ^ min i IntKind.i64.bits)) 1 = b01 (f k) := by rw [hf]; exact kbit i hi k hkn
      have hbw := b01_wrap (f k)
      have hst := tw_step f hkn
      refine Run.skip ?_
      refine End.kp [0, 3, 11] ?_
      refine Run.seq ?_
      refine Run.block ?_
      refine Run.seq ?_
      have fx := And.intro hst (And.intro hbw (And.intro hkb (And.intro wk (And.intro hk0 (And.intro (@ge_iff_le Int _) (And.intro hi0 (And.intro d2 (And.intro d1 ft))))))))
      refine Run.go ?_
      refine End.kp [0, 3, 4, 11] ?_
      refine Run.go ?_
      refine End.blk ?_
      refine End.kp [0, 3, 11] ?_
      refine Run.go ?_
      refine End.lp ?_
      refine ⟨64 - (k + 1), _, by omega, Ghost.form [(0, .i i), (3, .u (tw f (k + 1))), (11, .i (k + 1 : Nat))] 0 ⟨rfl, rfl, rfl, trivial⟩ rfl rfl, k + 1, rfl, by omega, rfl⟩
    · have hb2 := of_decide_eq_false hb
      have hkN : k = 64 := by omega
      subst hkN
      refine Run.exit rfl ?_
      refine End.kp [3] ?_
      refine Run.seq ?_
      have fx := And.intro hk0 (And.intro (@ge_iff_le Int _) (And.intro hi0 (And.intro d2 (And.intro d1 ft))))
      refine Run.go ?_
      refine End.kp [2] ?_
      refine Run.ret (hQ _ _ ⟨.inr rfl, _, rfl, _, rfl, ?_⟩)
      exact ⟨by rw [hf], rfl⟩
theorem Cofactor_ok (t : Int) (i : Nat) (hi : i < 6) (v : Bool) (up : Frs) : ACalls Try.prog 38 [.u t, .i i, .im (.bool v)] up fun r u => r = .u (cofW t i v) ∧ u = up := by
  have hv0 := varW_ne i hi
  have hp := pow_i i (by omega)
  have hi0 : ¬ ((i : Int) < 0) := by omega
  have hp0 : ¬ (((2 ^ i : Nat) : Int) < 0) := Int.not_lt.2 (Int.natCast_nonneg _)
  refine ACalls.code Try.func38 rfl 33 rfl (by simp) [.tmp 6] rfl fun Q hQ => ?_
  simp only [ups, PV.up, argEnv]
  have ft := And.intro ty_3 (And.intro ty_4 (And.intro ty_37 trivial))
  refine Run.seq ?_
  have fx := And.intro (@Int.toNat_natCast) (And.intro hp0 (And.intro hi0 (And.intro hp (And.intro hv0 ft))))
  refine Run.go ?_
  refine End.kp [0, 1, 2] ?_
  refine Run.seq ?_
  refine Run.region rfl fun K hK => GOps.sim ?_
  refine GOps.call rfl rfl rfl rfl (by kernel_rfl) (ACalls.sim ?_)
  refine (Var_ok i hi _).mono fun v u hv => ?_
  obtain ⟨rfl, rfl⟩ := hv
  refine ⟨_, _, rfl, GOps.sim ?_⟩
  refine GOps.done (hK _ ?_); clear hK K
  refine End.kp [0, 1, 2, 7] ?_
  refine Run.seq ?_
  refine Run.seq ?_
  refine Run.go ?_
  refine End.kp [0, 1, 2, 7, 12] ?_
  refine Run.cond _ rfl (fun hb => ?_) (fun hb => ?_)
  · have hb2 := hb
    simp at hb
  · have hb2 := hb
    refine Run.skip ?_
    refine End.kp [0, 1, 2, 7] ?_
    refine Run.seq ?_
    have fx := And.intro (@Int.toNat_natCast) (And.intro hp0 (And.intro hi0 (And.intro hp (And.intro hv0 ft))))
    refine Run.go ?_
    refine End.kp [0, 2, 7, 8] ?_
    refine Run.seq ?_
    refine Run.seq ?_
    refine Run.go ?_
    refine End.kp [0, 7, 8, 16] ?_
    refine Run.cond _ rfl (fun hb => ?_) (fun hb => ?_)
    · have hb3 := hb
      refine Run.seq ?_
      have fx := And.intro (@Int.toNat_natCast) (And.intro hp0 (And.intro hi0 (And.intro hp (And.intro hv0 ft))))
      refine Run.go ?_
      refine End.kp [0, 8] ?_
      refine Run.seq ?_
      refine Run.go ?_
      refine End.kp [6] ?_
      refine Run.ret (hQ _ _ ⟨.inr rfl, _, rfl, _, rfl, ?_⟩)
      exact ⟨by rw [cofW, hb3, if_pos rfl], rfl⟩
    · have hb3 := hb
      refine Run.skip ?_
      refine End.kp [0, 7, 8] ?_
      refine Run.seq ?_
      have fx := And.intro (@Int.toNat_natCast) (And.intro hp0 (And.intro hi0 (And.intro hp (And.intro hv0 ft))))
      refine Run.go ?_
      refine End.kp [0, 8] ?_
      refine Run.seq ?_
      refine Run.go ?_
      refine End.kp [6] ?_
      refine Run.ret (hQ _ _ ⟨.inr rfl, _, rfl, _, rfl, ?_⟩)
      exact ⟨by rw [cofW, hb3, if_neg (by simp)], rfl⟩
theorem IndexI_no (l : List Int) (v : Int) (h : v ∉ l) (hn : l.length ≤ 100000) (up : Frs) : ACalls Try.prog 95 [.im (.sl (ints l)), .i v] up fun r u => r = .i (-1) ∧ u = up := by
  refine ACalls.code Try.func95 rfl 19 rfl (by simp) [.tmp 4] rfl fun Q hQ => ?_
  simp only [ups, PV.up, argEnv]
  have ft := And.intro ty_3 (And.intro ty_4 (And.intro ty_22 trivial))
  refine Run.seq ?_
  have fx := And.intro ints_len ft
  refine Run.go ?_
  refine End.kp [0, 1] ?_
  refine Run.seq ?_
  refine Run.seq ?_
  refine Run.go ?_
  refine End.kp [0, 1, 7, 8] ?_
  refine Run.block ?_
  refine Run.ghost (Ghost.form [(0, .im (.sl (ints l))), (1, .i v), (7, .i l.length), (8, .i (0 : Nat))] 0 ⟨rfl, rfl, rfl, rfl, trivial⟩ rfl rfl) ?_
  refine Run.loop (fun m s => ∃ k : Nat, m = l.length - k ∧ k ≤ l.length ∧ s = ⟨[(0, .im (.sl (ints l))), (1, .i v), (7, .i l.length), (8, .i (k : Nat))], [], up⟩) l.length ⟨0, rfl, by omega, rfl⟩ fun m s hI => ?_
  obtain ⟨k, rfl, hk, rfl⟩ := hI
  refine Run.seq ?_
  have fx := And.intro ints_len ft
  refine Run.go ?_
  refine End.kp [0, 1, 7, 8, 9] ?_
  refine Run.seq ?_
  refine Run.cond _ rfl (fun hb => ?_) (fun hb => ?_)
  · have hb2 := of_decide_eq_true hb
    have hkn : k < l.length := by omega
    have wk := wsucc hkn (by omega)
    have hx : (ints l)[k]? = some [.int .i64 l[k]] := by simp [hkn]
    have hvx : (v == l[k]) = false := by
      rw [beq_eq_false_iff_ne]
      intro e
      exact h (e ▸ List.getElem_mem hkn)
    have hkl : (k : Int) < (l.length : Int) := by omega
    refine Run.skip ?_
    refine End.kp [0, 1, 7, 8] ?_
    refine Run.seq ?_
    refine Run.block ?_
    refine Run.seq ?_
    have fx := And.intro (@Int.toNat_natCast) (And.intro (@Int.natCast_nonneg) (And.intro hkl (And.intro hvx (And.intro hx (And.intro wk (And.intro ints_len ft))))))
    refine Run.go ?_
    refine End.kp [0, 1, 5, 7, 8] ?_
    refine Run.seq ?_
    refine Run.go ?_
    refine End.kp [0, 1, 5, 7, 8, 16] ?_
    refine Run.cond _ rfl (fun hb => ?_) (fun hb => ?_)
    · have hb3 := hb
      simp at hb
    · have hb3 := hb
      refine Run.skip ?_
      refine End.blk ?_
      refine End.kp [0, 1, 7, 8] ?_
      have fx := And.intro (@Int.toNat_natCast) (And.intro (@Int.natCast_nonneg) (And.intro hkl (And.intro hvx (And.intro hx (And.intro wk (And.intro ints_len ft))))))
      refine Run.go ?_
      refine End.lp ?_
      refine ⟨l.length - (k + 1), _, by omega, Ghost.form [(0, .im (.sl (ints l))), (1, .i v), (7, .i l.length), (8, .i (k + 1 : Nat))] 0 ⟨rfl, rfl, rfl, rfl, trivial⟩ rfl rfl, k + 1, rfl, by omega, rfl⟩
  · have hb2 := of_decide_eq_false hb
    refine Run.exit rfl ?_
    refine End.kp [] ?_
    refine Run.seq ?_
    have fx := And.intro ints_len ft
    refine Run.go ?_
    refine End.kp [4] ?_
    refine Run.ret (hQ _ _ ⟨.inr rfl, _, rfl, _, rfl, ?_⟩)
    exact ⟨rfl, rfl⟩
theorem ContainsI_no (l : List Int) (v : Int) (h : v ∉ l) (hn : l.length ≤ 100000) (up : Frs) : ACalls Try.prog 42 [.im (.sl (ints l)), .i v] up fun r u => r = .im (.bool false) ∧ u = up := by
  refine ACalls.code Try.func42 rfl 9 rfl (by simp) [.tmp 4] rfl fun Q hQ => ?_
  simp only [ups, PV.up, argEnv]
  have ft := And.intro ty_3 (And.intro ty_4 (And.intro ty_22 trivial))
  refine Run.seq ?_
  have fx := ft
  refine Run.go ?_
  refine End.kp [0, 1] ?_
  refine Run.seq ?_
  refine Run.region rfl fun K hK => GOps.sim ?_
  refine GOps.call rfl rfl rfl rfl (by kernel_rfl) (ACalls.sim ?_)
  refine (IndexI_no l v h hn _).mono fun v u hv => ?_
  obtain ⟨rfl, rfl⟩ := hv
  refine ⟨_, _, rfl, GOps.sim ?_⟩
  refine GOps.done (hK _ ?_); clear hK K
  refine End.kp [4] ?_
  refine Run.ret (hQ _ _ ⟨.inr rfl, _, rfl, _, rfl, ?_⟩)
  exact ⟨rfl, rfl⟩
theorem Move_ok (t : Int) (ht : U64 t) (to : List Nat) (n : Nat) (hn : n ≤ 6) (hl : to.length ≤ 6) (hlt : ∀ x ∈ to, x < n) (hnd : to.Nodup) (up : Frs) : ACalls Try.prog 40 [.u t, .im (.sl (ints (nI to))), .i n] up fun r u => r = .u (tw (moveF t to) (2 ^ n)) ∧ u = up := by
  have d1 : decide (6 < (to.length : Int)) = false := decide_eq_false (by omega)
  have d2 : decide ((n : Int) < 0) = false := decide_eq_false (by omega)
  have d3 : decide (6 < (n : Int)) = false := decide_eq_false (by omega)
  have hn0 : ¬ ((n : Int) < 0) := by omega
  have hp := pow_i n hn
  have h64 := pow_64 hn
  have hlen := nI_len to
  have hmap : ∀ k, (nI to).take k = nI (to.take k) := fun k => by simp [List.map_take]
  have hsz : ∀ r : List (List Im), szOk 1 0 r := fun r => .inl rfl
  obtain ⟨f, hf⟩ : ∃ f : Nat → Bool, f = moveF t to := ⟨_, rfl⟩
  have h0 : tw f 0 = 0 := by simp [tableB]
  refine ACalls.code Try.func40 rfl 78 rfl (by simp) [.tmp 6] rfl fun Q hQ => ?_
  simp only [ups, PV.up, argEnv]
  have ft := And.intro ty_3 (And.intro ty_4 (And.intro ty_22 (And.intro ty_37 trivial)))
  refine Run.seq ?_
  have fx := And.intro (@Int.natCast_nonneg) (And.intro (@Int.toNat_natCast) (And.intro hsz (And.intro (@ge_iff_le Int _) (And.intro (@gt_iff_lt Int _) (And.intro hp (And.intro hn0 (And.intro d3 (And.intro d2 (And.intro d1 (And.intro hlen ft))))))))))
  refine Run.go ?_
  refine End.kp [0, 1, 2] ?_
  refine Run.seq ?_
  refine Run.seq ?_
  refine Run.go ?_
  refine End.kp [0, 1, 2, 24] ?_
  refine Run.cond _ rfl (fun hb => ?_) (fun hb => ?_)
  · have hb2 := hb
    simp at hb
  · have hb2 := hb
    refine Run.skip ?_
    refine End.kp [0, 1, 2] ?_
    refine Run.seq ?_
    refine Run.seq ?_
    have fx := And.intro (@Int.natCast_nonneg) (And.intro (@Int.toNat_natCast) (And.intro hsz (And.intro (@ge_iff_le Int _) (And.intro (@gt_iff_lt Int _) (And.intro hp (And.intro hn0 (And.intro d3 (And.intro d2 (And.intro d1 (And.intro hlen ft))))))))))
    refine Run.go ?_
    refine End.kp [0, 1, 2, 25, 26, 27] ?_
    refine Run.block ?_
    refine Run.ghost (Ghost.form [(0, .u t), (1, .im (.sl (ints (nI to)))), (2, .i n), (25, .im (.sl (ints (nI to)))), (26, .i to.length), (27, .i (0 : Nat))] 0 ⟨rfl, rfl, rfl, rfl, rfl, rfl, trivial⟩ rfl rfl) ?_
    refine Run.loop (fun m s => ∃ i : Nat, m = to.length - i ∧ i ≤ to.length ∧ s = ⟨[(0, .u t), (1, .im (.sl (ints (nI to)))), (2, .i n), (25, .im (.sl (ints (nI to)))), (26, .i to.length), (27, .i (i : Nat))], [], up⟩) to.length ⟨0, rfl, by omega, rfl⟩ fun m s hI => ?_
    obtain ⟨i, rfl, hi, rfl⟩ := hI
    refine Run.seq ?_
    have fx := And.intro (@Int.natCast_nonneg) (And.intro (@Int.toNat_natCast) (And.intro hsz (And.intro (@ge_iff_le Int _) (And.intro (@gt_iff_lt Int _) (And.intro hp (And.intro hn0 (And.intro d3 (And.intro d2 (And.intro d1 (And.intro hlen ft))))))))))
    refine Run.go ?_
    refine End.kp [0, 1, 2, 25, 26, 27, 28] ?_
    refine Run.seq ?_
    refine Run.cond _ rfl (fun hb => ?_) (fun hb => ?_)
    · have hb2 := of_decide_eq_true hb
      have hin : i < to.length := by omega
      have wi := wsucc hin (by omega)
      obtain ⟨x, hx1, hx2, hx3, hx4⟩ := nI_at to i hin
      have hxn := hlt x hx2
      have hil : (i : Int) < (to.length : Int) := by omega
      have d4 : decide ((x : Int) < 0) = false := decide_eq_false (by omega)
      have d5 : decide ((n : Int) ≤ (x : Int)) = false := decide_eq_false (by omega)
      have htk : (ints (nI to)).take i = ints (nI (to.take i)) := by simp [List.map_take]
      have hile : i ≤ to.length := hi
      have hno : ((x : Nat) : Int) ∉ nI (to.take i) := by
        intro h
        simp only [List.mem_map] at h
        obtain ⟨y, hy, e⟩ := h
        have e2 : y = x := by omega
        subst e2
        rw [List.mem_take_iff_getElem] at hy
        obtain ⟨q, hq, e3⟩ := hy
        have := (List.getElem?_eq_some_iff.1 hx1).2
        exact absurd (e3.trans this.symm) (List.pairwise_iff_getElem.1 hnd q i (by omega) hin (by omega))
      refine Run.skip ?_
      refine End.kp [0, 1, 2, 25, 26, 27] ?_
      refine Run.seq ?_
      refine Run.block ?_
      refine Run.seq ?_
      have fx := And.intro hile (And.intro htk (And.intro d5 (And.intro d4 (And.intro hil (And.intro hx4 (And.intro wi (And.intro (@Int.natCast_nonneg) (And.intro (@Int.toNat_natCast) (And.intro hsz (And.intro (@ge_iff_le Int _) (And.intro (@gt_iff_lt Int _) (And.intro hp (And.intro hn0 (And.intro d3 (And.intro d2 (And.intro d1 (And.intro hlen ft)))))))))))))))))
      refine Run.go ?_
      refine End.kp [0, 1, 2, 7, 8, 25, 26, 27] ?_
      refine Run.seq ?_
      refine Run.region rfl fun K hK => GOps.sim ?_
      refine GOps.call rfl rfl rfl rfl (by kernel_rfl) (ACalls.sim ?_)
      refine (ContainsI_no (nI (to.take i)) x hno (by simp; omega) _).mono fun v u hv => ?_
      obtain ⟨rfl, rfl⟩ := hv
      refine ⟨_, _, rfl, GOps.sim ?_⟩
      refine GOps.done (hK _ ?_); clear hK K
      refine End.kp [0, 1, 2, 25, 26, 27, 45] ?_
      refine Run.cond _ rfl (fun hb => ?_) (fun hb => ?_)
      · have hb3 := hb
        simp at hb
      · have hb3 := hb
        refine Run.skip ?_
        refine End.blk ?_
        refine End.kp [0, 1, 2, 25, 26, 27] ?_
        have fx := And.intro hile (And.intro htk (And.intro d5 (And.intro d4 (And.intro hil (And.intro hx4 (And.intro wi (And.intro (@Int.natCast_nonneg) (And.intro (@Int.toNat_natCast) (And.intro hsz (And.intro (@ge_iff_le Int _) (And.intro (@gt_iff_lt Int _) (And.intro hp (And.intro hn0 (And.intro d3 (And.intro d2 (And.intro d1 (And.intro hlen ft)))))))))))))))))
        refine Run.go ?_
        refine End.lp ?_
        refine ⟨to.length - (i + 1), _, by omega, Ghost.form [(0, .u t), (1, .im (.sl (ints (nI to)))), (2, .i n), (25, .im (.sl (ints (nI to)))), (26, .i to.length), (27, .i (i + 1 : Nat))] 0 ⟨rfl, rfl, rfl, rfl, rfl, rfl, trivial⟩ rfl rfl, i + 1, rfl, by omega, rfl⟩
    · have hb2 := of_decide_eq_false hb
      refine Run.exit rfl ?_
      refine End.kp [0, 1, 2] ?_
      refine Run.seq ?_
      have fx := And.intro (@Int.natCast_nonneg) (And.intro (@Int.toNat_natCast) (And.intro hsz (And.intro (@ge_iff_le Int _) (And.intro (@gt_iff_lt Int _) (And.intro hp (And.intro hn0 (And.intro d3 (And.intro d2 (And.intro d1 (And.intro hlen ft))))))))))
      refine Run.go ?_
      refine End.kp [0, 1, 2, 9] ?_
      refine Run.seq ?_
      refine Run.seq ?_
      refine Run.go ?_
      refine End.kp [0, 1, 9, 48, 49] ?_
      refine Run.block ?_
      rw [← h0]
      refine Run.ghost (Ghost.form [(0, .u t), (1, .im (.sl (ints (nI to)))), (9, .u (tw f 0)), (48, .i (2 ^ n : Nat)), (49, .i (0 : Nat))] 0 ⟨rfl, rfl, rfl, rfl, rfl, trivial⟩ rfl rfl) ?_
      refine Run.loop (fun m s => ∃ k : Nat, m = 2 ^ n - k ∧ k ≤ 2 ^ n ∧ s = ⟨[(0, .u t), (1, .im (.sl (ints (nI to)))), (9, .u (tw f k)), (48, .i (2 ^ n : Nat)), (49, .i (k : Nat))], [], up⟩) (2 ^ n) ⟨0, rfl, Nat.zero_le _, rfl⟩ fun m s hI => ?_
      obtain ⟨k, rfl, hk, rfl⟩ := hI
      have hk0 : ¬ ((k : Int) < 0) := by omega
      refine Run.seq ?_
      have fx := And.intro hk0 (And.intro (@Int.natCast_nonneg) (And.intro (@Int.toNat_natCast) (And.intro hsz (And.intro (@ge_iff_le Int _) (And.intro (@gt_iff_lt Int _) (And.intro hp (And.intro hn0 (And.intro d3 (And.intro d2 (And.intro d1 (And.intro hlen ft)))))))))))
      refine Run.go ?_
      refine End.kp [0, 1, 9, 48, 49, 50] ?_
      refine Run.seq ?_
      refine Run.cond _ rfl (fun hb => ?_) (fun hb => ?_)
      · have hb3 := of_decide_eq_true hb
        have hkn : k < 2 ^ n := by omega
        have wk := wsucc hkn (by omega)
        refine Run.skip ?_
        refine End.kp [0, 1, 9, 48, 49] ?_
        refine Run.seq ?_
        refine Run.block ?_
        refine Run.seq ?_
        have fx := And.intro wk (And.intro hk0 (And.intro (@Int.natCast_nonneg) (And.intro (@Int.toNat_natCast) (And.intro hsz (And.intro (@ge_iff_le Int _) (And.intro (@gt_iff_lt Int _) (And.intro hp (And.intro hn0 (And.intro d3 (And.intro d2 (And.intro d1 (And.intro hlen ft))))))))))))
        refine Run.go ?_
        refine End.kp [0, 1, 9, 10, 48, 49] ?_
        refine Run.seq ?_
        refine Run.go ?_
        refine End.kp [0, 1, 9, 10, 11, 48, 49] ?_
        refine Run.seq ?_
        refine Run.seq ?_
        refine Run.go ?_
        refine End.kp [0, 1, 9, 10, 11, 48, 49, 52, 53, 54] ?_
        refine Run.block ?_
        refine Run.ghost (Ghost.form [(0, .u t), (1, .im (.sl (ints (nI to)))), (9, .u (tw f k)), (10, .i (k : Nat)), (11, .i (oldN to k 0 : Nat)), (48, .i (2 ^ n : Nat)), (49, .i (k : Nat)), (52, .im (.sl (ints (nI to)))), (53, .i to.length), (54, .i (0 : Nat))] 0 ⟨rfl, rfl, rfl, rfl, rfl, rfl, rfl, rfl, rfl, rfl, trivial⟩ rfl rfl) ?_
        refine Run.loop (fun m s => ∃ i : Nat, m = to.length - i ∧ i ≤ to.length ∧ s = ⟨[(0, .u t), (1, .im (.sl (ints (nI to)))), (9, .u (tw f k)), (10, .i (k : Nat)), (11, .i (oldN to k i : Nat)), (48, .i (2 ^ n : Nat)), (49, .i (k : Nat)), (52, .im (.sl (ints (nI to)))), (53, .i to.length), (54, .i (i : Nat))], [], up⟩) to.length ⟨0, rfl, by omega, rfl⟩ fun m s hI => ?_
        obtain ⟨i, rfl, hi, rfl⟩ := hI
        have hi0 : ¬ ((i : Int) < 0) := by omega
        refine Run.seq ?_
        have fx := And.intro hi0 (And.intro wk (And.intro hk0 (And.intro (@Int.natCast_nonneg) (And.intro (@Int.toNat_natCast) (And.intro hsz (And.intro (@ge_iff_le Int _) (And.intro (@gt_iff_lt Int _) (And.intro hp (And.intro hn0 (And.intro d3 (And.intro d2 (And.intro d1 (And.intro hlen ft)))))))))))))
        refine Run.go ?_
        refine End.kp [0, 1, 9, 10, 11, 48, 49, 52, 53, 54, 55] ?_
        refine Run.seq ?_
        refine Run.cond _ rfl (fun hb => ?_) (fun hb => ?_)
        · have hb4 := of_decide_eq_true hb
          have hin : i < to.length := by omega
          have wi := wsucc hin (by omega)
          obtain ⟨x, hx1, hx2, hx3, hx4⟩ := nI_at to i hin
          have hxn := hlt x hx2
          have hil : (i : Int) < (to.length : Int) := by omega
          have hx0 : ¬ ((x : Int) < 0) := by omega
          have hkb := kbit x (by omega) k (by omega)
          have hst := old_step i (by omega) (oldN to k i) (Nat.lt_of_lt_of_le (oldN_lt to k i) (pow_64 (by omega))) (k.testBit x)
          have hold : (oldN to k i ||| (if k.testBit x = true then 2 ^ i else 0) : Nat) = oldN to k (i + 1) := by rw [oldN, hx3]
          rw [hold] at hst
          refine Run.skip ?_
          refine End.kp [0, 1, 9, 10, 11, 48, 49, 52, 53, 54] ?_
          refine Run.seq ?_
          refine Run.block ?_
          refine Run.seq ?_
          have fx := And.intro hst (And.intro hkb (And.intro hx0 (And.intro hil (And.intro hx4 (And.intro wi (And.intro hi0 (And.intro wk (And.intro hk0 (And.intro (@Int.natCast_nonneg) (And.intro (@Int.toNat_natCast) (And.intro hsz (And.intro (@ge_iff_le Int _) (And.intro (@gt_iff_lt Int _) (And.intro hp (And.intro hn0 (And.intro d3 (And.intro d2 (And.intro d1 (And.intro hlen ft)))))))))))))))))))
          refine Run.go ?_
          refine End.kp [0, 1, 9, 10, 11, 12, 13, 48, 49, 52, 53, 54] ?_
          refine Run.go ?_
          refine End.blk ?_
          refine End.kp [0, 1, 9, 10, 11, 48, 49, 52, 53, 54] ?_
          refine Run.go ?_
          refine End.lp ?_
          refine ⟨to.length - (i + 1), _, by omega, Ghost.form [(0, .u t), (1, .im (.sl (ints (nI to)))), (9, .u (tw f k)), (10, .i (k : Nat)), (11, .i (oldN to k (i + 1) : Nat)), (48, .i (2 ^ n : Nat)), (49, .i (k : Nat)), (52, .im (.sl (ints (nI to)))), (53, .i to.length), (54, .i (i + 1 : Nat))] 0 ⟨rfl, rfl, rfl, rfl, rfl, rfl, rfl, rfl, rfl, rfl, trivial⟩ rfl rfl, i + 1, rfl, by omega, rfl⟩
        · have hb4 := of_decide_eq_false hb
          have hiN : i = to.length := by omega
          subst hiN
          have hol : oldN to k to.length < 64 := Nat.lt_of_lt_of_le (oldN_lt to k _) (pow_64 hl)
          have hg : bits .and .u64 (t.fdiv (2 ^ min (oldN to k to.length) IntKind.u64.bits)) 1 = b01 (f k) := by rw [hf, getbit ht hol]; rfl
          have ho0 : ¬ ((oldN to k to.length : Int) < 0) := by omega
          have hst := tw_step f (show k < 64 by omega)
          refine Run.exit rfl ?_
          refine End.kp [0, 1, 9, 10, 11, 48, 49] ?_
          have fx := And.intro hst (And.intro ho0 (And.intro hg (And.intro hi0 (And.intro wk (And.intro hk0 (And.intro (@Int.natCast_nonneg) (And.intro (@Int.toNat_natCast) (And.intro hsz (And.intro (@ge_iff_le Int _) (And.intro (@gt_iff_lt Int _) (And.intro hp (And.intro hn0 (And.intro d3 (And.intro d2 (And.intro d1 (And.intro hlen ft))))))))))))))))
          refine Run.go ?_
          refine End.blk ?_
          refine End.kp [0, 1, 9, 48, 49] ?_
          refine Run.go ?_
          refine End.lp ?_
          refine ⟨2 ^ n - (k + 1), _, by omega, Ghost.form [(0, .u t), (1, .im (.sl (ints (nI to)))), (9, .u (tw f (k + 1))), (48, .i (2 ^ n : Nat)), (49, .i (k + 1 : Nat))] 0 ⟨rfl, rfl, rfl, rfl, rfl, trivial⟩ rfl rfl, k + 1, rfl, by omega, rfl⟩
      · have hb3 := of_decide_eq_false hb
        have hkN : k = 2 ^ n := by omega
        subst hkN
        refine Run.exit rfl ?_
        refine End.kp [9] ?_
        refine Run.seq ?_
        have fx := And.intro hk0 (And.intro (@Int.natCast_nonneg) (And.intro (@Int.toNat_natCast) (And.intro hsz (And.intro (@ge_iff_le Int _) (And.intro (@gt_iff_lt Int _) (And.intro hp (And.intro hn0 (And.intro d3 (And.intro d2 (And.intro d1 (And.intro hlen ft)))))))))))
        refine Run.go ?_
        refine End.kp [6] ?_
        refine Run.ret (hQ _ _ ⟨.inr rfl, _, rfl, _, rfl, ?_⟩)
        exact ⟨by rw [hf], rfl⟩
theorem Flip_ok (t : Int) (ht : U64 t) (mask n : Nat) (hn : n ≤ 6) (hm : mask < 2 ^ n) (up : Frs) : ACalls Try.prog 41 [.u t, .i mask, .i n] up fun r u => r = .u (tw (flipF t mask) (2 ^ n)) ∧ u = up := by
  have d1 : decide ((n : Int) < 0) = false := decide_eq_false (by omega)
  have d2 : decide (6 < (n : Int)) = false := decide_eq_false (by omega)
  have d3 : decide ((mask : Int) < 0) = false := decide_eq_false (by omega)
  have d4 : decide (((2 ^ n : Nat) : Int) ≤ (mask : Int)) = false := decide_eq_false (by omega)
  have hn0 : ¬ ((n : Int) < 0) := by omega
  have hp := pow_i n hn
  have h64 := pow_64 hn
  obtain ⟨f, hf⟩ : ∃ f : Nat → Bool, f = flipF t mask := ⟨_, rfl⟩
  have h0 : tw f 0 = 0 := by simp [tableB]
  refine ACalls.code Try.func41 rfl 42 rfl (by simp) [.tmp 6] rfl fun Q hQ => ?_
  simp only [ups, PV.up, argEnv]
  have ft := And.intro ty_3 (And.intro ty_4 (And.intro ty_37 trivial))
  refine Run.seq ?_
  have fx := And.intro (@Int.toNat_natCast) (And.intro (@ge_iff_le Int _) (And.intro (@gt_iff_lt Int _) (And.intro hp (And.intro hn0 (And.intro d4 (And.intro d3 (And.intro d2 (And.intro d1 ft))))))))
  refine Run.go ?_
  refine End.kp [0, 1, 2] ?_
  refine Run.seq ?_
  refine Run.seq ?_
  refine Run.go ?_
  refine End.kp [0, 1, 2, 24] ?_
  refine Run.cond _ rfl (fun hb => ?_) (fun hb => ?_)
  · have hb2 := hb
    simp at hb
  · have hb2 := hb
    refine Run.skip ?_
    refine End.kp [0, 1, 2] ?_
    refine Run.seq ?_
    have fx := And.intro (@Int.toNat_natCast) (And.intro (@ge_iff_le Int _) (And.intro (@gt_iff_lt Int _) (And.intro hp (And.intro hn0 (And.intro d4 (And.intro d3 (And.intro d2 (And.intro d1 ft))))))))
    refine Run.go ?_
    refine End.kp [0, 1, 2, 7] ?_
    refine Run.seq ?_
    refine Run.seq ?_
    refine Run.go ?_
    refine End.kp [0, 1, 7, 26, 27] ?_
    refine Run.block ?_
    rw [← h0]
    refine Run.ghost (Ghost.form [(0, .u t), (1, .i mask), (7, .u (tw f 0)), (26, .i (2 ^ n : Nat)), (27, .i (0 : Nat))] 0 ⟨rfl, rfl, rfl, rfl, rfl, trivial⟩ rfl rfl) ?_
    refine Run.loop (fun m s => ∃ k : Nat, m = 2 ^ n - k ∧ k ≤ 2 ^ n ∧ s = ⟨[(0, .u t), (1, .i mask), (7, .u (tw f k)), (26, .i (2 ^ n : Nat)), (27, .i (k : Nat))], [], up⟩) (2 ^ n) ⟨0, rfl, Nat.zero_le _, rfl⟩ fun m s hI => ?_
    obtain ⟨k, rfl, hk, rfl⟩ := hI
    have hk0 : ¬ ((k : Int) < 0) := by omega
    refine Run.seq ?_
    have fx := And.intro hk0 (And.intro (@Int.toNat_natCast) (And.intro (@ge_iff_le Int _) (And.intro (@gt_iff_lt Int _) (And.intro hp (And.intro hn0 (And.intro d4 (And.intro d3 (And.intro d2 (And.intro d1 ft)))))))))
    refine Run.go ?_
    refine End.kp [0, 1, 7, 26, 27, 28] ?_
    refine Run.seq ?_
    refine Run.cond _ rfl (fun hb => ?_) (fun hb => ?_)
    · have hb3 := of_decide_eq_true hb
      have hkn : k < 2 ^ n := by omega
      have wk := wsucc hkn (by omega)
      have hx := xor_i k (by omega) mask (by omega)
      have hx64 : k ^^^ mask < 64 := Nat.xor_lt_two_pow (n := 6) (show k < 64 by omega) (show mask < 64 by omega)
      have hx0 : ¬ (((k ^^^ mask : Nat) : Int) < 0) := by omega
      have hg : bits .and .u64 (t.fdiv (2 ^ min (k ^^^ mask) IntKind.u64.bits)) 1 = b01 (f k) := by rw [hf, getbit ht hx64]; rfl
      have hst := tw_step f (show k < 64 by omega)
      refine Run.skip ?_
      refine End.kp [0, 1, 7, 26, 27] ?_
      refine Run.seq ?_
      refine Run.block ?_
      refine Run.seq ?_
      have fx := And.intro hst (And.intro hg (And.intro hx0 (And.intro hx (And.intro wk (And.intro hk0 (And.intro (@Int.toNat_natCast) (And.intro (@ge_iff_le Int _) (And.intro (@gt_iff_lt Int _) (And.intro hp (And.intro hn0 (And.intro d4 (And.intro d3 (And.intro d2 (And.intro d1 ft))))))))))))))
      refine Run.go ?_
      refine End.kp [0, 1, 7, 8, 26, 27] ?_
      refine Run.go ?_
      refine End.blk ?_
      refine End.kp [0, 1, 7, 26, 27] ?_
      refine Run.go ?_
      refine End.lp ?_
      refine ⟨2 ^ n - (k + 1), _, by omega, Ghost.form [(0, .u t), (1, .i mask), (7, .u (tw f (k + 1))), (26, .i (2 ^ n : Nat)), (27, .i (k + 1 : Nat))] 0 ⟨rfl, rfl, rfl, rfl, rfl, trivial⟩ rfl rfl, k + 1, rfl, by omega, rfl⟩
    · have hb3 := of_decide_eq_false hb
      have hkN : k = 2 ^ n := by omega
      subst hkN
      refine Run.exit rfl ?_
      refine End.kp [7] ?_
      refine Run.seq ?_
      have fx := And.intro hk0 (And.intro (@Int.toNat_natCast) (And.intro (@ge_iff_le Int _) (And.intro (@gt_iff_lt Int _) (And.intro hp (And.intro hn0 (And.intro d4 (And.intro d3 (And.intro d2 (And.intro d1 ft)))))))))
      refine Run.go ?_
      refine End.kp [6] ?_
      refine Run.ret (hQ _ _ ⟨.inr rfl, _, rfl, _, rfl, ?_⟩)
      exact ⟨by rw [hf], rfl⟩
theorem Depends_ok (t : Int) (up : Frs) : ACalls Try.prog 43 [.u t, .i 6] up fun r u => r = .im (.sl (ints (nI (depL t 6)))) ∧ u = up := by
  have hM : ∀ up, ACalls Try.prog 80 [.i 6] up fun v u => v = .u 18446744073709551615 ∧ u = up := fun up => (Mask_ok 6 (by omega) up).mono fun v u h => ⟨h.1.trans (congrArg PV.u (by decide)), h.2⟩
  refine ACalls.code Try.func43 rfl 32 rfl (by simp) [.tmp 4] rfl fun Q hQ => ?_
  simp only [ups, PV.up, argEnv]
  have ft := And.intro ty_3 (And.intro ty_4 (And.intro ty_22 (And.intro ty_37 trivial)))
  refine Run.seq ?_
  have fx := ft
  refine Run.go ?_
  refine End.kp [0, 1] ?_
  refine Run.seq ?_
  refine Run.go ?_
  refine End.kp [0, 1, 5] ?_
  refine Run.seq ?_
  refine Run.seq ?_
  refine Run.go ?_
  refine End.kp [0, 1, 5, 9, 10] ?_
  refine Run.block ?_
  refine Run.ghost (Ghost.thaw (u := 5) 3 1 (by decide) rfl) ?_
  refine Run.ghost (Ghost.form [(0, .u t), (1, .i 6), (5, .ms 0 0 (depL t 0).length), (9, .i 6), (10, .i (0 : Nat))] 1 ⟨rfl, rfl, rfl, rfl, rfl, trivial⟩ rfl rfl) ?_
  refine Run.loop (fun m s => ∃ i : Nat, m = 6 - i ∧ i ≤ 6 ∧ s = ⟨[(0, .u t), (1, .i 6), (5, .ms 0 0 (depL t i).length), (9, .i 6), (10, .i (i : Nat))], [.row 3 1 (ints (nI (depL t i))) 0], up⟩) 6 ⟨0, rfl, by omega, rfl⟩ fun m s hI => ?_
  obtain ⟨i, rfl, hi, rfl⟩ := hI
  have hdl := nI_len (depL t i)
  have hd6 : (depL t i).length ≤ 6 := Nat.le_trans (List.length_filter_le _ _) (by simp; omega)
  have hap : ((depL t i).length + 1) * 8 ≤ 140737488355328 := by omega
  refine Run.seq ?_
  have fx := And.intro hap (And.intro hdl ft)
  refine Run.go ?_
  refine End.kp [0, 1, 5, 9, 10, 11] ?_
  refine Run.seq ?_
  refine Run.cond _ rfl (fun hb => ?_) (fun hb => ?_)
  · have hb2 := of_decide_eq_true hb
    have hin : i < 6 := by omega
    have wi := wsucc hin (by omega)
    refine Run.skip ?_
    refine End.kp [0, 1, 5, 9, 10] ?_
    refine Run.seq ?_
    refine Run.block ?_
    refine Run.seq ?_
    have fx := And.intro wi (And.intro hap (And.intro hdl ft))
    refine Run.go ?_
    refine End.kp [0, 1, 5, 6, 9, 10] ?_
    refine Run.seq ?_
    refine Run.region rfl fun K hK => GOps.sim ?_
    refine GOps.call rfl rfl rfl rfl (by kernel_rfl) (ACalls.sim ?_)
    refine (hM _).mono fun v u hv => ?_
    obtain ⟨rfl, rfl⟩ := hv
    refine ⟨_, _, rfl, GOps.sim ?_⟩
    refine GOps.done (hK _ ?_); clear hK K
    refine End.kp [0, 1, 5, 6, 7, 9, 10] ?_
    refine Run.seq ?_
    refine Run.region rfl fun K hK => GOps.sim ?_
    refine GOps.call rfl rfl rfl rfl (by kernel_rfl) (ACalls.sim ?_)
    refine (Cofactor_ok t i hin false _).mono fun v u hv => ?_
    obtain ⟨rfl, rfl⟩ := hv
    refine ⟨_, _, rfl, GOps.sim ?_⟩
    refine GOps.call rfl rfl rfl rfl (by kernel_rfl) (ACalls.sim ?_)
    refine (Cofactor_ok t i hin true _).mono fun v u hv => ?_
    obtain ⟨rfl, rfl⟩ := hv
    refine ⟨_, _, rfl, GOps.sim ?_⟩
    refine GOps.done (hK _ ?_); clear hK K
    refine End.kp [0, 1, 5, 6, 9, 10, 25] ?_
    refine Run.cond _ rfl (fun hb => ?_) (fun hb => ?_)
    · have hb3 : depB t i = true := hb
      have hds := depL_succ t i
      rw [if_pos hb3] at hds
      have fx := And.intro wi (And.intro hap (And.intro hdl ft))
      refine Run.go ?_
      refine End.blk ?_
      refine End.kp [0, 1, 5, 9, 10] ?_
      refine Run.go ?_
      refine End.lp ?_
      have hlnx : (depL t (i + 1)).length = (depL t i).length + 1 := by rw [hds]; simp
      refine ⟨6 - (i + 1), _, by omega, Ghost.form [(0, .u t), (1, .i 6), (5, .ms 0 0 ((depL t i).length + 1)), (9, .i 6), (10, .i (i + 1 : Nat))] 1 ⟨rfl, rfl, rfl, rfl, rfl, trivial⟩ rfl rfl, i + 1, rfl, by omega, ?_⟩
      rw [hlnx, hds]
      simp
    · have hb3 : ¬ depB t i = true := by
        intro e
        rw [depB] at e
        rw [e] at hb
        simp at hb
      have hds := depL_succ t i
      rw [if_neg hb3] at hds
      refine Run.skip ?_
      refine End.blk ?_
      refine End.kp [0, 1, 5, 9, 10] ?_
      have fx := And.intro wi (And.intro hap (And.intro hdl ft))
      refine Run.go ?_
      refine End.lp ?_
      refine ⟨6 - (i + 1), _, by omega, Ghost.form [(0, .u t), (1, .i 6), (5, .ms 0 0 (depL t i).length), (9, .i 6), (10, .i (i + 1 : Nat))] 1 ⟨rfl, rfl, rfl, rfl, rfl, trivial⟩ rfl rfl, i + 1, rfl, by omega, ?_⟩
      rw [hds]
      rfl
  · have hb2 := of_decide_eq_false hb
    have hiN : i = 6 := by omega
    subst hiN
    refine Run.exit rfl ?_
    refine End.kp [5] ?_
    refine Run.seq ?_
    refine Run.ghost (Ghost.shut (t := 5) (j := 0) rfl rfl hdl) ?_
    simp only [eput, edel]
    have fx := And.intro hap (And.intro hdl ft)
    refine Run.go ?_
    refine End.kp [4] ?_
    refine Run.ret (hQ _ _ ⟨.inr rfl, _, rfl, _, rfl, ?_⟩)
    exact ⟨rfl, rfl⟩
end Go.Proofs.YtkmnmokjlpenhaaPi
