/- The walk of CutParts. -/
import Derived.Test.YtkmnmokjlpenhaaWHA
import Derived.Test.YtkmnmokjlpenhaaPiIns
set_option linter.unusedVariables false
set_option linter.unusedSimpArgs false
set_option maxRecDepth 100000
namespace Go.Proofs.YtkmnmokjlpenhaaPi
set_option maxHeartbeats 4000000
theorem tabled1 : (bits .and .u64 (varW 1) 15 == 12) = true := by decide +kernel
theorem tabled2 : (bits .and .u64 (cofW 8 0 true) 15 == 12) = true := by decide +kernel
theorem insL_nI (L : List Nat) (i x : Nat) : insL (nI L) i (x : Int) = nI (insN L i x) := by simp [insL, insN, List.map_take, List.map_drop]
theorem nodup_bound : ∀ (n : Nat) (L : List Nat), L.Nodup → (∀ x ∈ L, x < n) → L.length ≤ n
  | 0, L, _, h => by
    cases L with
    | nil => simp
    | cons x L => have := h x (by simp); omega
  | n + 1, L, hnd, h => by
    have h1 := nodup_bound n (L.erase n) (hnd.erase n) (fun x hx => by
      have hm := (hnd.mem_erase_iff).1 hx
      have := h x hm.2
      have := hm.1
      omega)
    have h2 := List.length_erase (a := n) (l := L)
    split at h2 <;> omega
/-- The first i places of an order are laid back. -/
structure Backed (L B : List Nat) (i : Nat) : Prop where
  len : B.length = 6
  at_ : ∀ j, j < i → B.getD (L.getD j 0) 0 = j
theorem Backed.step {L B : List Nat} {i x : Nat} (h : Backed L B i) (hnd : L.Nodup) (hl : i < L.length) (hx : L[i]? = some x) (hx6 : x < 6) : Backed L (B.set x i) (i + 1) := by
  refine ⟨by rw [List.length_set, h.len], fun j hj => ?_⟩
  have hxl : x < B.length := by rw [h.len]; exact hx6
  by_cases e : j = i
  · subst e
    rw [show L.getD j 0 = x by simp [hx]]
    simp [hxl]
  · have hji : j < i := by omega
    have hne : L.getD j 0 ≠ x := by
      have h1 := List.pairwise_iff_getElem.1 hnd j i (by omega) hl hji
      have h2 := (List.getElem?_eq_some_iff.1 hx).2
      rw [h2] at h1
      have h3 : L.getD j 0 = L[j]'(by omega) := by simp [show j < L.length by omega]
      rw [h3]
      exact h1
    have := h.at_ j hji
    simp only [List.getD_eq_getElem?_getD] at this hne ⊢
    rw [List.getElem?_set_ne (fun e => hne e.symm)]
    exact this
theorem Backed.undo {L B : List Nat} (h : Backed L B 6) (hl : L.length = 6) (hlt : ∀ x ∈ L, x < 6) : Undo L B := ⟨hl, h.len, fun j hj => by
  have : L.getD j 0 = L[j]'(by omega) := by simp [show j < L.length by omega]
  rw [this]
  exact hlt _ (List.getElem_mem _), h.at_⟩
theorem Undo.lt2 {L B : List Nat} (h : Undo L B) (hlt : ∀ x ∈ L, x < 6) (hnd : L.Nodup) (hB : ∀ x ∈ B, x < 6) : B.Nodup := by
  refine List.pairwise_iff_getElem.2 fun p q hp hq hpq e => ?_
  have h6 := h.b6
  have hperm : ∀ y, y < 6 → ∃ j, j < 6 ∧ L.getD j 0 = y := by
    intro y hy
    have hm : y ∈ L := Classical.byContradiction fun hno => by
      have := nodup_bound 6 (y :: L) (List.nodup_cons.2 ⟨hno, hnd⟩) (fun x hx => by
        rcases List.mem_cons.1 hx with rfl | h
        · exact hy
        · exact hlt x h)
      have h6 := h.l6
      simp at this
      omega
    obtain ⟨j, hj, e⟩ := List.getElem_of_mem hm
    exact ⟨j, by rw [h.l6] at hj; exact hj, by simp [hj, e]⟩
  obtain ⟨a, ha, ha2⟩ := hperm p (by omega)
  obtain ⟨b, hb, hb2⟩ := hperm q (by omega)
  have h1 := h.back a ha
  have h2 := h.back b hb
  rw [ha2] at h1
  rw [hb2] at h2
  have h3 : B.getD p 0 = B[p] := by simp [hp]
  have h4 : B.getD q 0 = B[q] := by simp [hq]
  have : a = b := by rw [← h1, ← h2, h3, h4, e]
  subst this
  omega
theorem tabled_ok (up : Frs) : ACalls Try.prog 39 [] up fun v u => v = .im (.bool true) ∧ u = up := by
  refine ACalls.code Try.func39 rfl 9 rfl (by simp) [.tmp 0] rfl fun Q hQ => ?_
  simp only [ups, PV.up, argEnv]
  have ft := And.intro ty_3 (And.intro ty_4 (And.intro ty_37 trivial))
  refine Run.seq ?_
  have fx := And.intro tabled2 (And.intro tabled1 ft)
  refine Run.go ?_
  refine End.kp [] ?_
  refine Run.seq ?_
  refine Run.region rfl fun K hK => GOps.sim ?_
  refine GOps.call rfl rfl rfl rfl (by kernel_rfl) (ACalls.sim ?_)
  refine (Var_ok 1 (by omega) _).mono fun v u hv => ?_
  obtain ⟨rfl, rfl⟩ := hv
  refine ⟨_, _, rfl, GOps.sim ?_⟩
  refine GOps.call rfl rfl rfl rfl (by kernel_rfl) (ACalls.sim ?_)
  refine (Cofactor_ok 8 0 (by omega) true _).mono fun v u hv => ?_
  obtain ⟨rfl, rfl⟩ := hv
  refine ⟨_, _, rfl, GOps.sim ?_⟩
  refine GOps.done (hK _ ?_); clear hK K
  refine End.kp [0] ?_
  refine Run.ret (hQ _ _ ⟨.inr rfl, _, rfl, _, rfl, ?_⟩)
  exact ⟨rfl, rfl⟩
theorem Cut_walk (t i0 m0 : Int) (l : List Int) (ht : U64 t) (hi0 : I64 i0) (hm0 : I64 m0) (hs : StmOk l 0) (up : Frs) : ACalls Try.prog 6 [.u t, .i i0, .i m0, .im (.sl (ints l))] up fun v u => v = .im (.bool true) ∧ u = up := by
  have ok : ∀ b : Int, 0 ≤ b → b ≤ 100000 → StmOk l b := fun b h1 h2 => ⟨hs.vals, hs.len, h1, by omega⟩
  obtain ⟨n1, n2⟩ := below_range i0 6 (by omega)
  obtain ⟨n3, n4⟩ := below_range m0 64 (by omega)
  have hB1 := Below_ok i0 6 hi0 ⟨by omega, by omega⟩
  have hB2 := Below_ok m0 64 hm0 ⟨by omega, by omega⟩
  obtain ⟨i, hi⟩ : ∃ i : Nat, below i0 6 = i := ⟨(below i0 6).toNat, by omega⟩
  obtain ⟨m, hm⟩ : ∃ m : Nat, below m0 64 = m := ⟨(below m0 64).toNat, by omega⟩
  rw [hi] at hB1 n1 n2
  rw [hm] at hB2 n3 n4
  have hi6 : i < 6 := by omega
  have hm64 : m < 64 := by omega
  have hwhole := whole_law ht hi6
  rw [vnot] at hwhole
  refine ACalls.code Try.func6 rfl 100 rfl (by simp) [.tmp 8] rfl fun Q hQ => ?_
  simp only [ups, PV.up, argEnv]
  have ft := And.intro ty_2 (And.intro ty_3 (And.intro ty_4 (And.intro ty_5 (And.intro ty_6 (And.intro ty_22 (And.intro ty_23 (And.intro ty_25 (And.intro ty_37 trivial))))))))
  refine Run.seq ?_
  have fx := And.intro hwhole ft
  refine Run.go ?_
  refine End.kp [0, 1, 2, 3] ?_
  refine Run.seq ?_
  refine Run.region rfl fun K hK => GOps.sim ?_
  refine GOps.call rfl rfl rfl rfl (by kernel_rfl) (ACalls.sim ?_)
  refine (hB1 _).mono fun v u hv => ?_
  obtain ⟨rfl, rfl⟩ := hv
  refine ⟨_, _, rfl, GOps.sim ?_⟩
  refine GOps.done (hK _ ?_); clear hK K
  refine End.kp [0, 1, 2, 3] ?_
  refine Run.seq ?_
  refine Run.region rfl fun K hK => GOps.sim ?_
  refine GOps.call rfl rfl rfl rfl (by kernel_rfl) (ACalls.sim ?_)
  refine (Var_ok i hi6 _).mono fun v u hv => ?_
  obtain ⟨rfl, rfl⟩ := hv
  refine ⟨_, _, rfl, GOps.sim ?_⟩
  refine GOps.done (hK _ ?_); clear hK K
  refine End.kp [0, 1, 2, 3, 9] ?_
  refine Run.seq ?_
  refine Run.region rfl fun K hK => GOps.sim ?_
  refine GOps.call rfl rfl rfl rfl (by kernel_rfl) (ACalls.sim ?_)
  refine (hB2 _).mono fun v u hv => ?_
  obtain ⟨rfl, rfl⟩ := hv
  refine ⟨_, _, rfl, GOps.sim ?_⟩
  refine GOps.done (hK _ ?_); clear hK K
  refine End.kp [0, 1, 2, 3, 9] ?_
  refine Run.seq ?_
  refine Run.go ?_
  refine End.kp [0, 1, 2, 3, 9, 10, 11] ?_
  refine Run.seq ?_
  refine Run.go ?_
  refine End.kp [0, 1, 2, 9, 10, 11, 12] ?_
  refine Run.seq ?_
  refine Run.seq ?_
  refine Run.go ?_
  refine End.kp [0, 1, 2, 9, 10, 11, 12, 28] ?_
  refine Run.block ?_
  refine Run.ghost (Ghost.form [(0, .u t), (1, .i i), (2, .i m), (9, .u (varW i)), (10, .ms 0 0 0), (11, .ms 0 1 6), (12, .ptr 0 2 0), (28, .i (0 : Nat))] 3 ⟨rfl, rfl, rfl, rfl, rfl, rfl, rfl, rfl, trivial⟩ rfl rfl) ?_
  refine Run.loop (fun m' s => ∃ (k : Nat) (L : List Nat), m' = 6 - k ∧ k ≤ 6 ∧ L.length = k ∧ L.Nodup ∧ (∀ x ∈ L, x < k) ∧ s = ⟨[(0, .u t), (1, .i i), (2, .i m), (9, .u (varW i)), (10, .ms 0 0 k), (11, .ms 0 1 6), (12, .ptr 0 2 0), (28, .i (k : Nat))], [.row 3 1 (ints (nI L)) 0, .row 3 1 (ints (nI [0, 0, 0, 0, 0, 0])) 0, stm l k], up⟩) 6 ⟨0, [], rfl, by omega, rfl, List.nodup_nil, by simp, rfl⟩ fun m' s hI => ?_
  obtain ⟨k, L, rfl, hk, hLl, hnd, hlt, rfl⟩ := hI
  have hnl := nI_len L
  refine Run.seq ?_
  have fx := And.intro hLl (And.intro hnl (And.intro hwhole ft))
  refine Run.go ?_
  refine End.kp [0, 1, 2, 9, 10, 11, 12, 28, 29] ?_
  refine Run.seq ?_
  refine Run.cond _ rfl (fun hb => ?_) (fun hb => ?_)
  · have hb2 := of_decide_eq_true hb
    have hkn : k < 6 := by omega
    have wk := wsucc hkn (by omega)
    obtain ⟨y1, y2⟩ := nextV_range l k ((k + 1 : Nat) : Int) (by omega)
    have hN := Next_ok l k ((k + 1 : Nat) : Int) (ok _ (by omega) (by omega)) ⟨by omega, by omega⟩
    obtain ⟨y, hy⟩ : ∃ y : Nat, nextV l k ((k + 1 : Nat) : Int) = y := ⟨(nextV l k ((k + 1 : Nat) : Int)).toNat, by omega⟩
    rw [hy] at hN y1 y2
    have hins := insL_nI L y k
    have hil := insN_len L y k (by omega)
    have hnl2 : (nI L).length = k := by simp [hLl]
    have hk1 : ((k : Int) + 1) = ((k + 1 : Nat) : Int) := by omega
    refine Run.skip ?_
    refine End.kp [0, 1, 2, 9, 10, 11, 12, 28] ?_
    refine Run.seq ?_
    refine Run.block ?_
    refine Run.seq ?_
    have fx := And.intro hins (And.intro wk (And.intro hLl (And.intro hnl (And.intro hwhole ft))))
    refine Run.go ?_
    refine End.kp [0, 1, 2, 9, 10, 11, 12, 13, 28] ?_
    refine Run.region rfl fun K hK => GOps.sim ?_
    refine GOps.call rfl rfl rfl rfl (by kernel_rfl) (ACalls.sim ?_)
    refine (hN ([_, _, _] :: up) 0 2 rfl).mono fun v u hv => ?_
    obtain ⟨rfl, rfl⟩ := hv
    refine ⟨_, _, rfl, GOps.sim ?_⟩
    refine GOps.callM rfl rfl rfl rfl (by kernel_rfl) (ACalls.sim ?_)
    refine (insI_ok 0 3 k y k (nI L) 0 _ _ rfl rfl (by omega) hnl2 (by omega) (by omega)).mono fun v u hv => ?_
    obtain ⟨rfl, rfl⟩ := hv
    refine ⟨_, _, rfl, GOps.sim ?_⟩
    refine GOps.done (hK _ ?_); clear hK K
    refine End.blk ?_
    refine End.kp [0, 1, 2, 9, 10, 11, 12, 28] ?_
    refine Run.go ?_
    refine End.lp ?_
    refine ⟨6 - (k + 1), _, by omega, Ghost.form [(0, .u t), (1, .i i), (2, .i m), (9, .u (varW i)), (10, .ms 0 0 (k + 1)), (11, .ms 0 1 6), (12, .ptr 0 2 0), (28, .i (k + 1 : Nat))] 3 ⟨rfl, rfl, rfl, rfl, rfl, rfl, rfl, rfl, trivial⟩ rfl rfl, k + 1, insN L y k, rfl, by omega, by rw [hil, hLl], ?_, ?_, rfl⟩
    · exact (insN_perm L y k).nodup_iff.2 (List.nodup_cons.2 ⟨fun h => by have := hlt k h; omega, hnd⟩)
    · intro x hx
      rcases List.mem_cons.1 ((insN_perm L y k).mem_iff.1 hx) with rfl | h
      · omega
      · have := hlt x h; omega
  · have hb2 := of_decide_eq_false hb
    have hkN : k = 6 := by omega
    subst hkN
    refine Run.exit rfl ?_
    refine End.kp [0, 1, 2, 9, 10, 11, 12] ?_
    refine Run.seq ?_
    refine Run.seq ?_
    have fx := And.intro hLl (And.intro hnl (And.intro hwhole ft))
    refine Run.go ?_
    refine End.kp [0, 1, 2, 9, 10, 11, 12, 40, 41, 42] ?_
    refine Run.block ?_
    refine Run.ghost (Ghost.form [(0, .u t), (1, .i i), (2, .i m), (9, .u (varW i)), (10, .ms 0 0 6), (11, .ms 0 1 6), (12, .ptr 0 2 0), (40, .ms 0 0 6), (41, .i 6), (42, .i (0 : Nat))] 3 ⟨rfl, rfl, rfl, rfl, rfl, rfl, rfl, rfl, rfl, rfl, trivial⟩ rfl rfl) ?_
    refine Run.loop (fun m' s => ∃ (j : Nat) (B : List Nat), m' = 6 - j ∧ j ≤ 6 ∧ Backed L B j ∧ (∀ x ∈ B, x < 6) ∧ s = ⟨[(0, .u t), (1, .i i), (2, .i m), (9, .u (varW i)), (10, .ms 0 0 6), (11, .ms 0 1 6), (12, .ptr 0 2 0), (40, .ms 0 0 6), (41, .i 6), (42, .i (j : Nat))], [.row 3 1 (ints (nI L)) 0, .row 3 1 (ints (nI B)) 0, stm l 6], up⟩) 6 ⟨0, [0, 0, 0, 0, 0, 0], rfl, by omega, ⟨rfl, fun j hj => by omega⟩, by simp, rfl⟩ fun m' s hI => ?_
    obtain ⟨j, B, rfl, hj, hBk, hB6, rfl⟩ := hI
    have hBl := hBk.len
    have hbl := nI_len B
    refine Run.seq ?_
    have fx := And.intro hBl (And.intro hbl (And.intro hLl (And.intro hnl (And.intro hwhole ft))))
    refine Run.go ?_
    refine End.kp [0, 1, 2, 9, 10, 11, 12, 40, 41, 42, 43] ?_
    refine Run.seq ?_
    refine Run.cond _ rfl (fun hb => ?_) (fun hb => ?_)
    · have hb3 := of_decide_eq_true hb
      have hjn : j < 6 := by omega
      have wj := wsucc hjn (by omega)
      obtain ⟨x, hx1, hx2, hx3, hx4⟩ := nI_at L j (by omega)
      have hx6 := hlt x hx2
      obtain ⟨z, hz1, hz2, hz3, hz4⟩ := nI_at B x (by omega)
      have hset : (ints (nI B)).set x [.int .i64 (j : Int)] = ints (nI (B.set x j)) := by simp [List.map_set]
      have hj6 : (j : Int) < ((6 : Nat) : Int) := by omega
      have hx7 : (x : Int) < ((6 : Nat) : Int) := by omega
      refine Run.skip ?_
      refine End.kp [0, 1, 2, 9, 10, 11, 12, 40, 41, 42] ?_
      refine Run.seq ?_
      refine Run.block ?_
      refine Run.seq ?_
      have fx := And.intro (@Int.toNat_natCast) (And.intro (@Int.natCast_nonneg) (And.intro hx7 (And.intro hj6 (And.intro hset (And.intro hz4 (And.intro hx4 (And.intro wj (And.intro hBl (And.intro hbl (And.intro hLl (And.intro hnl (And.intro hwhole ft))))))))))))
      refine Run.go ?_
      refine End.kp [0, 1, 2, 9, 10, 11, 12, 14, 15, 40, 41, 42] ?_
      refine Run.go ?_
      refine End.blk ?_
      refine End.kp [0, 1, 2, 9, 10, 11, 12, 40, 41, 42] ?_
      refine Run.go ?_
      refine End.lp ?_
      refine ⟨6 - (j + 1), _, by omega, Ghost.form [(0, .u t), (1, .i i), (2, .i m), (9, .u (varW i)), (10, .ms 0 0 6), (11, .ms 0 1 6), (12, .ptr 0 2 0), (40, .ms 0 0 6), (41, .i 6), (42, .i (j + 1 : Nat))] 3 ⟨rfl, rfl, rfl, rfl, rfl, rfl, rfl, rfl, rfl, rfl, trivial⟩ rfl rfl, j + 1, B.set x j, rfl, by omega, hBk.step hnd (by omega) hx1 hx6, fun q hq => ?_, rfl⟩
      rcases List.mem_or_eq_of_mem_set hq with h | rfl
      · exact hB6 q h
      · omega
    · have hb3 := of_decide_eq_false hb
      have hjN : j = 6 := by omega
      subst hjN
      have hU := hBk.undo hLl hlt
      have hMM := move_law ht hU
      have hFF := flip_law ht hm64
      have hBn := hU.lt2 hlt hnd hB6
      generalize hM1 : tw (moveF t L) 64 = t1 at hMM
      generalize hF1 : tw (flipF t m) 64 = t2 at hFF
      have ht1 : U64 t1 := by rw [← hM1]; exact tw_u64 _ _
      have ht2 : U64 t2 := by rw [← hF1]; exact tw_u64 _ _
      have hC8 := fun up => Move_ok t ht L 6 (by omega) (by omega) hlt hnd up
      have hC9 := fun up => Move_ok t1 ht1 B 6 (by omega) (by omega) hB6 hBn up
      have hC10 := fun up => Flip_ok t ht m 6 (by omega) hm64 up
      have hC11 := fun up => Flip_ok t2 ht2 m 6 (by omega) hm64 up
      rw [show (2 : Nat) ^ 6 = 64 from rfl] at hC8 hC9 hC10 hC11
      rw [hM1] at hC8
      rw [hMM] at hC9
      rw [hF1] at hC10
      rw [hFF] at hC11
      refine Run.exit rfl ?_
      refine End.kp [0, 1, 2, 9, 10, 11, 12] ?_
      refine Run.seq ?_
      have fx := And.intro hBl (And.intro hbl (And.intro hLl (And.intro hnl (And.intro hwhole ft))))
      refine Run.region rfl fun K hK => GOps.sim ?_
      refine GOps.call rfl rfl rfl rfl (by kernel_rfl) (ACalls.sim ?_)
      refine (Cofactor_ok t i hi6 true _).mono fun v u hv => ?_
      obtain ⟨rfl, rfl⟩ := hv
      refine ⟨_, _, rfl, GOps.sim ?_⟩
      refine GOps.call rfl rfl rfl rfl (by kernel_rfl) (ACalls.sim ?_)
      refine (Cofactor_ok t i hi6 false _).mono fun v u hv => ?_
      obtain ⟨rfl, rfl⟩ := hv
      refine ⟨_, _, rfl, GOps.sim ?_⟩
      refine GOps.done (hK _ ?_); clear hK K
      refine End.kp [0, 1, 2, 10, 11, 12, 16] ?_
      refine Run.seq ?_
      refine Run.region rfl fun K hK => GOps.sim ?_
      refine GOps.call rfl rfl rfl rfl (by kernel_rfl) (ACalls.sim ?_)
      refine (tabled_ok _).mono fun v u hv => ?_
      obtain ⟨rfl, rfl⟩ := hv
      refine ⟨_, _, rfl, GOps.sim ?_⟩
      refine GOps.call rfl rfl rfl rfl (by kernel_rfl) (ACalls.sim ?_)
      refine (hC8 _).mono fun v u hv => ?_
      obtain ⟨rfl, rfl⟩ := hv
      refine ⟨_, _, rfl, GOps.sim ?_⟩
      refine GOps.call rfl rfl rfl rfl (by kernel_rfl) (ACalls.sim ?_)
      refine (hC9 _).mono fun v u hv => ?_
      obtain ⟨rfl, rfl⟩ := hv
      refine ⟨_, _, rfl, GOps.sim ?_⟩
      refine GOps.call rfl rfl rfl rfl (by kernel_rfl) (ACalls.sim ?_)
      refine (hC10 _).mono fun v u hv => ?_
      obtain ⟨rfl, rfl⟩ := hv
      refine ⟨_, _, rfl, GOps.sim ?_⟩
      refine GOps.call rfl rfl rfl rfl (by kernel_rfl) (ACalls.sim ?_)
      refine (hC11 _).mono fun v u hv => ?_
      obtain ⟨rfl, rfl⟩ := hv
      refine ⟨_, _, rfl, GOps.sim ?_⟩
      refine GOps.call rfl rfl rfl rfl (by kernel_rfl) (ACalls.sim ?_)
      refine (Next_ok l 6 2 (ok _ (by omega) (by omega)) ⟨by omega, by omega⟩ ([_, _, _] :: up) 0 2 rfl).mono fun v u hv => ?_
      obtain ⟨rfl, rfl⟩ := hv
      refine ⟨_, _, rfl, GOps.sim ?_⟩
      refine GOps.call rfl rfl rfl rfl (by kernel_rfl) (ACalls.sim ?_)
      refine (Cofactor_ok t i hi6 (nextV l 6 2 == 0) _).mono fun v u hv => ?_
      obtain ⟨rfl, rfl⟩ := hv
      refine ⟨_, _, rfl, GOps.sim ?_⟩
      refine GOps.call rfl rfl rfl rfl (by kernel_rfl) (ACalls.sim ?_)
      refine (Depends_ok _ _).mono fun v u hv => ?_
      obtain ⟨rfl, rfl⟩ := hv
      refine ⟨_, _, rfl, GOps.sim ?_⟩
      refine GOps.call rfl rfl rfl rfl (by kernel_rfl) (ACalls.sim ?_)
      refine (ContainsI_no _ _ (dep_no ht hi6 (nextV l 6 2 == 0)) (by simp; exact Nat.le_trans (List.length_filter_le _ _) (by simp)) _).mono fun v u hv => ?_
      obtain ⟨rfl, rfl⟩ := hv
      refine ⟨_, _, rfl, GOps.sim ?_⟩
      refine GOps.done (hK _ ?_); clear hK K
      refine End.kp [8] ?_
      refine Run.ret (hQ _ _ ⟨.inr rfl, _, rfl, _, rfl, ?_⟩)
      exact ⟨rfl, rfl⟩
end Go.Proofs.YtkmnmokjlpenhaaPi
