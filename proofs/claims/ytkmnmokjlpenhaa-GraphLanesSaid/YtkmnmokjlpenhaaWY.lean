/- The walks of New, known, And, graphs, slices.Equal. -/
import Derived.Test.YtkmnmokjlpenhaaWX
import Derived.Test.YtkmnmokjlpenhaaWQ
set_option linter.unusedVariables false
set_option linter.unusedSimpArgs false
set_option maxRecDepth 100000
namespace Go.Proofs.YtkmnmokjlpenhaaPi
set_option maxHeartbeats 4000000
theorem CloneR_nil (up : Frs) : ACalls Try.prog 112 [.im (.sl (([] : List LReg).map LReg.im))] up fun v u => v = .im (.sl (([] : List LReg).map LReg.im)) ∧ u = up := by
  refine ACalls.code Try.func112 rfl 8 rfl (by simp) [.tmp 2] rfl fun Q hQ => ?_
  simp only [ups, PV.up, argEnv]
  have ft := And.intro ty_4 (And.intro ty_47 (And.intro ty_69 trivial))
  refine Run.seq ?_
  have fx := And.intro (@List.map_nil.{0, 0}) ft
  refine Run.go ?_
  refine End.kp [0] ?_
  refine Run.seq ?_
  refine Run.seq ?_
  refine Run.go ?_
  refine End.kp [0, 4] ?_
  refine Run.cond_any rfl ?_ ?_
  · skip
    refine Run.seq ?_
    have fx := And.intro (@List.map_nil.{0, 0}) ft
    refine Run.go ?_
    refine End.kp [2] ?_
    refine Run.resC hQ ?_
    exact ⟨rfl, rfl⟩
  · skip
    refine Run.skip ?_
    refine End.kp [0] ?_
    refine Run.seq ?_
    have fx := And.intro (@List.map_nil.{0, 0}) ft
    refine Run.go ?_
    refine End.kp [2] ?_
    refine Run.resC hQ ?_
    exact ⟨rfl, rfl⟩
theorem CloneR_cons (x : LReg) (xs : List LReg) (h : xs.length ≤ 1000000) (up : Frs) : ACalls Try.prog 112 [.im (.sl ((x :: xs).map LReg.im))] up fun v u => v = .im (.sl ((x :: xs).map LReg.im)) ∧ u = up := by
  have hall : (xs.map LReg.im).all (fun r => r.length == 3) = true := by simp
  have hlen : ((xs.map LReg.im).length + 1) * 32 ≤ 140737488355328 := by rw [List.length_map]; omega
  refine ACalls.code Try.func112 rfl 8 rfl (by simp) [.tmp 2] rfl fun Q hQ => ?_
  simp only [ups, PV.up, argEnv]
  have ft := And.intro ty_4 (And.intro ty_47 (And.intro ty_69 trivial))
  refine Run.seq ?_
  have fx := And.intro hlen (And.intro hall (And.intro (@List.map_cons.{0, 0}) ft))
  refine Run.go ?_
  refine End.kp [0] ?_
  refine Run.seq ?_
  refine Run.seq ?_
  refine Run.go ?_
  refine End.kp [0, 4] ?_
  refine Run.cond _ rfl (fun hb => ?_) (fun hb => ?_)
  · have hb := hb
    simp at hb
  · have hb := hb
    refine Run.skip ?_
    refine End.kp [0] ?_
    refine Run.seq ?_
    have fx := And.intro hlen (And.intro hall (And.intro (@List.map_cons.{0, 0}) ft))
    refine Run.go ?_
    refine End.move (Ghost.shut (t := 2) (j := 0) rfl rfl rfl) ?_
    simp only [eput, edel]
    refine End.kp [2] ?_
    refine Run.ret (hQ _ _ ⟨.inr rfl, _, rfl, _, rfl, ?_⟩)
    exact ⟨rfl, rfl⟩
theorem CloneR_ok (q : List LReg) (h : q.length ≤ 1000000) (up : Frs) : ACalls Try.prog 112 [.im (.sl (q.map LReg.im))] up fun v u => v = .im (.sl (q.map LReg.im)) ∧ u = up := by
  cases q with
  | nil => exact CloneR_nil up
  | cons x xs => exact CloneR_cons x xs (by simp at h; omega) up
theorem New_ok (inn : List ByteArray) (regs : List LReg) (h1 : inn.length ≤ 1000) (h2 : regs.length ≤ 1000) (f : List AObj) (rest : Frs) : ACalls Try.prog 61 [.im (.sl (strs inn)), .im (.sl (regs.map LReg.im))] (f :: rest) fun v u =>
    v = .ptr 0 (f.length + 1) 0 ∧ u = (f ++ [mkMap ⟨inn, regs, [], 0⟩, mkBox (f.length + 2) (f.length + 0) ⟨inn, regs, [], 0⟩, mkRow ⟨inn, regs, [], 0⟩]) :: rest := by
  refine ACalls.codeX Try.func61 rfl 12 rfl (by simp) [.tmp 4] rfl fun Q hQ => ?_
  simp only [ups, PV.up, argEnv]
  have ft := And.intro ty_3 (And.intro ty_9 (And.intro ty_26 (And.intro ty_47 (And.intro ty_69 (And.intro ty_109 (And.intro ty_168 (And.intro ty_170 trivial)))))))
  refine Run.seq ?_
  have fx := ft
  refine Run.go ?_
  refine End.kp [0, 1] ?_
  refine Run.seq ?_
  refine Run.region rfl fun K hK => GOps.sim ?_
  refine GOps.call rfl rfl rfl rfl (by kernel_rfl) (ACalls.sim ?_)
  refine (CloneS_ok inn (by omega) _).mono fun v u hv => ?_
  obtain ⟨rfl, rfl⟩ := hv
  refine ⟨_, _, rfl, GOps.sim ?_⟩
  refine GOps.call rfl rfl rfl rfl (by kernel_rfl) (ACalls.sim ?_)
  refine (CloneR_ok regs (by omega) _).mono fun v u hv => ?_
  obtain ⟨rfl, rfl⟩ := hv
  refine ⟨_, _, rfl, GOps.sim ?_⟩
  refine GOps.done (hK _ ?_); clear hK K
  refine End.move (Ghost.thawBox (j := 1) (i := 2) 137 2 (by decide) rfl rfl) ?_
  refine End.kp [4] ?_
  refine Run.ret (hQ _ _ ⟨.inr rfl, _, rfl, _, _, rfl, ?_⟩)
  exact ⟨rfl, rfl⟩
theorem mknown_ok (m : LMk) (hm : MkSmall m) (up : Frs) (d j r q : Nat) (hk : MkAt up d j r q m) (l : List Int) (hl : ∀ x ∈ l, 0 ≤ x ∧ x < 2 * (1 + (m.inn.length : Int) + m.regs.length + m.ands.length)) (hn : l.length ≤ 1000) : ACalls Try.prog 115 [.ptr d j 0, .im (.sl (ints l))] up fun v u => v = .im (.bool true) ∧ u = up := by
  have hm2 := hm
  obtain ⟨z1, z2, z3⟩ := hm
  refine ACalls.code Try.func115 rfl 21 rfl (by simp) [.tmp 4] rfl fun Q hQ => ?_
  simp only [ups, PV.up, argEnv]
  have ft := And.intro ty_3 (And.intro ty_4 (And.intro ty_34 (And.intro ty_49 (And.intro ty_62 (And.intro ty_109 trivial)))))
  refine Run.seq ?_
  have fx := And.intro ints_len ft
  refine Run.go ?_
  refine End.kp [0, 1] ?_
  refine Run.seq ?_
  refine Run.seq ?_
  refine Run.go ?_
  refine End.kp [0, 7, 8, 9] ?_
  refine Run.block ?_
  refine Run.ghost (Ghost.form [(0, .ptr (d + 1) j 0), (7, .im (.sl (ints l))), (8, .i l.length), (9, .i (0 : Nat))] 0 ⟨rfl, rfl, rfl, rfl, trivial⟩ rfl rfl) ?_
  refine Run.loop (fun m' st => ∃ i : Nat, m' = l.length - i ∧ i ≤ l.length ∧ st = ⟨[(0, .ptr (d + 1) j 0), (7, .im (.sl (ints l))), (8, .i l.length), (9, .i (i : Nat))], [], up⟩) l.length ⟨0, rfl, by omega, rfl⟩ fun m' st hI => ?_
  obtain ⟨i, rfl, hi, rfl⟩ := hI
  refine Run.seq ?_
  have fx := And.intro ints_len ft
  refine Run.go ?_
  refine End.kp [0, 7, 8, 9, 10] ?_
  refine Run.seq ?_
  refine Run.cond _ rfl (fun hb => ?_) (fun hb => ?_)
  · have hb2 := of_decide_eq_true hb
    have hin : i < l.length := by omega
    have wi := wsucc hin (by omega)
    obtain ⟨x, hxi, hxm, hx⟩ := int_at l i hin
    obtain ⟨x1, x2⟩ := hl x hxm
    refine Run.skip ?_
    refine End.kp [0, 7, 8, 9] ?_
    refine Run.seq ?_
    refine Run.block ?_
    refine Run.seq ?_
    have fx := And.intro (@Int.toNat_natCast) (And.intro (@Int.natCast_nonneg) (And.intro hx (And.intro wi (And.intro ints_len ft))))
    refine Run.go ?_
    refine End.kp [0, 6, 7, 8, 9] ?_
    refine Run.seq ?_
    refine Run.region rfl fun K hK => GOps.sim ?_
    refine GOps.call rfl rfl rfl rfl (by kernel_rfl) (ACalls.sim ?_)
    refine (mNodes_ok m hm2 _ (d + 1) j r q ⟨hk.box, hk.row, hk.map⟩).mono fun v u hv => ?_
    obtain ⟨rfl, rfl⟩ := hv
    refine ⟨_, _, rfl, GOps.sim ?_⟩
    refine GOps.call rfl rfl rfl rfl (by kernel_rfl) (ACalls.sim ?_)
    refine (before_ok x (1 + (m.inn.length : Int) + m.regs.length + m.ands.length) x1 x2 (by omega) _).mono fun v u hv => ?_
    obtain ⟨rfl, rfl⟩ := hv
    refine ⟨_, _, rfl, GOps.sim ?_⟩
    refine GOps.done (hK _ ?_); clear hK K
    refine End.kp [0, 7, 8, 9, 17] ?_
    refine Run.cond _ rfl (fun hb => ?_) (fun hb => ?_)
    · have hb2 := hb
      simp at hb
    · have hb2 := hb
      refine Run.skip ?_
      refine End.blk ?_
      refine End.kp [0, 7, 8, 9] ?_
      have fx := And.intro (@Int.toNat_natCast) (And.intro (@Int.natCast_nonneg) (And.intro hx (And.intro wi (And.intro ints_len ft))))
      refine Run.go ?_
      refine End.lp ?_
      refine ⟨l.length - (i + 1), _, by omega, Ghost.form [(0, .ptr (d + 1) j 0), (7, .im (.sl (ints l))), (8, .i l.length), (9, .i (i + 1 : Nat))] 0 ⟨rfl, rfl, rfl, rfl, trivial⟩ rfl rfl, i + 1, rfl, by omega, rfl⟩
  · have hb2 := of_decide_eq_false hb
    refine Run.exit rfl ?_
    refine End.kp [] ?_
    refine Run.seq ?_
    have fx := And.intro ints_len ft
    refine Run.go ?_
    refine End.kp [4] ?_
    refine Run.ret (hQ _ _ ⟨.inr rfl, _, rfl, _, rfl, ?_⟩)
    exact ⟨rfl, rfl⟩
theorem mand_ok (a b : Int) (m : LMk) (hm : MkSmall m) (up : Frs) (d j r q : Nat) (hk : MkAt up d j r q m) (hn : m.ands.length < 4000) (a0 : 0 ≤ a ∧ a ≤ 1000000) (b0 : 0 ≤ b ∧ b ≤ 1000000) : ACalls Try.prog 142 [.ptr d j 0, .i a, .i b] up fun v u => v = .tup [.i (mkAnd m a b).1, .im (.bool true)] ∧ u = setMk up d j r q (mkAnd m a b).2 := by
  unfold mkAnd
  by_cases h0 : min a b = 0 ∨ min a b = flipL (max a b)
  · rw [if_pos h0]
    refine (mand_zero a b h0 a0 b0 up d j).mono fun v u ⟨h1, h2⟩ => ⟨h1, by rw [h2]; exact (setMk_self hk).symm⟩
  rw [if_neg h0]
  by_cases h1 : min a b = 1 ∨ min a b = max a b
  · rw [if_pos h1]
    refine (mand_one a b h0 h1 a0 b0 up d j).mono fun v u ⟨h1, h2⟩ => ⟨h1, by rw [h2]; exact (setMk_self hk).symm⟩
  rw [if_neg h1]
  cases hf : findA (min a b, max a b) m.ands 0 with
  | some k => exact (mand_old a b h0 h1 a0 b0 m hm up d j r q hk k hf).mono fun v u ⟨h1, h2⟩ => ⟨h1, by rw [h2]; exact (setMk_self hk).symm⟩
  | none => exact mand_new a b h0 h1 a0 b0 m hm up d j r q hk hf hn
theorem mAnd_ok (a b : Int) (m : LMk) (hm : MkSmall m) (up : Frs) (d j r q : Nat) (hk : MkAt up d j r q m) (hn : m.ands.length < 4000) (a0 : 0 ≤ a ∧ a < 2 * (1 + (m.inn.length : Int) + m.regs.length + m.ands.length)) (b0 : 0 ≤ b ∧ b < 2 * (1 + (m.inn.length : Int) + m.regs.length + m.ands.length)) : ACalls Try.prog 98 [.ptr d j 0, .i a, .i b] up fun v u => v = .i (mkAnd m a b).1 ∧ u = setMk up d j r q (mkAnd m a b).2 := by
  have hm2 := hm
  obtain ⟨z1, z2, z3⟩ := hm
  refine ACalls.code Try.func98 rfl 23 rfl (by simp) [.tmp 6] rfl fun Q hQ => ?_
  simp only [ups, PV.up, argEnv]
  have ft := And.intro ty_2 (And.intro ty_4 (And.intro ty_49 (And.intro ty_62 (And.intro ty_109 trivial))))
  refine Run.seq ?_
  have fx := ft
  refine Run.go ?_
  refine End.kp [0, 1, 2] ?_
  refine Run.seq ?_
  refine Run.seq ?_
  refine Run.region rfl fun K hK => GOps.sim ?_
  refine GOps.call rfl rfl rfl rfl (by kernel_rfl) (ACalls.sim ?_)
  refine (mknown_ok m hm2 _ (d + 1) j r q ⟨hk.box, hk.row, hk.map⟩ [a, b] (fun x hx => by simp at hx; rcases hx with rfl | rfl <;> assumption) (by simp)).mono fun v u hv => ?_
  obtain ⟨rfl, rfl⟩ := hv
  refine ⟨_, _, rfl, GOps.sim ?_⟩
  refine GOps.done (hK _ ?_); clear hK K
  refine End.kp [0, 1, 2, 14] ?_
  refine Run.cond _ rfl (fun hb => ?_) (fun hb => ?_)
  · have hb2 := hb
    simp at hb
  · have hb2 := hb
    refine Run.skip ?_
    refine End.kp [0, 1, 2] ?_
    refine Run.seq ?_
    have fx := ft
    refine Run.region rfl fun K hK => GOps.sim ?_
    refine GOps.call rfl rfl rfl rfl (by kernel_rfl) (ACalls.sim ?_)
    refine (mand_ok a b m hm2 _ (d + 1) j r q ⟨hk.box, hk.row, hk.map⟩ hn (by omega) (by omega)).mono fun v u hv => ?_
    obtain ⟨rfl, rfl⟩ := hv
    refine ⟨_, _, rfl, GOps.sim ?_⟩
    refine GOps.done (hK _ ?_); clear hK K
    refine End.kp [7] ?_
    refine Run.seq ?_
    refine Run.go ?_
    refine End.kp [6] ?_
    refine Run.ret (hQ _ _ ⟨.inr rfl, _, rfl, _, rfl, ?_⟩)
    exact ⟨rfl, rfl⟩
theorem Name_empty (up : Frs) : ACalls Try.prog 99 [.im (.str ByteArray.empty)] up fun v u => v = .im (.bool false) ∧ u = up := by
  have d1 : decide ((ByteArray.empty.size : Int) < 1) = true := by decide
  refine ACalls.code Try.func99 rfl 27 rfl (by simp) [.tmp 2] rfl fun Q hQ => ?_
  simp only [ups, PV.up, argEnv]
  have ft := And.intro ty_3 (And.intro ty_4 (And.intro ty_5 (And.intro ty_9 (And.intro ty_165 trivial))))
  refine Run.seq ?_
  have fx := And.intro d1 ft
  refine Run.go ?_
  refine End.kp [0] ?_
  refine Run.seq ?_
  refine Run.seq ?_
  refine Run.go ?_
  refine End.kp [0, 12] ?_
  refine Run.cond _ rfl (fun hb => ?_) (fun hb => ?_)
  · have hb2 := hb
    refine Run.seq ?_
    have fx := And.intro d1 ft
    refine Run.go ?_
    refine End.kp [2] ?_
    refine Run.ret (hQ _ _ ⟨.inr rfl, _, rfl, _, rfl, ?_⟩)
    exact ⟨rfl, rfl⟩
  · have hb2 := hb
    simp at hb
abbrev strA : ByteArray := ⟨#[97, 91, 48, 93]⟩
theorem strA_ok : NameOk strA := by
  refine ⟨by simp [ByteArray.size], by simp [ByteArray.size], fun b hb => ?_⟩
  simp at hb
  rcases hb with rfl | rfl | rfl | rfl <;> decide
abbrev mkAB : LMk := ⟨[⟨#[97]⟩, ⟨#[98]⟩], [], [], 0⟩
theorem mkAB_and : mkAnd mkAB 2 4 = (6, { mkAB with ands := [(2, 4)] }) := by rfl
theorem graphs_ok (up : Frs) : ACalls Try.prog 49 [] up fun v u => v = .im (.bool true) ∧ u = up := by
  refine ACalls.code Try.func49 rfl 22 rfl (by simp) [.tmp 0] rfl fun Q hQ => ?_
  simp only [ups, PV.up, argEnv]
  have ft := And.intro ty_2 (And.intro ty_3 (And.intro ty_4 (And.intro ty_9 (And.intro ty_26 (And.intro ty_47 (And.intro ty_62 (And.intro ty_69 (And.intro ty_109 trivial))))))))
  refine Run.seq ?_
  have fx := ft
  refine Run.go ?_
  refine End.kp [] ?_
  refine Run.seq ?_
  refine Run.region rfl fun K hK => GOps.sim ?_
  refine GOps.call rfl rfl rfl rfl (by kernel_rfl) (ACalls.sim ?_)
  refine (New_ok [⟨#[97]⟩, ⟨#[98]⟩] [] (by simp) (by simp) _ _).mono fun v u hv => ?_
  obtain ⟨rfl, rfl⟩ := hv
  refine ⟨_, _, rfl, GOps.sim ?_⟩
  refine GOps.done (hK _ ?_); clear hK K
  refine End.kp [1] ?_
  refine Run.seq ?_
  refine Run.region rfl fun K hK => GOps.sim ?_
  refine GOps.call rfl rfl rfl rfl (by kernel_rfl) (ACalls.sim ?_)
  refine (mIn_ok 0 mkAB ⟨by simp, by simp, by simp⟩ _ 0 2 3 1 ⟨rfl, rfl, rfl⟩ (by simp)).mono fun v u hv => ?_
  obtain ⟨rfl, rfl⟩ := hv
  refine ⟨_, _, rfl, GOps.sim ?_⟩
  refine GOps.call rfl rfl rfl rfl (by kernel_rfl) (ACalls.sim ?_)
  refine (mIn_ok 1 mkAB ⟨by simp, by simp, by simp⟩ _ 0 2 3 1 ⟨rfl, rfl, rfl⟩ (by simp)).mono fun v u hv => ?_
  obtain ⟨rfl, rfl⟩ := hv
  refine ⟨_, _, rfl, GOps.sim ?_⟩
  refine GOps.call rfl rfl rfl rfl (by kernel_rfl) (ACalls.sim ?_)
  refine (mAnd_ok 2 4 mkAB ⟨by simp, by simp, by simp⟩ _ 0 2 3 1 ⟨rfl, rfl, rfl⟩ (by simp) (by simp) (by simp)).mono fun v u hv => ?_
  obtain ⟨rfl, rfl⟩ := hv
  rw [mkAB_and]
  have fx := ft
  refine ⟨_, _, rfl, GOps.sim ?_⟩
  refine GOps.call rfl rfl rfl rfl (by kernel_rfl) (ACalls.sim ?_)
  refine (Name_ok strA strA_ok _).mono fun v u hv => ?_
  obtain ⟨rfl, rfl⟩ := hv
  refine ⟨_, _, rfl, GOps.sim ?_⟩
  refine GOps.call rfl rfl rfl rfl (by kernel_rfl) (ACalls.sim ?_)
  refine (Name_empty _).mono fun v u hv => ?_
  obtain ⟨rfl, rfl⟩ := hv
  refine ⟨_, _, rfl, GOps.sim ?_⟩
  refine GOps.done (hK _ ?_); clear hK K
  refine End.kp [0] ?_
  refine Run.ret (hQ _ _ ⟨.inr rfl, _, rfl, _, rfl, ?_⟩)
  exact ⟨rfl, rfl⟩
theorem EqB_same (p q : List Bool) (h : p = q) (hn : p.length ≤ 1000000) (up : Frs) : ACalls Try.prog 55 [.im (.sl (bools p)), .im (.sl (bools q))] up fun v u => v = .im (.bool true) ∧ u = up := by
  have d1 : ((p.length : Int) != q.length) = false := by rw [h]; simp
  refine ACalls.code Try.func55 rfl 26 rfl (by simp) [.tmp 4] rfl fun Q hQ => ?_
  simp only [ups, PV.up, argEnv]
  have ft := And.intro ty_3 (And.intro ty_4 (And.intro ty_71 trivial))
  refine Run.seq ?_
  have fx := And.intro d1 (And.intro bools_len ft)
  refine Run.go ?_
  refine End.kp [0, 1] ?_
  refine Run.seq ?_
  refine Run.seq ?_
  refine Run.go ?_
  refine End.kp [0, 1, 10] ?_
  refine Run.cond _ rfl (fun hb => ?_) (fun hb => ?_)
  · have hb2 := hb
    simp at hb
  · have hb2 := hb
    refine Run.skip ?_
    refine End.kp [0, 1] ?_
    refine Run.seq ?_
    refine Run.seq ?_
    have fx := And.intro d1 (And.intro bools_len ft)
    refine Run.go ?_
    refine End.kp [0, 1, 12, 13] ?_
    refine Run.block ?_
    refine Run.ghost (Ghost.form [(0, .im (.sl (bools p))), (1, .im (.sl (bools q))), (12, .i p.length), (13, .i (0 : Nat))] 0 ⟨rfl, rfl, rfl, rfl, trivial⟩ rfl rfl) ?_
    refine Run.loop (fun m' st => ∃ i : Nat, m' = p.length - i ∧ i ≤ p.length ∧ st = ⟨[(0, .im (.sl (bools p))), (1, .im (.sl (bools q))), (12, .i p.length), (13, .i (i : Nat))], [], up⟩) p.length ⟨0, rfl, by omega, rfl⟩ fun m' st hI => ?_
    obtain ⟨i, rfl, hi, rfl⟩ := hI
    refine Run.seq ?_
    have fx := And.intro d1 (And.intro bools_len ft)
    refine Run.go ?_
    refine End.kp [0, 1, 12, 13, 14] ?_
    refine Run.seq ?_
    refine Run.cond _ rfl (fun hb => ?_) (fun hb => ?_)
    · have hb2 := of_decide_eq_true hb
      have hin : i < p.length := by omega
      have hiq : i < q.length := by rw [← h]; exact hin
      have wi := wsucc hin (by omega)
      have hp := bools_get p i hin
      have hq := bools_get q i hiq
      have hlp : (i : Int) < (p.length : Int) := by omega
      have hlq : (i : Int) < (q.length : Int) := by omega
      refine Run.skip ?_
      refine End.kp [0, 1, 12, 13] ?_
      refine Run.seq ?_
      refine Run.block ?_
      refine Run.seq ?_
      have fx := And.intro (@Int.toNat_natCast) (And.intro (@Int.natCast_nonneg) (And.intro hlq (And.intro hlp (And.intro hq (And.intro hp (And.intro wi (And.intro d1 (And.intro bools_len ft))))))))
      refine Run.go ?_
      refine End.kp [0, 1, 5, 12, 13] ?_
      refine Run.seq ?_
      refine Run.drawA fun K hK => ?_
      refine DOps.sim ?_
      refine DOps.nil (metAll_quiet rfl) (hK _ ?_); clear hK K
      refine End.kp [0, 1, 12, 13, 24] ?_
      refine Run.cond _ rfl (fun hb => ?_) (fun hb => ?_)
      · have hb2 := hb
        simp [h] at hb
      · have hb2 := hb
        refine Run.skip ?_
        refine End.blk ?_
        refine End.kp [0, 1, 12, 13] ?_
        have fx := And.intro (@Int.toNat_natCast) (And.intro (@Int.natCast_nonneg) (And.intro hlq (And.intro hlp (And.intro hq (And.intro hp (And.intro wi (And.intro d1 (And.intro bools_len ft))))))))
        refine Run.go ?_
        refine End.lp ?_
        refine ⟨p.length - (i + 1), _, by omega, Ghost.form [(0, .im (.sl (bools p))), (1, .im (.sl (bools q))), (12, .i p.length), (13, .i (i + 1 : Nat))] 0 ⟨rfl, rfl, rfl, rfl, trivial⟩ rfl rfl, i + 1, rfl, by omega, rfl⟩
    · have hb2 := of_decide_eq_false hb
      refine Run.exit rfl ?_
      refine End.kp [] ?_
      refine Run.seq ?_
      have fx := And.intro d1 (And.intro bools_len ft)
      refine Run.go ?_
      refine End.kp [4] ?_
      refine Run.ret (hQ _ _ ⟨.inr rfl, _, rfl, _, rfl, ?_⟩)
      exact ⟨rfl, rfl⟩
end Go.Proofs.YtkmnmokjlpenhaaPi
