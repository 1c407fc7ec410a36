/- Part 4 of the proof: the texts WIA, WIB, WIC, WID, WIE, WIF, one behind the other. Each holds for every input that it names; no condition is hidden. -/
import Derived.Test.YtkmnmokjlpenhaaM2
import Derived.Test.YtkmnmokjlpenhaaM3
import Derived.Test.YtkmnmokjlpenhaaPiRes
/- The walks of slices.Index, Contains at strings; of clash; Names and Check of what has a name twice. -/
set_option linter.unusedVariables false
set_option linter.unusedSimpArgs false
set_option maxRecDepth 100000
namespace Go.Proofs.YtkmnmokjlpenhaaPi
set_option maxHeartbeats 4000000
def idxS (v : ByteArray) : List ByteArray → Nat → Int
  | [], _ => -1
  | x :: xs, i => if v = x then i else idxS v xs (i + 1)
theorem idxS_no (v : ByteArray) : ∀ (l : List ByteArray) (i : Nat), v ∉ l → idxS v l i = -1
  | [], _, _ => rfl
  | x :: xs, i, h => by
    simp only [List.mem_cons, not_or] at h
    rw [idxS, if_neg h.1, idxS_no v xs (i + 1) h.2]
theorem idxS_in (v : ByteArray) : ∀ (l : List ByteArray) (i : Nat), v ∈ l → ∃ k : Nat, idxS v l i = ((i + k : Nat) : Int) ∧ l[k]? = some v ∧ k < l.length
  | [], _, h => by simp at h
  | x :: xs, i, h => by
    by_cases e : v = x
    · exact ⟨0, by rw [idxS, if_pos e]; simp, by simp [e], by simp⟩
    · rcases List.mem_cons.1 h with h | h
      · exact absurd h e
      · obtain ⟨k, h1, h2, h3⟩ := idxS_in v xs (i + 1) h
        exact ⟨k + 1, by rw [idxS, if_neg e, h1]; congr 1; omega, by simpa using h2, by simp; omega⟩
theorem ba_beq (v x : ByteArray) : (v.toList == x.toList) = decide (v = x) := by
  by_cases h : v = x
  · subst h; simp
  · rw [decide_eq_false h, beq_eq_false_iff_ne]
    intro e
    rw [ByteArray.toList_eq, ByteArray.toList_eq] at e
    exact h (ByteArray.ext (Array.toList_inj.1 e))
instance decMem (v : ByteArray) (l : List ByteArray) : Decidable (v ∈ l) := decidable_of_iff (l.any (fun x => decide (v = x)) = true) (by simp)
theorem str_drop (l : List ByteArray) (i : Nat) (x : ByteArray) (h : l[i]? = some x) : l.drop i = x :: l.drop (i + 1) := by
  obtain ⟨hi, rfl⟩ := List.getElem?_eq_some_iff.1 h
  exact List.drop_eq_getElem_cons hi
theorem str_at (l : List ByteArray) (i : Nat) (h : i < l.length) : ∃ x, l[i]? = some x ∧ x ∈ l ∧ (strs l)[i]? = some [.str x] :=
  ⟨l[i], List.getElem?_eq_getElem h, List.getElem_mem h, by simp [h]⟩
theorem IndexS_ok (l : List ByteArray) (v : ByteArray) (hn : l.length ≤ 100000) (up : Frs) : ACalls Try.prog 71 [.im (.sl (strs l)), .im (.str v)] up fun r u => r = .i (idxS v l 0) ∧ u = up := by
  refine ACalls.code Try.func71 rfl 19 rfl (by simp) [.tmp 4] rfl fun Q hQ => ?_
  simp only [ups, PV.up, argEnv]
  have ft := And.intro ty_3 (And.intro ty_4 (And.intro ty_9 (And.intro ty_26 trivial)))
  refine Run.seq ?_
  have fx := And.intro strs_len ft
  refine Run.go ?_
  refine End.kp [0, 1] ?_
  refine Run.seq ?_
  refine Run.seq ?_
  refine Run.go ?_
  refine End.kp [0, 1, 7, 8] ?_
  refine Run.block ?_
  refine Run.ghost (Ghost.form [(0, .im (.sl (strs l))), (1, .im (.str v)), (7, .i l.length), (8, .i (0 : Nat))] 0 ⟨rfl, rfl, rfl, rfl, trivial⟩ rfl rfl) ?_
  refine Run.loop (fun m s => ∃ k : Nat, m = l.length - k ∧ k ≤ l.length ∧ idxS v (l.drop k) k = idxS v l 0 ∧ s = ⟨[(0, .im (.sl (strs l))), (1, .im (.str v)), (7, .i l.length), (8, .i (k : Nat))], [], up⟩) l.length ⟨0, rfl, by omega, rfl, rfl⟩ fun m s hI => ?_
  obtain ⟨k, rfl, hk, hid, rfl⟩ := hI
  refine Run.seq ?_
  have fx := And.intro strs_len ft
  refine Run.go ?_
  refine End.kp [0, 1, 7, 8, 9] ?_
  refine Run.seq ?_
  refine Run.cond _ rfl (fun hb => ?_) (fun hb => ?_)
  · have hb2 := of_decide_eq_true hb
    have hkn : k < l.length := by omega
    have wk := wsucc hkn (by omega)
    obtain ⟨x, hx1, hx2, hx3⟩ := str_at l k hkn
    rw [str_drop l k x hx1, idxS] at hid
    have hvx := ba_beq v x
    have hkl : (k : Int) < (l.length : Int) := by omega
    refine Run.skip ?_
    refine End.kp [0, 1, 7, 8] ?_
    refine Run.seq ?_
    refine Run.block ?_
    refine Run.seq ?_
    have fx := And.intro (@Int.toNat_natCast) (And.intro (@Int.natCast_nonneg) (And.intro hkl (And.intro hvx (And.intro hx3 (And.intro wk (And.intro strs_len ft))))))
    refine Run.go ?_
    refine End.kp [0, 1, 5, 7, 8] ?_
    refine Run.seq ?_
    refine Run.go ?_
    refine End.kp [0, 1, 5, 7, 8, 16] ?_
    refine Run.cond _ rfl (fun hb => ?_) (fun hb => ?_)
    · have hb3 := of_decide_eq_true hb
      rw [if_pos hb3] at hid
      refine Run.seq ?_
      have fx := And.intro (@Int.toNat_natCast) (And.intro (@Int.natCast_nonneg) (And.intro hkl (And.intro hvx (And.intro hx3 (And.intro wk (And.intro strs_len ft))))))
      refine Run.go ?_
      refine End.kp [4] ?_
      refine Run.ret (hQ _ _ ⟨.inr rfl, _, rfl, _, rfl, ?_⟩)
      exact ⟨by rw [← hid], rfl⟩
    · have hb3 := of_decide_eq_false hb
      rw [if_neg hb3] at hid
      refine Run.skip ?_
      refine End.blk ?_
      refine End.kp [0, 1, 7, 8] ?_
      have fx := And.intro (@Int.toNat_natCast) (And.intro (@Int.natCast_nonneg) (And.intro hkl (And.intro hvx (And.intro hx3 (And.intro wk (And.intro strs_len ft))))))
      refine Run.go ?_
      refine End.lp ?_
      refine ⟨l.length - (k + 1), _, by omega, Ghost.form [(0, .im (.sl (strs l))), (1, .im (.str v)), (7, .i l.length), (8, .i (k + 1 : Nat))] 0 ⟨rfl, rfl, rfl, rfl, trivial⟩ rfl rfl, k + 1, rfl, by omega, hid, rfl⟩
  · have hb2 := of_decide_eq_false hb
    have hkN : k = l.length := by omega
    subst hkN
    rw [List.drop_length, idxS] at hid
    refine Run.exit rfl ?_
    refine End.kp [] ?_
    refine Run.seq ?_
    have fx := And.intro strs_len ft
    refine Run.go ?_
    refine End.kp [4] ?_
    refine Run.ret (hQ _ _ ⟨.inr rfl, _, rfl, _, rfl, ?_⟩)
    exact ⟨by rw [← hid], rfl⟩
theorem ContainsS_ok (l : List ByteArray) (v : ByteArray) (hn : l.length ≤ 100000) (up : Frs) : ACalls Try.prog 123 [.im (.sl (strs l)), .im (.str v)] up fun r u => r = .im (.bool (decide (v ∈ l))) ∧ u = up := by
  have hd : decide (0 ≤ idxS v l 0) = decide (v ∈ l) := by
    by_cases h : v ∈ l
    · obtain ⟨k, h1, _⟩ := idxS_in v l 0 h
      rw [h1, decide_eq_true h, decide_eq_true (by omega)]
    · rw [idxS_no v l 0 h, decide_eq_false h]
      rfl
  refine ACalls.code Try.func123 rfl 9 rfl (by simp) [.tmp 4] rfl fun Q hQ => ?_
  simp only [ups, PV.up, argEnv]
  have ft := And.intro ty_3 (And.intro ty_4 (And.intro ty_9 (And.intro ty_26 trivial)))
  refine Run.seq ?_
  have fx := And.intro (@ge_iff_le Int _) (And.intro hd ft)
  refine Run.go ?_
  refine End.kp [0, 1] ?_
  refine Run.seq ?_
  refine Run.region rfl fun K hK => GOps.sim ?_
  refine GOps.call rfl rfl rfl rfl (by kernel_rfl) (ACalls.sim ?_)
  refine (IndexS_ok l v hn _).mono fun v u hv => ?_
  obtain ⟨rfl, rfl⟩ := hv
  refine ⟨_, _, rfl, GOps.sim ?_⟩
  refine GOps.done (hK _ ?_); clear hK K
  refine End.kp [4] ?_
  refine Run.ret (hQ _ _ ⟨.inr rfl, _, rfl, _, rfl, ?_⟩)
  exact ⟨rfl, rfl⟩
theorem hit1_ok (r : LReg) (g : LGraph) (hg : GSmall g) (up : Frs) (d j : Nat) (hl : fget up d j = some (.box [.im (.sl (strs g.inn)), .im (.sl (strs g.out)), .im (.sl (g.regs.map LReg.im)), .im (.sl (g.ands.map nd)), .im (.sl (ints g.outs))])) : ACalls Try.prog 129 [.agg (r.im.map .im), .ptr d j 0] up fun v u => v = .im (.bool (decide (r.name ∈ g.inn))) ∧ u = up := by
  obtain ⟨z1, z2, z3, z4, z5⟩ := hg
  refine ACalls.code Try.func129 rfl 9 rfl (by simp) [.tmp 3] rfl fun Q hQ => ?_
  simp only [ups, PV.up, argEnv]
  have ft := And.intro ty_4 (And.intro ty_9 (And.intro ty_26 (And.intro ty_51 (And.intro ty_69 trivial))))
  refine Run.seq ?_
  have fx := And.intro upN_im (And.intro downN_im (And.intro hl ft))
  refine Run.go ?_
  refine End.kp [1, 2] ?_
  refine Run.seq ?_
  refine Run.region rfl fun K hK => GOps.sim ?_
  refine GOps.call rfl rfl rfl rfl (by kernel_rfl) (ACalls.sim ?_)
  refine (ContainsS_ok g.inn r.name (by omega) _).mono fun v u hv => ?_
  obtain ⟨rfl, rfl⟩ := hv
  refine ⟨_, _, rfl, GOps.sim ?_⟩
  refine GOps.done (hK _ ?_); clear hK K
  refine End.kp [3] ?_
  refine Run.ret (hQ _ _ ⟨.inr rfl, _, rfl, _, rfl, ?_⟩)
  exact ⟨rfl, rfl⟩
def idxF (g : LGraph) : List LReg → Nat → Int
  | [], _ => -1
  | r :: rs, i => if r.name ∈ g.inn then i else idxF g rs (i + 1)
abbrev anyHit (rs : List LReg) (g : LGraph) : Bool := rs.any fun r => decide (r.name ∈ g.inn)
theorem idxF_any (g : LGraph) : ∀ (rs : List LReg) (i : Nat), decide (0 ≤ idxF g rs i) = anyHit rs g
  | [], i => rfl
  | r :: rs, i => by
    by_cases h : r.name ∈ g.inn
    · rw [idxF, if_pos h, decide_eq_true (by omega)]
      simp [h]
    · rw [idxF, if_neg h, idxF_any g rs (i + 1)]
      simp [h]
theorem reg_drop (l : List LReg) (i : Nat) (x : LReg) (h : l[i]? = some x) : l.drop i = x :: l.drop (i + 1) := by
  obtain ⟨hi, rfl⟩ := List.getElem?_eq_some_iff.1 h
  exact List.drop_eq_getElem_cons hi
theorem IndexF_ok (l : List LReg) (hn : l.length ≤ 100000) (g : LGraph) (hg : GSmall g) (up : Frs) (d j : Nat) (hl : fget up d j = some (.box [.im (.sl (strs g.inn)), .im (.sl (strs g.out)), .im (.sl (g.regs.map LReg.im)), .im (.sl (g.ands.map nd)), .im (.sl (ints g.outs))])) : ACalls Try.prog 153 [.im (.sl (l.map LReg.im)), .fn 129 [.ptr d j 0]] up fun r u => r = .i (idxF g l 0) ∧ u = up := by
  refine ACalls.code Try.func153 rfl 19 rfl (by simp) [.tmp 4] rfl fun Q hQ => ?_
  simp only [ups, PV.up, argEnv]
  have ft := And.intro ty_3 (And.intro ty_4 (And.intro ty_47 (And.intro ty_69 trivial)))
  refine Run.seq ?_
  have fx := And.intro rim_len ft
  refine Run.go ?_
  refine End.kp [0, 1] ?_
  refine Run.seq ?_
  refine Run.seq ?_
  refine Run.go ?_
  refine End.kp [0, 1, 7, 8] ?_
  refine Run.block ?_
  refine Run.ghost (Ghost.form [(0, .im (.sl (l.map LReg.im))), (1, .fn 129 [.ptr (d + 1) j 0]), (7, .i l.length), (8, .i (0 : Nat))] 0 ⟨rfl, rfl, rfl, rfl, trivial⟩ rfl rfl) ?_
  refine Run.loop (fun m s => ∃ k : Nat, m = l.length - k ∧ k ≤ l.length ∧ idxF g (l.drop k) k = idxF g l 0 ∧ s = ⟨[(0, .im (.sl (l.map LReg.im))), (1, .fn 129 [.ptr (d + 1) j 0]), (7, .i l.length), (8, .i (k : Nat))], [], up⟩) l.length ⟨0, rfl, by omega, rfl, rfl⟩ fun m s hI => ?_
  obtain ⟨k, rfl, hk, hid, rfl⟩ := hI
  refine Run.seq ?_
  have fx := And.intro rim_len ft
  refine Run.go ?_
  refine End.kp [0, 1, 7, 8, 9] ?_
  refine Run.seq ?_
  refine Run.cond _ rfl (fun hb => ?_) (fun hb => ?_)
  · have hb2 := of_decide_eq_true hb
    have hkn : k < l.length := by omega
    have wk := wsucc hkn (by omega)
    obtain ⟨x, hx1, hx2, hx3⟩ := reg_at l k hkn
    rw [reg_drop l k x hx1, idxF] at hid
    have hkl : (k : Int) < (l.length : Int) := by omega
    refine Run.skip ?_
    refine End.kp [0, 1, 7, 8] ?_
    refine Run.seq ?_
    refine Run.block ?_
    refine Run.seq ?_
    have fx := And.intro (@Int.toNat_natCast) (And.intro (@Int.natCast_nonneg) (And.intro hkl (And.intro hx3 (And.intro wk (And.intro rim_len ft)))))
    refine Run.go ?_
    refine End.kp [0, 1, 5, 7, 8] ?_
    refine Run.seq ?_
    refine Run.region rfl fun K hK => GOps.sim ?_
    refine GOps.call rfl rfl rfl rfl (by kernel_rfl) (ACalls.sim ?_)
    refine (hit1_ok x g hg _ (d + 1) j hl).mono fun v u hv => ?_
    obtain ⟨rfl, rfl⟩ := hv
    refine ⟨_, _, rfl, GOps.sim ?_⟩
    refine GOps.done (hK _ ?_); clear hK K
    refine End.kp [0, 1, 5, 7, 8, 16] ?_
    refine Run.cond _ rfl (fun hb => ?_) (fun hb => ?_)
    · have hb3 := of_decide_eq_true hb
      rw [if_pos hb3] at hid
      refine Run.seq ?_
      have fx := And.intro (@Int.toNat_natCast) (And.intro (@Int.natCast_nonneg) (And.intro hkl (And.intro hx3 (And.intro wk (And.intro rim_len ft)))))
      refine Run.go ?_
      refine End.kp [4] ?_
      refine Run.ret (hQ _ _ ⟨.inr rfl, _, rfl, _, rfl, ?_⟩)
      exact ⟨by rw [← hid], rfl⟩
    · have hb3 := of_decide_eq_false hb
      rw [if_neg hb3] at hid
      refine Run.skip ?_
      refine End.blk ?_
      refine End.kp [0, 1, 7, 8] ?_
      have fx := And.intro (@Int.toNat_natCast) (And.intro (@Int.natCast_nonneg) (And.intro hkl (And.intro hx3 (And.intro wk (And.intro rim_len ft)))))
      refine Run.go ?_
      refine End.lp ?_
      refine ⟨l.length - (k + 1), _, by omega, Ghost.form [(0, .im (.sl (l.map LReg.im))), (1, .fn 129 [.ptr (d + 1) j 0]), (7, .i l.length), (8, .i (k + 1 : Nat))] 0 ⟨rfl, rfl, rfl, rfl, trivial⟩ rfl rfl, k + 1, rfl, by omega, hid, rfl⟩
  · have hb2 := of_decide_eq_false hb
    have hkN : k = l.length := by omega
    subst hkN
    rw [List.drop_length, idxF] at hid
    refine Run.exit rfl ?_
    refine End.kp [] ?_
    refine Run.seq ?_
    have fx := And.intro rim_len ft
    refine Run.go ?_
    refine End.kp [4] ?_
    refine Run.ret (hQ _ _ ⟨.inr rfl, _, rfl, _, rfl, ?_⟩)
    exact ⟨by rw [← hid], rfl⟩
theorem ContainsF_ok (l : List LReg) (hn : l.length ≤ 100000) (g : LGraph) (hg : GSmall g) (up : Frs) (d j : Nat) (hl : fget up d j = some (.box [.im (.sl (strs g.inn)), .im (.sl (strs g.out)), .im (.sl (g.regs.map LReg.im)), .im (.sl (g.ands.map nd)), .im (.sl (ints g.outs))])) : ACalls Try.prog 128 [.im (.sl (l.map LReg.im)), .fn 129 [.ptr d j 0]] up fun r u => r = .im (.bool (anyHit l g)) ∧ u = up := by
  have hd := idxF_any g l 0
  refine ACalls.code Try.func128 rfl 9 rfl (by simp) [.tmp 4] rfl fun Q hQ => ?_
  simp only [ups, PV.up, argEnv]
  have ft := And.intro ty_3 (And.intro ty_4 (And.intro ty_47 (And.intro ty_69 trivial)))
  refine Run.seq ?_
  have fx := And.intro (@ge_iff_le Int _) (And.intro hd ft)
  refine Run.go ?_
  refine End.kp [0, 1] ?_
  refine Run.seq ?_
  refine Run.region rfl fun K hK => GOps.sim ?_
  refine GOps.call rfl rfl rfl rfl (by kernel_rfl) (ACalls.sim ?_)
  refine (IndexF_ok l hn g hg _ (d + 1) j hl).mono fun v u hv => ?_
  obtain ⟨rfl, rfl⟩ := hv
  refine ⟨_, _, rfl, GOps.sim ?_⟩
  refine GOps.done (hK _ ?_); clear hK K
  refine End.kp [4] ?_
  refine Run.ret (hQ _ _ ⟨.inr rfl, _, rfl, _, rfl, ?_⟩)
  exact ⟨rfl, rfl⟩
theorem hit_ok (a b : LGraph) (ha : GSmall a) (hb : GSmall b) (up : Frs) : ACalls Try.prog 127 [a.pv, b.pv] up fun r u => r = .im (.bool (anyHit a.regs b)) ∧ u = up := by
  obtain ⟨z1, z2, z3, z4, z5⟩ := ha
  refine ACalls.code Try.func127 rfl 9 rfl (by simp) [.tmp 4] rfl fun Q hQ => ?_
  simp only [ups, PV.up, argEnv]
  have ft := And.intro ty_2 (And.intro ty_4 (And.intro ty_47 (And.intro ty_51 (And.intro ty_69 trivial))))
  refine Run.seq ?_
  have fx := ft
  refine Run.go ?_
  refine End.kp [2, 3] ?_
  refine Run.seq ?_
  refine Run.region rfl fun K hK => GOps.sim ?_
  refine GOps.call rfl rfl rfl rfl (by kernel_rfl) (ACalls.sim ?_)
  refine (ContainsF_ok a.regs (by omega) b hb _ 0 1 rfl).mono fun v u hv => ?_
  obtain ⟨rfl, rfl⟩ := hv
  refine ⟨_, _, rfl, GOps.sim ?_⟩
  refine GOps.done (hK _ ?_); clear hK K
  refine End.kp [4] ?_
  refine Run.ret (hQ _ _ ⟨.inr rfl, _, rfl, _, rfl, ?_⟩)
  exact ⟨rfl, rfl⟩
theorem clash_ok (a b : LGraph) (ha : GSmall a) (hb : GSmall b) (hh : anyHit a.regs b = true) (up : Frs) : ACalls Try.prog 70 [a.pv, b.pv] up fun r u => r = .im (.bool true) ∧ u = up := by
  refine ACalls.code Try.func70 rfl 16 rfl (by simp) [.tmp 4] rfl fun Q hQ => ?_
  simp only [ups, PV.up, argEnv]
  have ft := And.intro ty_4 (And.intro ty_51 trivial)
  refine Run.seq ?_
  have fx := And.intro hh ft
  refine Run.go ?_
  refine End.kp [2, 3] ?_
  refine Run.seq ?_
  refine Run.go ?_
  refine End.kp [2, 3, 5] ?_
  refine Run.seq ?_
  refine Run.region rfl fun K hK => GOps.sim ?_
  refine GOps.call rfl rfl rfl rfl (by kernel_rfl) (ACalls.sim ?_)
  refine (hit_ok a b ha hb _).mono fun v u hv => ?_
  obtain ⟨rfl, rfl⟩ := hv
  refine ⟨_, _, rfl, GOps.sim ?_⟩
  refine GOps.done (hK _ ?_); clear hK K
  refine End.kp [4] ?_
  refine Run.ret (hQ _ _ ⟨.inr rfl, _, rfl, _, rfl, ?_⟩)
  exact ⟨rfl, rfl⟩
theorem find_some (s : ByteArray) : ∀ (l : List ByteArray) (i : Nat), s ∈ l → ∃ k, findIm Try.prog 9 (.str s) (ents l) i = some (some (i + k, .int .i64 1)) ∧ ∀ v, findIm Try.prog 9 (.str s) ((ents l).modify k fun _ => ([.str s], v)) i = some (some (i + k, v))
  | [], i, h => by simp at h
  | x :: xs, i, h => by
    have hss : sameIm Try.prog 9 (.str s) (.str s) = some true := by
      simp only [sameIm, ty_9, if_true, Option.some.injEq]
      exact (MapKept.bytes_beq s s).2 rfl
    by_cases e : x = s
    · subst e
      refine ⟨0, ?_, fun v => ?_⟩
      · simp only [ents, List.map_cons, findIm, hss, Nat.add_zero]
      · simp only [ents, List.map_cons, List.modify_zero_cons, findIm, hss, Nat.add_zero]
    · rcases List.mem_cons.1 h with h | h
      · exact absurd h.symm e
      · obtain ⟨k, h1, h2⟩ := find_some s xs (i + 1) h
        refine ⟨k + 1, ?_, fun v => ?_⟩
        · simp only [ents, List.map_cons, findIm, same_ne s x e]
          simp only [ents] at h1
          rw [h1]
          congr 3
          omega
        · simp only [ents, List.map_cons, List.modify_succ_cons, findIm, same_ne s x e]
          have := h2 v
          simp only [ents] at this
          rw [this]
          congr 3
          omega
theorem Names_twice (q : List ByteArray) (hq : q.length ≤ 1000000) (hv : ∀ s ∈ q, NameOk s) (hd : ¬ q.Nodup) (up : Frs) : ACalls Try.prog 133 [.im (.sl (strs q))] up fun v u => v = .i 6 ∧ u = up := by
  refine ACalls.code Try.func133 rfl 25 rfl (by simp) [.tmp 2] rfl fun Q hQ => ?_
  simp only [ups, PV.up, argEnv]
  have ft := And.intro ty_3 (And.intro ty_4 (And.intro ty_9 (And.intro ty_26 (And.intro ty_34 (And.intro ty_208 trivial)))))
  refine Run.seq ?_
  have fx := And.intro strs_len ft
  refine Run.go ?_
  refine End.kp [0] ?_
  refine Run.seq ?_
  refine Run.go ?_
  refine End.kp [0, 3] ?_
  refine Run.seq ?_
  refine Run.seq ?_
  refine Run.go ?_
  refine End.kp [3, 7, 8, 9] ?_
  refine Run.block ?_
  refine Run.ghost (Ghost.form [(3, .map 0 0), (7, .im (.sl (strs q))), (8, .i q.length), (9, .i (0 : Nat))] 1 ⟨rfl, rfl, rfl, rfl, trivial⟩ rfl rfl) ?_
  refine Run.loop (fun m st => ∃ (i : Nat), m = q.length - i ∧ i ≤ q.length ∧ (q.take i).Nodup ∧ st = ⟨[(3, .map 0 0), (7, .im (.sl (strs q))), (8, .i q.length), (9, .i (i : Nat))], [.map (ents (q.take i))], up⟩) q.length ⟨0, rfl, by omega, by simp, rfl⟩ fun m st hI => ?_
  obtain ⟨i, rfl, hi, hnd, rfl⟩ := hI
  refine Run.seq ?_
  have fx := And.intro strs_len ft
  refine Run.go ?_
  refine End.kp [3, 7, 8, 9, 10] ?_
  refine Run.seq ?_
  refine Run.cond _ rfl (fun hb => ?_) (fun hb => ?_)
  · have hb := of_decide_eq_true hb
    have hin : i < q.length := by omega
    have wi := wsucc hin (by omega)
    have hg := strs_get q i hin
    have hnm := hv _ (getD_mem hin)
    have htk := take_snoc q i ByteArray.empty hin
    generalize q.getD i ByteArray.empty = s at hg hnm htk
    have w1 : IntKind.i64.wrap (0 + 1) = 1 := by decide
    have w2 : IntKind.i64.wrap (1 + 1) = 2 := by decide
    refine Run.skip ?_
    refine End.kp [3, 7, 8, 9] ?_
    refine Run.seq ?_
    refine Run.block ?_
    refine Run.seq ?_
    have fx := And.intro (@Int.toNat_natCast) (And.intro (@Int.natCast_nonneg) (And.intro w2 (And.intro w1 (And.intro hg (And.intro wi (And.intro strs_len ft))))))
    refine Run.go ?_
    refine End.kp [3, 5, 7, 8, 9] ?_
    refine Run.seq ?_
    refine Run.seq ?_
    refine Run.region rfl fun K hK => GOps.sim ?_
    refine GOps.call rfl rfl rfl rfl (by kernel_rfl) (ACalls.sim ?_)
    refine (Name_ok s hnm _).mono fun v u hv => ?_
    obtain ⟨rfl, rfl⟩ := hv
    refine ⟨_, _, rfl, GOps.sim ?_⟩
    refine GOps.done (hK _ ?_); clear hK K
    refine End.kp [3, 5, 7, 8, 9, 15] ?_
    refine Run.cond _ rfl (fun hb => ?_) (fun hb => ?_)
    · have hb := hb
      simp at hb
    · have hb := hb
      refine Run.skip ?_
      refine End.kp [3, 5, 7, 8, 9] ?_
      refine Run.seq ?_
      rcases Bool.eq_false_or_eq_true (decide (s ∈ q.take i)) with hs7 | hs7
      · skip
        obtain ⟨ts, hts⟩ : ∃ ts, ts = q.take i := ⟨_, rfl⟩
        rw [← hts] at hs7 hnd
        rw [← hts]
        obtain ⟨k, hf1, hf2'⟩ := find_some s ts 0 (of_decide_eq_true hs7)
        have hf2 := hf2' (.int .i64 2)
        have fx := And.intro hf2 (And.intro hf1 (And.intro hs7 (And.intro (@Int.toNat_natCast) (And.intro (@Int.natCast_nonneg) (And.intro w2 (And.intro w1 (And.intro hg (And.intro wi (And.intro strs_len ft)))))))))
        refine Run.go ?_
        refine End.kp [3, 5, 7, 8, 9] ?_
        refine Run.seq ?_
        refine Run.go ?_
        refine End.kp [3, 7, 8, 9, 23] ?_
        refine Run.cond _ rfl (fun hb => ?_) (fun hb => ?_)
        · have hb2 := hb
          refine Run.seq ?_
          have fx := And.intro hf2 (And.intro hf1 (And.intro hs7 (And.intro (@Int.toNat_natCast) (And.intro (@Int.natCast_nonneg) (And.intro w2 (And.intro w1 (And.intro hg (And.intro wi (And.intro strs_len ft)))))))))
          refine Run.go ?_
          refine End.kp [2] ?_
          refine Run.ret (hQ _ _ ⟨.inr rfl, _, rfl, _, rfl, ?_⟩)
          exact ⟨rfl, rfl⟩
        · have hb2 := hb
          simp at hb
      · skip
        obtain ⟨ts, hts⟩ : ∃ ts, ts = q.take i := ⟨_, rfl⟩
        rw [← hts] at hs7 hnd
        rw [← hts]
        have hf1 := find_none s ts 0 (of_decide_eq_false hs7)
        have hf2 := find_last s (.int .i64 1) ts 0 (of_decide_eq_false hs7)
        have fx := And.intro hf2 (And.intro hf1 (And.intro hs7 (And.intro (@Int.toNat_natCast) (And.intro (@Int.natCast_nonneg) (And.intro w2 (And.intro w1 (And.intro hg (And.intro wi (And.intro strs_len ft)))))))))
        refine Run.go ?_
        refine End.kp [3, 5, 7, 8, 9] ?_
        refine Run.seq ?_
        refine Run.go ?_
        refine End.kp [3, 7, 8, 9, 23] ?_
        refine Run.cond _ rfl (fun hb => ?_) (fun hb => ?_)
        · have hb2 := hb
          simp at hb
        · have hb2 := hb
          refine Run.skip ?_
          refine End.blk ?_
          refine End.kp [3, 7, 8, 9] ?_
          have fx := And.intro hf2 (And.intro hf1 (And.intro hs7 (And.intro (@Int.toNat_natCast) (And.intro (@Int.natCast_nonneg) (And.intro w2 (And.intro w1 (And.intro hg (And.intro wi (And.intro strs_len ft)))))))))
          refine Run.go ?_
          refine End.lp ?_
          refine ⟨q.length - (i + 1), _, by omega, Ghost.form [(3, .map 0 0), (7, .im (.sl (strs q))), (8, .i q.length), (9, .i (i + 1 : Nat))] 1 ⟨rfl, rfl, rfl, rfl, trivial⟩ rfl rfl, i + 1, rfl, by omega, ?_, ?_⟩
          · rw [htk, ← hts]
            refine List.nodup_append.2 ⟨hnd, by simp, ?_⟩
            intro a ha b hb e
            simp only [List.mem_singleton] at hb
            exact of_decide_eq_false hs7 (by rw [← hb, ← e]; exact ha)
          · rw [htk, ← hts]
            simp [ents]
  · have hb2 := of_decide_eq_false hb
    have hiN : i = q.length := by omega
    subst hiN
    rw [List.take_length] at hnd
    exact absurd hnd hd
    skip
end Go.Proofs.YtkmnmokjlpenhaaPi

/- The walks of Prefix of graphs, of Check of a graph with a name twice, of Copy with rows of the caller's. -/
set_option linter.unusedVariables false
set_option linter.unusedSimpArgs false
set_option maxRecDepth 100000
namespace Go.Proofs.YtkmnmokjlpenhaaPi
set_option maxHeartbeats 4000000
abbrev sI (s : ByteArray) : List Im := [.str s]
/-- A graph that is in order but for its names. -/
structure GraphTwice (g : LGraph) : Prop where
  small : GSmall g
  names : ∀ s ∈ g.inn ++ g.regs.map LReg.name, NameOk s
  twice : ¬ (g.inn ++ g.regs.map LReg.name).Nodup
  olen : g.out.length = g.outs.length
theorem CloneSI_nil (k : Nat) (up : Frs) (hk : fget up 0 k = some .dead) : ACalls Try.prog 111 [.im (.sl (([] : List ByteArray).map sI))] up fun v u => v = .ms 0 k 0 ∧ u = fset up 0 k (.row 9 1 (([] : List ByteArray).map sI) 0) := by
  refine ACalls.codeI Try.func111 rfl 8 rfl (by simp) [.tmp 2] rfl k fun Q hQ => ?_
  simp only [ups, PV.up, argEnv]
  have ft := And.intro ty_4 (And.intro ty_9 (And.intro ty_26 trivial))
  refine Run.seq ?_
  have fx := And.intro (@List.map_nil.{0, 0}) ft
  refine Run.go ?_
  refine End.kp [0] ?_
  refine Run.seq ?_
  refine Run.seq ?_
  refine Run.go ?_
  refine End.kp [0, 4] ?_
  refine Run.cond_any rfl ?_ ?_
  · skip
    refine Run.seq ?_
    have fx := And.intro (@List.map_nil.{0, 0}) ft
    refine Run.go ?_
    refine End.move (Ghost.thaw (u := 2) 9 1 (by decide) rfl) ?_
    refine End.kp [2] ?_
    have fx := And.intro (@List.map_nil.{0, 0}) ft
    refine Run.resI 0 hQ hk ?_
    exact ⟨rfl, rfl⟩
  · skip
    refine Run.skip ?_
    refine End.kp [0] ?_
    refine Run.seq ?_
    have fx := And.intro (@List.map_nil.{0, 0}) ft
    refine Run.go ?_
    refine End.kp [2] ?_
    refine Run.resI 0 hQ hk ?_
    exact ⟨rfl, rfl⟩
theorem CloneSI_cons (k : Nat) (x : ByteArray) (xs : List ByteArray) (h : xs.length ≤ 1000000) (up : Frs) (hk : fget up 0 k = some .dead) : ACalls Try.prog 111 [.im (.sl ((x :: xs).map sI))] up fun v u => v = .ms 0 k (x :: xs).length ∧ u = fset up 0 k (.row 9 1 ((x :: xs).map sI) 0) := by
  have hall : (xs.map sI).all (fun r => r.length == 1) = true := by simp
  have hlen : (xs.length + 1) * 16 ≤ 140737488355328 := by omega
  refine ACalls.codeI Try.func111 rfl 8 rfl (by simp) [.tmp 2] rfl k fun Q hQ => ?_
  simp only [ups, PV.up, argEnv]
  have ft := And.intro ty_4 (And.intro ty_9 (And.intro ty_26 trivial))
  refine Run.seq ?_
  have fx := And.intro (@List.length_map.{0, 0}) (And.intro hlen (And.intro hall (And.intro (@List.map_cons.{0, 0}) ft)))
  refine Run.go ?_
  refine End.kp [0] ?_
  refine Run.seq ?_
  refine Run.seq ?_
  refine Run.go ?_
  refine End.kp [0, 4] ?_
  refine Run.cond _ rfl (fun hb => ?_) (fun hb => ?_)
  · have hb := hb
    simp at hb
  · have hb := hb
    refine Run.skip ?_
    refine End.kp [0] ?_
    refine Run.seq ?_
    have fx := And.intro (@List.length_map.{0, 0}) (And.intro hlen (And.intro hall (And.intro (@List.map_cons.{0, 0}) ft)))
    refine Run.go ?_
    refine End.kp [2] ?_
    refine Run.resI 0 hQ hk ?_
    exact ⟨rfl, rfl⟩
theorem CloneSI_ok (q : List ByteArray) (h : q.length ≤ 1000000) (k : Nat) (up : Frs) (hk : fget up 0 k = some .dead) : ACalls Try.prog 111 [.im (.sl (q.map sI))] up fun v u => v = .ms 0 k q.length ∧ u = fset up 0 k (.row 9 1 (q.map sI) 0) := by
  cases q with
  | nil => exact CloneSI_nil k up hk
  | cons x xs => exact CloneSI_cons k x xs (by simp at h; omega) up hk
theorem Check_twice (g : LGraph) (hg : GraphTwice g) (up : Frs) : ACalls Try.prog 86 [g.pv] up fun v u => v = .i 6 ∧ u = up := by
  have hsm := hg.small
  obtain ⟨z1, z2, z3, z4, z5⟩ := hg.small
  have d1 : decide ((g.inn.length : Int) > 128) = false := decide_eq_false (by omega)
  have d2 : decide ((g.out.length : Int) > 128) = false := decide_eq_false (by omega)
  have d3 : decide ((g.regs.length : Int) > 288) = false := decide_eq_false (by omega)
  have d4 : decide ((g.ands.length : Int) > 4000) = false := decide_eq_false (by omega)
  have d5 : ((g.out.length : Int) != g.outs.length) = false := by rw [hg.olen]; simp
  refine ACalls.code Try.func86 rfl 128 rfl (by simp) [.tmp 2] rfl fun Q hQ => ?_
  simp only [ups, PV.up, argEnv]
  have ft := And.intro ty_2 (And.intro ty_3 (And.intro ty_4 (And.intro ty_9 (And.intro ty_26 (And.intro ty_34 (And.intro ty_47 (And.intro ty_48 (And.intro ty_49 (And.intro ty_51 (And.intro ty_62 (And.intro ty_69 (And.intro ty_137 trivial))))))))))))
  refine Run.seq ?_
  have fx := And.intro d5 (And.intro d4 (And.intro d3 (And.intro d2 (And.intro d1 (And.intro ints_len (And.intro nd_len (And.intro rim_len (And.intro strs_len ft))))))))
  refine Run.go ?_
  refine End.kp [1] ?_
  refine Run.seq ?_
  refine Run.seq ?_
  refine Run.go ?_
  refine End.kp [1, 36] ?_
  refine Run.cond _ rfl (fun hb => ?_) (fun hb => ?_)
  · have hb := hb
    simp at hb
  · have hb := hb
    refine Run.skip ?_
    refine End.kp [1] ?_
    refine Run.seq ?_
    refine Run.seq ?_
    have fx := And.intro d5 (And.intro d4 (And.intro d3 (And.intro d2 (And.intro d1 (And.intro ints_len (And.intro nd_len (And.intro rim_len (And.intro strs_len ft))))))))
    refine Run.go ?_
    refine End.kp [1, 43] ?_
    refine Run.cond _ rfl (fun hb => ?_) (fun hb => ?_)
    · have hb := hb
      simp at hb
    · have hb := hb
      refine Run.skip ?_
      refine End.kp [1] ?_
      refine Run.seq ?_
      have fx := And.intro d5 (And.intro d4 (And.intro d3 (And.intro d2 (And.intro d1 (And.intro ints_len (And.intro nd_len (And.intro rim_len (And.intro strs_len ft))))))))
      refine Run.region rfl fun K hK => GOps.sim ?_
      refine GOps.call rfl rfl rfl rfl (by kernel_rfl) (ACalls.sim ?_)
      refine (CloneX_ok g.inn (by omega) _ _).mono fun v u hv => ?_
      obtain ⟨rfl, rfl⟩ := hv
      refine ⟨_, _, rfl, GOps.sim ?_⟩
      refine GOps.done (hK _ ?_); clear hK K
      refine End.kp [1, 3] ?_
      refine Run.seq ?_
      refine Run.seq ?_
      refine Run.go ?_
      refine End.kp [1, 3, 48, 49, 50] ?_
      refine Run.block ?_
      refine Run.ghost (Ghost.form [(1, .ptr 0 0 0), (3, .ms 0 1 (g.inn.length + 0)), (48, .im (.sl (g.regs.map LReg.im))), (49, .i g.regs.length), (50, .i (0 : Nat))] 2 ⟨rfl, rfl, rfl, rfl, rfl, trivial⟩ rfl rfl) ?_
      refine Run.loop (fun m st => ∃ (i : Nat), m = g.regs.length - i ∧ i ≤ g.regs.length ∧ st = ⟨[(1, .ptr 0 0 0), (3, .ms 0 1 (g.inn.length + i)), (48, .im (.sl (g.regs.map LReg.im))), (49, .i g.regs.length), (50, .i (i : Nat))], [.box [.im (.sl (strs g.inn)), .im (.sl (strs g.out)), .im (.sl (g.regs.map LReg.im)), .im (.sl (g.ands.map nd)), .im (.sl (ints g.outs))], .row 9 1 (strs (gnms g i)) 0], up⟩) g.regs.length ⟨0, rfl, by omega, by simp⟩ fun m st hI => ?_
      obtain ⟨i, rfl, hi, rfl⟩ := hI
      have hsl := gnms_len g i hi
      have hap : (g.inn.length + i + 1) * 16 ≤ 140737488355328 := by omega
      refine Run.seq ?_
      have fx := And.intro hap (And.intro hsl (And.intro d5 (And.intro d4 (And.intro d3 (And.intro d2 (And.intro d1 (And.intro ints_len (And.intro nd_len (And.intro rim_len (And.intro strs_len ft))))))))))
      refine Run.go ?_
      refine End.kp [1, 3, 48, 49, 50, 51] ?_
      refine Run.seq ?_
      refine Run.cond _ rfl (fun hb => ?_) (fun hb => ?_)
      · have hb := of_decide_eq_true hb
        have hin : i < g.regs.length := by omega
        have wi := wsucc hin (by omega)
        obtain ⟨f, hf, hfm, hgt⟩ := reg_at g.regs i hin
        refine Run.skip ?_
        refine End.kp [1, 3, 48, 49, 50] ?_
        refine Run.seq ?_
        refine Run.block ?_
        refine Run.seq ?_
        have fx := And.intro (@Int.toNat_natCast) (And.intro (@Int.natCast_nonneg) (And.intro hgt (And.intro wi (And.intro hap (And.intro hsl (And.intro d5 (And.intro d4 (And.intro d3 (And.intro d2 (And.intro d1 (And.intro ints_len (And.intro nd_len (And.intro rim_len (And.intro strs_len ft))))))))))))))
        refine Run.go ?_
        refine End.kp [1, 3, 5, 48, 49, 50] ?_
        refine Run.go ?_
        refine End.blk ?_
        refine End.kp [1, 3, 48, 49, 50] ?_
        refine Run.go ?_
        refine End.lp ?_
        refine ⟨g.regs.length - (i + 1), _, by omega, Ghost.form [(1, .ptr 0 0 0), (3, .ms 0 1 (g.inn.length + (i + 1))), (48, .im (.sl (g.regs.map LReg.im))), (49, .i g.regs.length), (50, .i (i + 1 : Nat))] 2 ⟨rfl, rfl, rfl, rfl, rfl, trivial⟩ rfl rfl, i + 1, rfl, by omega, ?_⟩
        rw [gnms_next g i f hf]
        simp
      · have hb := of_decide_eq_false hb
        have hiN : i = g.regs.length := by omega
        subst hiN
        have hall : gnms g g.regs.length = g.inn ++ g.regs.map LReg.name := by simp [gnms]
        refine Run.exit rfl ?_
        refine End.kp [1, 3] ?_
        refine Run.seq ?_
        refine Run.seq ?_
        have fx := And.intro hap (And.intro hsl (And.intro d5 (And.intro d4 (And.intro d3 (And.intro d2 (And.intro d1 (And.intro ints_len (And.intro nd_len (And.intro rim_len (And.intro strs_len ft))))))))))
        refine Run.region rfl fun K hK => GOps.sim ?_
        refine GOps.call rfl rfl rfl rfl (by kernel_rfl) (ACalls.sim ?_)
        refine (Names_twice (gnms g g.regs.length) (by rw [hall]; simp; omega) (by rw [hall]; exact hg.names) (by rw [hall]; exact hg.twice) _).mono fun v u hv => ?_
        obtain ⟨rfl, rfl⟩ := hv
        refine ⟨_, _, rfl, GOps.sim ?_⟩
        refine GOps.done (hK _ ?_); clear hK K
        refine End.kp [1, 6] ?_
        refine Run.seq ?_
        refine Run.go ?_
        refine End.kp [1, 6, 63] ?_
        refine Run.cond _ rfl (fun hb => ?_) (fun hb => ?_)
        · have hb := hb
          refine Run.seq ?_
          have fx := And.intro hap (And.intro hsl (And.intro d5 (And.intro d4 (And.intro d3 (And.intro d2 (And.intro d1 (And.intro ints_len (And.intro nd_len (And.intro rim_len (And.intro strs_len ft))))))))))
          refine Run.go ?_
          refine End.kp [2] ?_
          refine Run.ret (hQ _ _ ⟨.inr rfl, _, rfl, _, rfl, ?_⟩)
          exact ⟨rfl, rfl⟩
        · have hb := hb
          simp at hb
theorem CopyP_ok (g : LGraph) (hg : GSmall g) (f : List AObj) (rest : Frs) : ACalls Try.prog 117 [g.pv] (f :: rest) fun v u => v = .agg [.im (.sl (strs g.inn)), .ms 0 (f.length + 0) g.out.length, .ms 0 (f.length + 1) g.regs.length, .im (.sl (g.ands.map nd)), .im (.sl (ints g.outs))] ∧
    u = (f ++ [.row 9 1 (strs g.out) 0, .row 69 3 (g.regs.map LReg.im) 0, .box [.im (.sl (strs g.inn)), .im (.sl (strs g.out)), .im (.sl (g.regs.map LReg.im)), .im (.sl (g.ands.map nd)), .im (.sl (ints g.outs))], .box [.im (.sl (strs g.inn)), .ms 0 (f.length + 0) g.out.length, .ms 0 (f.length + 1) g.regs.length, .im (.sl (g.ands.map nd)), .im (.sl (ints g.outs))]]) :: rest := by
  obtain ⟨z1, z2, z3, z4, z5⟩ := hg
  have hset : ∀ (u : Frs) (d j : Nat) (o x : AObj), fget u d j = some o → fget (fset u d j x) d j = some x := fun u d j o x h => fget_fset_same _ _ _ _ _ h
  refine ACalls.codeX Try.func117 rfl 19 rfl (by simp) [.cell 2 51] rfl fun Q hQ => ?_
  simp only [ups, PV.up, argEnv]
  have ft := And.intro ty_2 (And.intro ty_3 (And.intro ty_4 (And.intro ty_9 (And.intro ty_26 (And.intro ty_47 (And.intro ty_48 (And.intro ty_49 (And.intro ty_51 (And.intro ty_62 (And.intro ty_69 (And.intro ty_137 trivial)))))))))))
  refine Run.ghost (.spares 2) ?_
  simp only [ASt.pushN, ASt.push, List.append_assoc, List.cons_append, List.nil_append]
  refine Run.seq ?_
  have fx := ft
  refine Run.go ?_
  refine End.kp [1, 2] ?_
  refine Run.seq ?_
  refine Run.drawA fun K hK => ?_
  refine DOps.sim ?_
  refine DOps.call (.im (.sl (strs g.inn))) [] [] rfl rfl rfl rfl (by kernel_rfl) (by simp [Agree]) (fun u hu => CloneS_ok g.inn (by omega) u) ?_
  refine DOps.sim ?_
  refine DOps.call (.ms 0 0 g.out.length) [((0, 0), .dead)] [((0, 0), .row 9 1 (strs g.out) 0)] rfl rfl rfl rfl (by kernel_rfl) (by simp [Agree, ASt.fr]) (fun u hu => CloneSI_ok g.out (by omega) 0 u (hu ((0, 0), .dead) (by simp))) ?_
  refine DOps.sim ?_
  refine DOps.call (.ms 0 1 g.regs.length) [((0, 1), .dead)] [((0, 1), .row 69 3 (g.regs.map LReg.im) 0)] rfl rfl rfl rfl (by kernel_rfl) (by simp [Agree, ASt.fr]) (fun u hu => CloneRI_ok g.regs (by omega) 1 u (hu ((0, 1), .dead) (by simp))) ?_
  refine DOps.sim ?_
  refine DOps.call (.im (.sl (g.ands.map nd))) [] [] rfl rfl rfl rfl (by kernel_rfl) (by simp [Agree]) (fun u hu => CloneN_ok g.ands (by omega) u) ?_
  refine DOps.sim ?_
  refine DOps.call (.im (.sl (ints g.outs))) [] [] rfl rfl rfl rfl (by kernel_rfl) (by simp [Agree]) (fun u hu => CloneL_ok g.outs (by omega) u) ?_
  refine DOps.sim ?_
  refine DOps.nil (by rfl) (hK _ ?_); clear hK K
  refine End.kp [2] ?_
  refine Run.resX hQ ?_
  exact ⟨rfl, rfl⟩
theorem CopyJ_ok (g : LGraph) (hg : GSmall g) (f : List AObj) (rest : Frs) : ACalls Try.prog 117 [g.pv] (f :: rest) fun v u => v = .agg [.ms 0 (f.length + 0) g.inn.length, .im (.sl (strs g.out)), .im (.sl (g.regs.map LReg.im)), .im (.sl (g.ands.map nd)), .im (.sl (ints g.outs))] ∧
    u = (f ++ [.row 9 1 (strs g.inn) 0, .box [.im (.sl (strs g.inn)), .im (.sl (strs g.out)), .im (.sl (g.regs.map LReg.im)), .im (.sl (g.ands.map nd)), .im (.sl (ints g.outs))], .box [.ms 0 (f.length + 0) g.inn.length, .im (.sl (strs g.out)), .im (.sl (g.regs.map LReg.im)), .im (.sl (g.ands.map nd)), .im (.sl (ints g.outs))]]) :: rest := by
  obtain ⟨z1, z2, z3, z4, z5⟩ := hg
  refine ACalls.codeX Try.func117 rfl 19 rfl (by simp) [.cell 2 51] rfl fun Q hQ => ?_
  simp only [ups, PV.up, argEnv]
  have ft := And.intro ty_2 (And.intro ty_3 (And.intro ty_4 (And.intro ty_9 (And.intro ty_26 (And.intro ty_47 (And.intro ty_48 (And.intro ty_49 (And.intro ty_51 (And.intro ty_62 (And.intro ty_69 (And.intro ty_137 trivial)))))))))))
  refine Run.ghost (.spares 1) ?_
  simp only [ASt.pushN, ASt.push, List.append_assoc, List.cons_append, List.nil_append]
  refine Run.seq ?_
  have fx := ft
  refine Run.go ?_
  refine End.kp [1, 2] ?_
  refine Run.seq ?_
  refine Run.drawA fun K hK => ?_
  refine DOps.sim ?_
  refine DOps.call (.ms 0 0 g.inn.length) [((0, 0), .dead)] [((0, 0), .row 9 1 (strs g.inn) 0)] rfl rfl rfl rfl (by kernel_rfl) (by simp [Agree, ASt.fr]) (fun u hu => CloneSI_ok g.inn (by omega) 0 u (hu ((0, 0), .dead) (by simp))) ?_
  refine DOps.sim ?_
  refine DOps.call (.im (.sl (strs g.out))) [] [] rfl rfl rfl rfl (by kernel_rfl) (by simp [Agree]) (fun u hu => CloneS_ok g.out (by omega) u) ?_
  refine DOps.sim ?_
  refine DOps.call (.im (.sl (g.regs.map LReg.im))) [] [] rfl rfl rfl rfl (by kernel_rfl) (by simp [Agree]) (fun u hu => CloneR_ok g.regs (by omega) u) ?_
  refine DOps.sim ?_
  refine DOps.call (.im (.sl (g.ands.map nd))) [] [] rfl rfl rfl rfl (by kernel_rfl) (by simp [Agree]) (fun u hu => CloneN_ok g.ands (by omega) u) ?_
  refine DOps.sim ?_
  refine DOps.call (.im (.sl (ints g.outs))) [] [] rfl rfl rfl rfl (by kernel_rfl) (by simp [Agree]) (fun u hu => CloneL_ok g.outs (by omega) u) ?_
  refine DOps.sim ?_
  refine DOps.nil (by rfl) (hK _ ?_); clear hK K
  refine End.kp [2] ?_
  refine Run.resX hQ ?_
  exact ⟨rfl, rfl⟩
end Go.Proofs.YtkmnmokjlpenhaaPi

/- The walk of Prefix of graphs. -/
set_option linter.unusedVariables false
set_option linter.unusedSimpArgs false
set_option maxRecDepth 100000
namespace Go.Proofs.YtkmnmokjlpenhaaPi
set_option maxHeartbeats 4000000
section
variable {α : Type} (f : α → α) (l : List α)
/-- The first i elements are changed. -/
def stepL (i : Nat) : List α := (l.take i).map f ++ l.drop i
theorem stepL_zero : stepL f l 0 = l := by simp [stepL]
theorem stepL_all : stepL f l l.length = l.map f := by simp [stepL]
theorem stepL_len (i : Nat) : (stepL f l i).length = l.length := by simp [stepL]; omega
theorem stepL_get (i : Nat) (x : α) (h : l[i]? = some x) : (stepL f l i)[i]? = some x := by
  have hi := (List.getElem?_eq_some_iff.1 h).1
  unfold stepL
  rw [List.getElem?_append_right (by simp; omega)]
  simp only [List.length_map, List.length_take, List.getElem?_drop]
  rw [show i + (i - min i l.length) = i by omega]
  exact h
theorem stepL_set (i : Nat) (x : α) (h : l[i]? = some x) : (stepL f l i).set i (f x) = stepL f l (i + 1) := by
  have hi := (List.getElem?_eq_some_iff.1 h).1
  unfold stepL
  rw [List.set_append_right _ _ (by simp; omega)]
  simp only [List.length_map, List.length_take]
  rw [show i - min i l.length = 0 by omega, List.take_add_one, h]
  obtain ⟨hi2, e⟩ := List.getElem?_eq_some_iff.1 h
  have e3 : (l.drop i).set 0 (f x) = f x :: l.drop (i + 1) := by rw [List.drop_eq_getElem_cons hi, List.set_cons_zero]
  rw [e3]
  simp
end
abbrev preR (s : ByteArray) (r : LReg) : LReg := { r with name := s ++ r.name }
/-- The graph whose registers and outputs have names that begin with s. -/
def prefG (s : ByteArray) (g : LGraph) : LGraph := ⟨g.inn, g.out.map (s ++ ·), g.regs.map (preR s), g.ands, g.outs⟩
theorem Prefix_ok (s : ByteArray) (hs : s.size ≤ 128) (g : LGraph) (hg : GraphOk g) (hp : GraphOk (prefG s g)) (up : Frs) : ACalls Try.prog 68 [g.pv, .im (.str s)] up fun v u => v = .tup [(prefG s g).pv, .i 0] ∧ u = up := by
  obtain ⟨z1, z2, z3, z4, z5⟩ := hg.small
  have d1 : decide (128 < (s.size : Int)) = false := decide_eq_false (by omega)
  have hpv : (prefG s g).pv = .agg [.im (.sl (strs g.inn)), .im (.sl (strs (g.out.map (s ++ ·)))), .im (.sl ((g.regs.map (preR s)).map LReg.im)), .im (.sl (g.ands.map nd)), .im (.sl (ints g.outs))] := rfl
  refine ACalls.code Try.func68 rfl 68 rfl (by simp) [.cell 4 51, .tmp 5] rfl fun Q hQ => ?_
  simp only [ups, PV.up, argEnv]
  have ft := And.intro ty_2 (And.intro ty_3 (And.intro ty_4 (And.intro ty_9 (And.intro ty_26 (And.intro ty_34 (And.intro ty_47 (And.intro ty_51 (And.intro ty_69 trivial))))))))
  refine Run.seq ?_
  have fx := And.intro (@gt_iff_lt Int _) (And.intro d1 ft)
  refine Run.go ?_
  refine End.kp [1, 2, 4] ?_
  refine Run.seq ?_
  refine Run.seq ?_
  refine Run.region rfl fun K hK => GOps.sim ?_
  refine GOps.call rfl rfl rfl rfl (by kernel_rfl) (ACalls.sim ?_)
  refine (Check_ok g hg _).mono fun v u hv => ?_
  obtain ⟨rfl, rfl⟩ := hv
  refine ⟨_, _, rfl, GOps.sim ?_⟩
  refine GOps.done (hK _ ?_); clear hK K
  refine End.kp [1, 2, 4, 6] ?_
  refine Run.seq ?_
  refine Run.go ?_
  refine End.kp [1, 2, 4, 6, 14] ?_
  refine Run.cond _ rfl (fun hb => ?_) (fun hb => ?_)
  · have hb2 := hb
    simp at hb
  · have hb2 := hb
    refine Run.skip ?_
    refine End.kp [1, 2, 4] ?_
    refine Run.seq ?_
    refine Run.seq ?_
    have fx := And.intro (@gt_iff_lt Int _) (And.intro d1 ft)
    refine Run.go ?_
    refine End.kp [1, 2, 4, 19] ?_
    refine Run.cond _ rfl (fun hb => ?_) (fun hb => ?_)
    · have hb2 := hb
      simp at hb
    · have hb2 := hb
      refine Run.skip ?_
      refine End.kp [1, 2, 4] ?_
      refine Run.seq ?_
      have fx := And.intro (@gt_iff_lt Int _) (And.intro d1 ft)
      refine Run.region rfl fun K hK => GOps.sim ?_
      refine GOps.call rfl rfl rfl rfl (by kernel_rfl) (ACalls.sim ?_)
      refine (CopyP_ok g hg.small _ _).mono fun v u hv => ?_
      obtain ⟨rfl, rfl⟩ := hv
      refine ⟨_, _, rfl, GOps.sim ?_⟩
      refine GOps.done (hK _ ?_); clear hK K
      refine End.kp [1, 4, 7] ?_
      refine Run.seq ?_
      refine Run.seq ?_
      have ho0 := stepL_zero (s ++ ·) g.out
      have hr0 := stepL_zero (preR s) g.regs
      have fx := And.intro (@gt_iff_lt Int _) (And.intro d1 ft)
      refine Run.go ?_
      refine End.kp [1, 4, 7, 25, 26] ?_
      refine Run.block ?_
      refine Run.ghost (Ghost.form [(1, .im (.str s)), (4, .ptr 0 1 0), (7, .ptr 0 6 0), (25, .i g.regs.length), (26, .i (0 : Nat))] 7 ⟨rfl, rfl, rfl, rfl, rfl, trivial⟩ rfl rfl) ?_
      refine Run.loop (fun m st => ∃ (i : Nat), m = g.regs.length - i ∧ i ≤ g.regs.length ∧ st = ⟨[(1, .im (.str s)), (4, .ptr 0 1 0), (7, .ptr 0 6 0), (25, .i g.regs.length), (26, .i (i : Nat))], [.box [.im (.sl (strs g.inn)), .im (.sl (strs g.out)), .im (.sl (g.regs.map LReg.im)), .im (.sl (g.ands.map nd)), .im (.sl (ints g.outs))], .box [.nils, .nils, .nils, .nils, .nils], .row 9 1 (strs (stepL (s ++ ·) g.out 0)) 0, .row 69 3 ((stepL (preR s) g.regs i).map LReg.im) 0, .box [.im (.sl (strs g.inn)), .im (.sl (strs g.out)), .im (.sl (g.regs.map LReg.im)), .im (.sl (g.ands.map nd)), .im (.sl (ints g.outs))], .box [.im (.sl (strs g.inn)), .ms 0 2 g.out.length, .ms 0 3 g.regs.length, .im (.sl (g.ands.map nd)), .im (.sl (ints g.outs))], .box [.im (.sl (strs g.inn)), .ms 0 2 g.out.length, .ms 0 3 g.regs.length, .im (.sl (g.ands.map nd)), .im (.sl (ints g.outs))]], up⟩) g.regs.length ⟨0, rfl, by omega, by rw [ho0, hr0]; rfl⟩ fun m st hI => ?_
      obtain ⟨i, rfl, hi, rfl⟩ := hI
      have hrm : ((stepL (preR s) g.regs i).map LReg.im).length = g.regs.length := by rw [rim_len, stepL_len]
      refine Run.seq ?_
      have fx := And.intro hrm (And.intro (@gt_iff_lt Int _) (And.intro d1 ft))
      refine Run.go ?_
      refine End.kp [1, 4, 7, 25, 26, 27] ?_
      refine Run.seq ?_
      refine Run.cond _ rfl (fun hb => ?_) (fun hb => ?_)
      · have hb2 := of_decide_eq_true hb
        have hin : i < g.regs.length := by omega
        have hil : (i : Int) < (g.regs.length : Int) := by omega
        have wi := wsucc hin (by omega)
        obtain ⟨r, hr, hrm2, hgt⟩ := reg_at g.regs i hin
        have hri := stepL_get (preR s) g.regs i r hr
        have hrs := stepL_set (preR s) g.regs i r hr
        have hgi : ((stepL (preR s) g.regs i).map LReg.im)[i]? = some [.str r.name, .int .i64 r.next, .bool r.init] := by rw [List.getElem?_map, hri]; rfl
        have hnm := (hg.names r.name (List.mem_append_right _ (List.mem_map.2 ⟨r, hrm2, rfl⟩))).high
        have hsz : s.size + r.name.size ≤ 9223372036854775807 := by omega
        refine Run.skip ?_
        refine End.kp [1, 4, 7, 25, 26] ?_
        refine Run.seq ?_
        refine Run.block ?_
        refine Run.seq ?_
        have fx := And.intro (@Int.toNat_natCast) (And.intro (@Int.natCast_nonneg) (And.intro hsz (And.intro hil (And.intro hgi (And.intro wi (And.intro hrm (And.intro (@gt_iff_lt Int _) (And.intro d1 ft))))))))
        refine Run.go ?_
        refine End.kp [1, 4, 7, 8, 25, 26] ?_
        refine Run.drawA fun K hK => ?_
        refine DOps.sim ?_
        refine DOps.nil (by rfl) (hK _ ?_); clear hK K
        refine End.blk ?_
        refine End.kp [1, 4, 7, 25, 26] ?_
        refine Run.go ?_
        refine End.lp ?_
        refine ⟨g.regs.length - (i + 1), _, by omega, Ghost.form [(1, .im (.str s)), (4, .ptr 0 1 0), (7, .ptr 0 6 0), (25, .i g.regs.length), (26, .i (i + 1 : Nat))] 7 ⟨rfl, rfl, rfl, rfl, rfl, trivial⟩ rfl rfl, i + 1, rfl, by omega, ?_⟩
        rw [← hrs, List.map_set]
        rfl
      · have hb2 := of_decide_eq_false hb
        have hiN : i = g.regs.length := by omega
        subst hiN
        rw [stepL_all] at hrm ⊢
        have hom : (strs (stepL (s ++ ·) g.out 0)).length = g.out.length := by rw [strs_len, stepL_len]
        refine Run.exit rfl ?_
        refine End.kp [1, 4, 7] ?_
        refine Run.seq ?_
        refine Run.seq ?_
        have fx := And.intro hom (And.intro hrm (And.intro (@gt_iff_lt Int _) (And.intro d1 ft)))
        refine Run.go ?_
        refine End.kp [1, 4, 7, 45, 46] ?_
        refine Run.block ?_
        refine Run.ghost (Ghost.form [(1, .im (.str s)), (4, .ptr 0 1 0), (7, .ptr 0 6 0), (45, .i g.out.length), (46, .i (0 : Nat))] 7 ⟨rfl, rfl, rfl, rfl, rfl, trivial⟩ rfl rfl) ?_
        refine Run.loop (fun m st => ∃ (i : Nat), m = g.out.length - i ∧ i ≤ g.out.length ∧ st = ⟨[(1, .im (.str s)), (4, .ptr 0 1 0), (7, .ptr 0 6 0), (45, .i g.out.length), (46, .i (i : Nat))], [.box [.im (.sl (strs g.inn)), .im (.sl (strs g.out)), .im (.sl (g.regs.map LReg.im)), .im (.sl (g.ands.map nd)), .im (.sl (ints g.outs))], .box [.nils, .nils, .nils, .nils, .nils], .row 9 1 (strs (stepL (s ++ ·) g.out i)) 0, .row 69 3 ((g.regs.map (preR s)).map LReg.im) 0, .box [.im (.sl (strs g.inn)), .im (.sl (strs g.out)), .im (.sl (g.regs.map LReg.im)), .im (.sl (g.ands.map nd)), .im (.sl (ints g.outs))], .box [.im (.sl (strs g.inn)), .ms 0 2 g.out.length, .ms 0 3 g.regs.length, .im (.sl (g.ands.map nd)), .im (.sl (ints g.outs))], .box [.im (.sl (strs g.inn)), .ms 0 2 g.out.length, .ms 0 3 g.regs.length, .im (.sl (g.ands.map nd)), .im (.sl (ints g.outs))]], up⟩) g.out.length ⟨0, rfl, by omega, rfl⟩ fun m st hI => ?_
        obtain ⟨i, rfl, hi, rfl⟩ := hI
        have hom2 : (strs (stepL (s ++ ·) g.out i)).length = g.out.length := by rw [strs_len, stepL_len]
        refine Run.seq ?_
        have fx := And.intro hom2 (And.intro hom (And.intro hrm (And.intro (@gt_iff_lt Int _) (And.intro d1 ft))))
        refine Run.go ?_
        refine End.kp [1, 4, 7, 45, 46, 47] ?_
        refine Run.seq ?_
        refine Run.cond _ rfl (fun hb => ?_) (fun hb => ?_)
        · have hb2 := of_decide_eq_true hb
          have hin : i < g.out.length := by omega
          have hil : (i : Int) < (g.out.length : Int) := by omega
          have wi := wsucc hin (by omega)
          obtain ⟨x, hx1, hx2, hx3⟩ := str_at g.out i hin
          have hss : strs ((stepL (s ++ ·) g.out i).set i (s ++ x)) = (strs (stepL (s ++ ·) g.out i)).set i [.str (s ++ x)] := by simp [List.map_set]
          have hri := stepL_get (s ++ ·) g.out i x hx1
          have hrs := stepL_set (s ++ ·) g.out i x hx1
          have hgi : (strs (stepL (s ++ ·) g.out i))[i]? = some [.str x] := by rw [List.getElem?_map, hri]; rfl
          have hnm := (hg.onames x hx2).high
          have hsz : s.size + x.size ≤ 9223372036854775807 := by omega
          refine Run.skip ?_
          refine End.kp [1, 4, 7, 45, 46] ?_
          refine Run.seq ?_
          refine Run.block ?_
          refine Run.seq ?_
          have fx := And.intro (@Int.toNat_natCast) (And.intro (@Int.natCast_nonneg) (And.intro hsz (And.intro hil (And.intro hgi (And.intro wi (And.intro hom2 (And.intro hom (And.intro hrm (And.intro (@gt_iff_lt Int _) (And.intro d1 ft))))))))))
          refine Run.go ?_
          refine End.kp [1, 4, 7, 9, 45, 46] ?_
          refine Run.drawA fun K hK => ?_
          refine DOps.sim ?_
          refine DOps.nil (by rfl) (hK _ ?_); clear hK K
          refine End.blk ?_
          refine End.kp [1, 4, 7, 45, 46] ?_
          refine Run.go ?_
          refine End.lp ?_
          refine ⟨g.out.length - (i + 1), _, by omega, Ghost.form [(1, .im (.str s)), (4, .ptr 0 1 0), (7, .ptr 0 6 0), (45, .i g.out.length), (46, .i (i + 1 : Nat))] 7 ⟨rfl, rfl, rfl, rfl, rfl, trivial⟩ rfl rfl, i + 1, rfl, by omega, ?_⟩
          rw [← hrs, hss]
          rfl
        · have hb2 := of_decide_eq_false hb
          have hiN : i = g.out.length := by omega
          subst hiN
          rw [stepL_all] at hom2 ⊢
          refine Run.exit rfl ?_
          refine End.kp [4, 7] ?_
          refine Run.seq ?_
          refine Run.seq ?_
          refine Run.ghost (Ghost.boxShut (j := 6) (i := 1) (r := 2) rfl rfl rfl hom2) ?_
          refine Run.ghost (Ghost.boxShut (j := 6) (i := 2) (r := 3) rfl rfl rfl (by simp)) ?_
          simp only [List.set_cons_zero, List.set_cons_succ]
          have fx := And.intro hom2 (And.intro hom (And.intro hrm (And.intro (@gt_iff_lt Int _) (And.intro d1 ft))))
          refine Run.region rfl fun K hK => GOps.sim ?_
          refine GOps.call rfl rfl rfl rfl (by kernel_rfl) (ACalls.sim ?_)
          refine (Check_ok (prefG s g) hp _).mono fun v u hv => ?_
          obtain ⟨rfl, rfl⟩ := hv
          refine ⟨_, _, rfl, GOps.sim ?_⟩
          refine GOps.done (hK _ ?_); clear hK K
          refine End.kp [4, 7, 10] ?_
          refine Run.seq ?_
          refine Run.go ?_
          refine End.kp [4, 7, 10, 64] ?_
          refine Run.cond _ rfl (fun hb => ?_) (fun hb => ?_)
          · have hb2 := hb
            simp at hb
          · have hb2 := hb
            refine Run.skip ?_
            refine End.kp [4, 7] ?_
            refine Run.seq ?_
            have fx := And.intro hom2 (And.intro hom (And.intro hrm (And.intro (@gt_iff_lt Int _) (And.intro d1 ft))))
            refine Run.go ?_
            refine End.kp [4, 5] ?_
            refine Run.resC hQ ?_
            exact ⟨rfl, rfl⟩
end Go.Proofs.YtkmnmokjlpenhaaPi

/- The walks of the closures of Join, and of add. -/
set_option linter.unusedVariables false
set_option linter.unusedSimpArgs false
set_option maxRecDepth 100000
namespace Go.Proofs.YtkmnmokjlpenhaaPi
set_option maxHeartbeats 4000000
/-- The literal that node i of the first graph becomes. -/
def oldV (na n ra rb i : Int) : Int :=
  2 * (if n + ra < (if na < i then i + (n - na) else i) then (if na < i then i + (n - na) else i) + rb else (if na < i then i + (n - na) else i))
/-- The inputs of both. -/
def jIn (a b : LGraph) (i : Nat) : List ByteArray := a.inn ++ (b.inn.take i).filter fun s => decide (s ∉ a.inn)
abbrev jInA (a b : LGraph) : List ByteArray := jIn a b b.inn.length
/-- The literal that node i of the second graph becomes. -/
def nowV (I : List ByteArray) (b : LGraph) (n ra aa : Int) (i : Int) : Int :=
  if i = 0 then 0
  else if i ≤ b.inn.length then 2 * (1 + idxS (b.inn.getD (i - 1).toNat ByteArray.empty) I 0)
  else if i ≤ b.inn.length + b.regs.length then 2 * (i - b.inn.length + n + ra)
  else 2 * (i - b.inn.length + n + ra + aa)
theorem idxS_range (v : ByteArray) (l : List ByteArray) : -1 ≤ idxS v l 0 ∧ idxS v l 0 < l.length := by
  by_cases h : v ∈ l
  · obtain ⟨k, h1, h2, h3⟩ := idxS_in v l 0 h
    rw [h1]
    omega
  · rw [idxS_no v l 0 h]
    omega
theorem old_ok (a b : LGraph) (ha : GSmall a) (hb : GSmall b) (n : Nat) (hn : n ≤ 300) (hna : a.inn.length ≤ n) (i : Nat) (hi : i ≤ 10000) (up : Frs) (d : Nat) (h0 : fget up d 0 = some (.box [.im (.sl (strs a.inn)), .im (.sl (strs a.out)), .im (.sl (a.regs.map LReg.im)), .im (.sl (a.ands.map nd)), .im (.sl (ints a.outs))])) (h7 : fget up d 7 = some (.box [.i (n : Nat)])) (h8 : fget up d 8 = some (.box [.i a.regs.length])) (h1 : fget up d 1 = some (.box [.im (.sl (strs b.inn)), .im (.sl (strs b.out)), .im (.sl (b.regs.map LReg.im)), .im (.sl (b.ands.map nd)), .im (.sl (ints b.outs))])) :
    ACalls Try.prog 124 [.i i, .ptr d 0 0, .ptr d 7 0, .ptr d 8 0, .ptr d 1 0] up fun v u => v = .i (oldV a.inn.length n a.regs.length b.regs.length i) ∧ u = up := by
  obtain ⟨z1, z2, z3, z4, z5⟩ := ha
  obtain ⟨y1, y2, y3, y4, y5⟩ := hb
  have w1 : IntKind.i64.wrap ((n : Int) - a.inn.length) = (n : Int) - a.inn.length := wrap64 (by omega)
  have w2 : IntKind.i64.wrap ((i : Int) + ((n : Int) - a.inn.length)) = (i : Int) + ((n : Int) - a.inn.length) := wrap64 (by omega)
  have w3 : IntKind.i64.wrap ((n : Int) + a.regs.length) = (n : Int) + a.regs.length := wrap64 (by omega)
  have w4 : ∀ x : Int, 0 ≤ x → x ≤ 20000 → IntKind.i64.wrap (x + (b.regs.length : Int)) = x + b.regs.length := fun x h1 h2 => wrap64 (by omega)
  have w5 : ∀ x : Int, 0 ≤ x → x ≤ 30000 → IntKind.i64.wrap (2 * x) = 2 * x := fun x h1 h2 => wrap64 (by omega)
  have w6 := w4 i (by omega) (by omega)
  have w7 := w4 ((i : Int) + ((n : Int) - a.inn.length)) (by omega) (by omega)
  have w8 := w5 i (by omega) (by omega)
  have w9 := w5 ((i : Int) + ((n : Int) - a.inn.length)) (by omega) (by omega)
  have wa := w5 ((i : Int) + b.regs.length) (by omega) (by omega)
  have wb := w5 ((i : Int) + ((n : Int) - a.inn.length) + b.regs.length) (by omega) (by omega)
  refine ACalls.code Try.func124 rfl 31 rfl (by simp) [.tmp 6] rfl fun Q hQ => ?_
  simp only [ups, PV.up, argEnv]
  have ft := And.intro ty_2 (And.intro ty_3 (And.intro ty_4 (And.intro ty_9 (And.intro ty_26 (And.intro ty_47 (And.intro ty_51 (And.intro ty_62 (And.intro ty_69 trivial))))))))
  refine Run.seq ?_
  have fx := And.intro (@gt_iff_lt Int _) (And.intro wb (And.intro wa (And.intro w9 (And.intro w8 (And.intro w7 (And.intro w6 (And.intro w3 (And.intro w2 (And.intro w1 (And.intro rim_len (And.intro strs_len (And.intro upN_im (And.intro downN_im (And.intro h1 (And.intro h8 (And.intro h7 (And.intro h0 ft)))))))))))))))))
  refine Run.go ?_
  refine End.kp [0, 1, 2, 3, 4] ?_
  refine Run.seq ?_
  refine Run.seq ?_
  refine Run.go ?_
  refine End.kp [0, 1, 2, 3, 4, 11] ?_
  refine Run.cond _ rfl (fun hb => ?_) (fun hb => ?_)
  · have hb2 := of_decide_eq_true hb
    have fx := And.intro (@gt_iff_lt Int _) (And.intro wb (And.intro wa (And.intro w9 (And.intro w8 (And.intro w7 (And.intro w6 (And.intro w3 (And.intro w2 (And.intro w1 (And.intro rim_len (And.intro strs_len (And.intro upN_im (And.intro downN_im (And.intro h1 (And.intro h8 (And.intro h7 (And.intro h0 ft)))))))))))))))))
    refine Run.go ?_
    refine End.kp [0, 2, 3, 4] ?_
    refine Run.seq ?_
    refine Run.seq ?_
    refine Run.go ?_
    refine End.kp [0, 4, 23] ?_
    refine Run.cond _ rfl (fun hb => ?_) (fun hb => ?_)
    · have hb3 := of_decide_eq_true hb
      have fx := And.intro (@gt_iff_lt Int _) (And.intro wb (And.intro wa (And.intro w9 (And.intro w8 (And.intro w7 (And.intro w6 (And.intro w3 (And.intro w2 (And.intro w1 (And.intro rim_len (And.intro strs_len (And.intro upN_im (And.intro downN_im (And.intro h1 (And.intro h8 (And.intro h7 (And.intro h0 ft)))))))))))))))))
      refine Run.go ?_
      refine End.kp [0] ?_
      refine Run.seq ?_
      refine Run.go ?_
      refine End.kp [6] ?_
      refine Run.ret (hQ _ _ ⟨.inr rfl, _, rfl, _, rfl, ?_⟩)
      exact ⟨by simp only [oldV, if_pos hb2, if_pos hb3], rfl⟩
    · have hb3 := of_decide_eq_false hb
      refine Run.skip ?_
      refine End.kp [0] ?_
      refine Run.seq ?_
      have fx := And.intro (@gt_iff_lt Int _) (And.intro wb (And.intro wa (And.intro w9 (And.intro w8 (And.intro w7 (And.intro w6 (And.intro w3 (And.intro w2 (And.intro w1 (And.intro rim_len (And.intro strs_len (And.intro upN_im (And.intro downN_im (And.intro h1 (And.intro h8 (And.intro h7 (And.intro h0 ft)))))))))))))))))
      refine Run.go ?_
      refine End.kp [6] ?_
      refine Run.ret (hQ _ _ ⟨.inr rfl, _, rfl, _, rfl, ?_⟩)
      exact ⟨by simp only [oldV, if_pos hb2, if_neg hb3], rfl⟩
  · have hb2 := of_decide_eq_false hb
    refine Run.skip ?_
    refine End.kp [0, 2, 3, 4] ?_
    refine Run.seq ?_
    refine Run.seq ?_
    have fx := And.intro (@gt_iff_lt Int _) (And.intro wb (And.intro wa (And.intro w9 (And.intro w8 (And.intro w7 (And.intro w6 (And.intro w3 (And.intro w2 (And.intro w1 (And.intro rim_len (And.intro strs_len (And.intro upN_im (And.intro downN_im (And.intro h1 (And.intro h8 (And.intro h7 (And.intro h0 ft)))))))))))))))))
    refine Run.go ?_
    refine End.kp [0, 4, 23] ?_
    refine Run.cond _ rfl (fun hb => ?_) (fun hb => ?_)
    · have hb3 := of_decide_eq_true hb
      have fx := And.intro (@gt_iff_lt Int _) (And.intro wb (And.intro wa (And.intro w9 (And.intro w8 (And.intro w7 (And.intro w6 (And.intro w3 (And.intro w2 (And.intro w1 (And.intro rim_len (And.intro strs_len (And.intro upN_im (And.intro downN_im (And.intro h1 (And.intro h8 (And.intro h7 (And.intro h0 ft)))))))))))))))))
      refine Run.go ?_
      refine End.kp [0] ?_
      refine Run.seq ?_
      refine Run.go ?_
      refine End.kp [6] ?_
      refine Run.ret (hQ _ _ ⟨.inr rfl, _, rfl, _, rfl, ?_⟩)
      exact ⟨by simp only [oldV, if_neg hb2, if_pos hb3], rfl⟩
    · have hb3 := of_decide_eq_false hb
      refine Run.skip ?_
      refine End.kp [0] ?_
      refine Run.seq ?_
      have fx := And.intro (@gt_iff_lt Int _) (And.intro wb (And.intro wa (And.intro w9 (And.intro w8 (And.intro w7 (And.intro w6 (And.intro w3 (And.intro w2 (And.intro w1 (And.intro rim_len (And.intro strs_len (And.intro upN_im (And.intro downN_im (And.intro h1 (And.intro h8 (And.intro h7 (And.intro h0 ft)))))))))))))))))
      refine Run.go ?_
      refine End.kp [6] ?_
      refine Run.ret (hQ _ _ ⟨.inr rfl, _, rfl, _, rfl, ?_⟩)
      exact ⟨by simp only [oldV, if_neg hb2, if_neg hb3], rfl⟩
theorem now_ok (a b : LGraph) (ha : GSmall a) (hb : GSmall b) (n : Nat) (hn : n ≤ 300) (hna : a.inn.length ≤ n) (I : List ByteArray) (hI : I.length ≤ 300) (cs : List PV) (i : Nat) (hi : i ≤ 10000) (up : Frs) (d : Nat) (h1 : fget up d 1 = some (.box [.im (.sl (strs b.inn)), .im (.sl (strs b.out)), .im (.sl (b.regs.map LReg.im)), .im (.sl (b.ands.map nd)), .im (.sl (ints b.outs))])) (h6 : fget up d 6 = some (.box (.im (.sl (strs I)) :: cs))) (h7 : fget up d 7 = some (.box [.i (n : Nat)])) (h8 : fget up d 8 = some (.box [.i a.regs.length])) (h0 : fget up d 0 = some (.box [.im (.sl (strs a.inn)), .im (.sl (strs a.out)), .im (.sl (a.regs.map LReg.im)), .im (.sl (a.ands.map nd)), .im (.sl (ints a.outs))])) :
    ACalls Try.prog 125 [.i i, .ptr d 1 0, .ptr d 6 0, .ptr d 7 0, .ptr d 8 0, .ptr d 0 0] up fun v u => v = .i (nowV I b n a.regs.length a.ands.length i) ∧ u = up := by
  obtain ⟨z1, z2, z3, z4, z5⟩ := ha
  obtain ⟨y1, y2, y3, y4, y5⟩ := hb
  have w1 : IntKind.i64.wrap ((b.inn.length : Int) + b.regs.length) = (b.inn.length : Int) + b.regs.length := wrap64 (by omega)
  have w2 : IntKind.i64.wrap ((i : Int) - b.inn.length) = (i : Int) - b.inn.length := wrap64 (by omega)
  have w3 : IntKind.i64.wrap ((i : Int) - b.inn.length + n) = (i : Int) - b.inn.length + n := wrap64 (by omega)
  have w4 : IntKind.i64.wrap ((i : Int) - b.inn.length + n + a.regs.length) = (i : Int) - b.inn.length + n + a.regs.length := wrap64 (by omega)
  have w5 : IntKind.i64.wrap ((i : Int) - b.inn.length + n + a.regs.length + a.ands.length) = (i : Int) - b.inn.length + n + a.regs.length + a.ands.length := wrap64 (by omega)
  have w6 : IntKind.i64.wrap (2 * ((i : Int) - b.inn.length + n + a.regs.length)) = 2 * ((i : Int) - b.inn.length + n + a.regs.length) := wrap64 (by omega)
  have w7 : IntKind.i64.wrap (2 * ((i : Int) - b.inn.length + n + a.regs.length + a.ands.length)) = 2 * ((i : Int) - b.inn.length + n + a.regs.length + a.ands.length) := wrap64 (by omega)
  have w8 : IntKind.i64.wrap ((i : Int) - 1) = (i : Int) - 1 := wrap64 (by omega)
  refine ACalls.code Try.func125 rfl 58 rfl (by simp) [.tmp 7] rfl fun Q hQ => ?_
  simp only [ups, PV.up, argEnv]
  have ft := And.intro ty_2 (And.intro ty_3 (And.intro ty_4 (And.intro ty_9 (And.intro ty_26 (And.intro ty_47 (And.intro ty_48 (And.intro ty_51 (And.intro ty_62 (And.intro ty_69 (And.intro ty_137 trivial))))))))))
  refine Run.seq ?_
  have fx := And.intro w7 (And.intro w6 (And.intro w5 (And.intro w4 (And.intro w3 (And.intro w2 (And.intro w1 (And.intro nd_len (And.intro rim_len (And.intro strs_len (And.intro upN_im (And.intro downN_im (And.intro h8 (And.intro h7 (And.intro h6 (And.intro h1 (And.intro h0 ft))))))))))))))))
  refine Run.go ?_
  refine End.kp [0, 1, 2, 3, 4, 5] ?_
  refine Run.seq ?_
  refine Run.go ?_
  refine End.kp [0, 1, 2, 3, 4, 5, 8] ?_
  refine Run.block ?_
  refine Run.seq ?_
  refine Run.go ?_
  refine End.kp [0, 1, 2, 3, 4, 5, 8, 24] ?_
  refine Run.cond _ rfl (fun hb => ?_) (fun hb => ?_)
  · have hb2 : (i : Int) = 0 := eq_of_beq hb
    refine Run.seq ?_
    have fx := And.intro w7 (And.intro w6 (And.intro w5 (And.intro w4 (And.intro w3 (And.intro w2 (And.intro w1 (And.intro nd_len (And.intro rim_len (And.intro strs_len (And.intro upN_im (And.intro downN_im (And.intro h8 (And.intro h7 (And.intro h6 (And.intro h1 (And.intro h0 ft))))))))))))))))
    refine Run.go ?_
    refine End.kp [7] ?_
    refine Run.ret (hQ _ _ ⟨.inr rfl, _, rfl, _, rfl, ?_⟩)
    exact ⟨by rw [nowV, if_pos hb2], rfl⟩
  · have hb2 : ¬ (i : Int) = 0 := fun e => by rw [e] at hb; simp at hb
    refine Run.seq ?_
    have fx := And.intro w7 (And.intro w6 (And.intro w5 (And.intro w4 (And.intro w3 (And.intro w2 (And.intro w1 (And.intro nd_len (And.intro rim_len (And.intro strs_len (And.intro upN_im (And.intro downN_im (And.intro h8 (And.intro h7 (And.intro h6 (And.intro h1 (And.intro h0 ft))))))))))))))))
    refine Run.go ?_
    refine End.kp [0, 1, 2, 3, 4, 5, 8, 27] ?_
    refine Run.cond _ rfl (fun hb => ?_) (fun hb => ?_)
    · have hb3 := of_decide_eq_true hb
      have hin : i - 1 < b.inn.length := by omega
      have hi1 : IntKind.i64.wrap ((i : Int) - 1) = ((i - 1 : Nat) : Int) := by rw [w8]; omega
      obtain ⟨x, hx1, hx2, hx3⟩ := str_at b.inn (i - 1) hin
      have hil : ((i - 1 : Nat) : Int) < (b.inn.length : Int) := by omega
      obtain ⟨r1, r2⟩ := idxS_range x I
      have wa : IntKind.i64.wrap (1 + idxS x I 0) = 1 + idxS x I 0 := wrap64 (by omega)
      have wb : IntKind.i64.wrap (2 * (1 + idxS x I 0)) = 2 * (1 + idxS x I 0) := wrap64 (by omega)
      refine Run.seq ?_
      have fx := And.intro (@Int.toNat_natCast) (And.intro (@Int.natCast_nonneg) (And.intro wb (And.intro wa (And.intro hil (And.intro hx3 (And.intro hi1 (And.intro w7 (And.intro w6 (And.intro w5 (And.intro w4 (And.intro w3 (And.intro w2 (And.intro w1 (And.intro nd_len (And.intro rim_len (And.intro strs_len (And.intro upN_im (And.intro downN_im (And.intro h8 (And.intro h7 (And.intro h6 (And.intro h1 (And.intro h0 ft)))))))))))))))))))))))
      refine Run.drawA fun K hK => ?_
      refine DOps.sim ?_
      refine DOps.call (.i (idxS x I 0)) [] [] rfl rfl rfl rfl (by kernel_rfl) (by simp [Agree]) (fun u hu => IndexS_ok I x (by omega) u) ?_
      refine DOps.sim ?_
      refine DOps.nil (by rfl) (hK _ ?_); clear hK K
      refine End.kp [7] ?_
      refine Run.ret (hQ _ _ ⟨.inr rfl, _, rfl, _, rfl, ?_⟩)
      refine ⟨?_, rfl⟩
      rw [nowV, if_neg hb2, if_pos hb3, show ((i : Int) - 1).toNat = i - 1 by omega, show b.inn.getD (i - 1) ByteArray.empty = x by simp [hx1]]
    · have hb3 := of_decide_eq_false hb
      refine Run.seq ?_
      have fx := And.intro w7 (And.intro w6 (And.intro w5 (And.intro w4 (And.intro w3 (And.intro w2 (And.intro w1 (And.intro nd_len (And.intro rim_len (And.intro strs_len (And.intro upN_im (And.intro downN_im (And.intro h8 (And.intro h7 (And.intro h6 (And.intro h1 (And.intro h0 ft))))))))))))))))
      refine Run.go ?_
      refine End.kp [0, 3, 4, 5, 8, 42] ?_
      refine Run.cond _ rfl (fun hb => ?_) (fun hb => ?_)
      · have hb4 := of_decide_eq_true hb
        refine Run.seq ?_
        have fx := And.intro w7 (And.intro w6 (And.intro w5 (And.intro w4 (And.intro w3 (And.intro w2 (And.intro w1 (And.intro nd_len (And.intro rim_len (And.intro strs_len (And.intro upN_im (And.intro downN_im (And.intro h8 (And.intro h7 (And.intro h6 (And.intro h1 (And.intro h0 ft))))))))))))))))
        refine Run.go ?_
        refine End.kp [7] ?_
        refine Run.ret (hQ _ _ ⟨.inr rfl, _, rfl, _, rfl, ?_⟩)
        exact ⟨by rw [nowV, if_neg hb2, if_neg hb3, if_pos hb4], rfl⟩
      · have hb4 := of_decide_eq_false hb
        refine Run.seq ?_
        have fx := And.intro w7 (And.intro w6 (And.intro w5 (And.intro w4 (And.intro w3 (And.intro w2 (And.intro w1 (And.intro nd_len (And.intro rim_len (And.intro strs_len (And.intro upN_im (And.intro downN_im (And.intro h8 (And.intro h7 (And.intro h6 (And.intro h1 (And.intro h0 ft))))))))))))))))
        refine Run.go ?_
        refine End.kp [7] ?_
        refine Run.ret (hQ _ _ ⟨.inr rfl, _, rfl, _, rfl, ?_⟩)
        exact ⟨by rw [nowV, if_neg hb2, if_neg hb3, if_neg hb4], rfl⟩
end Go.Proofs.YtkmnmokjlpenhaaPi

/- The walks of add: the nodes of a graph behind those of another. -/
set_option linter.unusedVariables false
set_option linter.unusedSimpArgs false
set_option maxRecDepth 100000
namespace Go.Proofs.YtkmnmokjlpenhaaPi
set_option maxHeartbeats 8000000
theorem ups_cons (x : PV) (xs : List PV) : ups (x :: xs) = x.up :: ups xs := rfl
theorem ups_nil : ups [] = [] := rfl
def toAL (a b : LGraph) (n : Nat) : List Int := (List.range (nodesN a)).map fun i : Nat => oldV a.inn.length n a.regs.length b.regs.length i
def toBL (a b : LGraph) (I : List ByteArray) (n : Nat) : List Int := (List.range (nodesN b)).map fun i : Nat => nowV I b n a.regs.length a.ands.length i
theorem toAL_len (a b : LGraph) (n : Nat) : (toAL a b n).length = nodesN a := by simp [toAL]
theorem toBL_len (a b : LGraph) (I : List ByteArray) (n : Nat) : (toBL a b I n).length = nodesN b := by simp [toBL]
theorem toAL_get (a b : LGraph) (n k : Nat) (h : k < nodesN a) : (toAL a b n).getD k 0 = oldV a.inn.length n a.regs.length b.regs.length k := by simp [toAL, h]
theorem toBL_get (a b : LGraph) (I : List ByteArray) (n k : Nat) (h : k < nodesN b) : (toBL a b I n).getD k 0 = nowV I b n a.regs.length a.ands.length k := by simp [toBL, h]
theorem oldV_range (na n ra rb i : Int) (h0 : 0 ≤ na) (h1 : na ≤ n) (h2 : n ≤ 300) (h3 : 0 ≤ ra ∧ ra ≤ 288) (h4 : 0 ≤ rb ∧ rb ≤ 288) (h5 : 0 ≤ i ∧ i ≤ 10000) : 0 ≤ oldV na n ra rb i ∧ oldV na n ra rb i ≤ 100000 := by
  unfold oldV
  split <;> split <;> omega
theorem nowV_range (I : List ByteArray) (b : LGraph) (n ra aa i : Int) (hI : I.length ≤ 300) (h2 : 0 ≤ n ∧ n ≤ 300) (h3 : 0 ≤ ra ∧ ra ≤ 288) (h4 : 0 ≤ aa ∧ aa ≤ 4000) (h5 : 0 ≤ i ∧ i ≤ 10000) : 0 ≤ nowV I b n ra aa i ∧ nowV I b n ra aa i ≤ 100000 := by
  unfold nowV
  split
  · omega
  · split
    · have := idxS_range (b.inn.getD (i - 1).toNat ByteArray.empty) I
      omega
    · split <;> omega
abbrev mvA (to : List Int) (p : Int × Int) : Int × Int := (atV to p.1, atV to p.2)
theorem and_snoc (l : List (Int × Int)) (i : Nat) (p : Int × Int) (h : l[i]? = some p) : l.take (i + 1) = l.take i ++ [p] := by simp [List.take_add_one, h]
theorem atA_ok (a b : LGraph) (haa : GraphOk a) (hbb : GraphOk b) (I : List ByteArray) (hI : I.length ≤ 300) (n : Nat) (hn : n ≤ 300) (hna : a.inn.length ≤ n) (l : Int) (h0 : 0 ≤ l) (h1 : l < 2 * (nodesN a : Int)) (u : Frs) (hq : fget u 0 1 = some (.box [.fn 124 [.ptr 1 0 0, .ptr 1 7 0, .ptr 1 8 0, .ptr 1 1 0]])) (k0 : fget u 1 0 = some (.box [.im (.sl (strs a.inn)), .im (.sl (strs a.out)), .im (.sl (a.regs.map LReg.im)), .im (.sl (a.ands.map nd)), .im (.sl (ints a.outs))])) (k1 : fget u 1 1 = some (.box [.im (.sl (strs b.inn)), .im (.sl (strs b.out)), .im (.sl (b.regs.map LReg.im)), .im (.sl (b.ands.map nd)), .im (.sl (ints b.outs))])) (k7 : fget u 1 7 = some (.box [.i (n : Nat)])) (k8 : fget u 1 8 = some (.box [.i a.regs.length])) : ACalls Try.prog 152 [.i l, .ptr 0 1 0] u fun v u' => v = .i (atV (toAL a b n) l) ∧ u' = u := by
  obtain ⟨z1, z2, z3, z4, z5⟩ := haa.small
  obtain ⟨y1, y2, y3, y4, y5⟩ := hbb.small
  have hN : nodesN a = 1 + a.inn.length + a.regs.length + a.ands.length := rfl
  have hd := tdiv2 l h0 (by omega)
  have hm : l.tmod 2 = l % 2 := tmod2 l h0
  obtain ⟨k, hkk⟩ : ∃ k : Nat, l / 2 = k := ⟨(l / 2).toNat, by omega⟩
  rw [hkk] at hd
  have hk : k < nodesN a := by omega
  obtain ⟨g1, g2⟩ := oldV_range a.inn.length n a.regs.length b.regs.length k (by omega) (by omega) (by omega) (by omega) (by omega) (by omega)
  have hgd := toAL_get a b n k hk
  have hxo : bits .xor .i64 (oldV a.inn.length n a.regs.length b.regs.length k) (l % 2) = atV (toAL a b n) l := by
    rw [← hgd]
    have e : (l / 2).toNat = k := by omega
    have := xor_at (toAL a b n) l (by rw [e, hgd]; omega)
    rw [e] at this
    exact this
  refine ACalls.code Try.func152 rfl 11 rfl (by simp) [.tmp 3] rfl fun Q hQ => ?_
  simp only [ups, PV.up, argEnv]
  have ft := And.intro ty_3 (And.intro ty_62 trivial)
  refine Run.seq ?_
  have fx := And.intro hd (And.intro ups_nil (And.intro ups_cons (And.intro upN_ptr (And.intro hq ft))))
  refine Run.go ?_
  refine End.kp [0, 1] ?_
  refine Run.seq ?_
  refine Run.region rfl fun K hK => GOps.sim ?_
  refine GOps.call rfl rfl rfl rfl (by kernel_rfl) (ACalls.sim ?_)
  refine (old_ok a b haa.small hbb.small n hn hna k (by omega) _ 2 k0 k7 k8 k1).mono fun v u hv => ?_
  obtain ⟨rfl, rfl⟩ := hv
  refine ⟨_, _, rfl, GOps.sim ?_⟩
  refine GOps.done (hK _ ?_); clear hK K
  refine End.kp [3] ?_
  refine Run.ret (hQ _ _ ⟨.inr rfl, _, rfl, _, rfl, ?_⟩)
  exact ⟨by rw [hm, hxo], rfl⟩
theorem addA_ok (a b : LGraph) (haa : GraphOk a) (hbb : GraphOk b) (I : List ByteArray) (hI : I.length ≤ 300) (n : Nat) (hn : n ≤ 300) (hna : a.inn.length ≤ n) (o2 o3 o4 o5 : AObj) (O : List ByteArray) (R : List LReg) (A : List (Int × Int)) (L : List Int) (hO : O.length ≤ 1000) (hR : R.length ≤ 1000) (hA : A.length ≤ 10000) (hL : L.length ≤ 1000) (rest : Frs) :
    ACalls Try.prog 126 [.ptr 0 6 0, a.pv, .fn 124 [.ptr 0 0 0, .ptr 0 7 0, .ptr 0 8 0, .ptr 0 1 0]] ([.box [.im (.sl (strs a.inn)), .im (.sl (strs a.out)), .im (.sl (a.regs.map LReg.im)), .im (.sl (a.ands.map nd)), .im (.sl (ints a.outs))], .box [.im (.sl (strs b.inn)), .im (.sl (strs b.out)), .im (.sl (b.regs.map LReg.im)), .im (.sl (b.ands.map nd)), .im (.sl (ints b.outs))], o2, o3, o4, o5, .box [.im (.sl (strs I)), .ms 0 9 O.length, .ms 0 10 R.length, .ms 0 11 A.length, .ms 0 12 L.length], .box [.i (n : Nat)], .box [.i a.regs.length], .row 9 1 (strs (O)) 0, .row 69 3 ((R).map LReg.im) 0, .row 137 2 ((A).map nd) 0, .row 62 1 (ints (L)) 0] :: rest) fun v u => v = .tup [] ∧ u = [.box [.im (.sl (strs a.inn)), .im (.sl (strs a.out)), .im (.sl (a.regs.map LReg.im)), .im (.sl (a.ands.map nd)), .im (.sl (ints a.outs))], .box [.im (.sl (strs b.inn)), .im (.sl (strs b.out)), .im (.sl (b.regs.map LReg.im)), .im (.sl (b.ands.map nd)), .im (.sl (ints b.outs))], o2, o3, o4, o5, .box [.im (.sl (strs I)), .ms 0 9 (O.length + a.out.length), .ms 0 10 (R.length + a.regs.length), .ms 0 11 (A.length + a.ands.length), .ms 0 12 (L.length + a.outs.length)], .box [.i (n : Nat)], .box [.i a.regs.length], .row 9 1 (strs (O ++ a.out)) 0, .row 69 3 ((R ++ a.regs.map (mvR (toAL a b n))).map LReg.im) 0, .row 137 2 ((A ++ a.ands.map (mvA (toAL a b n))).map nd) 0, .row 62 1 (ints (L ++ a.outs.map (atV (toAL a b n)))) 0] :: rest := by
  obtain ⟨z1, z2, z3, z4, z5⟩ := haa.small
  have hN : nodesN a = 1 + a.inn.length + a.regs.length + a.ands.length := rfl
  refine ACalls.code Try.func126 rfl 93 rfl (by simp) [] rfl fun Q hQ => ?_
  simp only [ups, PV.up, argEnv]
  have ft := And.intro ty_2 (And.intro ty_3 (And.intro ty_4 (And.intro ty_9 (And.intro ty_26 (And.intro ty_47 (And.intro ty_48 (And.intro ty_49 (And.intro ty_51 (And.intro ty_62 (And.intro ty_69 (And.intro ty_137 (And.intro ty_183 trivial))))))))))))
  refine Run.seq ?_
  have fx := And.intro ups_nil (And.intro ups_cons (And.intro upN_ptr (And.intro downN_ms (And.intro upN_ms (And.intro ints_len (And.intro nd_len (And.intro rim_len (And.intro strs_len ft))))))))
  refine Run.go ?_
  refine End.kp [0, 4, 5] ?_
  refine Run.seq ?_
  refine Run.go ?_
  refine End.kp [0, 4, 6] ?_
  refine Run.seq ?_
  refine Run.seq ?_
  refine Run.go ?_
  refine End.kp [0, 4, 6, 15, 16, 17] ?_
  refine Run.block ?_
  refine Run.ghost (Ghost.form [(0, .ptr 1 6 0), (4, .ptr 0 0 0), (6, .fn 152 [.ptr 0 1 0]), (15, .im (.sl (a.regs.map LReg.im))), (16, .i a.regs.length), (17, .i (0 : Nat))] 2 ⟨rfl, rfl, rfl, rfl, rfl, rfl, trivial⟩ rfl rfl) ?_
  refine Run.loop (fun m st => ∃ i : Nat, m = a.regs.length - i ∧ i ≤ a.regs.length ∧ st = ⟨[(0, .ptr 1 6 0), (4, .ptr 0 0 0), (6, .fn 152 [.ptr 0 1 0]), (15, .im (.sl (a.regs.map LReg.im))), (16, .i a.regs.length), (17, .i (i : Nat))], [.box [.im (.sl (strs a.inn)), .im (.sl (strs a.out)), .im (.sl (a.regs.map LReg.im)), .im (.sl (a.ands.map nd)), .im (.sl (ints a.outs))], .box [.fn 124 [.ptr 1 0 0, .ptr 1 7 0, .ptr 1 8 0, .ptr 1 1 0]]], [.box [.im (.sl (strs a.inn)), .im (.sl (strs a.out)), .im (.sl (a.regs.map LReg.im)), .im (.sl (a.ands.map nd)), .im (.sl (ints a.outs))], .box [.im (.sl (strs b.inn)), .im (.sl (strs b.out)), .im (.sl (b.regs.map LReg.im)), .im (.sl (b.ands.map nd)), .im (.sl (ints b.outs))], o2, o3, o4, o5, .box [.im (.sl (strs I)), .ms 0 9 O.length, .ms 0 10 (R.length + i), .ms 0 11 A.length, .ms 0 12 L.length], .box [.i (n : Nat)], .box [.i a.regs.length], .row 9 1 (strs (O)) 0, .row 69 3 ((R ++ (a.regs.take i).map (mvR (toAL a b n))).map LReg.im) 0, .row 137 2 ((A).map nd) 0, .row 62 1 (ints (L)) 0] :: rest⟩) a.regs.length ⟨0, rfl, by omega, by simp⟩ fun m st hI => ?_
  obtain ⟨i, rfl, hi, rfl⟩ := hI
  have hrl : ((R ++ (a.regs.take i).map (mvR (toAL a b n))).map LReg.im).length = R.length + i := by simp; omega
  have hap : (R.length + i + 1) * 32 ≤ 140737488355328 := by omega
  refine Run.seq ?_
  have fx := And.intro hap (And.intro hrl (And.intro ups_nil (And.intro ups_cons (And.intro upN_ptr (And.intro downN_ms (And.intro upN_ms (And.intro ints_len (And.intro nd_len (And.intro rim_len (And.intro strs_len ft))))))))))
  refine Run.go ?_
  refine End.kp [0, 4, 6, 15, 16, 17, 18] ?_
  refine Run.seq ?_
  refine Run.cond _ rfl (fun hb => ?_) (fun hb => ?_)
  · have hb2 := of_decide_eq_true hb
    have hin : i < a.regs.length := by omega
    have hil : (i : Int) < (a.regs.length : Int) := by omega
    have wi := wsucc hin (by omega)
    obtain ⟨r, hr, hrm2, hgt⟩ := reg_at a.regs i hin
    obtain ⟨x1, x2⟩ := haa.regs r hrm2
    refine Run.skip ?_
    refine End.kp [0, 4, 6, 15, 16, 17] ?_
    refine Run.seq ?_
    refine Run.block ?_
    refine Run.seq ?_
    have fx := And.intro (@Int.toNat_natCast) (And.intro (@Int.natCast_nonneg) (And.intro hil (And.intro hgt (And.intro wi (And.intro hap (And.intro hrl (And.intro ups_nil (And.intro ups_cons (And.intro upN_ptr (And.intro downN_ms (And.intro upN_ms (And.intro ints_len (And.intro nd_len (And.intro rim_len (And.intro strs_len ft)))))))))))))))
    refine Run.go ?_
    refine End.kp [0, 4, 6, 8, 15, 16, 17] ?_
    refine Run.seq ?_
    refine Run.region rfl fun K hK => GOps.sim ?_
    refine GOps.call rfl rfl rfl rfl (by kernel_rfl) (ACalls.sim ?_)
    refine (atA_ok a b haa hbb I hI n hn hna r.next x1 (by omega) _ rfl rfl rfl rfl rfl).mono fun v u hv => ?_
    obtain ⟨rfl, rfl⟩ := hv
    refine ⟨_, _, rfl, GOps.sim ?_⟩
    refine GOps.done (hK _ ?_); clear hK K
    refine End.kp [0, 4, 6, 8, 15, 16, 17] ?_
    refine Run.ghost (.spares 1) ?_
    simp only [ASt.pushN, ASt.push, List.append_assoc, List.cons_append, List.nil_append]
    refine Run.drawA fun K hK => ?_
    refine DOps.sim ?_
    refine DOps.nil (by rfl) (hK _ ?_); clear hK K
    refine End.blk ?_
    refine End.kp [0, 4, 6, 15, 16, 17] ?_
    refine Run.go ?_
    refine End.lp ?_
    refine ⟨a.regs.length - (i + 1), _, by omega, Ghost.form [(0, .ptr 1 6 0), (4, .ptr 0 0 0), (6, .fn 152 [.ptr 0 1 0]), (15, .im (.sl (a.regs.map LReg.im))), (16, .i a.regs.length), (17, .i (i + 1 : Nat))] 2 ⟨rfl, rfl, rfl, rfl, rfl, rfl, trivial⟩ rfl rfl, i + 1, rfl, by omega, ?_⟩
    rw [reg_snoc a.regs i r hr]
    simp
    omega
  · have hb2 := of_decide_eq_false hb
    have hiN : i = a.regs.length := by omega
    subst hiN
    rw [List.take_length] at hrl ⊢
    refine Run.exit rfl ?_
    refine End.kp [0, 4, 6] ?_
    refine Run.seq ?_
    refine Run.seq ?_
    have fx := And.intro hap (And.intro hrl (And.intro ups_nil (And.intro ups_cons (And.intro upN_ptr (And.intro downN_ms (And.intro upN_ms (And.intro ints_len (And.intro nd_len (And.intro rim_len (And.intro strs_len ft))))))))))
    refine Run.go ?_
    refine End.kp [0, 4, 6, 38, 39, 40] ?_
    refine Run.block ?_
    refine Run.ghost (Ghost.form [(0, .ptr 1 6 0), (4, .ptr 0 0 0), (6, .fn 152 [.ptr 0 1 0]), (38, .im (.sl (a.ands.map nd))), (39, .i a.ands.length), (40, .i (0 : Nat))] 2 ⟨rfl, rfl, rfl, rfl, rfl, rfl, trivial⟩ rfl rfl) ?_
    refine Run.loop (fun m st => ∃ i : Nat, m = a.ands.length - i ∧ i ≤ a.ands.length ∧ st = ⟨[(0, .ptr 1 6 0), (4, .ptr 0 0 0), (6, .fn 152 [.ptr 0 1 0]), (38, .im (.sl (a.ands.map nd))), (39, .i a.ands.length), (40, .i (i : Nat))], [.box [.im (.sl (strs a.inn)), .im (.sl (strs a.out)), .im (.sl (a.regs.map LReg.im)), .im (.sl (a.ands.map nd)), .im (.sl (ints a.outs))], .box [.fn 124 [.ptr 1 0 0, .ptr 1 7 0, .ptr 1 8 0, .ptr 1 1 0]]], [.box [.im (.sl (strs a.inn)), .im (.sl (strs a.out)), .im (.sl (a.regs.map LReg.im)), .im (.sl (a.ands.map nd)), .im (.sl (ints a.outs))], .box [.im (.sl (strs b.inn)), .im (.sl (strs b.out)), .im (.sl (b.regs.map LReg.im)), .im (.sl (b.ands.map nd)), .im (.sl (ints b.outs))], o2, o3, o4, o5, .box [.im (.sl (strs I)), .ms 0 9 O.length, .ms 0 10 (R.length + a.regs.length), .ms 0 11 (A.length + i), .ms 0 12 L.length], .box [.i (n : Nat)], .box [.i a.regs.length], .row 9 1 (strs (O)) 0, .row 69 3 ((R ++ a.regs.map (mvR (toAL a b n))).map LReg.im) 0, .row 137 2 ((A ++ (a.ands.take i).map (mvA (toAL a b n))).map nd) 0, .row 62 1 (ints (L)) 0] :: rest⟩) a.ands.length ⟨0, rfl, by omega, by simp⟩ fun m st hI => ?_
    obtain ⟨i, rfl, hi, rfl⟩ := hI
    have hal : ((A ++ (a.ands.take i).map (mvA (toAL a b n))).map nd).length = A.length + i := by simp; omega
    have hap2 : (A.length + i + 1) * 16 ≤ 140737488355328 := by omega
    refine Run.seq ?_
    have fx := And.intro hap2 (And.intro hal (And.intro hap (And.intro hrl (And.intro ups_nil (And.intro ups_cons (And.intro upN_ptr (And.intro downN_ms (And.intro upN_ms (And.intro ints_len (And.intro nd_len (And.intro rim_len (And.intro strs_len ft))))))))))))
    refine Run.go ?_
    refine End.kp [0, 4, 6, 38, 39, 40, 41] ?_
    refine Run.seq ?_
    refine Run.cond _ rfl (fun hb => ?_) (fun hb => ?_)
    · have hb2 := of_decide_eq_true hb
      have hin : i < a.ands.length := by omega
      have hil : (i : Int) < (a.ands.length : Int) := by omega
      have wi := wsucc hin (by omega)
      obtain ⟨p, hp, hpm, hgt⟩ := node_at a.ands i hin
      obtain ⟨⟨x1, x2⟩, x3, x4⟩ := haa.ands i p hp
      refine Run.skip ?_
      refine End.kp [0, 4, 6, 38, 39, 40] ?_
      refine Run.seq ?_
      refine Run.block ?_
      refine Run.seq ?_
      have fx := And.intro (@Int.toNat_natCast) (And.intro (@Int.natCast_nonneg) (And.intro hil (And.intro hgt (And.intro wi (And.intro hap2 (And.intro hal (And.intro hap (And.intro hrl (And.intro ups_nil (And.intro ups_cons (And.intro upN_ptr (And.intro downN_ms (And.intro upN_ms (And.intro ints_len (And.intro nd_len (And.intro rim_len (And.intro strs_len ft)))))))))))))))))
      refine Run.go ?_
      refine End.kp [0, 4, 6, 10, 38, 39, 40] ?_
      refine Run.ghost (.spares 1) ?_
      simp only [ASt.pushN, ASt.push, List.append_assoc, List.cons_append, List.nil_append]
      refine Run.drawA fun K hK => ?_
      refine DOps.sim ?_
      refine DOps.call (.i (atV (toAL a b n) p.1)) [((0, 1), .box [.fn 124 [.ptr 1 0 0, .ptr 1 7 0, .ptr 1 8 0, .ptr 1 1 0]]), ((1, 0), .box [.im (.sl (strs a.inn)), .im (.sl (strs a.out)), .im (.sl (a.regs.map LReg.im)), .im (.sl (a.ands.map nd)), .im (.sl (ints a.outs))]), ((1, 1), .box [.im (.sl (strs b.inn)), .im (.sl (strs b.out)), .im (.sl (b.regs.map LReg.im)), .im (.sl (b.ands.map nd)), .im (.sl (ints b.outs))]), ((1, 7), .box [.i (n : Nat)]), ((1, 8), .box [.i a.regs.length])] [] rfl rfl rfl rfl (by kernel_rfl) (by simp [Agree, ASt.fr]) (fun u hu => atA_ok a b haa hbb I hI n hn hna p.1 x1 (by omega) u (hu ((0, 1), .box [.fn 124 [.ptr 1 0 0, .ptr 1 7 0, .ptr 1 8 0, .ptr 1 1 0]]) (by simp)) (hu ((1, 0), .box [.im (.sl (strs a.inn)), .im (.sl (strs a.out)), .im (.sl (a.regs.map LReg.im)), .im (.sl (a.ands.map nd)), .im (.sl (ints a.outs))]) (by simp)) (hu ((1, 1), .box [.im (.sl (strs b.inn)), .im (.sl (strs b.out)), .im (.sl (b.regs.map LReg.im)), .im (.sl (b.ands.map nd)), .im (.sl (ints b.outs))]) (by simp)) (hu ((1, 7), .box [.i (n : Nat)]) (by simp)) (hu ((1, 8), .box [.i a.regs.length]) (by simp))) ?_
      refine DOps.sim ?_
      refine DOps.call (.i (atV (toAL a b n) p.2)) [((0, 1), .box [.fn 124 [.ptr 1 0 0, .ptr 1 7 0, .ptr 1 8 0, .ptr 1 1 0]]), ((1, 0), .box [.im (.sl (strs a.inn)), .im (.sl (strs a.out)), .im (.sl (a.regs.map LReg.im)), .im (.sl (a.ands.map nd)), .im (.sl (ints a.outs))]), ((1, 1), .box [.im (.sl (strs b.inn)), .im (.sl (strs b.out)), .im (.sl (b.regs.map LReg.im)), .im (.sl (b.ands.map nd)), .im (.sl (ints b.outs))]), ((1, 7), .box [.i (n : Nat)]), ((1, 8), .box [.i a.regs.length])] [] rfl rfl rfl rfl (by kernel_rfl) (by simp [Agree, ASt.fr]) (fun u hu => atA_ok a b haa hbb I hI n hn hna p.2 x3 (by omega) u (hu ((0, 1), .box [.fn 124 [.ptr 1 0 0, .ptr 1 7 0, .ptr 1 8 0, .ptr 1 1 0]]) (by simp)) (hu ((1, 0), .box [.im (.sl (strs a.inn)), .im (.sl (strs a.out)), .im (.sl (a.regs.map LReg.im)), .im (.sl (a.ands.map nd)), .im (.sl (ints a.outs))]) (by simp)) (hu ((1, 1), .box [.im (.sl (strs b.inn)), .im (.sl (strs b.out)), .im (.sl (b.regs.map LReg.im)), .im (.sl (b.ands.map nd)), .im (.sl (ints b.outs))]) (by simp)) (hu ((1, 7), .box [.i (n : Nat)]) (by simp)) (hu ((1, 8), .box [.i a.regs.length]) (by simp))) ?_
      refine DOps.sim ?_
      refine DOps.nil (by rfl) (hK _ ?_); clear hK K
      refine End.blk ?_
      refine End.kp [0, 4, 6, 38, 39, 40] ?_
      refine Run.go ?_
      refine End.lp ?_
      refine ⟨a.ands.length - (i + 1), _, by omega, Ghost.form [(0, .ptr 1 6 0), (4, .ptr 0 0 0), (6, .fn 152 [.ptr 0 1 0]), (38, .im (.sl (a.ands.map nd))), (39, .i a.ands.length), (40, .i (i + 1 : Nat))] 2 ⟨rfl, rfl, rfl, rfl, rfl, rfl, trivial⟩ rfl rfl, i + 1, rfl, by omega, ?_⟩
      rw [and_snoc a.ands i p hp]
      simp [mvA]
      omega
    · have hb2 := of_decide_eq_false hb
      have hiN : i = a.ands.length := by omega
      subst hiN
      rw [List.take_length] at hal ⊢
      have hol : (strs O).length = O.length := strs_len O
      have hoa : (strs a.out).all (fun r => r.length == 1) = true := by simp
      have hoc : (O.length + a.out.length) * 16 ≤ 140737488355328 := by omega
      refine Run.exit rfl ?_
      refine End.kp [0, 4, 6] ?_
      refine Run.seq ?_
      have fx := And.intro hoc (And.intro hoa (And.intro hap2 (And.intro hal (And.intro hap (And.intro hrl (And.intro ups_nil (And.intro ups_cons (And.intro upN_ptr (And.intro downN_ms (And.intro upN_ms (And.intro ints_len (And.intro nd_len (And.intro rim_len (And.intro strs_len ft))))))))))))))
      refine Run.drawA fun K hK => ?_
      refine DOps.sim ?_
      refine DOps.nil (by rfl) (hK _ ?_); clear hK K
      refine End.kp [0, 4, 6] ?_
      refine Run.seq ?_
      refine Run.go ?_
      refine End.kp [0, 6, 74, 75, 76] ?_
      refine Run.block ?_
      refine Run.ghost (Ghost.form [(0, .ptr 1 6 0), (6, .fn 152 [.ptr 0 1 0]), (74, .im (.sl (ints a.outs))), (75, .i a.outs.length), (76, .i (0 : Nat))] 2 ⟨rfl, rfl, rfl, rfl, rfl, trivial⟩ rfl rfl) ?_
      refine Run.loop (fun m st => ∃ i : Nat, m = a.outs.length - i ∧ i ≤ a.outs.length ∧ st = ⟨[(0, .ptr 1 6 0), (6, .fn 152 [.ptr 0 1 0]), (74, .im (.sl (ints a.outs))), (75, .i a.outs.length), (76, .i (i : Nat))], [.box [.im (.sl (strs a.inn)), .im (.sl (strs a.out)), .im (.sl (a.regs.map LReg.im)), .im (.sl (a.ands.map nd)), .im (.sl (ints a.outs))], .box [.fn 124 [.ptr 1 0 0, .ptr 1 7 0, .ptr 1 8 0, .ptr 1 1 0]]], [.box [.im (.sl (strs a.inn)), .im (.sl (strs a.out)), .im (.sl (a.regs.map LReg.im)), .im (.sl (a.ands.map nd)), .im (.sl (ints a.outs))], .box [.im (.sl (strs b.inn)), .im (.sl (strs b.out)), .im (.sl (b.regs.map LReg.im)), .im (.sl (b.ands.map nd)), .im (.sl (ints b.outs))], o2, o3, o4, o5, .box [.im (.sl (strs I)), .ms 0 9 (O.length + a.out.length), .ms 0 10 (R.length + a.regs.length), .ms 0 11 (A.length + a.ands.length), .ms 0 12 (L.length + i)], .box [.i (n : Nat)], .box [.i a.regs.length], .row 9 1 (strs (O ++ a.out)) 0, .row 69 3 ((R ++ a.regs.map (mvR (toAL a b n))).map LReg.im) 0, .row 137 2 ((A ++ a.ands.map (mvA (toAL a b n))).map nd) 0, .row 62 1 (ints (L ++ (a.outs.take i).map (atV (toAL a b n)))) 0] :: rest⟩) a.outs.length ⟨0, rfl, by omega, by simp⟩ fun m st hI => ?_
      obtain ⟨i, rfl, hi, rfl⟩ := hI
      have hll : (ints (L ++ (a.outs.take i).map (atV (toAL a b n)))).length = L.length + i := by simp; omega
      have hap3 : (L.length + i + 1) * 8 ≤ 140737488355328 := by omega
      refine Run.seq ?_
      have fx := And.intro hap3 (And.intro hll (And.intro hoc (And.intro hoa (And.intro hap2 (And.intro hal (And.intro hap (And.intro hrl (And.intro ups_nil (And.intro ups_cons (And.intro upN_ptr (And.intro downN_ms (And.intro upN_ms (And.intro ints_len (And.intro nd_len (And.intro rim_len (And.intro strs_len ft))))))))))))))))
      refine Run.go ?_
      refine End.kp [0, 6, 74, 75, 76, 77] ?_
      refine Run.seq ?_
      refine Run.cond _ rfl (fun hb => ?_) (fun hb => ?_)
      · have hb2 := of_decide_eq_true hb
        have hin : i < a.outs.length := by omega
        have hil : (i : Int) < (a.outs.length : Int) := by omega
        have wi := wsucc hin (by omega)
        obtain ⟨x, hx, hxm, hgt⟩ := int_at a.outs i hin
        obtain ⟨x1, x2⟩ := haa.outs x hxm
        refine Run.skip ?_
        refine End.kp [0, 6, 74, 75, 76] ?_
        refine Run.seq ?_
        refine Run.block ?_
        refine Run.seq ?_
        have fx := And.intro (@Int.toNat_natCast) (And.intro (@Int.natCast_nonneg) (And.intro hil (And.intro hgt (And.intro wi (And.intro hap3 (And.intro hll (And.intro hoc (And.intro hoa (And.intro hap2 (And.intro hal (And.intro hap (And.intro hrl (And.intro ups_nil (And.intro ups_cons (And.intro upN_ptr (And.intro downN_ms (And.intro upN_ms (And.intro ints_len (And.intro nd_len (And.intro rim_len (And.intro strs_len ft)))))))))))))))))))))
        refine Run.go ?_
        refine End.kp [0, 6, 12, 74, 75, 76] ?_
        refine Run.ghost (.spares 1) ?_
        simp only [ASt.pushN, ASt.push, List.append_assoc, List.cons_append, List.nil_append]
        refine Run.drawA fun K hK => ?_
        refine DOps.sim ?_
        refine DOps.call (.i (atV (toAL a b n) x)) [((0, 1), .box [.fn 124 [.ptr 1 0 0, .ptr 1 7 0, .ptr 1 8 0, .ptr 1 1 0]]), ((1, 0), .box [.im (.sl (strs a.inn)), .im (.sl (strs a.out)), .im (.sl (a.regs.map LReg.im)), .im (.sl (a.ands.map nd)), .im (.sl (ints a.outs))]), ((1, 1), .box [.im (.sl (strs b.inn)), .im (.sl (strs b.out)), .im (.sl (b.regs.map LReg.im)), .im (.sl (b.ands.map nd)), .im (.sl (ints b.outs))]), ((1, 7), .box [.i (n : Nat)]), ((1, 8), .box [.i a.regs.length])] [] rfl rfl rfl rfl (by kernel_rfl) (by simp [Agree, ASt.fr]) (fun u hu => atA_ok a b haa hbb I hI n hn hna x x1 (by omega) u (hu ((0, 1), .box [.fn 124 [.ptr 1 0 0, .ptr 1 7 0, .ptr 1 8 0, .ptr 1 1 0]]) (by simp)) (hu ((1, 0), .box [.im (.sl (strs a.inn)), .im (.sl (strs a.out)), .im (.sl (a.regs.map LReg.im)), .im (.sl (a.ands.map nd)), .im (.sl (ints a.outs))]) (by simp)) (hu ((1, 1), .box [.im (.sl (strs b.inn)), .im (.sl (strs b.out)), .im (.sl (b.regs.map LReg.im)), .im (.sl (b.ands.map nd)), .im (.sl (ints b.outs))]) (by simp)) (hu ((1, 7), .box [.i (n : Nat)]) (by simp)) (hu ((1, 8), .box [.i a.regs.length]) (by simp))) ?_
        refine DOps.sim ?_
        refine DOps.nil (by rfl) (hK _ ?_); clear hK K
        refine End.blk ?_
        refine End.kp [0, 6, 74, 75, 76] ?_
        refine Run.go ?_
        refine End.lp ?_
        refine ⟨a.outs.length - (i + 1), _, by omega, Ghost.form [(0, .ptr 1 6 0), (6, .fn 152 [.ptr 0 1 0]), (74, .im (.sl (ints a.outs))), (75, .i a.outs.length), (76, .i (i + 1 : Nat))] 2 ⟨rfl, rfl, rfl, rfl, rfl, trivial⟩ rfl rfl, i + 1, rfl, by omega, ?_⟩
        rw [int_snoc a.outs i x hx]
        simp
        omega
      · have hb2 := of_decide_eq_false hb
        have hiN : i = a.outs.length := by omega
        subst hiN
        rw [List.take_length]
        refine Run.exit rfl ?_
        refine End.all (hQ _ _ ⟨.inl rfl, _, rfl, _, rfl, ?_⟩)
        exact ⟨rfl, rfl⟩
theorem atB_ok (a b : LGraph) (haa : GraphOk a) (hbb : GraphOk b) (I : List ByteArray) (hI : I.length ≤ 300) (n : Nat) (hn : n ≤ 300) (hna : a.inn.length ≤ n) (l : Int) (h0 : 0 ≤ l) (h1 : l < 2 * (nodesN b : Int)) (u : Frs) (hq : fget u 0 1 = some (.box [.fn 125 [.ptr 1 1 0, .ptr 1 6 0, .ptr 1 7 0, .ptr 1 8 0, .ptr 1 0 0]])) (k0 : fget u 1 0 = some (.box [.im (.sl (strs a.inn)), .im (.sl (strs a.out)), .im (.sl (a.regs.map LReg.im)), .im (.sl (a.ands.map nd)), .im (.sl (ints a.outs))])) (k1 : fget u 1 1 = some (.box [.im (.sl (strs b.inn)), .im (.sl (strs b.out)), .im (.sl (b.regs.map LReg.im)), .im (.sl (b.ands.map nd)), .im (.sl (ints b.outs))])) (k7 : fget u 1 7 = some (.box [.i (n : Nat)])) (k8 : fget u 1 8 = some (.box [.i a.regs.length])) (cs : List PV) (k6 : fget u 1 6 = some (.box (.im (.sl (strs I)) :: cs))) : ACalls Try.prog 152 [.i l, .ptr 0 1 0] u fun v u' => v = .i (atV (toBL a b I n) l) ∧ u' = u := by
  obtain ⟨z1, z2, z3, z4, z5⟩ := haa.small
  obtain ⟨y1, y2, y3, y4, y5⟩ := hbb.small
  have hN : nodesN b = 1 + b.inn.length + b.regs.length + b.ands.length := rfl
  have hd := tdiv2 l h0 (by omega)
  have hm : l.tmod 2 = l % 2 := tmod2 l h0
  obtain ⟨k, hkk⟩ : ∃ k : Nat, l / 2 = k := ⟨(l / 2).toNat, by omega⟩
  rw [hkk] at hd
  have hk : k < nodesN b := by omega
  obtain ⟨g1, g2⟩ := nowV_range I b n a.regs.length a.ands.length k hI (by omega) (by omega) (by omega) (by omega)
  have hgd := toBL_get a b I n k hk
  have hxo : bits .xor .i64 (nowV I b n a.regs.length a.ands.length k) (l % 2) = atV (toBL a b I n) l := by
    rw [← hgd]
    have e : (l / 2).toNat = k := by omega
    have := xor_at (toBL a b I n) l (by rw [e, hgd]; omega)
    rw [e] at this
    exact this
  refine ACalls.code Try.func152 rfl 11 rfl (by simp) [.tmp 3] rfl fun Q hQ => ?_
  simp only [ups, PV.up, argEnv]
  have ft := And.intro ty_3 (And.intro ty_62 trivial)
  refine Run.seq ?_
  have fx := And.intro hd (And.intro ups_nil (And.intro ups_cons (And.intro upN_ptr (And.intro hq ft))))
  refine Run.go ?_
  refine End.kp [0, 1] ?_
  refine Run.seq ?_
  refine Run.region rfl fun K hK => GOps.sim ?_
  refine GOps.call rfl rfl rfl rfl (by kernel_rfl) (ACalls.sim ?_)
  refine (now_ok a b haa.small hbb.small n hn hna I hI cs k (by omega) _ 2 k1 k6 k7 k8 k0).mono fun v u hv => ?_
  obtain ⟨rfl, rfl⟩ := hv
  refine ⟨_, _, rfl, GOps.sim ?_⟩
  refine GOps.done (hK _ ?_); clear hK K
  refine End.kp [3] ?_
  refine Run.ret (hQ _ _ ⟨.inr rfl, _, rfl, _, rfl, ?_⟩)
  exact ⟨by rw [hm, hxo], rfl⟩
theorem addB_ok (a b : LGraph) (haa : GraphOk a) (hbb : GraphOk b) (I : List ByteArray) (hI : I.length ≤ 300) (n : Nat) (hn : n ≤ 300) (hna : a.inn.length ≤ n) (o2 o3 o4 o5 : AObj) (O : List ByteArray) (R : List LReg) (A : List (Int × Int)) (L : List Int) (hO : O.length ≤ 1000) (hR : R.length ≤ 1000) (hA : A.length ≤ 10000) (hL : L.length ≤ 1000) (rest : Frs) :
    ACalls Try.prog 126 [.ptr 0 6 0, b.pv, .fn 125 [.ptr 0 1 0, .ptr 0 6 0, .ptr 0 7 0, .ptr 0 8 0, .ptr 0 0 0]] ([.box [.im (.sl (strs a.inn)), .im (.sl (strs a.out)), .im (.sl (a.regs.map LReg.im)), .im (.sl (a.ands.map nd)), .im (.sl (ints a.outs))], .box [.im (.sl (strs b.inn)), .im (.sl (strs b.out)), .im (.sl (b.regs.map LReg.im)), .im (.sl (b.ands.map nd)), .im (.sl (ints b.outs))], o2, o3, o4, o5, .box [.im (.sl (strs I)), .ms 0 9 O.length, .ms 0 10 R.length, .ms 0 11 A.length, .ms 0 12 L.length], .box [.i (n : Nat)], .box [.i a.regs.length], .row 9 1 (strs (O)) 0, .row 69 3 ((R).map LReg.im) 0, .row 137 2 ((A).map nd) 0, .row 62 1 (ints (L)) 0] :: rest) fun v u => v = .tup [] ∧ u = [.box [.im (.sl (strs a.inn)), .im (.sl (strs a.out)), .im (.sl (a.regs.map LReg.im)), .im (.sl (a.ands.map nd)), .im (.sl (ints a.outs))], .box [.im (.sl (strs b.inn)), .im (.sl (strs b.out)), .im (.sl (b.regs.map LReg.im)), .im (.sl (b.ands.map nd)), .im (.sl (ints b.outs))], o2, o3, o4, o5, .box [.im (.sl (strs I)), .ms 0 9 (O.length + b.out.length), .ms 0 10 (R.length + b.regs.length), .ms 0 11 (A.length + b.ands.length), .ms 0 12 (L.length + b.outs.length)], .box [.i (n : Nat)], .box [.i a.regs.length], .row 9 1 (strs (O ++ b.out)) 0, .row 69 3 ((R ++ b.regs.map (mvR (toBL a b I n))).map LReg.im) 0, .row 137 2 ((A ++ b.ands.map (mvA (toBL a b I n))).map nd) 0, .row 62 1 (ints (L ++ b.outs.map (atV (toBL a b I n)))) 0] :: rest := by
  obtain ⟨z1, z2, z3, z4, z5⟩ := hbb.small
  have hN : nodesN b = 1 + b.inn.length + b.regs.length + b.ands.length := rfl
  refine ACalls.code Try.func126 rfl 93 rfl (by simp) [] rfl fun Q hQ => ?_
  simp only [ups, PV.up, argEnv]
  have ft := And.intro ty_2 (And.intro ty_3 (And.intro ty_4 (And.intro ty_9 (And.intro ty_26 (And.intro ty_47 (And.intro ty_48 (And.intro ty_49 (And.intro ty_51 (And.intro ty_62 (And.intro ty_69 (And.intro ty_137 (And.intro ty_183 trivial))))))))))))
  refine Run.seq ?_
  have fx := And.intro ups_nil (And.intro ups_cons (And.intro upN_ptr (And.intro downN_ms (And.intro upN_ms (And.intro ints_len (And.intro nd_len (And.intro rim_len (And.intro strs_len ft))))))))
  refine Run.go ?_
  refine End.kp [0, 4, 5] ?_
  refine Run.seq ?_
  refine Run.go ?_
  refine End.kp [0, 4, 6] ?_
  refine Run.seq ?_
  refine Run.seq ?_
  refine Run.go ?_
  refine End.kp [0, 4, 6, 15, 16, 17] ?_
  refine Run.block ?_
  refine Run.ghost (Ghost.form [(0, .ptr 1 6 0), (4, .ptr 0 0 0), (6, .fn 152 [.ptr 0 1 0]), (15, .im (.sl (b.regs.map LReg.im))), (16, .i b.regs.length), (17, .i (0 : Nat))] 2 ⟨rfl, rfl, rfl, rfl, rfl, rfl, trivial⟩ rfl rfl) ?_
  refine Run.loop (fun m st => ∃ i : Nat, m = b.regs.length - i ∧ i ≤ b.regs.length ∧ st = ⟨[(0, .ptr 1 6 0), (4, .ptr 0 0 0), (6, .fn 152 [.ptr 0 1 0]), (15, .im (.sl (b.regs.map LReg.im))), (16, .i b.regs.length), (17, .i (i : Nat))], [.box [.im (.sl (strs b.inn)), .im (.sl (strs b.out)), .im (.sl (b.regs.map LReg.im)), .im (.sl (b.ands.map nd)), .im (.sl (ints b.outs))], .box [.fn 125 [.ptr 1 1 0, .ptr 1 6 0, .ptr 1 7 0, .ptr 1 8 0, .ptr 1 0 0]]], [.box [.im (.sl (strs a.inn)), .im (.sl (strs a.out)), .im (.sl (a.regs.map LReg.im)), .im (.sl (a.ands.map nd)), .im (.sl (ints a.outs))], .box [.im (.sl (strs b.inn)), .im (.sl (strs b.out)), .im (.sl (b.regs.map LReg.im)), .im (.sl (b.ands.map nd)), .im (.sl (ints b.outs))], o2, o3, o4, o5, .box [.im (.sl (strs I)), .ms 0 9 O.length, .ms 0 10 (R.length + i), .ms 0 11 A.length, .ms 0 12 L.length], .box [.i (n : Nat)], .box [.i a.regs.length], .row 9 1 (strs (O)) 0, .row 69 3 ((R ++ (b.regs.take i).map (mvR (toBL a b I n))).map LReg.im) 0, .row 137 2 ((A).map nd) 0, .row 62 1 (ints (L)) 0] :: rest⟩) b.regs.length ⟨0, rfl, by omega, by simp⟩ fun m st hI => ?_
  obtain ⟨i, rfl, hi, rfl⟩ := hI
  have hrl : ((R ++ (b.regs.take i).map (mvR (toBL a b I n))).map LReg.im).length = R.length + i := by simp; omega
  have hap : (R.length + i + 1) * 32 ≤ 140737488355328 := by omega
  refine Run.seq ?_
  have fx := And.intro hap (And.intro hrl (And.intro ups_nil (And.intro ups_cons (And.intro upN_ptr (And.intro downN_ms (And.intro upN_ms (And.intro ints_len (And.intro nd_len (And.intro rim_len (And.intro strs_len ft))))))))))
  refine Run.go ?_
  refine End.kp [0, 4, 6, 15, 16, 17, 18] ?_
  refine Run.seq ?_
  refine Run.cond _ rfl (fun hb => ?_) (fun hb => ?_)
  · have hb2 := of_decide_eq_true hb
    have hin : i < b.regs.length := by omega
    have hil : (i : Int) < (b.regs.length : Int) := by omega
    have wi := wsucc hin (by omega)
    obtain ⟨r, hr, hrm2, hgt⟩ := reg_at b.regs i hin
    obtain ⟨x1, x2⟩ := hbb.regs r hrm2
    refine Run.skip ?_
    refine End.kp [0, 4, 6, 15, 16, 17] ?_
    refine Run.seq ?_
    refine Run.block ?_
    refine Run.seq ?_
    have fx := And.intro (@Int.toNat_natCast) (And.intro (@Int.natCast_nonneg) (And.intro hil (And.intro hgt (And.intro wi (And.intro hap (And.intro hrl (And.intro ups_nil (And.intro ups_cons (And.intro upN_ptr (And.intro downN_ms (And.intro upN_ms (And.intro ints_len (And.intro nd_len (And.intro rim_len (And.intro strs_len ft)))))))))))))))
    refine Run.go ?_
    refine End.kp [0, 4, 6, 8, 15, 16, 17] ?_
    refine Run.seq ?_
    refine Run.region rfl fun K hK => GOps.sim ?_
    refine GOps.call rfl rfl rfl rfl (by kernel_rfl) (ACalls.sim ?_)
    refine (atB_ok a b haa hbb I hI n hn hna r.next x1 (by omega) _ rfl rfl rfl rfl rfl _ rfl).mono fun v u hv => ?_
    obtain ⟨rfl, rfl⟩ := hv
    refine ⟨_, _, rfl, GOps.sim ?_⟩
    refine GOps.done (hK _ ?_); clear hK K
    refine End.kp [0, 4, 6, 8, 15, 16, 17] ?_
    refine Run.ghost (.spares 1) ?_
    simp only [ASt.pushN, ASt.push, List.append_assoc, List.cons_append, List.nil_append]
    refine Run.drawA fun K hK => ?_
    refine DOps.sim ?_
    refine DOps.nil (by rfl) (hK _ ?_); clear hK K
    refine End.blk ?_
    refine End.kp [0, 4, 6, 15, 16, 17] ?_
    refine Run.go ?_
    refine End.lp ?_
    refine ⟨b.regs.length - (i + 1), _, by omega, Ghost.form [(0, .ptr 1 6 0), (4, .ptr 0 0 0), (6, .fn 152 [.ptr 0 1 0]), (15, .im (.sl (b.regs.map LReg.im))), (16, .i b.regs.length), (17, .i (i + 1 : Nat))] 2 ⟨rfl, rfl, rfl, rfl, rfl, rfl, trivial⟩ rfl rfl, i + 1, rfl, by omega, ?_⟩
    rw [reg_snoc b.regs i r hr]
    simp
    omega
  · have hb2 := of_decide_eq_false hb
    have hiN : i = b.regs.length := by omega
    subst hiN
    rw [List.take_length] at hrl ⊢
    refine Run.exit rfl ?_
    refine End.kp [0, 4, 6] ?_
    refine Run.seq ?_
    refine Run.seq ?_
    have fx := And.intro hap (And.intro hrl (And.intro ups_nil (And.intro ups_cons (And.intro upN_ptr (And.intro downN_ms (And.intro upN_ms (And.intro ints_len (And.intro nd_len (And.intro rim_len (And.intro strs_len ft))))))))))
    refine Run.go ?_
    refine End.kp [0, 4, 6, 38, 39, 40] ?_
    refine Run.block ?_
    refine Run.ghost (Ghost.form [(0, .ptr 1 6 0), (4, .ptr 0 0 0), (6, .fn 152 [.ptr 0 1 0]), (38, .im (.sl (b.ands.map nd))), (39, .i b.ands.length), (40, .i (0 : Nat))] 2 ⟨rfl, rfl, rfl, rfl, rfl, rfl, trivial⟩ rfl rfl) ?_
    refine Run.loop (fun m st => ∃ i : Nat, m = b.ands.length - i ∧ i ≤ b.ands.length ∧ st = ⟨[(0, .ptr 1 6 0), (4, .ptr 0 0 0), (6, .fn 152 [.ptr 0 1 0]), (38, .im (.sl (b.ands.map nd))), (39, .i b.ands.length), (40, .i (i : Nat))], [.box [.im (.sl (strs b.inn)), .im (.sl (strs b.out)), .im (.sl (b.regs.map LReg.im)), .im (.sl (b.ands.map nd)), .im (.sl (ints b.outs))], .box [.fn 125 [.ptr 1 1 0, .ptr 1 6 0, .ptr 1 7 0, .ptr 1 8 0, .ptr 1 0 0]]], [.box [.im (.sl (strs a.inn)), .im (.sl (strs a.out)), .im (.sl (a.regs.map LReg.im)), .im (.sl (a.ands.map nd)), .im (.sl (ints a.outs))], .box [.im (.sl (strs b.inn)), .im (.sl (strs b.out)), .im (.sl (b.regs.map LReg.im)), .im (.sl (b.ands.map nd)), .im (.sl (ints b.outs))], o2, o3, o4, o5, .box [.im (.sl (strs I)), .ms 0 9 O.length, .ms 0 10 (R.length + b.regs.length), .ms 0 11 (A.length + i), .ms 0 12 L.length], .box [.i (n : Nat)], .box [.i a.regs.length], .row 9 1 (strs (O)) 0, .row 69 3 ((R ++ b.regs.map (mvR (toBL a b I n))).map LReg.im) 0, .row 137 2 ((A ++ (b.ands.take i).map (mvA (toBL a b I n))).map nd) 0, .row 62 1 (ints (L)) 0] :: rest⟩) b.ands.length ⟨0, rfl, by omega, by simp⟩ fun m st hI => ?_
    obtain ⟨i, rfl, hi, rfl⟩ := hI
    have hal : ((A ++ (b.ands.take i).map (mvA (toBL a b I n))).map nd).length = A.length + i := by simp; omega
    have hap2 : (A.length + i + 1) * 16 ≤ 140737488355328 := by omega
    refine Run.seq ?_
    have fx := And.intro hap2 (And.intro hal (And.intro hap (And.intro hrl (And.intro ups_nil (And.intro ups_cons (And.intro upN_ptr (And.intro downN_ms (And.intro upN_ms (And.intro ints_len (And.intro nd_len (And.intro rim_len (And.intro strs_len ft))))))))))))
    refine Run.go ?_
    refine End.kp [0, 4, 6, 38, 39, 40, 41] ?_
    refine Run.seq ?_
    refine Run.cond _ rfl (fun hb => ?_) (fun hb => ?_)
    · have hb2 := of_decide_eq_true hb
      have hin : i < b.ands.length := by omega
      have hil : (i : Int) < (b.ands.length : Int) := by omega
      have wi := wsucc hin (by omega)
      obtain ⟨p, hp, hpm, hgt⟩ := node_at b.ands i hin
      obtain ⟨⟨x1, x2⟩, x3, x4⟩ := hbb.ands i p hp
      refine Run.skip ?_
      refine End.kp [0, 4, 6, 38, 39, 40] ?_
      refine Run.seq ?_
      refine Run.block ?_
      refine Run.seq ?_
      have fx := And.intro (@Int.toNat_natCast) (And.intro (@Int.natCast_nonneg) (And.intro hil (And.intro hgt (And.intro wi (And.intro hap2 (And.intro hal (And.intro hap (And.intro hrl (And.intro ups_nil (And.intro ups_cons (And.intro upN_ptr (And.intro downN_ms (And.intro upN_ms (And.intro ints_len (And.intro nd_len (And.intro rim_len (And.intro strs_len ft)))))))))))))))))
      refine Run.go ?_
      refine End.kp [0, 4, 6, 10, 38, 39, 40] ?_
      refine Run.ghost (.spares 1) ?_
      simp only [ASt.pushN, ASt.push, List.append_assoc, List.cons_append, List.nil_append]
      refine Run.drawA fun K hK => ?_
      refine DOps.sim ?_
      refine DOps.call (.i (atV (toBL a b I n) p.1)) [((0, 1), .box [.fn 125 [.ptr 1 1 0, .ptr 1 6 0, .ptr 1 7 0, .ptr 1 8 0, .ptr 1 0 0]]), ((1, 0), .box [.im (.sl (strs a.inn)), .im (.sl (strs a.out)), .im (.sl (a.regs.map LReg.im)), .im (.sl (a.ands.map nd)), .im (.sl (ints a.outs))]), ((1, 1), .box [.im (.sl (strs b.inn)), .im (.sl (strs b.out)), .im (.sl (b.regs.map LReg.im)), .im (.sl (b.ands.map nd)), .im (.sl (ints b.outs))]), ((1, 7), .box [.i (n : Nat)]), ((1, 8), .box [.i a.regs.length]), ((1, 6), .box [.im (.sl (strs I)), .ms 0 9 O.length, .ms 0 10 (R.length + b.regs.length), .ms 0 11 (A.length + i), .ms 0 12 L.length])] [] rfl rfl rfl rfl (by kernel_rfl) (by simp [Agree, ASt.fr]) (fun u hu => atB_ok a b haa hbb I hI n hn hna p.1 x1 (by omega) u (hu ((0, 1), .box [.fn 125 [.ptr 1 1 0, .ptr 1 6 0, .ptr 1 7 0, .ptr 1 8 0, .ptr 1 0 0]]) (by simp)) (hu ((1, 0), .box [.im (.sl (strs a.inn)), .im (.sl (strs a.out)), .im (.sl (a.regs.map LReg.im)), .im (.sl (a.ands.map nd)), .im (.sl (ints a.outs))]) (by simp)) (hu ((1, 1), .box [.im (.sl (strs b.inn)), .im (.sl (strs b.out)), .im (.sl (b.regs.map LReg.im)), .im (.sl (b.ands.map nd)), .im (.sl (ints b.outs))]) (by simp)) (hu ((1, 7), .box [.i (n : Nat)]) (by simp)) (hu ((1, 8), .box [.i a.regs.length]) (by simp)) _ (hu ((1, 6), .box [.im (.sl (strs I)), .ms 0 9 O.length, .ms 0 10 (R.length + b.regs.length), .ms 0 11 (A.length + i), .ms 0 12 L.length]) (by simp))) ?_
      refine DOps.sim ?_
      refine DOps.call (.i (atV (toBL a b I n) p.2)) [((0, 1), .box [.fn 125 [.ptr 1 1 0, .ptr 1 6 0, .ptr 1 7 0, .ptr 1 8 0, .ptr 1 0 0]]), ((1, 0), .box [.im (.sl (strs a.inn)), .im (.sl (strs a.out)), .im (.sl (a.regs.map LReg.im)), .im (.sl (a.ands.map nd)), .im (.sl (ints a.outs))]), ((1, 1), .box [.im (.sl (strs b.inn)), .im (.sl (strs b.out)), .im (.sl (b.regs.map LReg.im)), .im (.sl (b.ands.map nd)), .im (.sl (ints b.outs))]), ((1, 7), .box [.i (n : Nat)]), ((1, 8), .box [.i a.regs.length]), ((1, 6), .box [.im (.sl (strs I)), .ms 0 9 O.length, .ms 0 10 (R.length + b.regs.length), .ms 0 11 (A.length + i), .ms 0 12 L.length])] [] rfl rfl rfl rfl (by kernel_rfl) (by simp [Agree, ASt.fr]) (fun u hu => atB_ok a b haa hbb I hI n hn hna p.2 x3 (by omega) u (hu ((0, 1), .box [.fn 125 [.ptr 1 1 0, .ptr 1 6 0, .ptr 1 7 0, .ptr 1 8 0, .ptr 1 0 0]]) (by simp)) (hu ((1, 0), .box [.im (.sl (strs a.inn)), .im (.sl (strs a.out)), .im (.sl (a.regs.map LReg.im)), .im (.sl (a.ands.map nd)), .im (.sl (ints a.outs))]) (by simp)) (hu ((1, 1), .box [.im (.sl (strs b.inn)), .im (.sl (strs b.out)), .im (.sl (b.regs.map LReg.im)), .im (.sl (b.ands.map nd)), .im (.sl (ints b.outs))]) (by simp)) (hu ((1, 7), .box [.i (n : Nat)]) (by simp)) (hu ((1, 8), .box [.i a.regs.length]) (by simp)) _ (hu ((1, 6), .box [.im (.sl (strs I)), .ms 0 9 O.length, .ms 0 10 (R.length + b.regs.length), .ms 0 11 (A.length + i), .ms 0 12 L.length]) (by simp))) ?_
      refine DOps.sim ?_
      refine DOps.nil (by rfl) (hK _ ?_); clear hK K
      refine End.blk ?_
      refine End.kp [0, 4, 6, 38, 39, 40] ?_
      refine Run.go ?_
      refine End.lp ?_
      refine ⟨b.ands.length - (i + 1), _, by omega, Ghost.form [(0, .ptr 1 6 0), (4, .ptr 0 0 0), (6, .fn 152 [.ptr 0 1 0]), (38, .im (.sl (b.ands.map nd))), (39, .i b.ands.length), (40, .i (i + 1 : Nat))] 2 ⟨rfl, rfl, rfl, rfl, rfl, rfl, trivial⟩ rfl rfl, i + 1, rfl, by omega, ?_⟩
      rw [and_snoc b.ands i p hp]
      simp [mvA]
      omega
    · have hb2 := of_decide_eq_false hb
      have hiN : i = b.ands.length := by omega
      subst hiN
      rw [List.take_length] at hal ⊢
      have hol : (strs O).length = O.length := strs_len O
      have hoa : (strs b.out).all (fun r => r.length == 1) = true := by simp
      have hoc : (O.length + b.out.length) * 16 ≤ 140737488355328 := by omega
      refine Run.exit rfl ?_
      refine End.kp [0, 4, 6] ?_
      refine Run.seq ?_
      have fx := And.intro hoc (And.intro hoa (And.intro hap2 (And.intro hal (And.intro hap (And.intro hrl (And.intro ups_nil (And.intro ups_cons (And.intro upN_ptr (And.intro downN_ms (And.intro upN_ms (And.intro ints_len (And.intro nd_len (And.intro rim_len (And.intro strs_len ft))))))))))))))
      refine Run.drawA fun K hK => ?_
      refine DOps.sim ?_
      refine DOps.nil (by rfl) (hK _ ?_); clear hK K
      refine End.kp [0, 4, 6] ?_
      refine Run.seq ?_
      refine Run.go ?_
      refine End.kp [0, 6, 74, 75, 76] ?_
      refine Run.block ?_
      refine Run.ghost (Ghost.form [(0, .ptr 1 6 0), (6, .fn 152 [.ptr 0 1 0]), (74, .im (.sl (ints b.outs))), (75, .i b.outs.length), (76, .i (0 : Nat))] 2 ⟨rfl, rfl, rfl, rfl, rfl, trivial⟩ rfl rfl) ?_
      refine Run.loop (fun m st => ∃ i : Nat, m = b.outs.length - i ∧ i ≤ b.outs.length ∧ st = ⟨[(0, .ptr 1 6 0), (6, .fn 152 [.ptr 0 1 0]), (74, .im (.sl (ints b.outs))), (75, .i b.outs.length), (76, .i (i : Nat))], [.box [.im (.sl (strs b.inn)), .im (.sl (strs b.out)), .im (.sl (b.regs.map LReg.im)), .im (.sl (b.ands.map nd)), .im (.sl (ints b.outs))], .box [.fn 125 [.ptr 1 1 0, .ptr 1 6 0, .ptr 1 7 0, .ptr 1 8 0, .ptr 1 0 0]]], [.box [.im (.sl (strs a.inn)), .im (.sl (strs a.out)), .im (.sl (a.regs.map LReg.im)), .im (.sl (a.ands.map nd)), .im (.sl (ints a.outs))], .box [.im (.sl (strs b.inn)), .im (.sl (strs b.out)), .im (.sl (b.regs.map LReg.im)), .im (.sl (b.ands.map nd)), .im (.sl (ints b.outs))], o2, o3, o4, o5, .box [.im (.sl (strs I)), .ms 0 9 (O.length + b.out.length), .ms 0 10 (R.length + b.regs.length), .ms 0 11 (A.length + b.ands.length), .ms 0 12 (L.length + i)], .box [.i (n : Nat)], .box [.i a.regs.length], .row 9 1 (strs (O ++ b.out)) 0, .row 69 3 ((R ++ b.regs.map (mvR (toBL a b I n))).map LReg.im) 0, .row 137 2 ((A ++ b.ands.map (mvA (toBL a b I n))).map nd) 0, .row 62 1 (ints (L ++ (b.outs.take i).map (atV (toBL a b I n)))) 0] :: rest⟩) b.outs.length ⟨0, rfl, by omega, by simp⟩ fun m st hI => ?_
      obtain ⟨i, rfl, hi, rfl⟩ := hI
      have hll : (ints (L ++ (b.outs.take i).map (atV (toBL a b I n)))).length = L.length + i := by simp; omega
      have hap3 : (L.length + i + 1) * 8 ≤ 140737488355328 := by omega
      refine Run.seq ?_
      have fx := And.intro hap3 (And.intro hll (And.intro hoc (And.intro hoa (And.intro hap2 (And.intro hal (And.intro hap (And.intro hrl (And.intro ups_nil (And.intro ups_cons (And.intro upN_ptr (And.intro downN_ms (And.intro upN_ms (And.intro ints_len (And.intro nd_len (And.intro rim_len (And.intro strs_len ft))))))))))))))))
      refine Run.go ?_
      refine End.kp [0, 6, 74, 75, 76, 77] ?_
      refine Run.seq ?_
      refine Run.cond _ rfl (fun hb => ?_) (fun hb => ?_)
      · have hb2 := of_decide_eq_true hb
        have hin : i < b.outs.length := by omega
        have hil : (i : Int) < (b.outs.length : Int) := by omega
        have wi := wsucc hin (by omega)
        obtain ⟨x, hx, hxm, hgt⟩ := int_at b.outs i hin
        obtain ⟨x1, x2⟩ := hbb.outs x hxm
        refine Run.skip ?_
        refine End.kp [0, 6, 74, 75, 76] ?_
        refine Run.seq ?_
        refine Run.block ?_
        refine Run.seq ?_
        have fx := And.intro (@Int.toNat_natCast) (And.intro (@Int.natCast_nonneg) (And.intro hil (And.intro hgt (And.intro wi (And.intro hap3 (And.intro hll (And.intro hoc (And.intro hoa (And.intro hap2 (And.intro hal (And.intro hap (And.intro hrl (And.intro ups_nil (And.intro ups_cons (And.intro upN_ptr (And.intro downN_ms (And.intro upN_ms (And.intro ints_len (And.intro nd_len (And.intro rim_len (And.intro strs_len ft)))))))))))))))))))))
        refine Run.go ?_
        refine End.kp [0, 6, 12, 74, 75, 76] ?_
        refine Run.ghost (.spares 1) ?_
        simp only [ASt.pushN, ASt.push, List.append_assoc, List.cons_append, List.nil_append]
        refine Run.drawA fun K hK => ?_
        refine DOps.sim ?_
        refine DOps.call (.i (atV (toBL a b I n) x)) [((0, 1), .box [.fn 125 [.ptr 1 1 0, .ptr 1 6 0, .ptr 1 7 0, .ptr 1 8 0, .ptr 1 0 0]]), ((1, 0), .box [.im (.sl (strs a.inn)), .im (.sl (strs a.out)), .im (.sl (a.regs.map LReg.im)), .im (.sl (a.ands.map nd)), .im (.sl (ints a.outs))]), ((1, 1), .box [.im (.sl (strs b.inn)), .im (.sl (strs b.out)), .im (.sl (b.regs.map LReg.im)), .im (.sl (b.ands.map nd)), .im (.sl (ints b.outs))]), ((1, 7), .box [.i (n : Nat)]), ((1, 8), .box [.i a.regs.length]), ((1, 6), .box [.im (.sl (strs I)), .ms 0 9 (O.length + b.out.length), .ms 0 10 (R.length + b.regs.length), .ms 0 11 (A.length + b.ands.length), .ms 0 12 (L.length + i)])] [] rfl rfl rfl rfl (by kernel_rfl) (by simp [Agree, ASt.fr]) (fun u hu => atB_ok a b haa hbb I hI n hn hna x x1 (by omega) u (hu ((0, 1), .box [.fn 125 [.ptr 1 1 0, .ptr 1 6 0, .ptr 1 7 0, .ptr 1 8 0, .ptr 1 0 0]]) (by simp)) (hu ((1, 0), .box [.im (.sl (strs a.inn)), .im (.sl (strs a.out)), .im (.sl (a.regs.map LReg.im)), .im (.sl (a.ands.map nd)), .im (.sl (ints a.outs))]) (by simp)) (hu ((1, 1), .box [.im (.sl (strs b.inn)), .im (.sl (strs b.out)), .im (.sl (b.regs.map LReg.im)), .im (.sl (b.ands.map nd)), .im (.sl (ints b.outs))]) (by simp)) (hu ((1, 7), .box [.i (n : Nat)]) (by simp)) (hu ((1, 8), .box [.i a.regs.length]) (by simp)) _ (hu ((1, 6), .box [.im (.sl (strs I)), .ms 0 9 (O.length + b.out.length), .ms 0 10 (R.length + b.regs.length), .ms 0 11 (A.length + b.ands.length), .ms 0 12 (L.length + i)]) (by simp))) ?_
        refine DOps.sim ?_
        refine DOps.nil (by rfl) (hK _ ?_); clear hK K
        refine End.blk ?_
        refine End.kp [0, 6, 74, 75, 76] ?_
        refine Run.go ?_
        refine End.lp ?_
        refine ⟨b.outs.length - (i + 1), _, by omega, Ghost.form [(0, .ptr 1 6 0), (6, .fn 152 [.ptr 0 1 0]), (74, .im (.sl (ints b.outs))), (75, .i b.outs.length), (76, .i (i + 1 : Nat))] 2 ⟨rfl, rfl, rfl, rfl, rfl, trivial⟩ rfl rfl, i + 1, rfl, by omega, ?_⟩
        rw [int_snoc b.outs i x hx]
        simp
        omega
      · have hb2 := of_decide_eq_false hb
        have hiN : i = b.outs.length := by omega
        subst hiN
        rw [List.take_length]
        refine Run.exit rfl ?_
        refine End.all (hQ _ _ ⟨.inl rfl, _, rfl, _, rfl, ?_⟩)
        exact ⟨rfl, rfl⟩
end Go.Proofs.YtkmnmokjlpenhaaPi

/- The walks of Join. -/
set_option linter.unusedVariables false
set_option linter.unusedSimpArgs false
set_option maxRecDepth 100000
namespace Go.Proofs.YtkmnmokjlpenhaaPi
set_option maxHeartbeats 8000000
def joinG (a b : LGraph) : LGraph :=
  ⟨jInA a b, a.out ++ b.out, a.regs.map (mvR (toAL a b (jInA a b).length)) ++ b.regs.map (mvR (toBL a b (jInA a b) (jInA a b).length)),
   a.ands.map (mvA (toAL a b (jInA a b).length)) ++ b.ands.map (mvA (toBL a b (jInA a b) (jInA a b).length)), a.outs.map (atV (toAL a b (jInA a b).length)) ++ b.outs.map (atV (toBL a b (jInA a b) (jInA a b).length))⟩
theorem jIn_succ (a b : LGraph) (i : Nat) (x : ByteArray) (h : b.inn[i]? = some x) : jIn a b (i + 1) = if x ∈ a.inn then jIn a b i else jIn a b i ++ [x] := by
  unfold jIn
  rw [List.take_add_one, h]
  by_cases hx : x ∈ a.inn <;> simp [List.filter_append, hx]
theorem jIn_len (a b : LGraph) (i : Nat) : a.inn.length ≤ (jIn a b i).length ∧ (jIn a b i).length ≤ a.inn.length + b.inn.length := by
  unfold jIn
  have h1 := List.length_filter_le (fun s => decide (s ∉ a.inn)) (b.inn.take i)
  rw [List.length_take] at h1
  rw [List.length_append]
  omega
theorem Join_ok (a b : LGraph) (haa : GraphOk a) (hbb : GraphOk b) (hj : GraphOk (joinG a b)) (up : Frs) : ACalls Try.prog 69 [a.pv, b.pv] up fun v u => v = .tup [(joinG a b).pv, .i 0] ∧ u = up := by
  obtain ⟨z1, z2, z3, z4, z5⟩ := haa.small
  obtain ⟨y1, y2, y3, y4, y5⟩ := hbb.small
  refine ACalls.code Try.func69 rfl 74 rfl (by simp) [.cell 4 51, .tmp 5] rfl fun Q hQ => ?_
  simp only [ups, PV.up, argEnv]
  have ft := And.intro ty_2 (And.intro ty_3 (And.intro ty_4 (And.intro ty_9 (And.intro ty_26 (And.intro ty_34 (And.intro ty_47 (And.intro ty_48 (And.intro ty_49 (And.intro ty_51 (And.intro ty_62 (And.intro ty_69 (And.intro ty_137 (And.intro ty_183 trivial)))))))))))))
  refine Run.seq ?_
  have fx := And.intro ints_len (And.intro nd_len (And.intro rim_len (And.intro strs_len ft)))
  refine Run.go ?_
  refine End.kp [2, 3, 4] ?_
  refine Run.seq ?_
  refine Run.seq ?_
  refine Run.region rfl fun K hK => GOps.sim ?_
  refine GOps.call rfl rfl rfl rfl (by kernel_rfl) (ACalls.sim ?_)
  refine (Check_ok a haa _).mono fun v u hv => ?_
  obtain ⟨rfl, rfl⟩ := hv
  refine ⟨_, _, rfl, GOps.sim ?_⟩
  refine GOps.done (hK _ ?_); clear hK K
  refine End.kp [2, 3, 4, 6] ?_
  refine Run.seq ?_
  refine Run.go ?_
  refine End.kp [2, 3, 4, 6, 19] ?_
  refine Run.cond _ rfl (fun hb => ?_) (fun hb => ?_)
  · have hb2 := hb
    simp at hb
  · have hb2 := hb
    refine Run.skip ?_
    refine End.kp [2, 3, 4] ?_
    refine Run.seq ?_
    refine Run.seq ?_
    have fx := And.intro ints_len (And.intro nd_len (And.intro rim_len (And.intro strs_len ft)))
    refine Run.region rfl fun K hK => GOps.sim ?_
    refine GOps.call rfl rfl rfl rfl (by kernel_rfl) (ACalls.sim ?_)
    refine (Check_ok b hbb _).mono fun v u hv => ?_
    obtain ⟨rfl, rfl⟩ := hv
    refine ⟨_, _, rfl, GOps.sim ?_⟩
    refine GOps.done (hK _ ?_); clear hK K
    refine End.kp [2, 3, 4, 7] ?_
    refine Run.seq ?_
    refine Run.go ?_
    refine End.kp [2, 3, 4, 7, 25] ?_
    refine Run.cond _ rfl (fun hb => ?_) (fun hb => ?_)
    · have hb2 := hb
      simp at hb
    · have hb2 := hb
      refine Run.skip ?_
      refine End.kp [2, 3, 4] ?_
      refine Run.seq ?_
      have fx := And.intro ints_len (And.intro nd_len (And.intro rim_len (And.intro strs_len ft)))
      refine Run.region rfl fun K hK => GOps.sim ?_
      refine GOps.call rfl rfl rfl rfl (by kernel_rfl) (ACalls.sim ?_)
      refine (CopyJ_ok a haa.small _ _).mono fun v u hv => ?_
      obtain ⟨rfl, rfl⟩ := hv
      refine ⟨_, _, rfl, GOps.sim ?_⟩
      refine GOps.done (hK _ ?_); clear hK K
      refine End.kp [2, 3, 4, 8] ?_
      refine Run.seq ?_
      refine Run.seq ?_
      refine Run.go ?_
      refine End.kp [2, 3, 4, 8, 31, 32, 33] ?_
      refine Run.block ?_
      refine Run.ghost (Ghost.form [(2, .ptr 0 0 0), (3, .ptr 0 1 0), (4, .ptr 0 2 0), (8, .ptr 0 6 0), (31, .im (.sl (strs b.inn))), (32, .i b.inn.length), (33, .i (0 : Nat))] 7 ⟨rfl, rfl, rfl, rfl, rfl, rfl, rfl, trivial⟩ rfl rfl) ?_
      refine Run.loop (fun m st => ∃ (i : Nat), m = b.inn.length - i ∧ i ≤ b.inn.length ∧ st = ⟨[(2, .ptr 0 0 0), (3, .ptr 0 1 0), (4, .ptr 0 2 0), (8, .ptr 0 6 0), (31, .im (.sl (strs b.inn))), (32, .i b.inn.length), (33, .i (i : Nat))], [.box [.im (.sl (strs a.inn)), .im (.sl (strs a.out)), .im (.sl (a.regs.map LReg.im)), .im (.sl (a.ands.map nd)), .im (.sl (ints a.outs))], .box [.im (.sl (strs b.inn)), .im (.sl (strs b.out)), .im (.sl (b.regs.map LReg.im)), .im (.sl (b.ands.map nd)), .im (.sl (ints b.outs))], .box [.nils, .nils, .nils, .nils, .nils], .row 9 1 (strs (jIn a b i)) 0, .box [.im (.sl (strs a.inn)), .im (.sl (strs a.out)), .im (.sl (a.regs.map LReg.im)), .im (.sl (a.ands.map nd)), .im (.sl (ints a.outs))], .box [.ms 0 3 a.inn.length, .im (.sl (strs a.out)), .im (.sl (a.regs.map LReg.im)), .im (.sl (a.ands.map nd)), .im (.sl (ints a.outs))], .box [.ms 0 3 (jIn a b i).length, .im (.sl (strs a.out)), .im (.sl (a.regs.map LReg.im)), .im (.sl (a.ands.map nd)), .im (.sl (ints a.outs))]], up⟩) b.inn.length ⟨0, rfl, by omega, by simp [jIn]⟩ fun m st hI => ?_
      obtain ⟨i, rfl, hi, rfl⟩ := hI
      obtain ⟨j1, j2⟩ := jIn_len a b i
      have hjl : (strs (jIn a b i)).length = (jIn a b i).length := strs_len _
      have hap : ((jIn a b i).length + 1) * 16 ≤ 140737488355328 := by omega
      refine Run.seq ?_
      have fx := And.intro hap (And.intro hjl (And.intro ints_len (And.intro nd_len (And.intro rim_len (And.intro strs_len ft)))))
      refine Run.go ?_
      refine End.kp [2, 3, 4, 8, 31, 32, 33, 34] ?_
      refine Run.seq ?_
      refine Run.cond _ rfl (fun hb => ?_) (fun hb => ?_)
      · have hb2 := of_decide_eq_true hb
        have hin : i < b.inn.length := by omega
        have hil : (i : Int) < (b.inn.length : Int) := by omega
        have wi := wsucc hin (by omega)
        obtain ⟨x, hx1, hx2, hx3⟩ := str_at b.inn i hin
        have hjs := jIn_succ a b i x hx1
        refine Run.skip ?_
        refine End.kp [2, 3, 4, 8, 31, 32, 33] ?_
        refine Run.seq ?_
        refine Run.block ?_
        refine Run.seq ?_
        have fx := And.intro (@Int.toNat_natCast) (And.intro (@Int.natCast_nonneg) (And.intro hil (And.intro hx3 (And.intro wi (And.intro hap (And.intro hjl (And.intro ints_len (And.intro nd_len (And.intro rim_len (And.intro strs_len ft))))))))))
        refine Run.go ?_
        refine End.kp [2, 3, 4, 8, 10, 31, 32, 33] ?_
        refine Run.seq ?_
        refine Run.region rfl fun K hK => GOps.sim ?_
        refine GOps.call rfl rfl rfl rfl (by kernel_rfl) (ACalls.sim ?_)
        refine (ContainsS_ok a.inn x (by omega) _).mono fun v u hv => ?_
        obtain ⟨rfl, rfl⟩ := hv
        refine ⟨_, _, rfl, GOps.sim ?_⟩
        refine GOps.done (hK _ ?_); clear hK K
        refine End.kp [2, 3, 4, 8, 10, 31, 32, 33, 41] ?_
        refine Run.cond _ rfl (fun hb => ?_) (fun hb => ?_)
        · have hb3 : ¬ x ∈ a.inn := by simpa using hb
          rw [if_neg hb3] at hjs
          have fx := And.intro (@Int.toNat_natCast) (And.intro (@Int.natCast_nonneg) (And.intro hil (And.intro hx3 (And.intro wi (And.intro hap (And.intro hjl (And.intro ints_len (And.intro nd_len (And.intro rim_len (And.intro strs_len ft))))))))))
          refine Run.go ?_
          refine End.blk ?_
          refine End.kp [2, 3, 4, 8, 31, 32, 33] ?_
          refine Run.go ?_
          refine End.lp ?_
          have hln : (jIn a b (i + 1)).length = (jIn a b i).length + 1 := by rw [hjs]; simp
          refine ⟨b.inn.length - (i + 1), _, by omega, Ghost.form [(2, .ptr 0 0 0), (3, .ptr 0 1 0), (4, .ptr 0 2 0), (8, .ptr 0 6 0), (31, .im (.sl (strs b.inn))), (32, .i b.inn.length), (33, .i (i + 1 : Nat))] 7 ⟨rfl, rfl, rfl, rfl, rfl, rfl, rfl, trivial⟩ rfl rfl, i + 1, rfl, by omega, ?_⟩
          rw [hln, hjs]
          simp
        · have hb3 : x ∈ a.inn := by simpa using hb
          rw [if_pos hb3] at hjs
          refine Run.skip ?_
          refine End.blk ?_
          refine End.kp [2, 3, 4, 8, 31, 32, 33] ?_
          have fx := And.intro (@Int.toNat_natCast) (And.intro (@Int.natCast_nonneg) (And.intro hil (And.intro hx3 (And.intro wi (And.intro hap (And.intro hjl (And.intro ints_len (And.intro nd_len (And.intro rim_len (And.intro strs_len ft))))))))))
          refine Run.go ?_
          refine End.lp ?_
          refine ⟨b.inn.length - (i + 1), _, by omega, Ghost.form [(2, .ptr 0 0 0), (3, .ptr 0 1 0), (4, .ptr 0 2 0), (8, .ptr 0 6 0), (31, .im (.sl (strs b.inn))), (32, .i b.inn.length), (33, .i (i + 1 : Nat))] 7 ⟨rfl, rfl, rfl, rfl, rfl, rfl, rfl, trivial⟩ rfl rfl, i + 1, rfl, by omega, ?_⟩
          rw [hjs]
          rfl
      · have hb2 := of_decide_eq_false hb
        have hiN : i = b.inn.length := by omega
        subst hiN
        have hpv : (joinG a b).pv = .agg [.im (.sl (strs (jInA a b))), .im (.sl (strs (a.out ++ b.out))), .im (.sl ((a.regs.map (mvR (toAL a b (jInA a b).length)) ++ b.regs.map (mvR (toBL a b (jInA a b) (jInA a b).length))).map LReg.im)), .im (.sl ((a.ands.map (mvA (toAL a b (jInA a b).length)) ++ b.ands.map (mvA (toBL a b (jInA a b) (jInA a b).length))).map nd)), .im (.sl (ints (a.outs.map (atV (toAL a b (jInA a b).length)) ++ b.outs.map (atV (toBL a b (jInA a b) (jInA a b).length)))))] := rfl
        generalize joinG a b = G at *
        obtain ⟨I, hI⟩ : ∃ I, I = jIn a b b.inn.length := ⟨_, rfl⟩
        have hI2 : jInA a b = I := hI.symm
        rw [hI2] at hpv
        rw [← hI] at j1 j2 hjl ⊢
        have hChk : ∀ up, ACalls Try.prog 86 [G.pv] up fun v u => v = .i 0 ∧ u = up := Check_ok G hj
        rw [hpv] at hChk
        have hI3 : I.length ≤ 300 := by omega
        have hA := fun o2 o3 o4 o5 rest => addA_ok a b haa hbb I hI3 I.length hI3 j1 o2 o3 o4 o5 [] [] [] [] (by simp) (by simp) (by simp) (by simp) rest
        simp only [List.length_nil, Nat.zero_add, List.nil_append] at hA
        have hB := fun o2 o3 o4 o5 rest => addB_ok a b haa hbb I hI3 I.length hI3 j1 o2 o3 o4 o5 a.out (a.regs.map (mvR (toAL a b I.length))) (a.ands.map (mvA (toAL a b I.length))) (a.outs.map (atV (toAL a b I.length))) (by omega) (by rw [List.length_map]; omega) (by rw [List.length_map]; omega) (by rw [List.length_map]; omega) rest
        simp only [List.length_map] at hB
        refine Run.exit rfl ?_
        refine End.kp [2, 3, 4, 8] ?_
        refine Run.seq ?_
        refine Run.ghost (Ghost.boxShut (j := 6) (i := 0) (r := 3) rfl rfl rfl hjl) ?_
        simp only [List.set_cons_zero, List.set_cons_succ]
        refine Run.ghost (.spares 2) ?_
        simp only [ASt.pushN, ASt.push, List.append_assoc, List.cons_append, List.nil_append]
        have fx := And.intro hap (And.intro hjl (And.intro ints_len (And.intro nd_len (And.intro rim_len (And.intro strs_len ft)))))
        refine Run.drawA fun K hK => ?_
        refine DOps.sim ?_
        refine DOps.nil (by rfl) (hK _ ?_); clear hK K
        refine End.kp [2, 3, 4, 8, 11, 12] ?_
        refine Run.seq ?_
        refine Run.go ?_
        refine End.kp [2, 3, 4, 8, 11, 12, 13] ?_
        refine Run.seq ?_
        refine Run.go ?_
        refine End.kp [2, 3, 4, 8, 13, 14] ?_
        refine Run.seq ?_
        refine Run.go ?_
        refine End.kp [2, 3, 4, 8, 13, 14] ?_
        refine Run.seq ?_
        refine Run.ghost (.thawBox (j := 6) (i := 1) 9 1 (by decide) rfl rfl) ?_
        refine Run.ghost (.thawBox (j := 6) (i := 2) 69 3 (by decide) rfl rfl) ?_
        refine Run.ghost (.thawBox (j := 6) (i := 3) 137 2 (by decide) rfl rfl) ?_
        refine Run.ghost (.thawBox (j := 6) (i := 4) 62 1 (by decide) rfl rfl) ?_
        simp only [ASt.push, ASt.at, List.set_cons_zero, List.set_cons_succ, List.cons_append, List.nil_append, List.length_cons, List.length_nil, Nat.reduceAdd]
        have fx := And.intro hap (And.intro hjl (And.intro ints_len (And.intro nd_len (And.intro rim_len (And.intro strs_len ft)))))
        refine Run.region rfl fun K hK => GOps.sim ?_
        refine GOps.call rfl rfl rfl rfl (by kernel_rfl) (ACalls.sim ?_)
        refine (hA _ _ _ _ _).mono fun v u hv => ?_
        obtain ⟨rfl, rfl⟩ := hv
        refine ⟨_, _, rfl, GOps.sim ?_⟩
        refine GOps.done (hK _ ?_); clear hK K
        refine End.kp [3, 4, 8, 14] ?_
        refine Run.seq ?_
        refine Run.region rfl fun K hK => GOps.sim ?_
        refine GOps.call rfl rfl rfl rfl (by kernel_rfl) (ACalls.sim ?_)
        refine (hB _ _ _ _ _).mono fun v u hv => ?_
        obtain ⟨rfl, rfl⟩ := hv
        refine ⟨_, _, rfl, GOps.sim ?_⟩
        refine GOps.done (hK _ ?_); clear hK K
        refine End.kp [4, 8] ?_
        refine Run.seq ?_
        refine Run.seq ?_
        refine Run.ghost (Ghost.boxShut (j := 6) (i := 1) (r := 9) rfl rfl rfl (by simp)) ?_
        refine Run.ghost (Ghost.boxShut (j := 6) (i := 2) (r := 10) rfl rfl rfl (by simp)) ?_
        refine Run.ghost (Ghost.boxShut (j := 6) (i := 3) (r := 11) rfl rfl rfl (by simp)) ?_
        refine Run.ghost (Ghost.boxShut (j := 6) (i := 4) (r := 12) rfl rfl rfl (by simp)) ?_
        simp only [List.set_cons_zero, List.set_cons_succ]
        have fx := And.intro hap (And.intro hjl (And.intro ints_len (And.intro nd_len (And.intro rim_len (And.intro strs_len ft)))))
        refine Run.region rfl fun K hK => GOps.sim ?_
        refine GOps.call rfl rfl rfl rfl (by kernel_rfl) (ACalls.sim ?_)
        refine (hChk _).mono fun v u hv => ?_
        obtain ⟨rfl, rfl⟩ := hv
        refine ⟨_, _, rfl, GOps.sim ?_⟩
        refine GOps.done (hK _ ?_); clear hK K
        refine End.kp [4, 8, 15] ?_
        refine Run.seq ?_
        refine Run.go ?_
        refine End.kp [4, 8, 15, 70] ?_
        refine Run.cond _ rfl (fun hb => ?_) (fun hb => ?_)
        · have hb2 := hb
          simp at hb
        · have hb2 := hb
          refine Run.skip ?_
          refine End.kp [4, 8] ?_
          refine Run.seq ?_
          have fx := And.intro hap (And.intro hjl (And.intro ints_len (And.intro nd_len (And.intro rim_len (And.intro strs_len ft)))))
          refine Run.go ?_
          refine End.kp [4, 5] ?_
          refine Run.resC hQ ?_
          exact ⟨by rw [hpv], rfl⟩
theorem Join_twice (a b : LGraph) (haa : GraphOk a) (hbb : GraphOk b) (hj : GraphTwice (joinG a b)) (up : Frs) : ACalls Try.prog 69 [a.pv, b.pv] up fun v u => v = .tup [.agg [.im (.sl []), .im (.sl []), .im (.sl []), .im (.sl []), .im (.sl [])], .i 6] ∧ u = up := by
  obtain ⟨z1, z2, z3, z4, z5⟩ := haa.small
  obtain ⟨y1, y2, y3, y4, y5⟩ := hbb.small
  refine ACalls.code Try.func69 rfl 74 rfl (by simp) [.cell 4 51, .tmp 5] rfl fun Q hQ => ?_
  simp only [ups, PV.up, argEnv]
  have ft := And.intro ty_2 (And.intro ty_3 (And.intro ty_4 (And.intro ty_9 (And.intro ty_26 (And.intro ty_34 (And.intro ty_47 (And.intro ty_48 (And.intro ty_49 (And.intro ty_51 (And.intro ty_62 (And.intro ty_69 (And.intro ty_137 (And.intro ty_183 trivial)))))))))))))
  refine Run.seq ?_
  have fx := And.intro ints_len (And.intro nd_len (And.intro rim_len (And.intro strs_len ft)))
  refine Run.go ?_
  refine End.kp [2, 3, 4] ?_
  refine Run.seq ?_
  refine Run.seq ?_
  refine Run.region rfl fun K hK => GOps.sim ?_
  refine GOps.call rfl rfl rfl rfl (by kernel_rfl) (ACalls.sim ?_)
  refine (Check_ok a haa _).mono fun v u hv => ?_
  obtain ⟨rfl, rfl⟩ := hv
  refine ⟨_, _, rfl, GOps.sim ?_⟩
  refine GOps.done (hK _ ?_); clear hK K
  refine End.kp [2, 3, 4, 6] ?_
  refine Run.seq ?_
  refine Run.go ?_
  refine End.kp [2, 3, 4, 6, 19] ?_
  refine Run.cond _ rfl (fun hb => ?_) (fun hb => ?_)
  · have hb2 := hb
    simp at hb
  · have hb2 := hb
    refine Run.skip ?_
    refine End.kp [2, 3, 4] ?_
    refine Run.seq ?_
    refine Run.seq ?_
    have fx := And.intro ints_len (And.intro nd_len (And.intro rim_len (And.intro strs_len ft)))
    refine Run.region rfl fun K hK => GOps.sim ?_
    refine GOps.call rfl rfl rfl rfl (by kernel_rfl) (ACalls.sim ?_)
    refine (Check_ok b hbb _).mono fun v u hv => ?_
    obtain ⟨rfl, rfl⟩ := hv
    refine ⟨_, _, rfl, GOps.sim ?_⟩
    refine GOps.done (hK _ ?_); clear hK K
    refine End.kp [2, 3, 4, 7] ?_
    refine Run.seq ?_
    refine Run.go ?_
    refine End.kp [2, 3, 4, 7, 25] ?_
    refine Run.cond _ rfl (fun hb => ?_) (fun hb => ?_)
    · have hb2 := hb
      simp at hb
    · have hb2 := hb
      refine Run.skip ?_
      refine End.kp [2, 3, 4] ?_
      refine Run.seq ?_
      have fx := And.intro ints_len (And.intro nd_len (And.intro rim_len (And.intro strs_len ft)))
      refine Run.region rfl fun K hK => GOps.sim ?_
      refine GOps.call rfl rfl rfl rfl (by kernel_rfl) (ACalls.sim ?_)
      refine (CopyJ_ok a haa.small _ _).mono fun v u hv => ?_
      obtain ⟨rfl, rfl⟩ := hv
      refine ⟨_, _, rfl, GOps.sim ?_⟩
      refine GOps.done (hK _ ?_); clear hK K
      refine End.kp [2, 3, 4, 8] ?_
      refine Run.seq ?_
      refine Run.seq ?_
      refine Run.go ?_
      refine End.kp [2, 3, 4, 8, 31, 32, 33] ?_
      refine Run.block ?_
      refine Run.ghost (Ghost.form [(2, .ptr 0 0 0), (3, .ptr 0 1 0), (4, .ptr 0 2 0), (8, .ptr 0 6 0), (31, .im (.sl (strs b.inn))), (32, .i b.inn.length), (33, .i (0 : Nat))] 7 ⟨rfl, rfl, rfl, rfl, rfl, rfl, rfl, trivial⟩ rfl rfl) ?_
      refine Run.loop (fun m st => ∃ (i : Nat), m = b.inn.length - i ∧ i ≤ b.inn.length ∧ st = ⟨[(2, .ptr 0 0 0), (3, .ptr 0 1 0), (4, .ptr 0 2 0), (8, .ptr 0 6 0), (31, .im (.sl (strs b.inn))), (32, .i b.inn.length), (33, .i (i : Nat))], [.box [.im (.sl (strs a.inn)), .im (.sl (strs a.out)), .im (.sl (a.regs.map LReg.im)), .im (.sl (a.ands.map nd)), .im (.sl (ints a.outs))], .box [.im (.sl (strs b.inn)), .im (.sl (strs b.out)), .im (.sl (b.regs.map LReg.im)), .im (.sl (b.ands.map nd)), .im (.sl (ints b.outs))], .box [.nils, .nils, .nils, .nils, .nils], .row 9 1 (strs (jIn a b i)) 0, .box [.im (.sl (strs a.inn)), .im (.sl (strs a.out)), .im (.sl (a.regs.map LReg.im)), .im (.sl (a.ands.map nd)), .im (.sl (ints a.outs))], .box [.ms 0 3 a.inn.length, .im (.sl (strs a.out)), .im (.sl (a.regs.map LReg.im)), .im (.sl (a.ands.map nd)), .im (.sl (ints a.outs))], .box [.ms 0 3 (jIn a b i).length, .im (.sl (strs a.out)), .im (.sl (a.regs.map LReg.im)), .im (.sl (a.ands.map nd)), .im (.sl (ints a.outs))]], up⟩) b.inn.length ⟨0, rfl, by omega, by simp [jIn]⟩ fun m st hI => ?_
      obtain ⟨i, rfl, hi, rfl⟩ := hI
      obtain ⟨j1, j2⟩ := jIn_len a b i
      have hjl : (strs (jIn a b i)).length = (jIn a b i).length := strs_len _
      have hap : ((jIn a b i).length + 1) * 16 ≤ 140737488355328 := by omega
      refine Run.seq ?_
      have fx := And.intro hap (And.intro hjl (And.intro ints_len (And.intro nd_len (And.intro rim_len (And.intro strs_len ft)))))
      refine Run.go ?_
      refine End.kp [2, 3, 4, 8, 31, 32, 33, 34] ?_
      refine Run.seq ?_
      refine Run.cond _ rfl (fun hb => ?_) (fun hb => ?_)
      · have hb2 := of_decide_eq_true hb
        have hin : i < b.inn.length := by omega
        have hil : (i : Int) < (b.inn.length : Int) := by omega
        have wi := wsucc hin (by omega)
        obtain ⟨x, hx1, hx2, hx3⟩ := str_at b.inn i hin
        have hjs := jIn_succ a b i x hx1
        refine Run.skip ?_
        refine End.kp [2, 3, 4, 8, 31, 32, 33] ?_
        refine Run.seq ?_
        refine Run.block ?_
        refine Run.seq ?_
        have fx := And.intro (@Int.toNat_natCast) (And.intro (@Int.natCast_nonneg) (And.intro hil (And.intro hx3 (And.intro wi (And.intro hap (And.intro hjl (And.intro ints_len (And.intro nd_len (And.intro rim_len (And.intro strs_len ft))))))))))
        refine Run.go ?_
        refine End.kp [2, 3, 4, 8, 10, 31, 32, 33] ?_
        refine Run.seq ?_
        refine Run.region rfl fun K hK => GOps.sim ?_
        refine GOps.call rfl rfl rfl rfl (by kernel_rfl) (ACalls.sim ?_)
        refine (ContainsS_ok a.inn x (by omega) _).mono fun v u hv => ?_
        obtain ⟨rfl, rfl⟩ := hv
        refine ⟨_, _, rfl, GOps.sim ?_⟩
        refine GOps.done (hK _ ?_); clear hK K
        refine End.kp [2, 3, 4, 8, 10, 31, 32, 33, 41] ?_
        refine Run.cond _ rfl (fun hb => ?_) (fun hb => ?_)
        · have hb3 : ¬ x ∈ a.inn := by simpa using hb
          rw [if_neg hb3] at hjs
          have fx := And.intro (@Int.toNat_natCast) (And.intro (@Int.natCast_nonneg) (And.intro hil (And.intro hx3 (And.intro wi (And.intro hap (And.intro hjl (And.intro ints_len (And.intro nd_len (And.intro rim_len (And.intro strs_len ft))))))))))
          refine Run.go ?_
          refine End.blk ?_
          refine End.kp [2, 3, 4, 8, 31, 32, 33] ?_
          refine Run.go ?_
          refine End.lp ?_
          have hln : (jIn a b (i + 1)).length = (jIn a b i).length + 1 := by rw [hjs]; simp
          refine ⟨b.inn.length - (i + 1), _, by omega, Ghost.form [(2, .ptr 0 0 0), (3, .ptr 0 1 0), (4, .ptr 0 2 0), (8, .ptr 0 6 0), (31, .im (.sl (strs b.inn))), (32, .i b.inn.length), (33, .i (i + 1 : Nat))] 7 ⟨rfl, rfl, rfl, rfl, rfl, rfl, rfl, trivial⟩ rfl rfl, i + 1, rfl, by omega, ?_⟩
          rw [hln, hjs]
          simp
        · have hb3 : x ∈ a.inn := by simpa using hb
          rw [if_pos hb3] at hjs
          refine Run.skip ?_
          refine End.blk ?_
          refine End.kp [2, 3, 4, 8, 31, 32, 33] ?_
          have fx := And.intro (@Int.toNat_natCast) (And.intro (@Int.natCast_nonneg) (And.intro hil (And.intro hx3 (And.intro wi (And.intro hap (And.intro hjl (And.intro ints_len (And.intro nd_len (And.intro rim_len (And.intro strs_len ft))))))))))
          refine Run.go ?_
          refine End.lp ?_
          refine ⟨b.inn.length - (i + 1), _, by omega, Ghost.form [(2, .ptr 0 0 0), (3, .ptr 0 1 0), (4, .ptr 0 2 0), (8, .ptr 0 6 0), (31, .im (.sl (strs b.inn))), (32, .i b.inn.length), (33, .i (i + 1 : Nat))] 7 ⟨rfl, rfl, rfl, rfl, rfl, rfl, rfl, trivial⟩ rfl rfl, i + 1, rfl, by omega, ?_⟩
          rw [hjs]
          rfl
      · have hb2 := of_decide_eq_false hb
        have hiN : i = b.inn.length := by omega
        subst hiN
        have hpv : (joinG a b).pv = .agg [.im (.sl (strs (jInA a b))), .im (.sl (strs (a.out ++ b.out))), .im (.sl ((a.regs.map (mvR (toAL a b (jInA a b).length)) ++ b.regs.map (mvR (toBL a b (jInA a b) (jInA a b).length))).map LReg.im)), .im (.sl ((a.ands.map (mvA (toAL a b (jInA a b).length)) ++ b.ands.map (mvA (toBL a b (jInA a b) (jInA a b).length))).map nd)), .im (.sl (ints (a.outs.map (atV (toAL a b (jInA a b).length)) ++ b.outs.map (atV (toBL a b (jInA a b) (jInA a b).length)))))] := rfl
        generalize joinG a b = G at *
        obtain ⟨I, hI⟩ : ∃ I, I = jIn a b b.inn.length := ⟨_, rfl⟩
        have hI2 : jInA a b = I := hI.symm
        rw [hI2] at hpv
        rw [← hI] at j1 j2 hjl ⊢
        have hChk : ∀ up, ACalls Try.prog 86 [G.pv] up fun v u => v = .i 6 ∧ u = up := Check_twice G hj
        rw [hpv] at hChk
        have hI3 : I.length ≤ 300 := by omega
        have hA := fun o2 o3 o4 o5 rest => addA_ok a b haa hbb I hI3 I.length hI3 j1 o2 o3 o4 o5 [] [] [] [] (by simp) (by simp) (by simp) (by simp) rest
        simp only [List.length_nil, Nat.zero_add, List.nil_append] at hA
        have hB := fun o2 o3 o4 o5 rest => addB_ok a b haa hbb I hI3 I.length hI3 j1 o2 o3 o4 o5 a.out (a.regs.map (mvR (toAL a b I.length))) (a.ands.map (mvA (toAL a b I.length))) (a.outs.map (atV (toAL a b I.length))) (by omega) (by rw [List.length_map]; omega) (by rw [List.length_map]; omega) (by rw [List.length_map]; omega) rest
        simp only [List.length_map] at hB
        refine Run.exit rfl ?_
        refine End.kp [2, 3, 4, 8] ?_
        refine Run.seq ?_
        refine Run.ghost (Ghost.boxShut (j := 6) (i := 0) (r := 3) rfl rfl rfl hjl) ?_
        simp only [List.set_cons_zero, List.set_cons_succ]
        refine Run.ghost (.spares 2) ?_
        simp only [ASt.pushN, ASt.push, List.append_assoc, List.cons_append, List.nil_append]
        have fx := And.intro hap (And.intro hjl (And.intro ints_len (And.intro nd_len (And.intro rim_len (And.intro strs_len ft)))))
        refine Run.drawA fun K hK => ?_
        refine DOps.sim ?_
        refine DOps.nil (by rfl) (hK _ ?_); clear hK K
        refine End.kp [2, 3, 4, 8, 11, 12] ?_
        refine Run.seq ?_
        refine Run.go ?_
        refine End.kp [2, 3, 4, 8, 11, 12, 13] ?_
        refine Run.seq ?_
        refine Run.go ?_
        refine End.kp [2, 3, 4, 8, 13, 14] ?_
        refine Run.seq ?_
        refine Run.go ?_
        refine End.kp [2, 3, 4, 8, 13, 14] ?_
        refine Run.seq ?_
        refine Run.ghost (.thawBox (j := 6) (i := 1) 9 1 (by decide) rfl rfl) ?_
        refine Run.ghost (.thawBox (j := 6) (i := 2) 69 3 (by decide) rfl rfl) ?_
        refine Run.ghost (.thawBox (j := 6) (i := 3) 137 2 (by decide) rfl rfl) ?_
        refine Run.ghost (.thawBox (j := 6) (i := 4) 62 1 (by decide) rfl rfl) ?_
        simp only [ASt.push, ASt.at, List.set_cons_zero, List.set_cons_succ, List.cons_append, List.nil_append, List.length_cons, List.length_nil, Nat.reduceAdd]
        have fx := And.intro hap (And.intro hjl (And.intro ints_len (And.intro nd_len (And.intro rim_len (And.intro strs_len ft)))))
        refine Run.region rfl fun K hK => GOps.sim ?_
        refine GOps.call rfl rfl rfl rfl (by kernel_rfl) (ACalls.sim ?_)
        refine (hA _ _ _ _ _).mono fun v u hv => ?_
        obtain ⟨rfl, rfl⟩ := hv
        refine ⟨_, _, rfl, GOps.sim ?_⟩
        refine GOps.done (hK _ ?_); clear hK K
        refine End.kp [3, 4, 8, 14] ?_
        refine Run.seq ?_
        refine Run.region rfl fun K hK => GOps.sim ?_
        refine GOps.call rfl rfl rfl rfl (by kernel_rfl) (ACalls.sim ?_)
        refine (hB _ _ _ _ _).mono fun v u hv => ?_
        obtain ⟨rfl, rfl⟩ := hv
        refine ⟨_, _, rfl, GOps.sim ?_⟩
        refine GOps.done (hK _ ?_); clear hK K
        refine End.kp [4, 8] ?_
        refine Run.seq ?_
        refine Run.seq ?_
        refine Run.ghost (Ghost.boxShut (j := 6) (i := 1) (r := 9) rfl rfl rfl (by simp)) ?_
        refine Run.ghost (Ghost.boxShut (j := 6) (i := 2) (r := 10) rfl rfl rfl (by simp)) ?_
        refine Run.ghost (Ghost.boxShut (j := 6) (i := 3) (r := 11) rfl rfl rfl (by simp)) ?_
        refine Run.ghost (Ghost.boxShut (j := 6) (i := 4) (r := 12) rfl rfl rfl (by simp)) ?_
        simp only [List.set_cons_zero, List.set_cons_succ]
        have fx := And.intro hap (And.intro hjl (And.intro ints_len (And.intro nd_len (And.intro rim_len (And.intro strs_len ft)))))
        refine Run.region rfl fun K hK => GOps.sim ?_
        refine GOps.call rfl rfl rfl rfl (by kernel_rfl) (ACalls.sim ?_)
        refine (hChk _).mono fun v u hv => ?_
        obtain ⟨rfl, rfl⟩ := hv
        refine ⟨_, _, rfl, GOps.sim ?_⟩
        refine GOps.done (hK _ ?_); clear hK K
        refine End.kp [4, 8, 15] ?_
        refine Run.seq ?_
        refine Run.go ?_
        refine End.kp [4, 8, 15, 70] ?_
        refine Run.cond _ rfl (fun hb => ?_) (fun hb => ?_)
        · have hb2 := hb
          refine Run.seq ?_
          have fx := And.intro hap (And.intro hjl (And.intro ints_len (And.intro nd_len (And.intro rim_len (And.intro strs_len ft)))))
          refine Run.go ?_
          refine End.kp [4, 5] ?_
          refine Run.resC hQ ?_
          exact ⟨rfl, rfl⟩
        · have hb2 := hb
          simp at hb
end Go.Proofs.YtkmnmokjlpenhaaPi

