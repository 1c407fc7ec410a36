/- The walks of slices.Concat of rows of bools, and of rows of words, that are not all empty. -/
import Derived.Test.YtkmnmokjlpenhaaPiGrowB
import Derived.Test.YtkmnmokjlpenhaaWN
set_option linter.unusedVariables false
set_option linter.unusedSimpArgs false
set_option maxRecDepth 100000
namespace Go.Proofs.YtkmnmokjlpenhaaPi
set_option maxHeartbeats 4000000
def sumL {α : Type} (ps : List (List α)) : Nat := (ps.map List.length).foldr (· + ·) 0
theorem sumL_take {α : Type} (ps : List (List α)) (i : Nat) (r : List α) (h : ps[i]? = some r) : sumL (ps.take (i + 1)) = sumL (ps.take i) + r.length := by
  induction ps generalizing i with
  | nil => simp at h
  | cons p ps ih =>
    cases i with
    | zero => simp at h; subst h; simp [sumL]
    | succ i =>
      have := ih i (by simpa using h)
      simp only [sumL, List.take_succ_cons, List.map_cons, List.foldr_cons] at this ⊢
      omega
theorem flat_take {α : Type} (ps : List (List α)) (i : Nat) (r : List α) (h : ps[i]? = some r) : (ps.take (i + 1)).flatten = (ps.take i).flatten ++ r := by simp [List.take_add_one, h]
theorem sumL_le {α : Type} (ps : List (List α)) (i : Nat) : sumL (ps.take i) ≤ sumL ps := by
  induction ps generalizing i with
  | nil => simp
  | cons p ps ih =>
    cases i with
    | zero => simp [sumL]
    | succ i =>
      have := ih i
      simp only [sumL, List.take_succ_cons, List.map_cons, List.foldr_cons] at this ⊢
      omega
theorem flat_len {α : Type} (ps : List (List α)) : ps.flatten.length = sumL ps := by
  induction ps with
  | nil => rfl
  | cons p ps ih => simp only [List.flatten_cons, List.length_append, sumL, List.map_cons, List.foldr_cons] at ih ⊢; rw [ih]
abbrev uss (l : List (List Int)) : List (List Im) := l.map fun r => [.sl (us r)]
theorem uss_len (l : List (List Int)) : (uss l).length = l.length := by simp
theorem uss_at (q : List (List Int)) (i : Nat) (h : i < q.length) : ∃ r, q[i]? = some r ∧ r ∈ q ∧ q.getD i [] = r ∧ (uss q)[i]? = some [.sl (us r)] :=
  ⟨q[i], List.getElem?_eq_getElem h, List.getElem_mem h, by simp [h], by simp [h]⟩
theorem ConcatB_ok (ps : List (List Bool)) (h0 : 0 < sumL ps) (h1 : sumL ps ≤ 100000) (h2 : ps.length ≤ 1000) (up : Frs) : ACalls Try.prog 51 [.im (.sl (boolss ps))] up fun v u => v = .im (.sl (bools ps.flatten)) ∧ u = up := by
  refine ACalls.code Try.func51 rfl 36 rfl (by simp) [.tmp 2] rfl fun Q hQ => ?_
  simp only [ups, PV.up, argEnv]
  have ft := And.intro ty_3 (And.intro ty_4 (And.intro ty_9 (And.intro ty_58 (And.intro ty_71 trivial))))
  refine Run.seq ?_
  have fx := And.intro boolss_len ft
  refine Run.go ?_
  refine End.kp [0] ?_
  refine Run.seq ?_
  refine Run.go ?_
  refine End.kp [0, 3] ?_
  refine Run.seq ?_
  refine Run.seq ?_
  refine Run.go ?_
  refine End.kp [0, 3, 9, 10, 11] ?_
  refine Run.block ?_
  refine Run.ghost (Ghost.form [(0, .im (.sl (boolss ps))), (3, .i 0), (9, .im (.sl (boolss ps))), (10, .i ps.length), (11, .i (0 : Nat))] 0 ⟨rfl, rfl, rfl, rfl, rfl, trivial⟩ rfl rfl) ?_
  refine Run.loop (fun m' st => ∃ i : Nat, m' = ps.length - i ∧ i ≤ ps.length ∧ st = ⟨[(0, .im (.sl (boolss ps))), (3, .i (sumL (ps.take i) : Nat)), (9, .im (.sl (boolss ps))), (10, .i ps.length), (11, .i (i : Nat))], [], up⟩) ps.length ⟨0, rfl, by omega, by simp [sumL]⟩ fun m' st hI => ?_
  obtain ⟨i, rfl, hi, rfl⟩ := hI
  refine Run.seq ?_
  have fx := And.intro boolss_len ft
  refine Run.go ?_
  refine End.kp [0, 3, 9, 10, 11, 12] ?_
  refine Run.seq ?_
  refine Run.cond _ rfl (fun hb => ?_) (fun hb => ?_)
  · have hb2 := of_decide_eq_true hb
    have hin : i < ps.length := by omega
    have wi := wsucc hin (by omega)
    obtain ⟨r, hri, hrm, _, hrr⟩ := boolss_at ps i hin
    have hil : (i : Int) < (ps.length : Int) := by omega
    have ht := sumL_take ps i r hri
    have hle := sumL_le ps (i + 1)
    have wa : IntKind.i64.wrap ((sumL (ps.take i) : Int) + r.length) = (sumL (ps.take (i + 1)) : Int) := by rw [wrap64 (by omega)]; omega
    have hn0 : decide ((sumL (ps.take (i + 1)) : Int) < 0) = false := decide_eq_false (by omega)
    refine Run.skip ?_
    refine End.kp [0, 3, 9, 10, 11] ?_
    refine Run.seq ?_
    refine Run.block ?_
    refine Run.seq ?_
    have fx := And.intro (@Int.toNat_natCast) (And.intro (@Int.natCast_nonneg) (And.intro hn0 (And.intro wa (And.intro bools_len (And.intro hil (And.intro hrr (And.intro wi (And.intro boolss_len ft))))))))
    refine Run.go ?_
    refine End.kp [0, 3, 5, 9, 10, 11] ?_
    refine Run.seq ?_
    refine Run.go ?_
    refine End.kp [0, 3, 9, 10, 11] ?_
    refine Run.seq ?_
    refine Run.go ?_
    refine End.kp [0, 3, 9, 10, 11, 20] ?_
    refine Run.cond _ rfl (fun hb => ?_) (fun hb => ?_)
    · have hb3 := hb
      simp at hb
    · have hb3 := hb
      refine Run.skip ?_
      refine End.blk ?_
      refine End.kp [0, 3, 9, 10, 11] ?_
      have fx := And.intro (@Int.toNat_natCast) (And.intro (@Int.natCast_nonneg) (And.intro hn0 (And.intro wa (And.intro bools_len (And.intro hil (And.intro hrr (And.intro wi (And.intro boolss_len ft))))))))
      refine Run.go ?_
      refine End.lp ?_
      refine ⟨ps.length - (i + 1), _, by omega, Ghost.form [(0, .im (.sl (boolss ps))), (3, .i (sumL (ps.take (i + 1)) : Nat)), (9, .im (.sl (boolss ps))), (10, .i ps.length), (11, .i (i + 1 : Nat))] 0 ⟨rfl, rfl, rfl, rfl, rfl, trivial⟩ rfl rfl, i + 1, rfl, by omega, rfl⟩
  · have hb2 := of_decide_eq_false hb
    have hiN : i = ps.length := by omega
    subst hiN
    rw [List.take_length]
    refine Run.exit rfl ?_
    refine End.kp [0, 3] ?_
    refine Run.seq ?_
    have fx := And.intro boolss_len ft
    refine Run.region rfl fun K hK => GOps.sim ?_
    refine GOps.callM rfl rfl rfl rfl (by kernel_rfl) (ACalls.sim ?_)
    refine (growB_ok (sumL ps) h0 (by omega) _ _).mono fun v u hv => ?_
    obtain ⟨rfl, rfl⟩ := hv
    refine ⟨_, _, rfl, GOps.sim ?_⟩
    refine GOps.done (hK _ ?_); clear hK K
    refine End.kp [0, 6] ?_
    refine Run.seq ?_
    refine Run.seq ?_
    refine Run.go ?_
    refine End.kp [6, 25, 26, 27] ?_
    refine Run.block ?_
    refine Run.ghost (Ghost.form [(6, .ms 0 0 0), (25, .im (.sl (boolss ps))), (26, .i ps.length), (27, .i (0 : Nat))] 1 ⟨rfl, rfl, rfl, rfl, trivial⟩ rfl rfl) ?_
    refine Run.loop (fun m' st => ∃ i : Nat, m' = ps.length - i ∧ i ≤ ps.length ∧ st = ⟨[(6, .ms 0 0 (ps.take i).flatten.length), (25, .im (.sl (boolss ps))), (26, .i ps.length), (27, .i (i : Nat))], [.row 4 1 (bools (ps.take i).flatten) 0], up⟩) ps.length ⟨0, rfl, by omega, rfl⟩ fun m' st hI => ?_
    obtain ⟨i, rfl, hi, rfl⟩ := hI
    have hfl : (bools (ps.take i).flatten).length = (ps.take i).flatten.length := by rw [bools_len]
    have hfs := flat_len (ps.take i)
    have hsl := sumL_le ps i
    refine Run.seq ?_
    have fx := And.intro hfl (And.intro boolss_len ft)
    refine Run.go ?_
    refine End.kp [6, 25, 26, 27, 28] ?_
    refine Run.seq ?_
    refine Run.cond _ rfl (fun hb => ?_) (fun hb => ?_)
    · have hb2 := of_decide_eq_true hb
      have hin : i < ps.length := by omega
      have wi := wsucc hin (by omega)
      obtain ⟨r, hri, hrm, _, hrr⟩ := boolss_at ps i hin
      have hil : (i : Int) < (ps.length : Int) := by omega
      have ht := sumL_take ps i r hri
      have hle := sumL_le ps (i + 1)
      have hft := flat_take ps i r hri
      have hcap : ((ps.take i).flatten.length + r.length) * 1 ≤ 140737488355328 := by omega
      have hcap2 : (ps.take i).flatten.length + r.length ≤ 140737488355328 := by omega
      have hall : (bools r).all (fun r => r.length == 1) = true := by simp
      refine Run.skip ?_
      refine End.kp [6, 25, 26, 27] ?_
      refine Run.seq ?_
      refine Run.block ?_
      refine Run.seq ?_
      have fx := And.intro (@Int.toNat_natCast) (And.intro (@Int.natCast_nonneg) (And.intro hall (And.intro hcap2 (And.intro hcap (And.intro bools_len (And.intro hil (And.intro hrr (And.intro wi (And.intro hfl (And.intro boolss_len ft))))))))))
      refine Run.go ?_
      refine End.kp [6, 8, 25, 26, 27] ?_
      refine Run.go ?_
      refine End.blk ?_
      refine End.kp [6, 25, 26, 27] ?_
      refine Run.go ?_
      refine End.lp ?_
      refine ⟨ps.length - (i + 1), _, by omega, Ghost.form [(6, .ms 0 0 ((ps.take i).flatten.length + r.length)), (25, .im (.sl (boolss ps))), (26, .i ps.length), (27, .i (i + 1 : Nat))] 1 ⟨rfl, rfl, rfl, rfl, trivial⟩ rfl rfl, i + 1, rfl, by omega, ?_⟩
      rw [hft]
      simp
    · have hb2 := of_decide_eq_false hb
      have hiN : i = ps.length := by omega
      subst hiN
      rw [List.take_length] at hfl ⊢
      refine Run.exit rfl ?_
      refine End.kp [6] ?_
      refine Run.seq ?_
      refine Run.ghost (Ghost.shut (t := 6) (j := 0) rfl rfl hfl) ?_
      simp only [eput, edel]
      have fx := And.intro hfl (And.intro boolss_len ft)
      refine Run.go ?_
      refine End.kp [2] ?_
      refine Run.ret (hQ _ _ ⟨.inr rfl, _, rfl, _, rfl, ?_⟩)
      exact ⟨rfl, rfl⟩
theorem ConcatU_ok (ps : List (List Int)) (h0 : 0 < sumL ps) (h1 : sumL ps ≤ 100000) (h2 : ps.length ≤ 1000) (up : Frs) : ACalls Try.prog 52 [.im (.sl (uss ps))] up fun v u => v = .im (.sl (us ps.flatten)) ∧ u = up := by
  refine ACalls.code Try.func52 rfl 36 rfl (by simp) [.tmp 2] rfl fun Q hQ => ?_
  simp only [ups, PV.up, argEnv]
  have ft := And.intro ty_3 (And.intro ty_4 (And.intro ty_9 (And.intro ty_37 (And.intro ty_56 (And.intro ty_155 trivial)))))
  refine Run.seq ?_
  have fx := And.intro uss_len ft
  refine Run.go ?_
  refine End.kp [0] ?_
  refine Run.seq ?_
  refine Run.go ?_
  refine End.kp [0, 3] ?_
  refine Run.seq ?_
  refine Run.seq ?_
  refine Run.go ?_
  refine End.kp [0, 3, 9, 10, 11] ?_
  refine Run.block ?_
  refine Run.ghost (Ghost.form [(0, .im (.sl (uss ps))), (3, .i 0), (9, .im (.sl (uss ps))), (10, .i ps.length), (11, .i (0 : Nat))] 0 ⟨rfl, rfl, rfl, rfl, rfl, trivial⟩ rfl rfl) ?_
  refine Run.loop (fun m' st => ∃ i : Nat, m' = ps.length - i ∧ i ≤ ps.length ∧ st = ⟨[(0, .im (.sl (uss ps))), (3, .i (sumL (ps.take i) : Nat)), (9, .im (.sl (uss ps))), (10, .i ps.length), (11, .i (i : Nat))], [], up⟩) ps.length ⟨0, rfl, by omega, by simp [sumL]⟩ fun m' st hI => ?_
  obtain ⟨i, rfl, hi, rfl⟩ := hI
  refine Run.seq ?_
  have fx := And.intro uss_len ft
  refine Run.go ?_
  refine End.kp [0, 3, 9, 10, 11, 12] ?_
  refine Run.seq ?_
  refine Run.cond _ rfl (fun hb => ?_) (fun hb => ?_)
  · have hb2 := of_decide_eq_true hb
    have hin : i < ps.length := by omega
    have wi := wsucc hin (by omega)
    obtain ⟨r, hri, hrm, _, hrr⟩ := uss_at ps i hin
    have hil : (i : Int) < (ps.length : Int) := by omega
    have ht := sumL_take ps i r hri
    have hle := sumL_le ps (i + 1)
    have wa : IntKind.i64.wrap ((sumL (ps.take i) : Int) + r.length) = (sumL (ps.take (i + 1)) : Int) := by rw [wrap64 (by omega)]; omega
    have hn0 : decide ((sumL (ps.take (i + 1)) : Int) < 0) = false := decide_eq_false (by omega)
    refine Run.skip ?_
    refine End.kp [0, 3, 9, 10, 11] ?_
    refine Run.seq ?_
    refine Run.block ?_
    refine Run.seq ?_
    have fx := And.intro (@Int.toNat_natCast) (And.intro (@Int.natCast_nonneg) (And.intro hn0 (And.intro wa (And.intro us_len (And.intro hil (And.intro hrr (And.intro wi (And.intro uss_len ft))))))))
    refine Run.go ?_
    refine End.kp [0, 3, 5, 9, 10, 11] ?_
    refine Run.seq ?_
    refine Run.go ?_
    refine End.kp [0, 3, 9, 10, 11] ?_
    refine Run.seq ?_
    refine Run.go ?_
    refine End.kp [0, 3, 9, 10, 11, 20] ?_
    refine Run.cond _ rfl (fun hb => ?_) (fun hb => ?_)
    · have hb3 := hb
      simp at hb
    · have hb3 := hb
      refine Run.skip ?_
      refine End.blk ?_
      refine End.kp [0, 3, 9, 10, 11] ?_
      have fx := And.intro (@Int.toNat_natCast) (And.intro (@Int.natCast_nonneg) (And.intro hn0 (And.intro wa (And.intro us_len (And.intro hil (And.intro hrr (And.intro wi (And.intro uss_len ft))))))))
      refine Run.go ?_
      refine End.lp ?_
      refine ⟨ps.length - (i + 1), _, by omega, Ghost.form [(0, .im (.sl (uss ps))), (3, .i (sumL (ps.take (i + 1)) : Nat)), (9, .im (.sl (uss ps))), (10, .i ps.length), (11, .i (i + 1 : Nat))] 0 ⟨rfl, rfl, rfl, rfl, rfl, trivial⟩ rfl rfl, i + 1, rfl, by omega, rfl⟩
  · have hb2 := of_decide_eq_false hb
    have hiN : i = ps.length := by omega
    subst hiN
    rw [List.take_length]
    refine Run.exit rfl ?_
    refine End.kp [0, 3] ?_
    refine Run.seq ?_
    have fx := And.intro uss_len ft
    refine Run.region rfl fun K hK => GOps.sim ?_
    refine GOps.callM rfl rfl rfl rfl (by kernel_rfl) (ACalls.sim ?_)
    refine (growU_ok (sumL ps) h0 (by omega) _ _).mono fun v u hv => ?_
    obtain ⟨rfl, rfl⟩ := hv
    refine ⟨_, _, rfl, GOps.sim ?_⟩
    refine GOps.done (hK _ ?_); clear hK K
    refine End.kp [0, 6] ?_
    refine Run.seq ?_
    refine Run.seq ?_
    refine Run.go ?_
    refine End.kp [6, 25, 26, 27] ?_
    refine Run.block ?_
    refine Run.ghost (Ghost.form [(6, .ms 0 0 0), (25, .im (.sl (uss ps))), (26, .i ps.length), (27, .i (0 : Nat))] 1 ⟨rfl, rfl, rfl, rfl, trivial⟩ rfl rfl) ?_
    refine Run.loop (fun m' st => ∃ i : Nat, m' = ps.length - i ∧ i ≤ ps.length ∧ st = ⟨[(6, .ms 0 0 (ps.take i).flatten.length), (25, .im (.sl (uss ps))), (26, .i ps.length), (27, .i (i : Nat))], [.row 37 1 (us (ps.take i).flatten) 0], up⟩) ps.length ⟨0, rfl, by omega, rfl⟩ fun m' st hI => ?_
    obtain ⟨i, rfl, hi, rfl⟩ := hI
    have hfl : (us (ps.take i).flatten).length = (ps.take i).flatten.length := by rw [us_len]
    have hfs := flat_len (ps.take i)
    have hsl := sumL_le ps i
    refine Run.seq ?_
    have fx := And.intro hfl (And.intro uss_len ft)
    refine Run.go ?_
    refine End.kp [6, 25, 26, 27, 28] ?_
    refine Run.seq ?_
    refine Run.cond _ rfl (fun hb => ?_) (fun hb => ?_)
    · have hb2 := of_decide_eq_true hb
      have hin : i < ps.length := by omega
      have wi := wsucc hin (by omega)
      obtain ⟨r, hri, hrm, _, hrr⟩ := uss_at ps i hin
      have hil : (i : Int) < (ps.length : Int) := by omega
      have ht := sumL_take ps i r hri
      have hle := sumL_le ps (i + 1)
      have hft := flat_take ps i r hri
      have hcap : ((ps.take i).flatten.length + r.length) * 8 ≤ 140737488355328 := by omega
      have hcap2 : (ps.take i).flatten.length + r.length ≤ 140737488355328 := by omega
      have hall : (us r).all (fun r => r.length == 1) = true := by simp
      refine Run.skip ?_
      refine End.kp [6, 25, 26, 27] ?_
      refine Run.seq ?_
      refine Run.block ?_
      refine Run.seq ?_
      have fx := And.intro (@Int.toNat_natCast) (And.intro (@Int.natCast_nonneg) (And.intro hall (And.intro hcap2 (And.intro hcap (And.intro us_len (And.intro hil (And.intro hrr (And.intro wi (And.intro hfl (And.intro uss_len ft))))))))))
      refine Run.go ?_
      refine End.kp [6, 8, 25, 26, 27] ?_
      refine Run.go ?_
      refine End.blk ?_
      refine End.kp [6, 25, 26, 27] ?_
      refine Run.go ?_
      refine End.lp ?_
      refine ⟨ps.length - (i + 1), _, by omega, Ghost.form [(6, .ms 0 0 ((ps.take i).flatten.length + r.length)), (25, .im (.sl (uss ps))), (26, .i ps.length), (27, .i (i + 1 : Nat))] 1 ⟨rfl, rfl, rfl, rfl, trivial⟩ rfl rfl, i + 1, rfl, by omega, ?_⟩
      rw [hft]
      simp
    · have hb2 := of_decide_eq_false hb
      have hiN : i = ps.length := by omega
      subst hiN
      rw [List.take_length] at hfl ⊢
      refine Run.exit rfl ?_
      refine End.kp [6] ?_
      refine Run.seq ?_
      refine Run.ghost (Ghost.shut (t := 6) (j := 0) rfl rfl hfl) ?_
      simp only [eput, edel]
      have fx := And.intro hfl (And.intro uss_len ft)
      refine Run.go ?_
      refine End.kp [2] ?_
      refine Run.ret (hQ _ _ ⟨.inr rfl, _, rfl, _, rfl, ?_⟩)
      exact ⟨rfl, rfl⟩
end Go.Proofs.YtkmnmokjlpenhaaPi
