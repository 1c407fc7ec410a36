/- The walks of Canon, rewritten, RewriteSame. -/
import Derived.Test.YtkmnmokjlpenhaaWHC
import Derived.Test.YtkmnmokjlpenhaaWHB
set_option linter.unusedVariables false
set_option linter.unusedSimpArgs false
set_option maxRecDepth 100000
namespace Go.Proofs.YtkmnmokjlpenhaaPi
set_option maxHeartbeats 4000000
theorem ords24 : ∀ i, i < 24 → ords.getD i [] ∈ ords := by decide +kernel
theorem ords_row (i : Nat) (h : i < 24) : (ords.map ip)[i]? = some [.int .i64 ((ords.getD i []).getD 0 0 : Nat), .int .i64 ((ords.getD i []).getD 1 0 : Nat), .int .i64 ((ords.getD i []).getD 2 0 : Nat), .int .i64 ((ords.getD i []).getD 3 0 : Nat)] := by
  have hl : i < ords.length := h
  rw [List.getElem?_map, List.getElem?_eq_getElem hl, Option.map_some]
  have e : ords.getD i [] = ords[i] := by simp [List.getD_eq_getElem?_getD, List.getElem?_eq_getElem hl]
  have h4 := (ords_ok _ (ords24 i h)).four
  rw [e] at h4 ⊢
  conv => lhs; rw [h4]
  rfl
theorem Canon_ok (t : Int) (ht : U16 t) (up : Frs) : ACalls Try.prog 44 [.h t] up fun v u => v = .agg [.h (bestN t 768).T, .i ((bestN t 768).p.getD 0 0 : Nat), .i ((bestN t 768).p.getD 1 0 : Nat), .i ((bestN t 768).p.getD 2 0 : Nat), .i ((bestN t 768).p.getD 3 0 : Nat), .i (bestN t 768).f, .im (.bool (bestN t 768).o)] ∧ u = up := by
  have hol : (ords.map ip).length = 24 := rfl
  refine ACalls.code Try.func44 rfl 51 rfl (by simp) [.cell 2 90] rfl fun Q hQ => ?_
  simp only [ups, PV.up, argEnv]
  have ft := And.intro ty_2 (And.intro ty_3 (And.intro ty_4 (And.intro ty_71 (And.intro ty_87 (And.intro ty_88 (And.intro ty_90 (And.intro ty_148 trivial)))))))
  refine Run.seq ?_
  have fx := And.intro hol ft
  refine Run.go ?_
  refine End.kp [0, 2] ?_
  refine Run.seq ?_
  refine Run.go ?_
  refine End.kp [0, 2, 3] ?_
  refine Run.seq ?_
  refine Run.go ?_
  refine End.kp [0, 2, 3, 4] ?_
  refine Run.seq ?_
  refine Run.seq ?_
  refine Run.region rfl fun K hK => GOps.sim ?_
  refine GOps.call rfl rfl rfl rfl (by kernel_rfl) (ACalls.sim ?_)
  refine (orders_ok _).mono fun v u hv => ?_
  obtain ⟨rfl, rfl⟩ := hv
  refine ⟨_, _, rfl, GOps.sim ?_⟩
  refine GOps.done (hK _ ?_); clear hK K
  refine End.kp [0, 2, 3, 4, 14, 15, 16] ?_
  refine Run.block ?_
  refine Run.ghost (Ghost.form [(0, .h t), (2, .ptr 0 0 0), (3, .ptr 0 1 0), (4, .im (.bool false)), (14, .im (.sl (ords.map ip))), (15, .i (24 : Nat)), (16, .i (0 : Nat))] 2 ⟨rfl, rfl, rfl, rfl, rfl, rfl, rfl, trivial⟩ rfl rfl) ?_
  refine Run.loop (fun m' s => ∃ (i : Nat) (sm : Bool) (B : Cls), m' = 24 - i ∧ i ≤ 24 ∧ B = bestN t (32 * i) ∧ sm = decide (0 < 32 * i) ∧ s = ⟨[(0, .h t), (2, .ptr 0 0 0), (3, .ptr 0 1 0), (4, .im (.bool sm)), (14, .im (.sl (ords.map ip))), (15, .i (24 : Nat)), (16, .i (i : Nat))], [.box [.h 0, .i 0, .i 0, .i 0, .i 0, .i 0, .im (.bool false)], .box [.h B.T, .i (B.p.getD 0 0 : Nat), .i (B.p.getD 1 0 : Nat), .i (B.p.getD 2 0 : Nat), .i (B.p.getD 3 0 : Nat), .i B.f, .im (.bool B.o)]], up⟩) 24 ⟨0, false, _, rfl, by omega, rfl, rfl, rfl⟩ fun m' s hI => ?_
  obtain ⟨i, sm, B, rfl, hi, hB, hsm, rfl⟩ := hI
  refine Run.seq ?_
  have fx := And.intro hol ft
  refine Run.go ?_
  refine End.kp [0, 2, 3, 4, 14, 15, 16, 17] ?_
  refine Run.seq ?_
  refine Run.cond _ rfl (fun hb => ?_) (fun hb => ?_)
  · have hb2 := of_decide_eq_true hb
    have hin : i < 24 := by omega
    have wi := wsucc hin (by omega)
    have hrow := ords_row i hin
    have hpin := ords24 i hin
    obtain ⟨p, hpe⟩ : ∃ p, p = ords.getD i [] := ⟨_, rfl⟩
    rw [← hpe] at hrow hpin
    have hil : (i : Int) < ((24 : Nat) : Int) := by omega
    refine Run.skip ?_
    refine End.kp [0, 2, 3, 4, 14, 15, 16] ?_
    refine Run.seq ?_
    refine Run.block ?_
    refine Run.seq ?_
    have fx := And.intro (@Int.toNat_natCast) (And.intro (@Int.natCast_nonneg) (And.intro hil (And.intro hrow (And.intro wi (And.intro hol ft)))))
    refine Run.go ?_
    refine End.kp [0, 2, 3, 4, 6, 14, 15, 16] ?_
    refine Run.seq ?_
    refine Run.go ?_
    refine End.kp [0, 2, 3, 4, 6, 14, 15, 16, 20] ?_
    refine Run.block ?_
    refine Run.ghost (Ghost.form [(0, .h t), (2, .ptr 0 0 0), (3, .ptr 0 1 0), (4, .im (.bool sm)), (6, .ptr 0 2 0), (14, .im (.sl (ords.map ip))), (15, .i (24 : Nat)), (16, .i (i : Nat)), (20, .i (0 : Nat))] 3 ⟨rfl, rfl, rfl, rfl, rfl, rfl, rfl, rfl, rfl, trivial⟩ rfl rfl) ?_
    refine Run.loop (fun m' s => ∃ (f : Nat) (sm : Bool) (B : Cls), m' = 16 - f ∧ f ≤ 16 ∧ B = bestN t (32 * i + 2 * f) ∧ sm = decide (0 < 32 * i + 2 * f) ∧ s = ⟨[(0, .h t), (2, .ptr 0 0 0), (3, .ptr 0 1 0), (4, .im (.bool sm)), (6, .ptr 0 2 0), (14, .im (.sl (ords.map ip))), (15, .i (24 : Nat)), (16, .i (i : Nat)), (20, .i (f : Nat))], [.box [.h 0, .i 0, .i 0, .i 0, .i 0, .i 0, .im (.bool false)], .box [.h B.T, .i (B.p.getD 0 0 : Nat), .i (B.p.getD 1 0 : Nat), .i (B.p.getD 2 0 : Nat), .i (B.p.getD 3 0 : Nat), .i B.f, .im (.bool B.o)], .box [.i (p.getD 0 0 : Nat), .i (p.getD 1 0 : Nat), .i (p.getD 2 0 : Nat), .i (p.getD 3 0 : Nat)]], up⟩) 16 ⟨0, sm, B, rfl, by omega, hB, hsm, rfl⟩ fun m' s hI => ?_
    obtain ⟨f, sm, B, rfl, hf, hB, hsm, rfl⟩ := hI
    refine Run.seq ?_
    have fx := And.intro (@Int.toNat_natCast) (And.intro (@Int.natCast_nonneg) (And.intro hil (And.intro hrow (And.intro wi (And.intro hol ft)))))
    refine Run.go ?_
    refine End.kp [0, 2, 3, 4, 6, 14, 15, 16, 20, 21] ?_
    refine Run.seq ?_
    refine Run.cond _ rfl (fun hb => ?_) (fun hb => ?_)
    · have hb3 := of_decide_eq_true hb
      have hfn : f < 16 := by omega
      have wf := wsucc hfn (by omega)
      refine Run.skip ?_
      refine End.kp [0, 2, 3, 4, 6, 14, 15, 16, 20] ?_
      refine Run.seq ?_
      refine Run.block ?_
      refine Run.seq ?_
      have fx := And.intro wf (And.intro (@Int.toNat_natCast) (And.intro (@Int.natCast_nonneg) (And.intro hil (And.intro hrow (And.intro wi (And.intro hol ft))))))
      refine Run.go ?_
      refine End.kp [0, 2, 3, 4, 6, 7, 14, 15, 16, 20] ?_
      refine Run.seq ?_
      refine Run.go ?_
      refine End.kp [0, 2, 3, 4, 6, 7, 14, 15, 16, 20, 23, 24, 25] ?_
      refine Run.block ?_
      refine Run.ghost (Ghost.form [(0, .h t), (2, .ptr 0 0 0), (3, .ptr 0 1 0), (4, .im (.bool sm)), (6, .ptr 0 2 0), (7, .i (f : Nat)), (14, .im (.sl (ords.map ip))), (15, .i (24 : Nat)), (16, .i (i : Nat)), (20, .i (f : Nat)), (23, .ms 0 3 2), (24, .i (2 : Nat)), (25, .i (0 : Nat))] 4 ⟨rfl, rfl, rfl, rfl, rfl, rfl, rfl, rfl, rfl, rfl, rfl, rfl, rfl, trivial⟩ rfl rfl) ?_
      refine Run.loop (fun m' s => ∃ (o : Nat) (sm : Bool) (B : Cls), m' = 2 - o ∧ o ≤ 2 ∧ B = bestN t (32 * i + 2 * f + o) ∧ sm = decide (0 < 32 * i + 2 * f + o) ∧ s = ⟨[(0, .h t), (2, .ptr 0 0 0), (3, .ptr 0 1 0), (4, .im (.bool sm)), (6, .ptr 0 2 0), (7, .i (f : Nat)), (14, .im (.sl (ords.map ip))), (15, .i (24 : Nat)), (16, .i (i : Nat)), (20, .i (f : Nat)), (23, .ms 0 3 2), (24, .i (2 : Nat)), (25, .i (o : Nat))], [.box [.h 0, .i 0, .i 0, .i 0, .i 0, .i 0, .im (.bool false)], .box [.h B.T, .i (B.p.getD 0 0 : Nat), .i (B.p.getD 1 0 : Nat), .i (B.p.getD 2 0 : Nat), .i (B.p.getD 3 0 : Nat), .i B.f, .im (.bool B.o)], .box [.i (p.getD 0 0 : Nat), .i (p.getD 1 0 : Nat), .i (p.getD 2 0 : Nat), .i (p.getD 3 0 : Nat)], .row 4 1 [[.bool false], [.bool true]] 0], up⟩) 2 ⟨0, sm, B, rfl, by omega, hB, hsm, rfl⟩ fun m' s hI => ?_
      obtain ⟨o, sm, B, rfl, ho, hB, hsm, rfl⟩ := hI
      refine Run.seq ?_
      have fx := And.intro wf (And.intro (@Int.toNat_natCast) (And.intro (@Int.natCast_nonneg) (And.intro hil (And.intro hrow (And.intro wi (And.intro hol ft))))))
      refine Run.go ?_
      refine End.kp [0, 2, 3, 4, 6, 7, 14, 15, 16, 20, 23, 24, 25, 26] ?_
      refine Run.seq ?_
      refine Run.cond _ rfl (fun hb => ?_) (fun hb => ?_)
      · have hb4 := of_decide_eq_true hb
        have hon : o < 2 := by omega
        have wo := wsucc hon (by omega)
        obtain ⟨ob, hob⟩ : ∃ ob, ob = (o == 1) := ⟨_, rfl⟩
        have hor : ([[.bool false], [.bool true]] : List (List Im))[o]? = some [.bool ob] := by
          rcases (show o = 0 ∨ o = 1 by omega) with rfl | rfl <;> rw [hob] <;> rfl
        have hol2 : (o : Int) < ((2 : Nat) : Int) := by omega
        
        have hcand : candN t (32 * i + 2 * f + o) = ⟨clsW t p f ob, p, f, ob⟩ := by
          have e1 : (32 * i + 2 * f + o) / 32 = i := by omega
          have e2 : (32 * i + 2 * f + o) / 2 % 16 = f := by omega
          have e3 : ((32 * i + 2 * f + o) % 2 == 1) = ob := by
            rw [show (32 * i + 2 * f + o) % 2 = o by omega, hob]
          simp only [candN]
          rw [e1, e2, e3, ← hpe]
        have hnext : bestN t (32 * i + 2 * f + o + 1) = if 32 * i + 2 * f + o = 0 ∨ clsW t p f ob < B.T then ⟨clsW t p f ob, p, f, ob⟩ else B := by rw [bestN, hcand, ← hB]
        refine Run.skip ?_
        refine End.kp [0, 2, 3, 4, 6, 7, 14, 15, 16, 20, 23, 24, 25] ?_
        refine Run.seq ?_
        refine Run.block ?_
        refine Run.seq ?_
        have fx := And.intro hol2 (And.intro hor (And.intro wo (And.intro wf (And.intro (@Int.toNat_natCast) (And.intro (@Int.natCast_nonneg) (And.intro hil (And.intro hrow (And.intro wi (And.intro hol ft)))))))))
        refine Run.go ?_
        refine End.kp [0, 2, 3, 4, 6, 7, 9, 14, 15, 16, 20, 23, 24, 25] ?_
        refine Run.seq ?_
        refine Run.go ?_
        refine End.kp [0, 2, 3, 4, 6, 7, 10, 14, 15, 16, 20, 23, 24, 25] ?_
        refine Run.seq ?_
        refine Run.region rfl fun K hK => GOps.sim ?_
        refine GOps.call rfl rfl rfl rfl (by kernel_rfl) (ACalls.sim ?_)
        refine (Apply_ok t 0 p f ob ht hpin hfn _).mono fun v u hv => ?_
        obtain ⟨rfl, rfl⟩ := hv
        refine ⟨_, _, rfl, GOps.sim ?_⟩
        refine GOps.done (hK _ ?_); clear hK K
        refine End.kp [0, 2, 3, 4, 6, 7, 10, 14, 15, 16, 20, 23, 24, 25] ?_
        refine Run.seq ?_
        rcases Bool.eq_false_or_eq_true (sm) with hs14 | hs14
        · skip
          have fx := And.intro hs14 (And.intro hol2 (And.intro hor (And.intro wo (And.intro wf (And.intro (@Int.toNat_natCast) (And.intro (@Int.natCast_nonneg) (And.intro hil (And.intro hrow (And.intro wi (And.intro hol ft))))))))))
          refine Run.go ?_
          refine End.kp [0, 2, 3, 4, 6, 7, 10, 14, 15, 16, 20, 23, 24, 25, 45] ?_
          refine Run.cond _ rfl (fun hb => ?_) (fun hb => ?_)
          · have hb5 := of_decide_eq_true hb
            rw [if_pos (.inr hb5)] at hnext
            have fx := And.intro hs14 (And.intro hol2 (And.intro hor (And.intro wo (And.intro wf (And.intro (@Int.toNat_natCast) (And.intro (@Int.natCast_nonneg) (And.intro hil (And.intro hrow (And.intro wi (And.intro hol ft))))))))))
            refine Run.go ?_
            refine End.blk ?_
            refine End.kp [0, 2, 3, 4, 6, 7, 14, 15, 16, 20, 23, 24, 25] ?_
            refine Run.go ?_
            refine End.lp ?_
            refine ⟨2 - (o + 1), _, by omega, Ghost.form [(0, .h t), (2, .ptr 0 0 0), (3, .ptr 0 1 0), (4, .im (.bool true)), (6, .ptr 0 2 0), (7, .i (f : Nat)), (14, .im (.sl (ords.map ip))), (15, .i (24 : Nat)), (16, .i (i : Nat)), (20, .i (f : Nat)), (23, .ms 0 3 2), (24, .i (2 : Nat)), (25, .i (o + 1 : Nat))] 4 ⟨rfl, rfl, rfl, rfl, rfl, rfl, rfl, rfl, rfl, rfl, rfl, rfl, rfl, trivial⟩ rfl rfl, o + 1, true, ⟨clsW t p f ob, p, f, ob⟩, rfl, by omega, hnext.symm, (decide_eq_true (by omega)).symm, rfl⟩
          · have hb5 := of_decide_eq_false hb
            have hn0 : ¬ 32 * i + 2 * f + o = 0 := by
              intro e
              rw [hs14, e] at hsm
              simp at hsm
            rw [if_neg (by rintro (h | h); exact hn0 h; exact hb5 h)] at hnext
            refine Run.skip ?_
            refine End.blk ?_
            refine End.kp [0, 2, 3, 4, 6, 7, 14, 15, 16, 20, 23, 24, 25] ?_
            have fx := And.intro hs14 (And.intro hol2 (And.intro hor (And.intro wo (And.intro wf (And.intro (@Int.toNat_natCast) (And.intro (@Int.natCast_nonneg) (And.intro hil (And.intro hrow (And.intro wi (And.intro hol ft))))))))))
            refine Run.go ?_
            refine End.lp ?_
            refine ⟨2 - (o + 1), _, by omega, Ghost.form [(0, .h t), (2, .ptr 0 0 0), (3, .ptr 0 1 0), (4, .im (.bool true)), (6, .ptr 0 2 0), (7, .i (f : Nat)), (14, .im (.sl (ords.map ip))), (15, .i (24 : Nat)), (16, .i (i : Nat)), (20, .i (f : Nat)), (23, .ms 0 3 2), (24, .i (2 : Nat)), (25, .i (o + 1 : Nat))] 4 ⟨rfl, rfl, rfl, rfl, rfl, rfl, rfl, rfl, rfl, rfl, rfl, rfl, rfl, trivial⟩ rfl rfl, o + 1, true, B, rfl, by omega, hnext.symm, (decide_eq_true (by omega)).symm, rfl⟩
        · skip
          have fx := And.intro hs14 (And.intro hol2 (And.intro hor (And.intro wo (And.intro wf (And.intro (@Int.toNat_natCast) (And.intro (@Int.natCast_nonneg) (And.intro hil (And.intro hrow (And.intro wi (And.intro hol ft))))))))))
          refine Run.go ?_
          refine End.kp [0, 2, 3, 4, 6, 7, 10, 14, 15, 16, 20, 23, 24, 25, 45] ?_
          refine Run.cond _ rfl (fun hb => ?_) (fun hb => ?_)
          · have hn0 : 32 * i + 2 * f + o = 0 := by
              rw [hs14] at hsm
              have := of_decide_eq_false hsm.symm
              omega
            rw [if_pos (.inl hn0)] at hnext
            have fx := And.intro hs14 (And.intro hol2 (And.intro hor (And.intro wo (And.intro wf (And.intro (@Int.toNat_natCast) (And.intro (@Int.natCast_nonneg) (And.intro hil (And.intro hrow (And.intro wi (And.intro hol ft))))))))))
            refine Run.go ?_
            refine End.blk ?_
            refine End.kp [0, 2, 3, 4, 6, 7, 14, 15, 16, 20, 23, 24, 25] ?_
            refine Run.go ?_
            refine End.lp ?_
            refine ⟨2 - (o + 1), _, by omega, Ghost.form [(0, .h t), (2, .ptr 0 0 0), (3, .ptr 0 1 0), (4, .im (.bool true)), (6, .ptr 0 2 0), (7, .i (f : Nat)), (14, .im (.sl (ords.map ip))), (15, .i (24 : Nat)), (16, .i (i : Nat)), (20, .i (f : Nat)), (23, .ms 0 3 2), (24, .i (2 : Nat)), (25, .i (o + 1 : Nat))] 4 ⟨rfl, rfl, rfl, rfl, rfl, rfl, rfl, rfl, rfl, rfl, rfl, rfl, rfl, trivial⟩ rfl rfl, o + 1, true, ⟨clsW t p f ob, p, f, ob⟩, rfl, by omega, hnext.symm, (decide_eq_true (by omega)).symm, rfl⟩
          · have hb5 := hb
            simp at hb
      · have hb4 := of_decide_eq_false hb
        have hoN : o = 2 := by omega
        subst hoN
        refine Run.exit rfl ?_
        refine End.blk ?_
        refine End.kp [0, 2, 3, 4, 6, 14, 15, 16, 20] ?_
        have fx := And.intro wf (And.intro (@Int.toNat_natCast) (And.intro (@Int.natCast_nonneg) (And.intro hil (And.intro hrow (And.intro wi (And.intro hol ft))))))
        refine Run.go ?_
        refine End.lp ?_
        refine ⟨16 - (f + 1), _, by omega, Ghost.form [(0, .h t), (2, .ptr 0 0 0), (3, .ptr 0 1 0), (4, .im (.bool sm)), (6, .ptr 0 2 0), (14, .im (.sl (ords.map ip))), (15, .i (24 : Nat)), (16, .i (i : Nat)), (20, .i (f + 1 : Nat))] 3 ⟨rfl, rfl, rfl, rfl, rfl, rfl, rfl, rfl, rfl, trivial⟩ rfl rfl, f + 1, sm, B, rfl, by omega, hB, hsm, rfl⟩
    · have hb3 := of_decide_eq_false hb
      have hfN : f = 16 := by omega
      subst hfN
      refine Run.exit rfl ?_
      refine End.blk ?_
      refine End.kp [0, 2, 3, 4, 14, 15, 16] ?_
      have fx := And.intro (@Int.toNat_natCast) (And.intro (@Int.natCast_nonneg) (And.intro hil (And.intro hrow (And.intro wi (And.intro hol ft)))))
      refine Run.go ?_
      refine End.lp ?_
      refine ⟨24 - (i + 1), _, by omega, Ghost.form [(0, .h t), (2, .ptr 0 0 0), (3, .ptr 0 1 0), (4, .im (.bool sm)), (14, .im (.sl (ords.map ip))), (15, .i (24 : Nat)), (16, .i (i + 1 : Nat))] 2 ⟨rfl, rfl, rfl, rfl, rfl, rfl, rfl, trivial⟩ rfl rfl, i + 1, sm, B, rfl, by omega, hB, hsm, rfl⟩
  · have hb2 := of_decide_eq_false hb
    have hiN : i = 24 := by omega
    subst hiN
    have hBf : bestN t 768 = B := hB.symm
    refine Run.exit rfl ?_
    refine End.kp [2, 3] ?_
    refine Run.seq ?_
    have fx := And.intro hol ft
    refine Run.go ?_
    refine End.kp [2] ?_
    refine Run.resC hQ ?_
    exact ⟨by rw [hBf], rfl⟩
theorem app_rw : clsW 43690 [1, 0, 2, 3] 0 false = 52428 := by decide +kernel
theorem four_list {L : List Nat} (h : L.length = 4) : ∃ a b c d, L = [a, b, c, d] := by
  rcases L with _ | ⟨a, _ | ⟨b, _ | ⟨c, _ | ⟨d, _ | ⟨e, L⟩⟩⟩⟩⟩ <;> simp at h
  exact ⟨a, b, c, d, rfl⟩
theorem perm_f4 : ∀ k : Nat, k < 256 → (f4 k).Nodup → f4 k ∈ ords := by decide +kernel
theorem perm4 (a : Nat) (ha : a < 4) (b : Nat) (hb : b < 4) (c : Nat) (hc : c < 4) (d : Nat) (hd : d < 4) (h : [a, b, c, d].Nodup) : [a, b, c, d] ∈ ords := by
  have e : f4 (64 * a + 16 * b + 4 * c + d) = [a, b, c, d] := by
    simp only [f4]
    rw [show (64 * a + 16 * b + 4 * c + d) / 64 = a by omega, show (64 * a + 16 * b + 4 * c + d) / 16 % 4 = b by omega, show (64 * a + 16 * b + 4 * c + d) / 4 % 4 = c by omega, show (64 * a + 16 * b + 4 * c + d) % 4 = d by omega]
  have := perm_f4 (64 * a + 16 * b + 4 * c + d) (by omega)
  rw [e] at this
  exact this h
theorem rewritten_ok (up : Frs) : ACalls Try.prog 46 [] up fun v u => v = .im (.bool true) ∧ u = up := by
  have hC := Canon_ok 65535 ⟨by omega, by omega⟩
  have hT : ((bestN 65535 768).T == 0) = true := by rw [best_full]; rfl
  have hA := Apply_ok 43690 0 [1, 0, 2, 3] 0 false ⟨by omega, by omega⟩ (by decide) (by omega)
  rw [app_rw] at hA
  refine ACalls.code Try.func46 rfl 10 rfl (by simp) [.tmp 0] rfl fun Q hQ => ?_
  simp only [ups, PV.up, argEnv]
  have ft := And.intro ty_2 (And.intro ty_3 (And.intro ty_4 (And.intro ty_87 (And.intro ty_88 (And.intro ty_90 trivial)))))
  refine Run.seq ?_
  have fx := And.intro hT ft
  refine Run.go ?_
  refine End.kp [] ?_
  refine Run.seq ?_
  refine Run.region rfl fun K hK => GOps.sim ?_
  refine GOps.call rfl rfl rfl rfl (by kernel_rfl) (ACalls.sim ?_)
  refine (hC _).mono fun v u hv => ?_
  obtain ⟨rfl, rfl⟩ := hv
  refine ⟨_, _, rfl, GOps.sim ?_⟩
  refine GOps.field (.h (bestN 65535 768).T) (off := 0) (by kernel_rfl) ?_
  refine GOps.sim ?_
  refine GOps.call rfl rfl rfl rfl (by kernel_rfl) (ACalls.sim ?_)
  refine (hA _).mono fun v u hv => ?_
  obtain ⟨rfl, rfl⟩ := hv
  refine ⟨_, _, rfl, GOps.sim ?_⟩
  refine GOps.done (hK _ ?_); clear hK K
  refine End.kp [0] ?_
  refine Run.ret (hQ _ _ ⟨.inr rfl, _, rfl, _, rfl, ?_⟩)
  exact ⟨rfl, rfl⟩
theorem Same_walk (t : Int) (l : List Int) (ht : U16 t) (hs : StmOk l 0) (up : Frs) : ACalls Try.prog 7 [.h t, .im (.sl (ints l))] up fun v u => v = .im (.bool true) ∧ u = up := by
  have ok : ∀ b : Int, 0 ≤ b → b ≤ 100000 → StmOk l b := fun b h1 h2 => ⟨hs.vals, hs.len, h1, by omega⟩
  refine ACalls.code Try.func7 rfl 64 rfl (by simp) [.tmp 4] rfl fun Q hQ => ?_
  simp only [ups, PV.up, argEnv]
  have ft := And.intro ty_2 (And.intro ty_3 (And.intro ty_4 (And.intro ty_22 (And.intro ty_23 (And.intro ty_25 (And.intro ty_87 (And.intro ty_88 (And.intro ty_90 trivial))))))))
  refine Run.seq ?_
  have fx := ft
  refine Run.go ?_
  refine End.kp [0, 1] ?_
  refine Run.seq ?_
  refine Run.go ?_
  refine End.kp [0, 5] ?_
  refine Run.seq ?_
  refine Run.go ?_
  refine End.kp [0, 5, 6] ?_
  refine Run.seq ?_
  refine Run.seq ?_
  refine Run.go ?_
  refine End.kp [0, 5, 6, 15] ?_
  refine Run.block ?_
  refine Run.ghost (Ghost.form [(0, .h t), (5, .ptr 0 0 0), (6, .ms 0 1 0), (15, .i (0 : Nat))] 2 ⟨rfl, rfl, rfl, rfl, trivial⟩ rfl rfl) ?_
  refine Run.loop (fun m' s => ∃ (k : Nat) (L : List Nat), m' = 4 - k ∧ k ≤ 4 ∧ L.length = k ∧ L.Nodup ∧ (∀ x ∈ L, x < k) ∧ s = ⟨[(0, .h t), (5, .ptr 0 0 0), (6, .ms 0 1 k), (15, .i (k : Nat))], [stm l k, .row 3 1 (ints (nI L)) 0], up⟩) 4 ⟨0, [], rfl, by omega, rfl, List.nodup_nil, by simp, rfl⟩ fun m' s hI => ?_
  obtain ⟨k, L, rfl, hk, hLl, hnd, hlt, rfl⟩ := hI
  have hnl := nI_len L
  refine Run.seq ?_
  have fx := And.intro hLl (And.intro hnl ft)
  refine Run.go ?_
  refine End.kp [0, 5, 6, 15, 16] ?_
  refine Run.seq ?_
  refine Run.cond _ rfl (fun hb => ?_) (fun hb => ?_)
  · have hb2 := of_decide_eq_true hb
    have hkn : k < 4 := by omega
    have wk := wsucc hkn (by omega)
    obtain ⟨y1, y2⟩ := nextV_range l k ((k + 1 : Nat) : Int) (by omega)
    have hN := Next_ok l k ((k + 1 : Nat) : Int) (ok _ (by omega) (by omega)) ⟨by omega, by omega⟩
    obtain ⟨y, hy⟩ : ∃ y : Nat, nextV l k ((k + 1 : Nat) : Int) = y := ⟨(nextV l k ((k + 1 : Nat) : Int)).toNat, by omega⟩
    rw [hy] at hN y1 y2
    have hins := insL_nI L y k
    have hil := insN_len L y k (by omega)
    have hnl2 : (nI L).length = k := by simp [hLl]
    refine Run.skip ?_
    refine End.kp [0, 5, 6, 15] ?_
    refine Run.seq ?_
    refine Run.block ?_
    refine Run.seq ?_
    have fx := And.intro hins (And.intro wk (And.intro hLl (And.intro hnl ft)))
    refine Run.go ?_
    refine End.kp [0, 5, 6, 7, 15] ?_
    refine Run.region rfl fun K hK => GOps.sim ?_
    refine GOps.call rfl rfl rfl rfl (by kernel_rfl) (ACalls.sim ?_)
    refine (hN ([_, _] :: up) 0 0 rfl).mono fun v u hv => ?_
    obtain ⟨rfl, rfl⟩ := hv
    refine ⟨_, _, rfl, GOps.sim ?_⟩
    refine GOps.callM rfl rfl rfl rfl (by kernel_rfl) (ACalls.sim ?_)
    refine (insI_ok 1 2 k y k (nI L) 0 _ _ rfl rfl (by omega) hnl2 (by omega) (by omega)).mono fun v u hv => ?_
    obtain ⟨rfl, rfl⟩ := hv
    refine ⟨_, _, rfl, GOps.sim ?_⟩
    refine GOps.done (hK _ ?_); clear hK K
    refine End.blk ?_
    refine End.kp [0, 5, 6, 15] ?_
    refine Run.go ?_
    refine End.lp ?_
    refine ⟨4 - (k + 1), _, by omega, Ghost.form [(0, .h t), (5, .ptr 0 0 0), (6, .ms 0 1 (k + 1)), (15, .i (k + 1 : Nat))] 2 ⟨rfl, rfl, rfl, rfl, trivial⟩ rfl rfl, k + 1, insN L y k, rfl, by omega, by rw [hil, hLl], ?_, ?_, rfl⟩
    · exact (insN_perm L y k).nodup_iff.2 (List.nodup_cons.2 ⟨fun h => by have := hlt k h; omega, hnd⟩)
    · intro x hx
      rcases List.mem_cons.1 ((insN_perm L y k).mem_iff.1 hx) with rfl | h
      · omega
      · have := hlt x h; omega
  · have hb2 := of_decide_eq_false hb
    have hkN : k = 4 := by omega
    subst hkN
    obtain ⟨a, b, c, d, rfl⟩ := four_list hLl
    have hpin := perm4 a (hlt a (by simp)) b (hlt b (by simp)) c (hlt c (by simp)) d (hlt d (by simp)) hnd
    obtain ⟨f1, f2⟩ := nextV_range l ((4 : Nat) : Int) 16 (by omega)
    have hN1 := Next_ok l ((4 : Nat) : Int) 16 (ok _ (by omega) (by omega)) ⟨by omega, by omega⟩
    rw [show ((4 : Nat) : Int) + 1 = 5 from rfl] at hN1
    have hN2 := Next_ok l 5 2 (ok _ (by omega) (by omega)) ⟨by omega, by omega⟩
    rw [show (5 : Int) + 1 = 6 from rfl] at hN2
    obtain ⟨f, hf⟩ : ∃ f : Nat, nextV l ((4 : Nat) : Int) 16 = f := ⟨(nextV l ((4 : Nat) : Int) 16).toNat, by omega⟩
    rw [hf] at hN1 f1 f2
    have hf16 : f < 16 := by omega
    generalize hO : nextV l 5 2 = ov at hN2
    have hA := Apply_ok t 0 [a, b, c, d] f (ov == 0) ht hpin hf16
    have hC1 := Canon_ok t ht
    have hC2 := Canon_ok (clsW t [a, b, c, d] f (ov == 0)) (clsW_u16 _ _ _ _)
    have hsame := best_same t ht hpin hf16 (ov == 0)
    have hself := best_self t ht
    generalize clsW t [a, b, c, d] f (ov == 0) = t1 at hA hC2 hsame
    obtain ⟨k1, k2, k3, _⟩ := bestN_ok t 768 (by omega) (by omega)
    have hA2 := Apply_ok t (bestN t 768).T (bestN t 768).p (bestN t 768).f (bestN t 768).o ht k1 k2
    rw [← k3] at hA2
    generalize bestN t 768 = A at hC1 hsame hself hA2
    generalize bestN t1 768 = B at hC2 hsame
    have d1 : (A.T == B.T) = true := by rw [hsame]; simp
    have d2 : decide (A.T ≤ t) = true := decide_eq_true hself
    refine Run.exit rfl ?_
    refine End.kp [0, 5, 6] ?_
    refine Run.seq ?_
    refine Run.ghost (Ghost.shut (t := 6) (j := 1) rfl rfl hnl) ?_
    simp only [eput, edel]
    have fx := And.intro d2 (And.intro d1 (And.intro hLl (And.intro hnl ft)))
    refine Run.ghost (.spares 1) ?_
    simp only [ASt.pushN, ASt.push, List.append_assoc, List.cons_append, List.nil_append]
    refine Run.drawA fun K hK => ?_
    refine DOps.sim ?_
    refine DOps.arrAt 4 ?_ (by omega)
    refine DOps.sim ?_
    refine DOps.call (.i f) [((0, 0), stm l ((4 : Nat) : Int))] [((0, 0), stm l 5)] rfl rfl rfl rfl (by kernel_rfl) (by simp [Agree, ASt.fr]) (fun u hu => hN1 u 0 0 (hu ((0, 0), stm l ((4 : Nat) : Int)) (by simp))) ?_
    refine DOps.sim ?_
    refine DOps.call (.i ov) [((0, 0), stm l 5)] [((0, 0), stm l 6)] rfl rfl rfl rfl (by kernel_rfl) (by simp [Agree, ASt.fr]) (fun u hu => hN2 u 0 0 (hu ((0, 0), stm l 5) (by simp))) ?_
    refine DOps.sim ?_
    refine DOps.nil (by rfl) (hK _ ?_); clear hK K
    refine End.kp [0, 8] ?_
    refine Run.seq ?_
    refine Run.ghost (.spares 2) ?_
    simp only [ASt.pushN, ASt.push, List.append_assoc, List.cons_append, List.nil_append]
    have fx := And.intro d2 (And.intro d1 (And.intro hLl (And.intro hnl ft)))
    refine Run.drawA fun K hK => ?_
    refine DOps.sim ?_
    refine DOps.call (.agg [.h A.T, .i (A.p.getD 0 0 : Nat), .i (A.p.getD 1 0 : Nat), .i (A.p.getD 2 0 : Nat), .i (A.p.getD 3 0 : Nat), .i A.f, .im (.bool A.o)]) [] [] rfl rfl rfl rfl (by kernel_rfl) (by simp [Agree]) (fun u hu => hC1 u) ?_
    refine DOps.sim ?_
    refine DOps.call (.h t1) [] [] rfl rfl rfl rfl (by kernel_rfl) (by simp [Agree]) (fun u hu => hA u) ?_
    refine DOps.sim ?_
    refine DOps.call (.agg [.h B.T, .i (B.p.getD 0 0 : Nat), .i (B.p.getD 1 0 : Nat), .i (B.p.getD 2 0 : Nat), .i (B.p.getD 3 0 : Nat), .i B.f, .im (.bool B.o)]) [] [] rfl rfl rfl rfl (by kernel_rfl) (by simp [Agree]) (fun u hu => hC2 u) ?_
    refine DOps.sim ?_
    refine DOps.nil (by rfl) (hK _ ?_); clear hK K
    refine End.kp [0, 9, 10] ?_
    refine Run.seq ?_
    refine Run.drawA fun K hK => ?_
    refine DOps.sim ?_
    refine DOps.call (.im (.bool true)) [] [] rfl rfl rfl rfl (by kernel_rfl) (by simp [Agree]) (fun u hu => rewritten_ok u) ?_
    refine DOps.sim ?_
    refine DOps.call (.h A.T) [] [] rfl rfl rfl rfl (by kernel_rfl) (by simp [Agree]) (fun u hu => hA2 u) ?_
    refine DOps.sim ?_
    refine DOps.nil (by rfl) (hK _ ?_); clear hK K
    refine End.kp [4] ?_
    refine Run.ret (hQ _ _ ⟨.inr rfl, _, rfl, _, rfl, ?_⟩)
    exact ⟨rfl, rfl⟩
end Go.Proofs.YtkmnmokjlpenhaaPi
