/- Part 6 of the proof: the texts WBO, WBP, WBQ, WBR, WBS, one behind the other. Each holds for every input that it names; no condition is hidden. -/
import Derived.Test.YtkjfdacjjogpcaaM5
import Derived.Test.YtkjfdacjjogpcaaPiChoice
import Derived.Test.YtkjfdacjjogpcaaM1
import Derived.Laws.Runes
import Derived.Test.YtkjfdacjjogpcaaM3
set_option linter.unusedVariables false
set_option linter.unusedSimpArgs false
set_option linter.unusedSectionVars false
namespace Go.Proofs.YtkjfdacjjogpcaaPi
set_option maxRecDepth 100000
set_option maxHeartbeats 40000000
theorem name_one (b : UInt8) (h : (33 : Nat) ≤ b.toNat ∧ b.toNat ≤ 126) : NameOk ⟨#[b]⟩ := ⟨by simp [ByteArray.size], by simp [ByteArray.size], fun x hx => by
 have : x = b := by simpa using hx
 subst this
 exact h⟩

set_option maxRecDepth 100000
set_option maxHeartbeats 40000000
def ProveR (g : LGraph) (out k : Nat) (ver : Int) (b : Im) : Prop :=
 (ver = 2 ∧ ∃ tr, FindHit g out k tr) ∨ ((∀ j, 1 ≤ j → j ≤ k → ¬ Reach g out j) ∧ ((ver = 3 ∧ Stretch g out (k + 1)) ∨ (ver = 1 ∧ ¬ Stretch g out (k + 1) ∧ ∃ ps : List (List (List Int)), ps.length = k ∧ b = .sl (prfs ps))))
theorem Prove_ok (g : LGraph) (hg : GraphOk g) (out k limit : Nat) (ho : out < g.outs.length) (hk1 : 1 ≤ k) (hk : k < 64) (hkn : (k + 1) * varsN g ≤ 20000) (hlim : limit ≤ 65536) (hF : 2 ^ (g.inn.length * (k + 1) + g.regs.length) ≤ limit) (up : Frs) : ACalls Try.prog 38 [g.pv, .i (out : Nat), .i (k : Nat), .i (limit : Nat)] up fun v u => u = up ∧ ∃ (ver : Int) (b s st tr : Im), v = .tup [.agg [.i ver, .im b, .im s, .im st, .im tr], .i 0] ∧ ProveR g out k ver b := by
 obtain ⟨z1, z2, z3, z4, z5⟩ := hg.small
 have d1 : decide ((out : Int) < 0) = false := decide_eq_false (by omega)
 have d2 : decide ((g.outs.length : Int) ≤ (out : Int)) = false := decide_eq_false (by omega)
 have d3 : decide ((k : Int) < 1) = false := decide_eq_false (by omega)
 have d4 : decide ((64 : Int) ≤ (k : Int)) = false := decide_eq_false (by omega)
 have d5 : decide ((limit : Int) < 0) = false := decide_eq_false (by omega)
 have d6 : decide ((65536 : Int) < (limit : Int)) = false := decide_eq_false (by omega)
 have hnod : (1 + (g.inn.length : Int) + g.regs.length + g.ands.length) = ((varsN g : Nat) : Int) := by unfold varsN; omega
 obtain ⟨x0, x1⟩ := outL_ok hg ho
 have hkk : k * varsN g ≤ (k + 1) * varsN g := Nat.mul_le_mul_right _ (by omega)
 have hfd := Find_ok g hg out k limit ho hk1 (by omega) (by omega) hlim (Nat.le_trans (Nat.pow_le_pow_right (by decide) (by have : g.inn.length * k ≤ g.inn.length * (k + 1) := Nat.mul_le_mul_left _ (by omega); omega)) hF)
 have hwl := withC_len g (outL g out) true (k + 1)
 have hsz : (k + 1) * (1 + 3 * g.ands.length + 2 * g.regs.length) ≤ (k + 1) * (3 * varsN g) := Nat.mul_le_mul_left _ (by unfold varsN; omega)
 have hsz2 : (k + 1) * (3 * varsN g) = 3 * ((k + 1) * varsN g) := by rw [Nat.mul_left_comm]
 have hcin : ClsIn ((k + 1) * varsN g) (withC g (outL g out) true (k + 1)) := ⟨by omega, fun c hc => withC_in hg x0 x1 (by omega) hc⟩
 have hslv := solveF_ok (withC g (outL g out) true (k + 1)) ((k + 1) * varsN g) limit (by omega) hcin hlim (freeV g true (k + 1)) (by rw [freeV_len, if_pos rfl]; exact hF) (with_det hg)
 have hst := with_stretch hg ho (k := k + 1) (by omega)
 have hwi := fun f rest => WithinX_ok g hg out (k + 1) ho (by omega) (by omega) hkn true f rest
 have hvn : 1 + g.inn.length + g.regs.length ≤ varsN g := by unfold varsN; omega
 have hinp := fun m hml u => Inputs_ok g hg.small (k + 1) (by omega) hkn m hml u
 have hv1 : varsN g ≤ (k + 1) * varsN g := Nat.le_mul_of_pos_left _ (by omega)
 obtain ⟨N, hN⟩ : ∃ N, N = varsN g := ⟨_, rfl⟩
 rw [← hN] at hnod hkn hslv hwi hvn hinp hv1
 have hNs : N ≤ 20000 := by omega
 have wk1 : IntKind.i64.wrap ((k : Int) + 1) = ((k + 1 : Nat) : Int) := by rw [wrap64 (by omega)]; omega
 have wkn : IntKind.i64.wrap (((k + 1 : Nat) : Int) * (N : Int)) = (((k + 1) * N : Nat) : Int) := by rw [← Int.natCast_mul, wrap64 (by omega)]
 have d7 : decide ((20000 : Int) < (((k + 1) * N : Nat) : Int)) = false := decide_eq_false (by omega)
 have wn1 : IntKind.i64.wrap (1 + (g.inn.length : Int)) = ((1 + g.inn.length : Nat) : Int) := by rw [wrap64 (by omega)]; omega
 have wn2 : IntKind.i64.wrap (((1 + g.inn.length : Nat) : Int) + (g.regs.length : Int)) = ((1 + g.inn.length + g.regs.length : Nat) : Int) := by rw [wrap64 (by omega)]; omega
 refine ACalls.code Try.func38 rfl 137 rfl (by simp) [.cell 8 64, .tmp 9] rfl fun Q hQ => ?_
 simp only [ups, PV.up, argEnv]
 have ft := ai ty_2 (ai ty_3 (ai ty_4 (ai ty_9 (ai ty_22 (ai ty_26 (ai ty_27 (ai ty_29 (ai ty_31 (ai ty_33 (ai ty_35 (ai ty_36 (ai ty_44 (ai ty_46 (ai ty_55 (ai ty_57 (ai ty_60 (ai ty_61 (ai ty_62 (ai ty_64 (ai ty_77 (ai ty_135 trivial)))))))))))))))))))))
 refine Run.seq ?_
 have fx := ai zTn (ai zNn (ai (@gt_iff_lt Int _) (ai (@ge_iff_le Int _) (ai rim_len (ai strs_len (ai ints_len (ai wn2 (ai wn1 (ai wkn (ai wk1 (ai d7 (ai d6 (ai d5 (ai d4 (ai d3 (ai d2 (ai d1 ft)))))))))))))))))
 refine Run.go ?_
 refine End.kp [1, 2, 3, 4, 8] ?_
 refine Run.seq ?_
 refine Run.seq ?_
 refine Run.region rfl fun K hK => GOps.sim ?_
 refine GOps.call rfl rfl rfl rfl (by kernel_rfl) (ACalls.sim ?_)
 refine (Check_ok g hg _).mono fun v u hv => ?_
 obtain ⟨rfl, rfl⟩ := hv
 refine ⟨_, _, rfl, GOps.sim ?_⟩
 refine GOps.done (hK _ ?_); clear hK K
 refine End.kp [1, 2, 3, 4, 8, 10] ?_
 refine Run.seq ?_
 refine Run.go ?_
 refine End.kp [1, 2, 3, 4, 8, 10, 21] ?_
 refine Run.cond _ rfl (fun hb => ?_) (fun hb => ?_)
 ·have hb2 := hb
  simp at hb
 ·have hb2 := hb
  refine Run.skip ?_
  refine End.kp [1, 2, 3, 4, 8] ?_
  refine Run.seq ?_
  refine Run.seq ?_
  have fx := ai zTn (ai zNn (ai (@gt_iff_lt Int _) (ai (@ge_iff_le Int _) (ai rim_len (ai strs_len (ai ints_len (ai wn2 (ai wn1 (ai wkn (ai wk1 (ai d7 (ai d6 (ai d5 (ai d4 (ai d3 (ai d2 (ai d1 ft)))))))))))))))))
  refine Run.go ?_
  refine End.kp [1, 2, 3, 4, 8, 32] ?_
  refine Run.cond _ rfl (fun hb => ?_) (fun hb => ?_)
  ·have hb3 := hb
   simp at hb
  ·have hb3 := hb
   refine Run.skip ?_
   refine End.kp [1, 2, 3, 4, 8] ?_
   refine Run.seq ?_
   refine Run.seq ?_
   refine Run.go ?_
   refine End.kp [1, 2, 3, 4, 8, 47] ?_
   refine Run.cond _ rfl (fun hb => ?_) (fun hb => ?_)
   ·have hb4 := hb
    simp at hb
   ·have hb4 := hb
    refine Run.skip ?_
    refine End.kp [1, 2, 3, 4, 8] ?_
    refine Run.seq ?_
    refine Run.seq ?_
    refine Run.region rfl fun K hK => GOps.sim ?_
    refine GOps.call rfl rfl rfl rfl (by kernel_rfl) (ACalls.sim ?_)
    refine (GNodes_ok g hg.small _).mono fun v u hv => ?_
    obtain ⟨rfl, rfl⟩ := hv
    rw [hnod]
    refine ⟨_, _, rfl, GOps.sim ?_⟩
    refine GOps.done (hK _ ?_); clear hK K
    refine End.kp [1, 2, 3, 4, 8, 54] ?_
    refine Run.cond _ rfl (fun hb => ?_) (fun hb => ?_)
    ·have hb5 := hb
     simp at hb
    ·have hb5 := hb
     refine Run.skip ?_
     refine End.kp [1, 2, 3, 4, 8] ?_
     refine Run.seq ?_
     have fx := ai zTn (ai zNn (ai (@gt_iff_lt Int _) (ai (@ge_iff_le Int _) (ai rim_len (ai strs_len (ai ints_len (ai wn2 (ai wn1 (ai wkn (ai wk1 (ai d7 (ai d6 (ai d5 (ai d4 (ai d3 (ai d2 (ai d1 ft)))))))))))))))))
     refine Run.region rfl fun K hK => GOps.sim ?_
     refine GOps.call rfl rfl rfl rfl (by kernel_rfl) (ACalls.sim ?_)
     refine (hfd _).mono fun v u hv => ?_
     obtain ⟨rfl, ver, tr, ps, rfl, hv⟩ := hv
     refine ⟨_, _, rfl, GOps.sim ?_⟩
     refine GOps.done (hK _ ?_); clear hK K
     refine End.kp [1, 2, 3, 4, 8, 11, 12] ?_
     refine Run.seq ?_
     refine Run.block ?_
     refine Run.seq ?_
     refine Run.go ?_
     refine End.kp [1, 2, 3, 4, 8, 11, 12, 64] ?_
     refine Run.cond _ rfl (fun hb => ?_) (fun hb => ?_)
     ·have hb6 := hb
      simp at hb
     ·have hb6 := hb
      refine Run.seq ?_
      have fx := ai zTn (ai zNn (ai (@gt_iff_lt Int _) (ai (@ge_iff_le Int _) (ai rim_len (ai strs_len (ai ints_len (ai wn2 (ai wn1 (ai wkn (ai wk1 (ai d7 (ai d6 (ai d5 (ai d4 (ai d3 (ai d2 (ai d1 ft)))))))))))))))))
      refine Run.go ?_
      refine End.kp [1, 2, 3, 4, 8, 11, 69] ?_
      refine Run.cond _ rfl (fun hb => ?_) (fun hb => ?_)
      ·have hv2 : ver = 2 := eq_of_beq hb
       have hh : FindHit g out k tr := by
        rcases hv with ⟨_, _, h⟩ | ⟨h, _⟩
        ·exact h
        ·rw [h] at hv2; simp at hv2
       refine Run.seq ?_
       refine Run.go ?_
       refine End.kp [8, 9] ?_
       refine Run.resC hQ ?_
       exact ⟨rfl, 2, _, _, _, _, rfl, .inl ⟨rfl, tr, hh⟩⟩
      ·have hv3 : ver = 3 ∧ ps.length = k ∧ ∀ j, 1 ≤ j → j ≤ k → ¬ Reach g out j := by
        rcases hv with ⟨h, _⟩ | ⟨h1, _, h2, h3⟩
        ·rw [h] at hb; simp at hb
        ·exact ⟨h1, h2, h3⟩
       obtain ⟨hv3, hpl, hno⟩ := hv3
       subst hv3
       refine Run.seq ?_
       refine Run.go ?_
       refine End.kp [1, 2, 3, 4, 8, 11, 76] ?_
       refine Run.cond _ rfl (fun hb => ?_) (fun hb => ?_)
       ·have hb7 := hb
        simp at hb
       ·have hb7 := hb
        refine Run.skip ?_
        refine End.blk ?_
        refine End.kp [1, 2, 3, 4, 8, 11] ?_
        refine Run.seq ?_
        refine Run.region rfl fun K hK => GOps.sim ?_
        refine GOps.call rfl rfl rfl rfl (by kernel_rfl) (ACalls.sim ?_)
        refine (hwi _ _).mono fun v u hv => ?_
        obtain ⟨rfl, rfl⟩ := hv
        refine ⟨_, _, rfl, GOps.sim ?_⟩
        refine GOps.done (hK _ ?_); clear hK K
        refine End.kp [2, 3, 4, 8, 11, 13, 14] ?_
        refine Run.seq ?_
        refine Run.ghost (Ghost.shut (t := 13) (j := 5) rfl rfl (by simp)) ?_
        simp only [eput, edel]
        have fx := ai zTn (ai zNn (ai (@gt_iff_lt Int _) (ai (@ge_iff_le Int _) (ai rim_len (ai strs_len (ai ints_len (ai wn2 (ai wn1 (ai wkn (ai wk1 (ai d7 (ai d6 (ai d5 (ai d4 (ai d3 (ai d2 (ai d1 ft)))))))))))))))))
        refine Run.region rfl fun K hK => GOps.sim ?_
        refine GOps.call rfl rfl rfl rfl (by kernel_rfl) (ACalls.sim ?_)
        refine (hslv _).mono fun v u hv => ?_
        obtain ⟨rfl, fd, m, pr, q, rfl, hf1, hf2⟩ := hv
        refine ⟨_, _, rfl, GOps.sim ?_⟩
        refine GOps.done (hK _ ?_); clear hK K
        refine End.kp [2, 4, 8, 11, 12, 16] ?_
        refine Run.seq ?_
        refine Run.block ?_
        refine Run.seq ?_
        refine Run.go ?_
        refine End.kp [2, 4, 8, 11, 12, 16, 97] ?_
        refine Run.cond _ rfl (fun hb => ?_) (fun hb => ?_)
        ·have hb8 := hb
         simp at hb
        ·have hb8 := hb
         refine Run.seq ?_
         have fx := ai zTn (ai zNn (ai (@gt_iff_lt Int _) (ai (@ge_iff_le Int _) (ai rim_len (ai strs_len (ai ints_len (ai wn2 (ai wn1 (ai wkn (ai wk1 (ai d7 (ai d6 (ai d5 (ai d4 (ai d3 (ai d2 (ai d1 ft)))))))))))))))))
         refine Run.go ?_
         refine End.kp [2, 4, 8, 11, 16, 102] ?_
         refine Run.cond _ rfl (fun hb => ?_) (fun hb => ?_)
         ·have hft : fd = true := hb
          obtain ⟨hml, hmc⟩ := hf1 hft
          have hM := hst.1 ⟨_, hmc⟩
          have hsl1 : ((1 + g.inn.length : Nat) : Int) ≤ ((1 + g.inn.length + g.regs.length : Nat) : Int) := by omega
          have hsl2 : ((1 + g.inn.length + g.regs.length : Nat) : Int) ≤ (m.length : Int) := by omega
          have hsl4 : 1 + g.inn.length ≤ 1 + g.inn.length + g.regs.length := by omega
          have hso : szOk 1 (1 + g.inn.length) (bools m) := .inr (by simp)
          have hsl3 : 1 + g.inn.length + g.regs.length ≤ m.length := by omega
          refine Run.seq ?_
          have fx := ai hso (ai hsl4 (ai hsl3 (ai hsl2 (ai hsl1 (ai bools_len fx)))))
          refine Run.go ?_
          refine End.kp [2, 4, 8, 11, 16, 17] ?_
          refine Run.seq ?_
          refine Run.drawA fun K hK => ?_
          refine DOps.sim ?_
          refine DOps.call (.im (.sl (boolss (insK g (k + 1) (fun v => m.getD (v - 1) false))))) [] [] rfl rfl rfl rfl (by kernel_rfl) (by simp [Agree]) (fun u hu => hinp m hml u) ?_
          refine DOps.sim ?_
          refine DOps.nil ?_ (hK _ ?_)
          ·rfl
          clear hK K
          refine End.kp [8, 9] ?_
          refine Run.resC hQ ?_
          exact ⟨rfl, 3, _, _, _, _, rfl, .inr ⟨hno, .inl ⟨rfl, hM⟩⟩⟩
         ·have hff : fd = false := hb
          have hM : ¬ Stretch g out (k + 1) := fun h => by
           obtain ⟨M, hM⟩ := hst.2 h
           exact hf2 hff M hM
          refine Run.seq ?_
          refine Run.go ?_
          refine End.kp [8, 11, 16, 127] ?_
          refine Run.cond _ rfl (fun hb => ?_) (fun hb => ?_)
          ·have hb9 := hb
           simp at hb
          ·have hb9 := hb
           refine Run.skip ?_
           refine End.blk ?_
           refine End.kp [8, 11, 16] ?_
           refine Run.seq ?_
           refine Run.go ?_
           refine End.kp [8, 9] ?_
           refine Run.resC hQ ?_
           exact ⟨rfl, 1, _, _, _, _, rfl, .inr ⟨hno, .inr ⟨rfl, hM, ps, hpl, rfl⟩⟩⟩

set_option maxRecDepth 100000
set_option maxHeartbeats 40000000
def indG : LGraph := ⟨[], [⟨#[111]⟩], [⟨⟨#[114]⟩, 2, false⟩], [], [2]⟩
theorem indG_ok : GraphOk indG := by
 refine ⟨⟨by decide, by decide, by decide, by decide, by decide⟩, fun s hs => ?_, by simp [indG], fun s hs => ?_, by simp [indG], rfl, fun i p hp => by simp [indG] at hp, fun r hr => ?_, fun x hx => ?_⟩
 ·have : s = ⟨#[114]⟩ := by simpa [indG] using hs
  subst this
  exact name_one 114 (by decide)
 ·have : s = ⟨#[111]⟩ := by simpa [indG] using hs
  subst this
  exact name_one 111 (by decide)
 ·have : r = ⟨⟨#[114]⟩, 2, false⟩ := by simpa [indG] using hr
  subst this
  decide
 ·have : x = 2 := by simpa [indG] using hx
  subst this
  decide
theorem rows_nil {g : LGraph} (h : g.inn.length = 0) : ∀ {tr : List (List Bool)}, Rows g tr → tr = List.replicate tr.length []
 | [], _ => rfl
 | r :: t, hr => by
  have e : r = [] := List.eq_nil_of_length_eq_zero (by have := hr r (by simp); omega)
  have := rows_nil h (tr := t) fun x hx => hr x (by simp [hx])
  rw [List.length_cons, List.replicate_succ, ← this, e]
theorem indG_one : ¬ Reach indG 0 1 := by
 rintro ⟨tr, h1, h2, h3⟩
 rw [rows_nil rfl h2, h1] at h3
 exact absurd h3 (by unfold hitB; decide)
theorem indG_two : ¬ Stretch indG 0 2 := by
 rintro ⟨s, tr, h0, h1, h2, h3, h4⟩
 have h5 := h4 0 (by omega)
 rw [rows_nil rfl h2, h1] at h3 h5
 match s, h0 with
 | [b], _ =>
  unfold hitB at h3
  revert h3 h5
  cases b <;> decide
theorem induced_ok (up : Frs) : ACalls Try.prog 23 [] up fun v u => v = .im (.bool true) ∧ u = up := by
 have hpv := Prove_ok indG indG_ok 0 1 9 (by decide) (by decide) (by decide) (by decide) (by decide) (by decide)
 refine ACalls.code Try.func23 rfl 27 rfl (by simp) [.tmp 0] rfl fun Q hQ => ?_
 simp only [ups, PV.up, argEnv]
 have ft := ai ty_2 (ai ty_3 (ai ty_4 (ai ty_9 (ai ty_26 (ai ty_27 (ai ty_29 (ai ty_31 (ai ty_36 (ai ty_44 (ai ty_55 (ai ty_57 (ai ty_60 (ai ty_61 (ai ty_64 (ai ty_135 trivial)))))))))))))))
 refine Run.seq ?_
 have fx := ft
 refine Run.go ?_
 refine End.kp [] ?_
 refine Run.seq ?_
 refine Run.region rfl fun K hK => GOps.litF (rows := strs [⟨#[111]⟩]) ?_ rfl rfl (by simp only [litF, fx] <;> rfl)
 refine GOps.simK 1 ?_
 refine GOps.litF (rows := [LReg.im ⟨⟨#[114]⟩, 2, false⟩]) ?_ rfl rfl (by simp only [litF, fx] <;> rfl)
 refine GOps.litF (rows := ints [2]) ?_ rfl rfl (by simp only [litF, fx] <;> rfl)
 refine GOps.sim ?_
 refine GOps.done (hK _ ?_); clear hK K
 refine End.kp [1] ?_
 refine Run.seq ?_
 refine Run.ghost (Ghost.thawBox (j := 0) (i := 0) 9 1 (by decide) rfl rfl) ?_
 refine Run.ghost (Ghost.boxShut (j := 0) (i := 0) (r := 1) (m := 0) rfl rfl rfl rfl) ?_
 refine Run.ghost (Ghost.thawBox (j := 0) (i := 3) 59 2 (by decide) rfl rfl) ?_
 refine Run.ghost (Ghost.boxShut (j := 0) (i := 3) (r := 2) (m := 0) rfl rfl rfl rfl) ?_
 change Run _ _ _ _ _ (⟨_, [.box indG.cells, .row 9 1 [] 0, .row 59 2 [] 0], up⟩ : ASt)
 have fx := ft
 refine Run.region rfl fun K hK => GOps.sim ?_
 refine GOps.call rfl rfl rfl rfl (by kernel_rfl) (ACalls.sim ?_)
 refine (hpv _).mono fun v u hv => ?_
 obtain ⟨rfl, ver, b, s, st, tr, rfl, hv⟩ := hv
 have hv2 : ver = 1 ∧ ∃ ps : List (List (List Int)), ps.length = 1 ∧ b = .sl (prfs ps) := by
  rcases hv with ⟨_, tr, h⟩ | ⟨_, ⟨_, h⟩ | ⟨h1, _, h2⟩⟩
  ·have h3 := h.pos
   have h4 := h.le
   exact absurd ⟨tr, by omega, h.rows, h.hit⟩ indG_one
  ·exact absurd h indG_two
  ·exact ⟨h1, h2⟩
 obtain ⟨hv2, ps, hps, hbe⟩ := hv2
 subst hv2 hbe
 have hpl : (prfs ps).length = 1 := by simp [hps]
 refine ⟨_, _, rfl, GOps.sim ?_⟩
 refine GOps.done (hK _ ?_); clear hK K
 refine End.kp [2, 3] ?_
 refine Run.seq ?_
 have fx := ai hpl ft
 refine Run.go ?_
 refine End.kp [0] ?_
 refine Run.ret (hQ _ _ ⟨.inr rfl, _, rfl, _, rfl, ?_⟩)
 exact ⟨rfl, rfl⟩

set_option maxRecDepth 100000
set_option maxHeartbeats 40000000
theorem DOps.rune {P : Program} {n : Nat} {st : ASt} {deps : List (List Nat)} {K : ASt → Prop} {gs : List GO} {acc : List Met} {dst : Option Nat} {gd : Option (Nat × Bool)} {src t : TypeId} {x : Operand} {k : IntKind} (r : Int) (h0 : 0 ≤ r) (h1 : r < 128)
  (hk : DOps P n deps gs (acc ++ [⟨(refsOf st.fr (valsO st (opndsM (.convert src t x))) ++ ([] : List (Ref × AObj))).map (·.1), [], [], []⟩]) (st.put dst (.im (.str ⟨#[UInt8.ofNat r.toNat]⟩))) K)
  (hg : guardA st.env gd = some true) (hd : okDst n dst = true) (hx : evalPV st x = some (.im (.int k r))) (hs : (P.underlying src).isSome = true) (ht : stringT P t = true) : DOps P n deps (⟨dst, .convert src t x, gd⟩ :: gs) acc st K := by
 refine DOps.opX (g := ⟨dst, .convert src t x, gd⟩) (.im (.str ⟨#[UInt8.ofNat r.toNat]⟩)) [] [] hg hd (fun p hp => by simp at hp) (fun s hse ha => ?_) hk
 have e := hse.ev (x := x) (by simp [opndsO]) hx
 intro F bs a w hr o ho
 have hv := evalPV_rel hr e
 simp only [VRel, IRel] at hv
 have hrun := run_convert_int_string (P := P) w src t k r hs (stringT_some ht)
 have henc : Utf8.encode r = ⟨#[UInt8.ofNat r.toNat]⟩ := by
  unfold Utf8.encode
  have hval : Utf8.valid r = true := by unfold Utf8.valid; simp; omega
  simp only [hval, if_true]
  rw [if_pos (by omega)]
 rw [henc] at hrun
 exact ⟨.value (.string ⟨#[UInt8.ofNat r.toNat]⟩), .string ⟨#[UInt8.ofNat r.toNat]⟩, w, F, bs, by simp [execOp, ho, hv, hrun], .inl rfl, hr.mem, CStep.refl _ _ _ _, by simp [VRel, IRel], rfl⟩
theorem Least_ok (g : LGraph) (hg : GraphOk g) (out most limit : Nat) (ho : out < g.outs.length) (hk1 : 1 ≤ most) (hk : most < 64) (hkn : (most + 1) * varsN g ≤ 20000) (hlim : limit ≤ 65536) (hF : 2 ^ (g.inn.length * (most + 1) + g.regs.length) ≤ limit) (up : Frs) : ACalls Try.prog 22 [g.pv, .i (out : Nat), .i (most : Nat), .i (limit : Nat)] up fun v u => u = up ∧ ∃ (k : Nat) (ver : Int) (b s st tr : Im), v = .tup [.i (k : Nat), .agg [.i ver, .im b, .im s, .im st, .im tr], .i 0] ∧ 1 ≤ k ∧ k ≤ most ∧ ProveR g out k ver b ∧ (ver ≠ 3 ∨ k = most) := by
 refine ACalls.code Try.func22 rfl 42 rfl (by simp) [.tmp 8, .cell 9 64, .tmp 10] rfl fun Q hQ => ?_
 simp only [ups, PV.up, argEnv]
 have ft := ai ty_3 (ai ty_4 (ai ty_31 (ai ty_36 (ai ty_60 (ai ty_64 trivial)))))
 refine Run.seq ?_
 have fx := ft
 refine Run.go ?_
 refine End.kp [1, 2, 3, 4, 9] ?_
 refine Run.seq ?_
 refine Run.go ?_
 refine End.kp [1, 2, 3, 4, 9, 11] ?_
 refine Run.block ?_
 refine Run.ghost (Ghost.fm [(1, .i (out : Nat)), (2, .i (most : Nat)), (3, .i (limit : Nat)), (4, .ptr 0 0 0), (9, .ptr 0 1 0), (11, .i (0 + 1 : Nat))] 2) ?_
 refine Run.loop (fun s st => ∃ i : Nat, s = most - i ∧ i < most ∧ st = ⟨[(1, .i (out : Nat)), (2, .i (most : Nat)), (3, .i (limit : Nat)), (4, .ptr 0 0 0), (9, .ptr 0 1 0), (11, .i (i + 1 : Nat))], [.box [.im (.sl (strs g.inn)), .im (.sl (strs g.out)), .im (.sl (g.regs.map LReg.im)), .im (.sl (g.ands.map nd)), .im (.sl (ints g.outs))], .box [.i 0, .nils, .nils, .nils, .nils]], up⟩) most ⟨0, rfl, by omega, rfl⟩ fun s st hI => ?_
 obtain ⟨i, hm, hi, rfl⟩ := hI
 subst s
 have mn1 : ¬ ((most : Int) < ((i + 1 : Nat) : Int)) := by omega
 have mn2 : (if (most : Int) < ((i + 1 : Nat) : Int) then (most : Int) else ((i + 1 : Nat) : Int)) = ((i + 1 : Nat) : Int) := if_neg mn1
 have wi : IntKind.i64.wrap (((i + 1 : Nat) : Int) + 1) = ((i + 1 + 1 : Nat) : Int) := by rw [wrap64 (by omega)]; omega
 have hkv : (i + 1 + 1) * varsN g ≤ (most + 1) * varsN g := Nat.mul_le_mul_right _ (by omega)
 have hpw : 2 ^ (g.inn.length * (i + 1 + 1) + g.regs.length) ≤ limit := Nat.le_trans (Nat.pow_le_pow_right (by decide) (Nat.add_le_add_right (Nat.mul_le_mul_left _ (by omega)) _)) hF
 refine Run.seq ?_
 refine Run.block ?_
 refine Run.seq ?_
 have fx := ai (@ge_iff_le Int _) (ai wi (ai mn2 (ai mn1 ft)))
 refine Run.region rfl fun K hK => GOps.sim ?_
 refine GOps.call rfl rfl rfl rfl (by kernel_rfl) (ACalls.sim ?_)
 refine (Prove_ok g hg out (i + 1) limit ho (by omega) (by omega) (by omega) hlim hpw _).mono fun v u hv => ?_
 obtain ⟨rfl, ver, b, s, st, tr, rfl, hv⟩ := hv
 refine ⟨_, _, rfl, GOps.sim ?_⟩
 refine GOps.done (hK _ ?_); clear hK K
 refine End.kp [1, 2, 3, 4, 9, 11, 12, 13] ?_
 refine Run.seq ?_
 refine Run.seq ?_
 refine Run.go ?_
 refine End.kp [1, 2, 3, 4, 9, 11, 12, 13, 27] ?_
 refine Run.cond _ rfl (fun hb => ?_) (fun hb => ?_)
 ·have hb2 := hb
  simp at hb
 ·have hb2 := hb
  refine Run.skip ?_
  refine End.kp [1, 2, 3, 4, 9, 11, 12] ?_
  refine Run.seq ?_
  rcases Bool.eq_false_or_eq_true (ver != 3) with hs6 | hs6
  ·skip
   have q6 := True.intro
   have fx := ai hs6 (ai (@ge_iff_le Int _) (ai wi (ai mn2 (ai mn1 ft))))
   refine Run.go ?_
   refine End.kp [1, 2, 3, 4, 9, 11, 12, 37] ?_
   refine Run.cond _ rfl (fun hb => ?_) (fun hb => ?_)
   ·have hb3 := hb
    refine Run.seq ?_
    refine Run.drawA fun K hK => ?_
    refine DOps.sim ?_
    refine DOps.nil ?_ (hK _ ?_)
    ·rfl
    clear hK K
    refine End.kp [8, 9, 10] ?_
    refine Run.resC hQ ?_
    exact ⟨rfl, i + 1, ver, b, s, st, tr, rfl, by omega, by omega, hv, .inl (by simpa using hs6)⟩
   ·have hb3 := hb
    simp at hb
  ·skip
   have hv3 : ver = 3 := by simpa using hs6
   subst hv3
   clear hs6
   have hs6 := True.intro
   have q6 := True.intro
   have fx := ai hs6 (ai (@ge_iff_le Int _) (ai wi (ai mn2 (ai mn1 ft))))
   refine Run.go ?_
   refine End.kp [1, 2, 3, 4, 9, 11, 12, 37] ?_
   refine Run.cond _ rfl (fun hb => ?_) (fun hb => ?_)
   ·have hb3 := of_decide_eq_true hb
    refine Run.seq ?_
    refine Run.drawA fun K hK => ?_
    refine DOps.sim ?_
    refine DOps.nil ?_ (hK _ ?_)
    ·rfl
    clear hK K
    refine End.kp [8, 9, 10] ?_
    refine Run.resC hQ ?_
    exact ⟨rfl, i + 1, 3, b, s, st, tr, rfl, by omega, by omega, hv, .inr (by omega)⟩
   ·have hb3 := of_decide_eq_false hb
    refine Run.skip ?_
    refine End.blk ?_
    refine End.kp [1, 2, 3, 4, 9, 11] ?_
    refine Run.go ?_
    refine End.lp ?_
    refine ⟨most - (i + 1), _, by omega, Ghost.fm [(1, .i (out : Nat)), (2, .i (most : Nat)), (3, .i (limit : Nat)), (4, .ptr 0 0 0), (9, .ptr 0 1 0), (11, .i (i + 1 + 1 : Nat))] 2, i + 1, rfl, by omega, rfl⟩

set_option maxRecDepth 100000
set_option maxHeartbeats 40000000
theorem InductRing_walk (n0 f0 : Int) (hn0 : I64 n0) (hf0 : I64 f0) (up : Frs) : ACalls Try.prog 4 [.i n0, .i f0] up fun v u => v = .im (.bool true) ∧ u = up := by
 obtain ⟨nb0, nb1⟩ := below_range n0 3 (by omega)
 have hBn := Below_ok n0 3 hn0 ⟨by omega, by omega⟩
 obtain ⟨n, hn⟩ : ∃ n : Nat, below n0 3 + 3 = (n : Int) := ⟨(below n0 3 + 3).toNat, by omega⟩
 have wn : IntKind.i64.wrap (below n0 3 + 3) = (n : Int) := by rw [wrap64 (by omega), hn]
 have hn35 : n = 3 ∨ n = 4 ∨ n = 5 := by omega
 obtain ⟨fb0, fb1⟩ := below_range f0 n (by omega)
 have hBf := Below_ok f0 n hf0 ⟨by omega, by omega⟩
 obtain ⟨f, hf⟩ : ∃ f : Nat, below f0 n = (f : Int) := ⟨(below f0 n).toNat, by omega⟩
 rw [hf] at hBf
 have hnz : ¬ ((n : Int) = 0) := by omega
 have hrg := ringG_regs n f
 have hvs : varsN (ringG n f) = n + 3 := by
  unfold varsN
  rw [hrg]
  show 1 + 1 + n + 1 = n + 3
  omega
 have hLe := Least_ok (ringG n f) (ringG_ok (by omega) (by omega)) 0 n 65536 (show 0 < 1 by decide) (by omega) (by omega) (by rw [hvs]; exact Nat.le_trans (Nat.mul_le_mul (show n + 1 ≤ 6 by omega) (show n + 3 ≤ 8 by omega)) (by decide)) (by omega) (by
  rw [hrg]
  refine Nat.le_trans (Nat.pow_le_pow_right (by decide) (show (ringG n f).inn.length * (n + 1) + n ≤ 11 from ?_)) (by decide)
  show 1 * (n + 1) + n ≤ 11
  omega)
 have ww1 : IntKind.i64.wrap (2 + (n : Int)) = 2 + (n : Int) := wrap64 (by omega)
 have ww2 : IntKind.i64.wrap (2 * (2 + (n : Int))) = 2 * (2 + (n : Int)) := wrap64 (by omega)
 refine ACalls.code Try.func4 rfl 80 rfl (by simp) [.tmp 4] rfl fun Q hQ => ?_
 simp only [ups, PV.up, argEnv]
 have ft := ai ty_2 (ai ty_3 (ai ty_4 (ai ty_9 (ai ty_21 (ai ty_26 (ai ty_27 (ai ty_28 (ai ty_29 (ai ty_31 (ai ty_36 (ai ty_55 (ai ty_57 (ai ty_59 (ai ty_60 (ai ty_64 trivial)))))))))))))))
 refine Run.seq ?_
 have fx := ai (@ge_iff_le Int _) (ai ww2 (ai ww1 (ai hnz (ai wn ft))))
 refine Run.go ?_
 refine End.kp [0, 1] ?_
 refine Run.seq ?_
 refine Run.region rfl fun K hK => GOps.sim ?_
 refine GOps.call rfl rfl rfl rfl (by kernel_rfl) (ACalls.sim ?_)
 refine (hBn _).mono fun v u hv => ?_
 obtain ⟨rfl, rfl⟩ := hv
 refine ⟨_, _, rfl, GOps.sim ?_⟩
 refine GOps.done (hK _ ?_); clear hK K
 refine End.kp [0, 1] ?_
 refine Run.seq ?_
 refine Run.region rfl fun K hK => GOps.sim ?_
 refine GOps.call rfl rfl rfl rfl (by kernel_rfl) (ACalls.sim ?_)
 refine (hBf _).mono fun v u hv => ?_
 obtain ⟨rfl, rfl⟩ := hv
 refine ⟨_, _, rfl, GOps.sim ?_⟩
 refine GOps.done (hK _ ?_); clear hK K
 refine End.kp [0, 1] ?_
 refine Run.seq ?_
 refine Run.region rfl fun K hK => GOps.litF (rows := strs [⟨#[103, 111]⟩]) ?_ rfl rfl (by simp only [litF, fx] <;> rfl)
 refine GOps.litF (rows := strs [⟨#[116, 119, 111]⟩]) ?_ rfl rfl (by simp only [litF, fx] <;> rfl)
 refine GOps.sim ?_
 refine GOps.done (hK _ ?_); clear hK K
 refine End.kp [0, 1, 5] ?_
 refine Run.seq ?_
 refine Run.seq ?_
 have fx := ai (@ge_iff_le Int _) (ai ww2 (ai ww1 (ai hnz (ai wn ft))))
 refine Run.go ?_
 refine End.kp [0, 1, 5, 19, 20] ?_
 refine Run.block ?_
 refine Run.ghost (Ghost.thawBox (j := 0) (i := 2) 57 3 (by decide) rfl rfl) ?_
 change Run _ _ _ _ _ (⟨_, [.box [.im (.sl (strs [⟨#[103, 111]⟩])), .im (.sl (strs [⟨#[116, 119, 111]⟩])), .ms 0 1 0, .nils, .nils], .row 57 3 (((List.range 0).map (ringR n f)).map LReg.im) 0], up⟩ : ASt)
 refine Run.ghost (Ghost.form [(0, .i (n : Nat)), (1, .i (f : Nat)), (5, .ptr 0 0 0), (19, .i (n : Nat)), (20, .i (0 : Nat))] 2 ⟨rfl, rfl, rfl, rfl, rfl, trivial⟩ rfl (by simp only [ASt.push, List.nil_append, List.cons_append, List.take_succ_cons, List.take_zero, List.all_cons, List.all_nil, AObj.under, unders, PV.under, Bool.and_true, Bool.and_self, Bool.true_and, Bool.and_eq_true, decide_eq_true_eq]; try omega)) ?_
 refine Run.loop (fun s st => ∃ i : Nat, s = n - i ∧ i ≤ n ∧ st = ⟨[(0, .i (n : Nat)), (1, .i (f : Nat)), (5, .ptr 0 0 0), (19, .i (n : Nat)), (20, .i (i : Nat))], [.box [.im (.sl (strs [⟨#[103, 111]⟩])), .im (.sl (strs [⟨#[116, 119, 111]⟩])), .ms 0 1 i, .nils, .nils], .row 57 3 (((List.range i).map (ringR n f)).map LReg.im) 0], up⟩) n ⟨0, rfl, by omega, rfl⟩ fun s st hI => ?_
 obtain ⟨i, hm, hi, rfl⟩ := hI
 subst s
 have hrl : (((List.range i).map (ringR n f)).map LReg.im).length = i := by simp
 have hap : (i + 1) * 32 ≤ 140737488355328 := by omega
 refine Run.seq ?_
 have fx := ai hap (ai hrl fx)
 refine Run.go ?_
 refine End.kp [0, 1, 5, 19, 20, 21] ?_
 refine Run.seq ?_
 refine Run.cond _ rfl (fun hb => ?_) (fun hb => ?_)
 ·have hb2 := of_decide_eq_true hb
  have hin : i < n := by omega
  have wi := wsucc hin (by omega)
  have w1 : IntKind.i64.wrap (48 + (i : Int)) = 48 + (i : Int) := wrap64 (by omega)
  have w2 : IntKind.i32.wrap (48 + (i : Int)) = 48 + (i : Int) := by unfold IntKind.wrap; simp only [IntKind.bits, IntKind.signed]; simp; omega
  have hss : (⟨#[114]⟩ : ByteArray).size + (⟨#[UInt8.ofNat (48 + (i : Int)).toNat]⟩ : ByteArray).size ≤ 9223372036854775807 := show 1 + 1 ≤ 9223372036854775807 by decide
  have w3 : IntKind.i64.wrap ((i : Int) + (n : Int)) = ((i + n : Nat) : Int) := by rw [wrap64 (by omega)]; omega
  have w4 : IntKind.i64.wrap (((i + n : Nat) : Int) - 1) = ((i + n - 1 : Nat) : Int) := by rw [wrap64 (by omega)]; omega
  have w5 : Int.tmod ((i + n - 1 : Nat) : Int) (n : Int) = (((i + n - 1) % n : Nat) : Int) := by rw [Int.tmod_eq_emod_of_nonneg (by omega)]; rfl
  have hlt := Nat.mod_lt (i + n - 1) (show 0 < n by omega)
  have w00 : ∀ x : Nat, x ≤ 1000 → IntKind.i64.wrap (x : Int) = (x : Int) := fun x h => wrap64 (by omega)
  have w6 := w00 ((i + n - 1) % n) (by omega)
  obtain ⟨p, hp⟩ : ∃ p, p = (i + n - 1) % n := ⟨_, rfl⟩
  rw [← hp] at w5 w6 hlt
  have w7 : IntKind.i64.wrap (2 + (p : Int)) = 2 + (p : Int) := wrap64 (by omega)
  have w8 : IntKind.i64.wrap (2 * (2 + (p : Int))) = 2 * (2 + (p : Int)) := wrap64 (by omega)
  refine Run.skip ?_
  refine End.kp [0, 1, 5, 19, 20] ?_
  refine Run.seq ?_
  refine Run.block ?_
  refine Run.seq ?_
  have fx := ai w8 (ai w7 (ai w6 (ai w5 (ai w4 (ai w3 (ai w2 (ai w1 (ai hss (ai wi (ai hap (ai hrl (ai (@ge_iff_le Int _) (ai ww2 (ai ww1 (ai hnz (ai wn ft))))))))))))))))
  refine Run.go ?_
  refine End.kp [0, 1, 5, 6, 19, 20] ?_
  refine Run.drawA fun K hK => ?_
  refine DOps.sim ?_
  refine DOps.rune (48 + (i : Int)) (by omega) (by omega) ?_ rfl rfl rfl rfl rfl
  refine DOps.sim ?_
  refine DOps.litF (rows := [[.str (ringN i), .int .i64 (2 * (2 + (p : Int))), .bool ((i : Int) == (f : Int))]]) ?_ rfl rfl (by simp only [litF, fx] <;> rfl)
  refine DOps.sim ?_
  refine DOps.nil ?_ (hK _ ?_)
  ·rfl
  clear hK K
  refine End.blk ?_
  refine End.kp [0, 1, 5, 19, 20] ?_
  have fx := ai w8 (ai w7 (ai w6 (ai w5 (ai w4 (ai w3 (ai w2 (ai w1 (ai hss (ai wi (ai hap (ai hrl (ai (@ge_iff_le Int _) (ai ww2 (ai ww1 (ai hnz (ai wn ft))))))))))))))))
  refine Run.go ?_
  refine End.lp ?_
  have e1 : ((List.range (i + 1)).map (ringR n f)).map LReg.im = ((List.range i).map (ringR n f)).map LReg.im ++ [[.str (ringN i), .int .i64 (2 * (2 + (p : Int))), .bool ((i : Int) == (f : Int))]] := by
   rw [List.range_succ, List.map_append, List.map_append, hp]
   rfl
  refine ⟨n - (i + 1), _, by omega, Ghost.form [(0, .i (n : Nat)), (1, .i (f : Nat)), (5, .ptr 0 0 0), (19, .i (n : Nat)), (20, .i (i + 1 : Nat))] 2 ⟨rfl, rfl, rfl, rfl, rfl, trivial⟩ rfl (by simp only [ASt.push, List.nil_append, List.cons_append, List.take_succ_cons, List.take_zero, List.all_cons, List.all_nil, AObj.under, unders, PV.under, Bool.and_true, Bool.and_self, Bool.true_and, Bool.and_eq_true, decide_eq_true_eq]; try omega), i + 1, rfl, by omega, ?_⟩
  rw [e1]
  rfl
 ·have hb2 := of_decide_eq_false hb
  have hie : i = n := by omega
  subst hie
  refine Run.exit rfl ?_
  refine End.kp [0, 5] ?_
  refine Run.seq ?_
  refine Run.ghost (Ghost.boxShut (j := 0) (i := 2) (r := 1) (m := i) rfl rfl rfl hrl) ?_
  refine Run.region rfl fun K hK => GOps.simK 1 ?_
  refine GOps.litF (rows := [nd (4, 6)]) ?_ rfl rfl (by simp only [litF, fx] <;> rfl)
  refine GOps.sim ?_
  refine GOps.done (hK _ ?_); clear hK K
  refine End.kp [0, 5] ?_
  refine Run.seq ?_
  have fx := ai hap (ai hrl (ai (@ge_iff_le Int _) (ai ww2 (ai ww1 (ai hnz (ai wn ft))))))
  refine Run.region rfl fun K hK => GOps.simK 3 ?_
  refine GOps.litF (rows := ints [2 * (2 + (i : Int))]) ?_ rfl rfl (by simp only [litF, fx] <;> rfl)
  refine GOps.sim ?_
  refine GOps.done (hK _ ?_); clear hK K
  refine End.kp [0, 5] ?_
  refine Run.seq ?_
  change Run _ _ _ _ _ (⟨_, [.box (ringG i f).cells, .row 57 3 (((List.range i).map (ringR i f)).map LReg.im) i], up⟩ : ASt)
  have fx := ai hap (ai hrl (ai (@ge_iff_le Int _) (ai ww2 (ai ww1 (ai hnz (ai wn ft))))))
  refine Run.region rfl fun K hK => GOps.sim ?_
  refine GOps.call rfl rfl rfl rfl (by kernel_rfl) (ACalls.sim ?_)
  refine (hLe _).mono fun v u hv => ?_
  obtain ⟨rfl, k, ver, b, s, st, tr, rfl, hk1, hk2, hv, hv3⟩ := hv
  have hv1 : ver = 1 := by
   rcases hv with ⟨_, tr, h⟩ | ⟨_, ⟨h1, h2⟩ | ⟨h1, _⟩⟩
   ·exact absurd ⟨tr, rfl, h.rows, h.hit⟩ (ring_never hn35 tr.length)
   ·rcases hv3 with h3 | h3
    ·exact absurd h1 h3
    ·rw [h3] at h2; exact absurd h2 (ring_back hn35)
   ·exact h1
  subst hv1
  have q1 : decide ((1 : Int) ≤ (k : Int)) = true := decide_eq_true (by omega)
  have q2 : decide ((k : Int) ≤ (i : Int)) = true := decide_eq_true (by omega)
  refine ⟨_, _, rfl, GOps.sim ?_⟩
  refine GOps.done (hK _ ?_); clear hK K
  refine End.kp [0, 7, 8, 9] ?_
  refine Run.seq ?_
  have fx := ai q2 (ai q1 (ai hap (ai hrl (ai (@ge_iff_le Int _) (ai ww2 (ai ww1 (ai hnz (ai wn ft))))))))
  refine Run.region rfl fun K hK => GOps.sim ?_
  refine GOps.call rfl rfl rfl rfl (by kernel_rfl) (ACalls.sim ?_)
  refine (induced_ok _).mono fun v u hv => ?_
  obtain ⟨rfl, rfl⟩ := hv
  refine ⟨_, _, rfl, GOps.sim ?_⟩
  refine GOps.done (hK _ ?_); clear hK K
  refine End.kp [4] ?_
  refine Run.ret (hQ _ _ ⟨.inr rfl, _, rfl, _, rfl, ?_⟩)
  exact ⟨rfl, rfl⟩

end Go.Proofs.YtkjfdacjjogpcaaPi
