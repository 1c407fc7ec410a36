/- Part 7 of the proof: the texts WBO, WBP, WBQ, one behind the other. Each holds for every input that it names; no condition is hidden. -/
import Derived.Test.YtkjfdacjjogpcaaM6
import Derived.Test.YtkjfdacjjogpcaaPiChoice
import Derived.Test.YtkjfdacjjogpcaaM2
set_option linter.unusedVariables false
set_option linter.unusedSimpArgs false
set_option linter.unusedSectionVars false
namespace Go.Proofs.YtkjfdacjjogpcaaPi
set_option maxRecDepth 100000
set_option maxHeartbeats 40000000
theorem name_one (b : UInt8) (h : (33 : Nat) ≤ b.toNat ∧ b.toNat ≤ 126) : NameOk ⟨#[b]⟩ := ⟨by simp [ByteArray.size], by simp [ByteArray.size], fun x hx => by
 have : x = b := by simpa using hx
 subst this
 exact h⟩

set_option maxRecDepth 100000
set_option maxHeartbeats 40000000
def ProveR (g : LGraph) (out k : Nat) (ver : Int) (b : Im) : Prop :=
 (ver = 2 ∧ ∃ tr, FindHit g out k tr) ∨ ((∀ j, 1 ≤ j → j ≤ k → ¬ Reach g out j) ∧ ((ver = 3 ∧ Stretch g out (k + 1)) ∨ (ver = 1 ∧ ¬ Stretch g out (k + 1) ∧ ∃ ps : List (List (List Int)), ps.length = k ∧ b = .sl (prfs ps))))
theorem Prove_ok (g : LGraph) (hg : GraphOk g) (out k limit : Nat) (ho : out < g.outs.length) (hk1 : 1 ≤ k) (hk : k < 64) (hkn : (k + 1) * varsN g ≤ 20000) (hlim : limit ≤ 65536) (hF : 2 ^ (g.inn.length * (k + 1) + g.regs.length) ≤ limit) (up : Frs) : ACalls Try.prog 38 [g.pv, .i (out : Nat), .i (k : Nat), .i (limit : Nat)] up fun v u => u = up ∧ ∃ (ver : Int) (b s st tr : Im), v = .tup [.agg [.i ver, .im b, .im s, .im st, .im tr], .i 0] ∧ ProveR g out k ver b := by
 obtain ⟨z1, z2, z3, z4, z5⟩ := hg.small
 have d1 : decide ((out : Int) < 0) = false := decide_eq_false (by omega)
 have d2 : decide ((g.outs.length : Int) ≤ (out : Int)) = false := decide_eq_false (by omega)
 have d3 : decide ((k : Int) < 1) = false := decide_eq_false (by omega)
 have d4 : decide ((64 : Int) ≤ (k : Int)) = false := decide_eq_false (by omega)
 have d5 : decide ((limit : Int) < 0) = false := decide_eq_false (by omega)
 have d6 : decide ((65536 : Int) < (limit : Int)) = false := decide_eq_false (by omega)
 have hnod : (1 + (g.inn.length : Int) + g.regs.length + g.ands.length) = ((varsN g : Nat) : Int) := by unfold varsN; omega
 obtain ⟨x0, x1⟩ := outL_ok hg ho
 have hkk : k * varsN g ≤ (k + 1) * varsN g := Nat.mul_le_mul_right _ (by omega)
 have hfd := Find_ok g hg out k limit ho hk1 (by omega) (by omega) hlim (Nat.le_trans (Nat.pow_le_pow_right (by decide) (by have : g.inn.length * k ≤ g.inn.length * (k + 1) := Nat.mul_le_mul_left _ (by omega); omega)) hF)
 have hwl := withC_len g (outL g out) true (k + 1)
 have hsz : (k + 1) * (1 + 3 * g.ands.length + 2 * g.regs.length) ≤ (k + 1) * (3 * varsN g) := Nat.mul_le_mul_left _ (by unfold varsN; omega)
 have hsz2 : (k + 1) * (3 * varsN g) = 3 * ((k + 1) * varsN g) := by rw [Nat.mul_left_comm]
 have hcin : ClsIn ((k + 1) * varsN g) (withC g (outL g out) true (k + 1)) := ⟨by omega, fun c hc => withC_in hg x0 x1 (by omega) hc⟩
 have hslv := solveF_ok (withC g (outL g out) true (k + 1)) ((k + 1) * varsN g) limit (by omega) hcin hlim (freeV g true (k + 1)) (by rw [freeV_len, if_pos rfl]; exact hF) (with_det hg)
 have hst := with_stretch hg ho (k := k + 1) (by omega)
 have hwi := fun f rest => WithinX_ok g hg out (k + 1) ho (by omega) (by omega) hkn true f rest
 have hvn : 1 + g.inn.length + g.regs.length ≤ varsN g := by unfold varsN; omega
 have hinp := fun m hml u => Inputs_ok g hg.small (k + 1) (by omega) hkn m hml u
 have hv1 : varsN g ≤ (k + 1) * varsN g := Nat.le_mul_of_pos_left _ (by omega)
 obtain ⟨N, hN⟩ : ∃ N, N = varsN g := ⟨_, rfl⟩
 rw [← hN] at hnod hkn hslv hwi hvn hinp hv1
 have hNs : N ≤ 20000 := by omega
 have wk1 : IntKind.i64.wrap ((k : Int) + 1) = ((k + 1 : Nat) : Int) := by rw [wrap64 (by omega)]; omega
 have wkn : IntKind.i64.wrap (((k + 1 : Nat) : Int) * (N : Int)) = (((k + 1) * N : Nat) : Int) := by rw [← Int.natCast_mul, wrap64 (by omega)]
 have d7 : decide ((20000 : Int) < (((k + 1) * N : Nat) : Int)) = false := decide_eq_false (by omega)
 have wn1 : IntKind.i64.wrap (1 + (g.inn.length : Int)) = ((1 + g.inn.length : Nat) : Int) := by rw [wrap64 (by omega)]; omega
 have wn2 : IntKind.i64.wrap (((1 + g.inn.length : Nat) : Int) + (g.regs.length : Int)) = ((1 + g.inn.length + g.regs.length : Nat) : Int) := by rw [wrap64 (by omega)]; omega
 refine ACalls.code Try.func38 rfl 137 rfl (by simp) [.cell 8 64, .tmp 9] rfl fun Q hQ => ?_
 simp only [ups, PV.up, argEnv]
 have ft := ai ty_2 (ai ty_3 (ai ty_4 (ai ty_9 (ai ty_22 (ai ty_26 (ai ty_27 (ai ty_29 (ai ty_31 (ai ty_33 (ai ty_35 (ai ty_36 (ai ty_44 (ai ty_46 (ai ty_55 (ai ty_57 (ai ty_60 (ai ty_61 (ai ty_62 (ai ty_64 (ai ty_77 (ai ty_135 trivial)))))))))))))))))))))
 refine Run.seq ?_
 have fx := ai zTn (ai zNn (ai (@gt_iff_lt Int _) (ai (@ge_iff_le Int _) (ai rim_len (ai strs_len (ai ints_len (ai wn2 (ai wn1 (ai wkn (ai wk1 (ai d7 (ai d6 (ai d5 (ai d4 (ai d3 (ai d2 (ai d1 ft)))))))))))))))))
 refine Run.go ?_
 refine End.kp [1, 2, 3, 4, 8] ?_
 refine Run.seq ?_
 refine Run.seq ?_
 refine Run.region rfl fun K hK => GOps.sim ?_
 refine GOps.call rfl rfl rfl rfl (by kernel_rfl) (ACalls.sim ?_)
 refine (Check_ok g hg _).mono fun v u hv => ?_
 obtain ⟨rfl, rfl⟩ := hv
 refine ⟨_, _, rfl, GOps.sim ?_⟩
 refine GOps.done (hK _ ?_); clear hK K
 refine End.kp [1, 2, 3, 4, 8, 10] ?_
 refine Run.seq ?_
 refine Run.go ?_
 refine End.kp [1, 2, 3, 4, 8, 10, 21] ?_
 refine Run.cond _ rfl (fun hb => ?_) (fun hb => ?_)
 ·have hb2 := hb
  simp at hb
 ·have hb2 := hb
  refine Run.skip ?_
  refine End.kp [1, 2, 3, 4, 8] ?_
  refine Run.seq ?_
  refine Run.seq ?_
  have fx := ai zTn (ai zNn (ai (@gt_iff_lt Int _) (ai (@ge_iff_le Int _) (ai rim_len (ai strs_len (ai ints_len (ai wn2 (ai wn1 (ai wkn (ai wk1 (ai d7 (ai d6 (ai d5 (ai d4 (ai d3 (ai d2 (ai d1 ft)))))))))))))))))
  refine Run.go ?_
  refine End.kp [1, 2, 3, 4, 8, 32] ?_
  refine Run.cond _ rfl (fun hb => ?_) (fun hb => ?_)
  ·have hb3 := hb
   simp at hb
  ·have hb3 := hb
   refine Run.skip ?_
   refine End.kp [1, 2, 3, 4, 8] ?_
   refine Run.seq ?_
   refine Run.seq ?_
   refine Run.go ?_
   refine End.kp [1, 2, 3, 4, 8, 47] ?_
   refine Run.cond _ rfl (fun hb => ?_) (fun hb => ?_)
   ·have hb4 := hb
    simp at hb
   ·have hb4 := hb
    refine Run.skip ?_
    refine End.kp [1, 2, 3, 4, 8] ?_
    refine Run.seq ?_
    refine Run.seq ?_
    refine Run.region rfl fun K hK => GOps.sim ?_
    refine GOps.call rfl rfl rfl rfl (by kernel_rfl) (ACalls.sim ?_)
    refine (GNodes_ok g hg.small _).mono fun v u hv => ?_
    obtain ⟨rfl, rfl⟩ := hv
    rw [hnod]
    refine ⟨_, _, rfl, GOps.sim ?_⟩
    refine GOps.done (hK _ ?_); clear hK K
    refine End.kp [1, 2, 3, 4, 8, 54] ?_
    refine Run.cond _ rfl (fun hb => ?_) (fun hb => ?_)
    ·have hb5 := hb
     simp at hb
    ·have hb5 := hb
     refine Run.skip ?_
     refine End.kp [1, 2, 3, 4, 8] ?_
     refine Run.seq ?_
     have fx := ai zTn (ai zNn (ai (@gt_iff_lt Int _) (ai (@ge_iff_le Int _) (ai rim_len (ai strs_len (ai ints_len (ai wn2 (ai wn1 (ai wkn (ai wk1 (ai d7 (ai d6 (ai d5 (ai d4 (ai d3 (ai d2 (ai d1 ft)))))))))))))))))
     refine Run.region rfl fun K hK => GOps.sim ?_
     refine GOps.call rfl rfl rfl rfl (by kernel_rfl) (ACalls.sim ?_)
     refine (hfd _).mono fun v u hv => ?_
     obtain ⟨rfl, ver, tr, ps, rfl, hv⟩ := hv
     refine ⟨_, _, rfl, GOps.sim ?_⟩
     refine GOps.done (hK _ ?_); clear hK K
     refine End.kp [1, 2, 3, 4, 8, 11, 12] ?_
     refine Run.seq ?_
     refine Run.block ?_
     refine Run.seq ?_
     refine Run.go ?_
     refine End.kp [1, 2, 3, 4, 8, 11, 12, 64] ?_
     refine Run.cond _ rfl (fun hb => ?_) (fun hb => ?_)
     ·have hb6 := hb
      simp at hb
     ·have hb6 := hb
      refine Run.seq ?_
      have fx := ai zTn (ai zNn (ai (@gt_iff_lt Int _) (ai (@ge_iff_le Int _) (ai rim_len (ai strs_len (ai ints_len (ai wn2 (ai wn1 (ai wkn (ai wk1 (ai d7 (ai d6 (ai d5 (ai d4 (ai d3 (ai d2 (ai d1 ft)))))))))))))))))
      refine Run.go ?_
      refine End.kp [1, 2, 3, 4, 8, 11, 69] ?_
      refine Run.cond _ rfl (fun hb => ?_) (fun hb => ?_)
      ·have hv2 : ver = 2 := eq_of_beq hb
       have hh : FindHit g out k tr := by
        rcases hv with ⟨_, _, h⟩ | ⟨h, _⟩
        ·exact h
        ·rw [h] at hv2; simp at hv2
       refine Run.seq ?_
       refine Run.go ?_
       refine End.kp [8, 9] ?_
       refine Run.resC hQ ?_
       exact ⟨rfl, 2, _, _, _, _, rfl, .inl ⟨rfl, tr, hh⟩⟩
      ·have hv3 : ver = 3 ∧ ps.length = k ∧ ∀ j, 1 ≤ j → j ≤ k → ¬ Reach g out j := by
        rcases hv with ⟨h, _⟩ | ⟨h1, _, h2, h3⟩
        ·rw [h] at hb; simp at hb
        ·exact ⟨h1, h2, h3⟩
       obtain ⟨hv3, hpl, hno⟩ := hv3
       subst hv3
       refine Run.seq ?_
       refine Run.go ?_
       refine End.kp [1, 2, 3, 4, 8, 11, 76] ?_
       refine Run.cond _ rfl (fun hb => ?_) (fun hb => ?_)
       ·have hb7 := hb
        simp at hb
       ·have hb7 := hb
        refine Run.skip ?_
        refine End.blk ?_
        refine End.kp [1, 2, 3, 4, 8, 11] ?_
        refine Run.seq ?_
        refine Run.region rfl fun K hK => GOps.sim ?_
        refine GOps.call rfl rfl rfl rfl (by kernel_rfl) (ACalls.sim ?_)
        refine (hwi _ _).mono fun v u hv => ?_
        obtain ⟨rfl, rfl⟩ := hv
        refine ⟨_, _, rfl, GOps.sim ?_⟩
        refine GOps.done (hK _ ?_); clear hK K
        refine End.kp [2, 3, 4, 8, 11, 13, 14] ?_
        refine Run.seq ?_
        refine Run.ghost (Ghost.shut (t := 13) (j := 5) rfl rfl (by simp)) ?_
        simp only [eput, edel]
        have fx := ai zTn (ai zNn (ai (@gt_iff_lt Int _) (ai (@ge_iff_le Int _) (ai rim_len (ai strs_len (ai ints_len (ai wn2 (ai wn1 (ai wkn (ai wk1 (ai d7 (ai d6 (ai d5 (ai d4 (ai d3 (ai d2 (ai d1 ft)))))))))))))))))
        refine Run.region rfl fun K hK => GOps.sim ?_
        refine GOps.call rfl rfl rfl rfl (by kernel_rfl) (ACalls.sim ?_)
        refine (hslv _).mono fun v u hv => ?_
        obtain ⟨rfl, fd, m, pr, q, rfl, hf1, hf2⟩ := hv
        refine ⟨_, _, rfl, GOps.sim ?_⟩
        refine GOps.done (hK _ ?_); clear hK K
        refine End.kp [2, 4, 8, 11, 12, 16] ?_
        refine Run.seq ?_
        refine Run.block ?_
        refine Run.seq ?_
        refine Run.go ?_
        refine End.kp [2, 4, 8, 11, 12, 16, 97] ?_
        refine Run.cond _ rfl (fun hb => ?_) (fun hb => ?_)
        ·have hb8 := hb
         simp at hb
        ·have hb8 := hb
         refine Run.seq ?_
         have fx := ai zTn (ai zNn (ai (@gt_iff_lt Int _) (ai (@ge_iff_le Int _) (ai rim_len (ai strs_len (ai ints_len (ai wn2 (ai wn1 (ai wkn (ai wk1 (ai d7 (ai d6 (ai d5 (ai d4 (ai d3 (ai d2 (ai d1 ft)))))))))))))))))
         refine Run.go ?_
         refine End.kp [2, 4, 8, 11, 16, 102] ?_
         refine Run.cond _ rfl (fun hb => ?_) (fun hb => ?_)
         ·have hft : fd = true := hb
          obtain ⟨hml, hmc⟩ := hf1 hft
          have hM := hst.1 ⟨_, hmc⟩
          have hsl1 : ((1 + g.inn.length : Nat) : Int) ≤ ((1 + g.inn.length + g.regs.length : Nat) : Int) := by omega
          have hsl2 : ((1 + g.inn.length + g.regs.length : Nat) : Int) ≤ (m.length : Int) := by omega
          have hsl4 : 1 + g.inn.length ≤ 1 + g.inn.length + g.regs.length := by omega
          have hso : szOk 1 (1 + g.inn.length) (bools m) := .inr (by simp)
          have hsl3 : 1 + g.inn.length + g.regs.length ≤ m.length := by omega
          refine Run.seq ?_
          have fx := ai hso (ai hsl4 (ai hsl3 (ai hsl2 (ai hsl1 (ai bools_len fx)))))
          refine Run.go ?_
          refine End.kp [2, 4, 8, 11, 16, 17] ?_
          refine Run.seq ?_
          refine Run.drawA fun K hK => ?_
          refine DOps.sim ?_
          refine DOps.call (.im (.sl (boolss (insK g (k + 1) (fun v => m.getD (v - 1) false))))) [] [] rfl rfl rfl rfl (by kernel_rfl) (by simp [Agree]) (fun u hu => hinp m hml u) ?_
          refine DOps.sim ?_
          refine DOps.nil ?_ (hK _ ?_)
          ·rfl
          clear hK K
          refine End.kp [8, 9] ?_
          refine Run.resC hQ ?_
          exact ⟨rfl, 3, _, _, _, _, rfl, .inr ⟨hno, .inl ⟨rfl, hM⟩⟩⟩
         ·have hff : fd = false := hb
          have hM : ¬ Stretch g out (k + 1) := fun h => by
           obtain ⟨M, hM⟩ := hst.2 h
           exact hf2 hff M hM
          refine Run.seq ?_
          refine Run.go ?_
          refine End.kp [8, 11, 16, 127] ?_
          refine Run.cond _ rfl (fun hb => ?_) (fun hb => ?_)
          ·have hb9 := hb
           simp at hb
          ·have hb9 := hb
           refine Run.skip ?_
           refine End.blk ?_
           refine End.kp [8, 11, 16] ?_
           refine Run.seq ?_
           refine Run.go ?_
           refine End.kp [8, 9] ?_
           refine Run.resC hQ ?_
           exact ⟨rfl, 1, _, _, _, _, rfl, .inr ⟨hno, .inr ⟨rfl, hM, ps, hpl, rfl⟩⟩⟩

set_option maxRecDepth 100000
set_option maxHeartbeats 40000000
theorem runB_drop (g : LGraph) (s : List Bool) (tr : List (List Bool)) : ∀ m, m ≤ tr.length → runB g (stB g s tr m) (tr.drop m) = (runB g s tr).drop m
 | 0, _ => rfl
 | m + 1, h => by
  have ih := runB_drop g s tr m (by omega)
  have e : tr.drop m = tr.getD m [] :: tr.drop (m + 1) := drop_gtD [] (by omega)
  have e2 : (runB g s tr).drop (m + 1) = ((runB g s tr).drop m).drop 1 := by rw [List.drop_drop]
  rw [e2, ← ih, e, runB]
  rfl
theorem induction_ok {g : LGraph} (hg : GraphOk g) {out k : Nat} (h1 : ∀ j, 1 ≤ j → j ≤ k → ¬ Reach g out j) (h2 : ¬ Stretch g out (k + 1)) : ∀ t, 1 ≤ t → ¬ Reach g out t := by
 intro t
 induction t using Nat.strongRecOn with
 | _ t ih =>
  intro ht hr
  by_cases hk : t ≤ k
  ·exact h1 t ht hk hr
  ·obtain ⟨tr, rfl, hrow, hh⟩ := hr
   have hi : (initG g).length = g.regs.length := by simp
   have hno : ∀ j, j + 1 < tr.length → ((runB g (initG g) tr).getD j []).getD out false = false := fun j hj => by
    cases e : ((runB g (initG g) tr).getD j []).getD out false with
    | false => rfl
    | true => exact absurd (hit_reach hrow (by omega) e) (ih (j + 1) hj (by omega))
   have hd := runB_drop g (initG g) tr (tr.length - (k + 1)) (by omega)
   have hget : ∀ j, ((runB g (stB g (initG g) tr (tr.length - (k + 1))) (tr.drop (tr.length - (k + 1)))).getD j []) = (runB g (initG g) tr).getD (tr.length - (k + 1) + j) [] := fun j => by
    rw [hd]
    simp only [List.getD_eq_getElem?_getD, List.getElem?_drop]
   refine h2 ⟨stB g (initG g) tr (tr.length - (k + 1)), tr.drop (tr.length - (k + 1)), stB_len g hi tr _, by rw [List.length_drop]; omega, fun r hr => hrow r (List.mem_of_mem_drop hr), ?_, fun j hj => ?_⟩
   ·unfold hitB
    rw [hget, List.length_drop, show tr.length - (k + 1) + (tr.length - (tr.length - (k + 1)) - 1) = tr.length - 1 by omega]
    exact hh
   ·rw [hget]
    exact hno _ (by omega)
def indG : LGraph := ⟨[], [⟨#[111]⟩], [⟨⟨#[114]⟩, 2, false⟩], [], [2]⟩
theorem indG_ok : GraphOk indG := by
 refine ⟨⟨by decide, by decide, by decide, by decide, by decide⟩, fun s hs => ?_, by simp [indG], fun s hs => ?_, by simp [indG], rfl, fun i p hp => by simp [indG] at hp, fun r hr => ?_, fun x hx => ?_⟩
 ·have : s = ⟨#[114]⟩ := by simpa [indG] using hs
  subst this
  exact name_one 114 (by decide)
 ·have : s = ⟨#[111]⟩ := by simpa [indG] using hs
  subst this
  exact name_one 111 (by decide)
 ·have : r = ⟨⟨#[114]⟩, 2, false⟩ := by simpa [indG] using hr
  subst this
  decide
 ·have : x = 2 := by simpa [indG] using hx
  subst this
  decide
theorem rows_nil {g : LGraph} (h : g.inn.length = 0) : ∀ {tr : List (List Bool)}, Rows g tr → tr = List.replicate tr.length []
 | [], _ => rfl
 | r :: t, hr => by
  have e : r = [] := List.eq_nil_of_length_eq_zero (by have := hr r (by simp); omega)
  have := rows_nil h (tr := t) fun x hx => hr x (by simp [hx])
  rw [List.length_cons, List.replicate_succ, ← this, e]
theorem indG_one : ¬ Reach indG 0 1 := by
 rintro ⟨tr, h1, h2, h3⟩
 rw [rows_nil rfl h2, h1] at h3
 exact absurd h3 (by unfold hitB; decide)
theorem indG_two : ¬ Stretch indG 0 2 := by
 rintro ⟨s, tr, h0, h1, h2, h3, h4⟩
 have h5 := h4 0 (by omega)
 rw [rows_nil rfl h2, h1] at h3 h5
 match s, h0 with
 | [b], _ =>
  unfold hitB at h3
  revert h3 h5
  cases b <;> decide
theorem induced_ok (up : Frs) : ACalls Try.prog 23 [] up fun v u => v = .im (.bool true) ∧ u = up := by
 have hpv := Prove_ok indG indG_ok 0 1 9 (by decide) (by decide) (by decide) (by decide) (by decide) (by decide)
 refine ACalls.code Try.func23 rfl 27 rfl (by simp) [.tmp 0] rfl fun Q hQ => ?_
 simp only [ups, PV.up, argEnv]
 have ft := ai ty_2 (ai ty_3 (ai ty_4 (ai ty_9 (ai ty_26 (ai ty_27 (ai ty_29 (ai ty_31 (ai ty_36 (ai ty_44 (ai ty_55 (ai ty_57 (ai ty_60 (ai ty_61 (ai ty_64 (ai ty_135 trivial)))))))))))))))
 refine Run.seq ?_
 have fx := ft
 refine Run.go ?_
 refine End.kp [] ?_
 refine Run.seq ?_
 refine Run.region rfl fun K hK => GOps.litF (rows := strs [⟨#[111]⟩]) ?_ rfl rfl (by simp only [litF, fx] <;> rfl)
 refine GOps.simK 1 ?_
 refine GOps.litF (rows := [LReg.im ⟨⟨#[114]⟩, 2, false⟩]) ?_ rfl rfl (by simp only [litF, fx] <;> rfl)
 refine GOps.litF (rows := ints [2]) ?_ rfl rfl (by simp only [litF, fx] <;> rfl)
 refine GOps.sim ?_
 refine GOps.done (hK _ ?_); clear hK K
 refine End.kp [1] ?_
 refine Run.seq ?_
 refine Run.ghost (Ghost.thawBox (j := 0) (i := 0) 9 1 (by decide) rfl rfl) ?_
 refine Run.ghost (Ghost.boxShut (j := 0) (i := 0) (r := 1) (m := 0) rfl rfl rfl rfl) ?_
 refine Run.ghost (Ghost.thawBox (j := 0) (i := 3) 59 2 (by decide) rfl rfl) ?_
 refine Run.ghost (Ghost.boxShut (j := 0) (i := 3) (r := 2) (m := 0) rfl rfl rfl rfl) ?_
 change Run _ _ _ _ _ (⟨_, [.box indG.cells, .row 9 1 [] 0, .row 59 2 [] 0], up⟩ : ASt)
 have fx := ft
 refine Run.region rfl fun K hK => GOps.sim ?_
 refine GOps.call rfl rfl rfl rfl (by kernel_rfl) (ACalls.sim ?_)
 refine (hpv _).mono fun v u hv => ?_
 obtain ⟨rfl, ver, b, s, st, tr, rfl, hv⟩ := hv
 have hv2 : ver = 1 ∧ ∃ ps : List (List (List Int)), ps.length = 1 ∧ b = .sl (prfs ps) := by
  rcases hv with ⟨_, tr, h⟩ | ⟨_, ⟨_, h⟩ | ⟨h1, _, h2⟩⟩
  ·have h3 := h.pos
   have h4 := h.le
   exact absurd ⟨tr, by omega, h.rows, h.hit⟩ indG_one
  ·exact absurd h indG_two
  ·exact ⟨h1, h2⟩
 obtain ⟨hv2, ps, hps, hbe⟩ := hv2
 subst hv2 hbe
 have hpl : (prfs ps).length = 1 := by simp [hps]
 refine ⟨_, _, rfl, GOps.sim ?_⟩
 refine GOps.done (hK _ ?_); clear hK K
 refine End.kp [2, 3] ?_
 refine Run.seq ?_
 have fx := ai hpl ft
 refine Run.go ?_
 refine End.kp [0] ?_
 refine Run.ret (hQ _ _ ⟨.inr rfl, _, rfl, _, rfl, ?_⟩)
 exact ⟨rfl, rfl⟩
theorem InductSound_walk (l : List Int) (k0 : Int) (hk0 : I64 k0) (hs : StmOk l 0) (up : Frs) : ACalls Try.prog 8 [.im (.sl (ints l)), .i k0] up fun v u => v = .im (.bool true) ∧ u = up := by
 have ok : ∀ b : Int, 0 ≤ b → b ≤ 100000 → StmOk l b := fun b h1 h2 => ⟨hs.vals, hs.len, h1, by omega⟩
 obtain ⟨r1, s1⟩ := nextV_range l 0 (2 - 1 + 1) (by omega)
 obtain ⟨r2, s2⟩ := nextV_range l (0 + 1) (4 - 1 + 1) (by omega)
 obtain ⟨r3, s3⟩ := nextV_range l (0 + 1 + 1) 12 (by omega)
 obtain ⟨ins, e1⟩ : ∃ k : Nat, 1 + nextV l 0 (2 - 1 + 1) = k := ⟨(1 + nextV l 0 (2 - 1 + 1)).toNat, by omega⟩
 obtain ⟨regs, e2⟩ : ∃ k : Nat, 1 + nextV l (0 + 1) (4 - 1 + 1) = k := ⟨(1 + nextV l (0 + 1) (4 - 1 + 1)).toNat, by omega⟩
 obtain ⟨ands, e3⟩ : ∃ k : Nat, nextV l (0 + 1 + 1) 12 = k := ⟨(nextV l (0 + 1 + 1) 12).toNat, by omega⟩
 have hR0 := fun u d j h => Range_ok 1 2 (by omega) (by omega) (by omega) l 0 hs (by omega) u d j h
 have hR1 := fun u d j h => Range_ok 1 4 (by omega) (by omega) (by omega) l (0 + 1) (ok _ (by omega) (by omega)) (by omega) u d j h
 have hN2 := fun u d j h => Next_ok l (0 + 1 + 1) 12 (ok _ (by omega) (by omega)) ⟨by omega, by omega⟩ u d j h
 have hG := fun u d j h k hk => Graph_ok ins regs ands 1 (by omega) (by omega) (by omega) (by omega) l (0 + 1 + 1 + 1) (ok _ (by omega) (by omega)) (by omega) u d j h k hk
 rw [e1] at hR0
 rw [e2] at hR1
 rw [e3] at hN2
 obtain ⟨p1, p2, p3, p4, p5, p6, p7⟩ := graphV_pos l (0 + 1 + 1 + 1) ins regs ands 1
 have hgo := drawnG_ok l (0 + 1 + 1 + 1) ins regs ands 1 (by omega) (by omega) (by omega)
 generalize graphV l (0 + 1 + 1 + 1) ins regs ands 1 = G at hG p1 p2 p3 p4 p5 p6 p7 hgo
 obtain ⟨g, b⟩ := G
 simp only at hG p1 p2 p3 p4 p5 p6 p7 hgo
 have hg := hgo
 obtain ⟨z1, z2, z3, z4, z5⟩ := hg.small
 have hal : (g.ands.map nd).length = ands := by rw [List.length_map, p6]
 obtain ⟨kb0, kb1⟩ := below_range k0 3 (by omega)
 have hBel := Below_ok k0 3 hk0 ⟨by omega, by omega⟩
 obtain ⟨k, hk⟩ : ∃ k : Nat, below k0 3 + 1 = (k : Int) := ⟨(below k0 3 + 1).toNat, by omega⟩
 have wk : IntKind.i64.wrap (below k0 3 + 1) = (k : Int) := by rw [wrap64 (by omega), hk]
 have hvs : varsN g ≤ 18 := by unfold varsN; omega
 have hpw : 2 ^ (g.inn.length * (k + 1) + g.regs.length) ≤ 65536 := Nat.le_trans (Nat.pow_le_pow_right (by decide) (show g.inn.length * (k + 1) + g.regs.length ≤ 2 * 4 + 4 from Nat.add_le_add (Nat.mul_le_mul (by omega) (by omega)) (by omega))) (by decide)
 have hkv : (k + 1) * varsN g ≤ 4 * 18 := Nat.mul_le_mul (by omega) hvs
 have hPv := Prove_ok g hg 0 k 65536 (by omega) (by omega) (by omega) (by omega) (by omega) hpw
 have hP := fun u d j h => Played_ok 40 g.inn.length (by omega) (by omega) l b (ok _ (by omega) (by omega)) (by omega) u d j h
 have hrow := playedV_row l g.inn.length b 40
 have hlen := playedV_len l g.inn.length b 40
 generalize playedV l g.inn.length b 40 = PA at hP hrow hlen
 obtain ⟨tr, b2⟩ := PA
 simp only at hP hrow hlen
 refine ACalls.code Try.func8 rfl 64 rfl (by simp) [.tmp 4] rfl fun Q hQ => ?_
 simp only [ups, PV.up, argEnv]
 have ft := ai ty_3 (ai ty_4 (ai ty_9 (ai ty_22 (ai ty_23 (ai ty_25 (ai ty_26 (ai ty_31 (ai ty_33 (ai ty_36 (ai ty_60 (ai ty_62 (ai ty_64 trivial))))))))))))
 refine Run.seq ?_
 have fx := ai strs_len (ai wk ft)
 refine Run.go ?_
 refine End.kp [0, 1] ?_
 refine Run.seq ?_
 refine Run.go ?_
 refine End.kp [1, 5] ?_
 refine Run.seq ?_
 refine Run.ghost (.spares 1) ?_
 simp only [ASt.pushN, ASt.push, List.append_assoc, List.cons_append, List.nil_append]
 refine Run.region rfl fun K hK => GOps.sim ?_
 refine GOps.call rfl rfl rfl rfl (by kernel_rfl) (ACalls.sim ?_)
 refine (hR0 _ 0 0 rfl).mono fun v u hv => ?_
 obtain ⟨rfl, rfl⟩ := hv
 refine ⟨_, _, rfl, GOps.sim ?_⟩
 refine GOps.call rfl rfl rfl rfl (by kernel_rfl) (ACalls.sim ?_)
 refine (hR1 _ 0 0 rfl).mono fun v u hv => ?_
 obtain ⟨rfl, rfl⟩ := hv
 refine ⟨_, _, rfl, GOps.sim ?_⟩
 refine GOps.call rfl rfl rfl rfl (by kernel_rfl) (ACalls.sim ?_)
 refine (hN2 _ 0 0 rfl).mono fun v u hv => ?_
 obtain ⟨rfl, rfl⟩ := hv
 refine ⟨_, _, rfl, GOps.sim ?_⟩
 refine GOps.call rfl rfl rfl rfl (by kernel_rfl) (ACalls.sim ?_)
 refine (hG _ 0 0 rfl 1 rfl).mono fun v u hv => ?_
 obtain ⟨rfl, rfl⟩ := hv
 refine ⟨_, _, rfl, GOps.sim ?_⟩
 refine GOps.done (hK _ ?_); clear hK K
 refine End.move (Ghost.boxShut (j := 2) (i := 3) (r := 1) rfl rfl rfl hal) ?_
 simp only [List.set_cons_zero, List.set_cons_succ]
 refine End.kp [1, 5, 6] ?_
 refine Run.seq ?_
 have fx := ai strs_len (ai wk ft)
 refine Run.ghost (.spares 1) ?_
 simp only [ASt.pushN, ASt.push, List.append_assoc, List.cons_append, List.nil_append]
 refine Run.drawX [8, 0, 1, 2, 3, 4, 5, 6, 7, 9, 10] 5 fun K hK D hD => ?_
 refine DX.sim ?_
 refine DX.call (.i (below k0 3)) [] [] rfl rfl rfl rfl (by kernel_rfl) (by simp [Agree]) (fun u hu => hBel u) ?_
 refine DX.sim ?_
 refine DX.callC ((0, .bool false, .bool false, .bool false, .bool false) : Int × Im × Im × Im × Im) (fun x => .tup [.agg [.i x.1, .im x.2.1, .im x.2.2.1, .im x.2.2.2.1, .im x.2.2.2.2], .i 0]) (fun x => ProveR g 0 k x.1 x.2.1) [] [] rfl rfl rfl rfl rfl (by kernel_rfl) (by simp [Agree]) (fun u hu => (hPv u).mono fun v u' hv => by
  obtain ⟨rfl, ver, xb, xs, xt, xr, rfl, h⟩ := hv
  exact ⟨(ver, xb, xs, xt, xr), h, rfl, rfl⟩) fun x => ?_
 refine DOps.sim ?_
 refine DOps.nil ?_ fun hvB => ?_
 ·rw [← hD]; kernel_rfl
 refine hK _ ?_; clear hK K
 obtain ⟨ver, xb, xs, xt, xr⟩ := x
 simp only at hvB
 refine End.kp [5, 6, 7, 8] ?_
 refine Run.seq ?_
 have fx := ai strs_len (ai wk ft)
 refine Run.region rfl fun K hK => GOps.sim ?_
 refine GOps.call rfl rfl rfl rfl (by kernel_rfl) (ACalls.sim ?_)
 refine (hP _ 0 0 rfl).mono fun v u hv => ?_
 obtain ⟨rfl, rfl⟩ := hv
 refine ⟨_, _, rfl, GOps.sim ?_⟩
 refine GOps.done (hK _ ?_); clear hK K
 refine End.kp [6, 7, 8, 9] ?_
 refine Run.seq ?_
 refine Run.region rfl fun K hK => GOps.sim ?_
 refine GOps.call rfl rfl rfl rfl (by kernel_rfl) (ACalls.sim ?_)
 refine (Replay_ok g hg 0 (by omega) tr (by omega) hrow _).mono fun v u hv => ?_
 obtain ⟨rfl, at0, rfl, hat⟩ := hv
 refine ⟨_, _, rfl, GOps.sim ?_⟩
 refine GOps.done (hK _ ?_); clear hK K
 refine End.kp [7, 8, 10, 11] ?_
 refine Run.seq ?_
 refine Run.seq ?_
 refine Run.region rfl fun K hK => GOps.sim ?_
 refine GOps.call rfl rfl rfl rfl (by kernel_rfl) (ACalls.sim ?_)
 refine (induced_ok _).mono fun v u hv => ?_
 obtain ⟨rfl, rfl⟩ := hv
 refine ⟨_, _, rfl, GOps.sim ?_⟩
 refine GOps.done (hK _ ?_); clear hK K
 refine End.kp [7, 10, 51] ?_
 refine Run.cond _ rfl (fun hb => ?_) (fun hb => ?_)
 ·have hb2 := hb
  simp at hb
 ·have hb2 := hb
  refine Run.skip ?_
  refine End.kp [7, 10] ?_
  refine Run.seq ?_
  rcases Bool.eq_false_or_eq_true (ver == 1) with hs8 | hs8
  ·skip
   have hv1 : ver = 1 := eq_of_beq hs8
   have hat2 : at0 = -1 := by
    rcases hvB with ⟨h, _⟩ | ⟨h1, ⟨h, _⟩ | ⟨_, h2, _⟩⟩
    ·rw [h] at hv1; simp at hv1
    ·rw [h] at hv1; simp at hv1
    ·rcases hat with ⟨t, _, ht, hh, _⟩ | ⟨h, _⟩
     ·exact absurd (hit_reach hrow ht hh) (induction_ok hg h1 h2 (t + 1) (by omega))
     ·exact h
   subst hv1 hat2
   clear hs8
   have hs8 := True.intro
   have n0' := True.intro
   have n1' := True.intro
   have fx := ai n1' (ai n0' (ai hs8 (ai strs_len (ai wk ft))))
   refine Run.go ?_
   refine End.kp [4] ?_
   refine Run.ret (hQ _ _ ⟨.inr rfl, _, rfl, _, rfl, ?_⟩)
   exact ⟨rfl, rfl⟩
  ·skip
   have n1' : (ver != 1) = true := by simpa using hs8
   have n0' : (ver != 0) = true := by
    rcases hvB with ⟨h, _⟩ | ⟨_, ⟨h, _⟩ | ⟨h, _⟩⟩ <;> rw [h] <;> rfl
   have fx := ai n1' (ai n0' (ai hs8 (ai strs_len (ai wk ft))))
   refine Run.go ?_
   refine End.kp [4] ?_
   refine Run.ret (hQ _ _ ⟨.inr rfl, _, rfl, _, rfl, ?_⟩)
   exact ⟨rfl, rfl⟩

end Go.Proofs.YtkjfdacjjogpcaaPi
