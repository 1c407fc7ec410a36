/- Part 7 of the proof: the texts WBO, one behind the other. Each holds for every input that it names; no condition is hidden. -/
import Derived.Test.YtkjfdacjjogpcaaM6
import Derived.Test.YtkjfdacjjogpcaaPiChoice
import Derived.Test.YtkjfdacjjogpcaaM2
set_option linter.unusedVariables false
set_option linter.unusedSimpArgs false
set_option linter.unusedSectionVars false
namespace Go.Proofs.YtkjfdacjjogpcaaPi
set_option maxRecDepth 100000
set_option maxHeartbeats 40000000
def cntG : LGraph := ⟨[], [⟨#[111]⟩], [⟨⟨#[114]⟩, 3, false⟩], [], [2]⟩
theorem name_one (b : UInt8) (h : (33 : Nat) ≤ b.toNat ∧ b.toNat ≤ 126) : NameOk ⟨#[b]⟩ := ⟨by simp [ByteArray.size], by simp [ByteArray.size], fun x hx => by
 have : x = b := by simpa using hx
 subst this
 exact h⟩
theorem cntG_ok : GraphOk cntG := by
 refine ⟨⟨by decide, by decide, by decide, by decide, by decide⟩, fun s hs => ?_, by simp [cntG], fun s hs => ?_, by simp [cntG], rfl, fun i p hp => by simp [cntG] at hp, fun r hr => ?_, fun x hx => ?_⟩
 ·have : s = ⟨#[114]⟩ := by simpa [cntG] using hs
  subst this
  exact name_one 114 (by decide)
 ·have : s = ⟨#[111]⟩ := by simpa [cntG] using hs
  subst this
  exact name_one 111 (by decide)
 ·have : r = ⟨⟨#[114]⟩, 3, false⟩ := by simpa [cntG] using hr
  subst this
  decide
 ·have : x = 2 := by simpa [cntG] using hx
  subst this
  decide
theorem cntG_two : Reach cntG 0 2 := ⟨[[], []], rfl, by intro r hr; simp at hr; subst hr; rfl, by unfold hitB; decide⟩
theorem cntG_one : ¬ Reach cntG 0 1 := by
 rintro ⟨tr, h1, h2, h3⟩
 match tr, h1 with
 | [r], _ =>
  have : r = [] := List.eq_nil_of_length_eq_zero (h2 r (by simp))
  subst this
  exact absurd h3 (by unfold hitB; decide)
theorem counted_ok (up : Frs) : ACalls Try.prog 32 [] up fun v u => v = .im (.bool true) ∧ u = up := by
 have hfd := Find_ok cntG cntG_ok 0 2 9 (by decide) (by decide) (by decide) (by decide) (by decide) (by decide)
 refine ACalls.code Try.func32 rfl 27 rfl (by simp) [.tmp 0] rfl fun Q hQ => ?_
 simp only [ups, PV.up, argEnv]
 have ft := ai ty_2 (ai ty_3 (ai ty_4 (ai ty_9 (ai ty_26 (ai ty_27 (ai ty_29 (ai ty_31 (ai ty_33 (ai ty_36 (ai ty_55 (ai ty_57 (ai ty_60 (ai ty_62 (ai ty_77 trivial))))))))))))))
 refine Run.seq ?_
 have fx := ft
 refine Run.go ?_
 refine End.kp [] ?_
 refine Run.seq ?_
 refine Run.region rfl fun K hK => GOps.litF (rows := strs [⟨#[111]⟩]) ?_ rfl rfl (by simp only [litF, fx] <;> rfl)
 refine GOps.simK 1 ?_
 refine GOps.litF (rows := [LReg.im ⟨⟨#[114]⟩, 3, false⟩]) ?_ rfl rfl (by simp only [litF, fx] <;> rfl)
 refine GOps.litF (rows := ints [2]) ?_ rfl rfl (by simp only [litF, fx] <;> rfl)
 refine GOps.sim ?_
 refine GOps.done (hK _ ?_); clear hK K
 refine End.kp [1] ?_
 refine Run.seq ?_
 refine Run.ghost (Ghost.thawBox (j := 0) (i := 0) 9 1 (by decide) rfl rfl) ?_
 refine Run.ghost (Ghost.boxShut (j := 0) (i := 0) (r := 1) (m := 0) rfl rfl rfl rfl) ?_
 refine Run.ghost (Ghost.thawBox (j := 0) (i := 3) 59 2 (by decide) rfl rfl) ?_
 refine Run.ghost (Ghost.boxShut (j := 0) (i := 3) (r := 2) (m := 0) rfl rfl rfl rfl) ?_
 change Run _ _ _ _ _ (⟨_, [.box cntG.cells, .row 9 1 [] 0, .row 59 2 [] 0], up⟩ : ASt)
 have fx := ft
 refine Run.region rfl fun K hK => GOps.sim ?_
 refine GOps.call rfl rfl rfl rfl (by kernel_rfl) (ACalls.sim ?_)
 refine (hfd _).mono fun v u hv => ?_
 obtain ⟨rfl, ver, tr, ps, rfl, hv⟩ := hv
 obtain ⟨hv2, hv3⟩ : ver = 2 ∧ tr.length = 2 := by
  rcases hv with ⟨h1, _, h2⟩ | ⟨_, _, _, h2⟩
  ·refine ⟨h1, ?_⟩
   have h3 := h2.pos
   have h4 := h2.le
   by_cases e : tr.length = 1
   ·exact absurd ⟨tr, e, h2.rows, h2.hit⟩ cntG_one
   ·omega
  ·exact absurd cntG_two (h2 2 (by omega) (by omega))
 subst hv2
 refine ⟨_, _, rfl, GOps.sim ?_⟩
 refine GOps.done (hK _ ?_); clear hK K
 refine End.kp [2, 3] ?_
 refine Run.seq ?_
 have fx := ai hv3 (ai boolss_len ft)
 refine Run.go ?_
 refine End.kp [0] ?_
 refine Run.ret (hQ _ _ ⟨.inr rfl, _, rfl, _, rfl, ?_⟩)
 exact ⟨rfl, rfl⟩
abbrev FindR (g : LGraph) (k : Nat) (x : Int × List (List Bool) × List (List (List Int))) : Prop := (x.1 = 2 ∧ x.2.2 = [] ∧ FindHit g 0 k x.2.1) ∨ (x.1 = 3 ∧ x.2.1 = [] ∧ x.2.2.length = k ∧ ∀ j, 1 ≤ j → j ≤ k → ¬ Reach g 0 j)
theorem find_same {g : LGraph} {k k2 : Nat} (hk : k ≤ k2) {a b : Int × List (List Bool) × List (List (List Int))} (ha : FindR g k a) (hb : FindR g k2 b) :
  (a.1 = 2 ∧ b.1 = 2 ∧ a.2.1.length = b.2.1.length) ∨ (a.1 = 3 ∧ b.1 = 2 ∧ k < b.2.1.length) ∨ (a.1 = 3 ∧ b.1 = 3) := by
 rcases ha with ⟨a1, a2, a3⟩ | ⟨a1, a2, a3, a4⟩
 ·have ra : Reach g 0 a.2.1.length := ⟨_, rfl, a3.rows, a3.hit⟩
  rcases hb with ⟨b1, b2, b3⟩ | ⟨b1, b2, b3, b4⟩
  ·have rb : Reach g 0 b.2.1.length := ⟨_, rfl, b3.rows, b3.hit⟩
   refine .inl ⟨a1, b1, ?_⟩
   rcases Nat.lt_trichotomy a.2.1.length b.2.1.length with h | h | h
   ·exact absurd ra (b3.low _ a3.pos h)
   ·exact h
   ·exact absurd rb (a3.low _ b3.pos h)
  ·exact absurd ra (b4 _ a3.pos (Nat.le_trans a3.le hk))
 ·rcases hb with ⟨b1, b2, b3⟩ | ⟨b1, b2, b3, b4⟩
  ·refine .inr (.inl ⟨a1, b1, ?_⟩)
   rcases Nat.lt_or_ge k b.2.1.length with h | h
   ·exact h
   ·exact absurd ⟨_, rfl, b3.rows, b3.hit⟩ (a4 _ b3.pos h)
  ·exact .inr (.inr ⟨a1, b1⟩)
theorem hit_last {g : LGraph} {k : Nat} {tr : List (List Bool)} (h : FindHit g 0 k tr) {a : Int} (ha : (∃ t : Nat, a = t ∧ t < tr.length ∧ ((runB g (initG g) tr).getD t []).getD 0 false = true ∧ ∀ j, j < t → ((runB g (initG g) tr).getD j []).getD 0 false = false) ∨ a = -1 ∧ ∀ j, j < tr.length → ((runB g (initG g) tr).getD j []).getD 0 false = false) : a = (tr.length : Int) - 1 := by
 have hp := h.pos
 rcases ha with ⟨t, rfl, ht, hh, _⟩ | ⟨_, hno⟩
 ·by_cases e : t + 1 < tr.length
  ·exact absurd (hit_reach h.rows ht hh) (h.low _ (by omega) e)
  ·omega
 ·have := hno (tr.length - 1) (by omega)
  have h2 := h.hit
  unfold hitB at h2
  rw [this] at h2
  simp at h2
theorem BmcLonger_walk (l : List Int) (k0 m0 : Int) (hk0 : I64 k0) (hm0 : I64 m0) (hs : StmOk l 0) (up : Frs) : ACalls Try.prog 6 [.im (.sl (ints l)), .i k0, .i m0] up fun v u => v = .im (.bool true) ∧ u = up := by
 have ok : ∀ b : Int, 0 ≤ b → b ≤ 100000 → StmOk l b := fun b h1 h2 => ⟨hs.vals, hs.len, h1, by omega⟩
 obtain ⟨r1, s1⟩ := nextV_range l 0 (2 - 1 + 1) (by omega)
 obtain ⟨r2, s2⟩ := nextV_range l (0 + 1) (4 - 1 + 1) (by omega)
 obtain ⟨r3, s3⟩ := nextV_range l (0 + 1 + 1) 12 (by omega)
 obtain ⟨ins, e1⟩ : ∃ k : Nat, 1 + nextV l 0 (2 - 1 + 1) = k := ⟨(1 + nextV l 0 (2 - 1 + 1)).toNat, by omega⟩
 obtain ⟨regs, e2⟩ : ∃ k : Nat, 1 + nextV l (0 + 1) (4 - 1 + 1) = k := ⟨(1 + nextV l (0 + 1) (4 - 1 + 1)).toNat, by omega⟩
 obtain ⟨ands, e3⟩ : ∃ k : Nat, nextV l (0 + 1 + 1) 12 = k := ⟨(nextV l (0 + 1 + 1) 12).toNat, by omega⟩
 have hR0 := fun u d j h => Range_ok 1 2 (by omega) (by omega) (by omega) l 0 hs (by omega) u d j h
 have hR1 := fun u d j h => Range_ok 1 4 (by omega) (by omega) (by omega) l (0 + 1) (ok _ (by omega) (by omega)) (by omega) u d j h
 have hN2 := fun u d j h => Next_ok l (0 + 1 + 1) 12 (ok _ (by omega) (by omega)) ⟨by omega, by omega⟩ u d j h
 have hG := fun u d j h k hk => Graph_ok ins regs ands 1 (by omega) (by omega) (by omega) (by omega) l (0 + 1 + 1 + 1) (ok _ (by omega) (by omega)) (by omega) u d j h k hk
 rw [e1] at hR0
 rw [e2] at hR1
 rw [e3] at hN2
 obtain ⟨p1, p2, p3, p4, p5, p6, p7⟩ := graphV_pos l (0 + 1 + 1 + 1) ins regs ands 1
 have hgo := drawnG_ok l (0 + 1 + 1 + 1) ins regs ands 1 (by omega) (by omega) (by omega)
 generalize graphV l (0 + 1 + 1 + 1) ins regs ands 1 = G at hG p1 p2 p3 p4 p5 p6 p7 hgo
 obtain ⟨g, b⟩ := G
 simp only at hG p1 p2 p3 p4 p5 p6 p7 hgo
 have hg := hgo
 obtain ⟨z1, z2, z3, z4, z5⟩ := hg.small
 have hal : (g.ands.map nd).length = ands := by rw [List.length_map, p6]
 obtain ⟨kb0, kb1⟩ := below_range k0 4 (by omega)
 have hBel := Below_ok k0 4 hk0 ⟨by omega, by omega⟩
 obtain ⟨k, hk⟩ : ∃ k : Nat, below k0 4 + 1 = (k : Int) := ⟨(below k0 4 + 1).toNat, by omega⟩
 have wk : IntKind.i64.wrap (below k0 4 + 1) = (k : Int) := by rw [wrap64 (by omega), hk]
 obtain ⟨mb0, mb1⟩ := below_range m0 3 (by omega)
 have hBelM := Below_ok m0 3 hm0 ⟨by omega, by omega⟩
 obtain ⟨k2, hk2⟩ : ∃ k2 : Nat, (k : Int) + below m0 3 = (k2 : Int) := ⟨((k : Int) + below m0 3).toNat, by omega⟩
 have wk2 : IntKind.i64.wrap ((k : Int) + below m0 3) = (k2 : Int) := by rw [wrap64 (by omega), hk2]
 have hvs : varsN g ≤ 18 := by unfold varsN; omega
 have hpw : ∀ q, q ≤ 6 → 2 ^ (g.inn.length * q) ≤ 65536 := fun q hq => Nat.le_trans (Nat.pow_le_pow_right (by decide) (show g.inn.length * q ≤ 2 * 6 from Nat.mul_le_mul (by omega) hq)) (by decide)
 have hkv : k * varsN g ≤ 6 * 18 := Nat.mul_le_mul (by omega) hvs
 have hkv2 : k2 * varsN g ≤ 6 * 18 := Nat.mul_le_mul (by omega) hvs
 have hFA := Find_ok g hg 0 k 65536 (by omega) (by omega) (by omega) (by omega) (by omega) (hpw k (by omega))
 have hFB := Find_ok g hg 0 k2 65536 (by omega) (by omega) (by omega) (by omega) (by omega) (hpw k2 (by omega))
 refine ACalls.code Try.func6 rfl 103 rfl (by simp) [.tmp 6] rfl fun Q hQ => ?_
 simp only [ups, PV.up, argEnv]
 have ft := ai ty_3 (ai ty_4 (ai ty_22 (ai ty_23 (ai ty_25 (ai ty_31 (ai ty_33 (ai ty_36 (ai ty_60 (ai ty_62 (ai ty_77 trivial))))))))))
 refine Run.seq ?_
 have fx := ai wk2 (ai wk ft)
 refine Run.go ?_
 refine End.kp [0, 1, 2] ?_
 refine Run.seq ?_
 refine Run.go ?_
 refine End.kp [1, 2, 7] ?_
 refine Run.seq ?_
 refine Run.ghost (.spares 1) ?_
 simp only [ASt.pushN, ASt.push, List.append_assoc, List.cons_append, List.nil_append]
 refine Run.region rfl fun K hK => GOps.sim ?_
 refine GOps.call rfl rfl rfl rfl (by kernel_rfl) (ACalls.sim ?_)
 refine (hR0 _ 0 0 rfl).mono fun v u hv => ?_
 obtain ⟨rfl, rfl⟩ := hv
 refine ⟨_, _, rfl, GOps.sim ?_⟩
 refine GOps.call rfl rfl rfl rfl (by kernel_rfl) (ACalls.sim ?_)
 refine (hR1 _ 0 0 rfl).mono fun v u hv => ?_
 obtain ⟨rfl, rfl⟩ := hv
 refine ⟨_, _, rfl, GOps.sim ?_⟩
 refine GOps.call rfl rfl rfl rfl (by kernel_rfl) (ACalls.sim ?_)
 refine (hN2 _ 0 0 rfl).mono fun v u hv => ?_
 obtain ⟨rfl, rfl⟩ := hv
 refine ⟨_, _, rfl, GOps.sim ?_⟩
 refine GOps.call rfl rfl rfl rfl (by kernel_rfl) (ACalls.sim ?_)
 refine (hG _ 0 0 rfl 1 rfl).mono fun v u hv => ?_
 obtain ⟨rfl, rfl⟩ := hv
 refine ⟨_, _, rfl, GOps.sim ?_⟩
 refine GOps.done (hK _ ?_); clear hK K
 refine End.move (Ghost.boxShut (j := 2) (i := 3) (r := 1) rfl rfl rfl hal) ?_
 simp only [List.set_cons_zero, List.set_cons_succ]
 refine End.kp [1, 2, 8] ?_
 refine Run.seq ?_
 have fx := ai wk2 (ai wk ft)
 refine Run.region rfl fun K hK => GOps.sim ?_
 refine GOps.call rfl rfl rfl rfl (by kernel_rfl) (ACalls.sim ?_)
 refine (hBel _).mono fun v u hv => ?_
 obtain ⟨rfl, rfl⟩ := hv
 refine ⟨_, _, rfl, GOps.sim ?_⟩
 refine GOps.done (hK _ ?_); clear hK K
 refine End.kp [1, 2, 8] ?_
 refine Run.seq ?_
 refine Run.region rfl fun K hK => GOps.sim ?_
 refine GOps.call rfl rfl rfl rfl (by kernel_rfl) (ACalls.sim ?_)
 refine (hFA _).mono fun v u hv => ?_
 obtain ⟨rfl, verA, trA, psA, rfl, hvA⟩ := hv
 refine ⟨_, _, rfl, GOps.sim ?_⟩
 refine GOps.done (hK _ ?_); clear hK K
 refine End.kp [1, 2, 8, 9, 10] ?_
 refine Run.seq ?_
 refine Run.ghost (.spares 1) ?_
 simp only [ASt.pushN, ASt.push, List.append_assoc, List.cons_append, List.nil_append]
 refine Run.drawX [9, 0, 1, 2, 3, 4, 5, 6, 7, 8, 10, 11] 6 fun K hK D hD => ?_
 refine DX.sim ?_
 refine DX.call (.i (below m0 3)) [] [] rfl rfl rfl rfl (by kernel_rfl) (by simp [Agree]) (fun u hu => hBelM u) ?_
 refine DX.sim ?_
 refine DX.callC ((0, [], []) : Int × List (List Bool) × List (List (List Int))) (fun x => .tup [.agg [.i x.1, .im (.sl (boolss x.2.1)), .im (.sl (prfs x.2.2))], .i 0]) (FindR g k2) [] [] rfl rfl rfl rfl rfl (by kernel_rfl) (by simp [Agree]) (fun u hu => (hFB u).mono fun v u' hv => by
  obtain ⟨rfl, ver, tr, ps, rfl, h⟩ := hv
  exact ⟨(ver, tr, ps), h, rfl, rfl⟩) fun x => ?_
 refine DOps.sim ?_
 refine DOps.nil ?_ fun hvB => ?_
 ·rw [← hD]; kernel_rfl
 refine hK _ ?_; clear hK K
 obtain ⟨verB, trB, psB⟩ := x
 have hsm := find_same (a := (verA, trA, psA)) (b := (verB, trB, psB)) (by omega) hvA hvB
 simp only at hsm
 refine End.kp [1, 8, 9, 10, 11, 12] ?_
 refine Run.seq ?_
 refine Run.seq ?_
 have fx := ai wk2 (ai wk ft)
 refine Run.region rfl fun K hK => GOps.sim ?_
 refine GOps.call rfl rfl rfl rfl (by kernel_rfl) (ACalls.sim ?_)
 refine (counted_ok _).mono fun v u hv => ?_
 obtain ⟨rfl, rfl⟩ := hv
 refine ⟨_, _, rfl, GOps.sim ?_⟩
 refine GOps.done (hK _ ?_); clear hK K
 refine End.kp [1, 8, 9, 11, 53] ?_
 refine Run.cond _ rfl (fun hb => ?_) (fun hb => ?_)
 ·have hb2 := hb
  simp at hb
 ·have hb2 := hb
  refine Run.skip ?_
  refine End.kp [1, 8, 9, 11] ?_
  refine Run.seq ?_
  refine Run.seq ?_
  have fx := ai wk2 (ai wk ft)
  refine Run.go ?_
  refine End.kp [1, 8, 9, 11, 56] ?_
  refine Run.cond _ rfl (fun hb => ?_) (fun hb => ?_)
  ·have hA : verA = 3 ∧ ((verB = 2 ∧ k < trB.length) ∨ verB = 3) := by
    rcases hsm with ⟨h1, _⟩ | ⟨h1, h2, h3⟩ | ⟨h1, h2⟩
    ·rw [h1] at hb; simp at hb
    ·exact ⟨h1, .inl ⟨h2, h3⟩⟩
    ·exact ⟨h1, .inr h2⟩
   obtain ⟨hA, hB⟩ := hA
   subst hA
   refine Run.seq ?_
   rcases Bool.eq_false_or_eq_true (verB == 2) with hs9 | hs9
   ·skip
    have hB2 : verB = 2 := eq_of_beq hs9
    subst hB2
    have hkl : decide ((k : Int) < (trB.length : Int)) = true := by
     rcases hB with ⟨_, h⟩ | h
     ·exact decide_eq_true (by omega)
     ·exact absurd h (by decide)
    clear hs9
    have hs9 := True.intro
    have fx := ai hkl (ai hs9 (ai (@gt_iff_lt Int _) (ai boolss_len (ai wk2 (ai wk ft)))))
    refine Run.go ?_
    refine End.kp [6] ?_
    refine Run.ret (hQ _ _ ⟨.inr rfl, _, rfl, _, rfl, ?_⟩)
    exact ⟨rfl, rfl⟩
   ·skip
    have hB2 : verB = 3 := by
     rcases hB with ⟨h, _⟩ | h
     ·rw [h] at hs9; simp at hs9
     ·exact h
    subst hB2
    have hkl := True.intro
    clear hs9
    have hs9 := True.intro
    have fx := ai hkl (ai hs9 (ai (@gt_iff_lt Int _) (ai boolss_len (ai wk2 (ai wk ft)))))
    refine Run.go ?_
    refine End.kp [6] ?_
    refine Run.ret (hQ _ _ ⟨.inr rfl, _, rfl, _, rfl, ?_⟩)
    exact ⟨rfl, rfl⟩
  ·have hA : verA = 2 ∧ verB = 2 ∧ trA.length = trB.length ∧ FindHit g 0 k trA := by
    rcases hsm with ⟨h1, h2, h3⟩ | ⟨h1, _⟩ | ⟨h1, _⟩
    ·rcases hvA with ⟨_, _, h4⟩ | ⟨h4, _⟩
     ·exact ⟨h1, h2, h3, h4⟩
     ·rw [h4] at h1; simp at h1
    ·rw [h1] at hb; simp at hb
    ·rw [h1] at hb; simp at hb
   obtain ⟨hA, hB, hAB, hH⟩ := hA
   subst hA hB
   have hlk := hH.le
   have wl : IntKind.i64.wrap ((trA.length : Int) - 1) = (trA.length : Int) - 1 := wrap64 (by omega)
   have hll : ((trA.length : Int) == (trB.length : Int)) = true := by rw [hAB]; simp
   have hl1 : ((trA.length : Int) - 1 == (trA.length : Int) - 1) = true := by simp
   refine Run.skip ?_
   refine End.kp [8, 9, 11] ?_
   refine Run.seq ?_
   have fx := ai hl1 (ai hll (ai wl (ai boolss_len fx)))
   refine Run.region rfl fun K hK => GOps.sim ?_
   refine GOps.call rfl rfl rfl rfl (by kernel_rfl) (ACalls.sim ?_)
   refine (Replay_ok g hg 0 (by omega) trA (by omega) hH.rows _).mono fun v u hv => ?_
   obtain ⟨rfl, at0, rfl, hat⟩ := hv
   have hat2 := hit_last hH hat
   subst hat2
   refine ⟨_, _, rfl, GOps.sim ?_⟩
   refine GOps.done (hK _ ?_); clear hK K
   refine End.kp [9, 11, 13, 14] ?_
   refine Run.seq ?_
   refine Run.go ?_
   refine End.kp [6] ?_
   refine Run.ret (hQ _ _ ⟨.inr rfl, _, rfl, _, rfl, ?_⟩)
   exact ⟨rfl, rfl⟩

end Go.Proofs.YtkjfdacjjogpcaaPi
