/- Part 6 of the proof: the texts WSV, WSW, WSX, WVA, WVB, WGM, WVE, WVC, one behind the other. Each holds for every input that it names; no condition is hidden. -/
import Derived.Test.YtkjfdacjjogpcaaM5
import Derived.Test.YtkjfdacjjogpcaaPiSim
import Derived.Test.YtkjfdacjjogpcaaM2
import Derived.Test.YtkjfdacjjogpcaaM3
import Derived.Test.YtkjfdacjjogpcaaPiLit
import Derived.Test.YtkjfdacjjogpcaaPiGrowB
import Derived.Test.YtkjfdacjjogpcaaM1
/- The walk of Solve, for clauses that some model fulfils. -/
set_option linter.unusedVariables false
set_option linter.unusedSimpArgs false
set_option maxRecDepth 100000
namespace Go.Proofs.YtkjfdacjjogpcaaPi
set_option maxHeartbeats 40000000
def FndM (n : Nat) (cs : List (List Int)) (m : List Bool) : Prop := m.length = n ∧ ∀ c ∈ cs, HoldsC (fun v => m.getD (v - 1) false) c
theorem pot_pos (S : Sol) : 1 ≤ S.pot := by
 unfold Sol.pot
 have := Nat.one_le_two_pow (n := S.n - S.tr.length)
 omega
def Is (M : Nat → Bool) : (Nat → Bool) → Prop := fun M' => M' = M
theorem is_all {M : Nat → Bool} {Q : (Nat → Bool) → Prop} (h : Q M) : ∀ M', Is M M' → Q M' := fun M' e => by
 have e2 : M' = M := e
 rw [e2]
 exact h
theorem load_is {M : Nat → Bool} (cs : List (List Int)) {S : Sol} {B : Nat} (h : Ld (Is M) S B) (h1 : ∀ c ∈ cs, 0 < c.length ∧ c.length ≤ 12 ∧ ∀ l ∈ c, LitOk S.n l) (h2 : ∀ c ∈ cs, HoldsC M c) (h3 : S.cl.length + cs.length ≤ 1000000) :
  (Sol.load cs S).2 = true ∧ (∃ B', Ld (Is M) (Sol.load cs S).1 B') ∧ (∀ c ∈ cs, Cov (Sol.load cs S).1 c) ∧ (∀ e, Cov S e → Cov (Sol.load cs S).1 e) ∧ (Sol.load cs S).1.n = S.n := by
 rcases Ld.load cs h h1 (is_all h2) h3 with h | ⟨_, h⟩
 ·exact h
 ·exact absurd rfl (h M)
theorem runP_ok (M : Nat → Bool) (cs : List (List Int)) (n limit : Nat) (hn : n ≤ 20000) (hcs : ClsIn n cs) (hm : ∀ c ∈ cs, HoldsC M c) (hlim : limit ≤ 65536) (h2 : 2 ^ n ≤ limit) (up : Frs) :
  ACalls Try.prog 46 [.im (.sl (clss cs)), .i (n : Nat), .i (limit : Nat), .im (.bool true)] up fun v u => u = up ∧ ∃ (m : List Bool) (q : Nat), v = .agg [.im (.bool true), .im (.bool true), .im (.sl (bools m)), .im (.sl []), .i (q : Nat)] ∧ q ≤ limit ∧ FndM n cs m := by
 have hcl := hcs.len
 obtain ⟨ld1, ⟨B2, ld2⟩, ld3, ld4, ld5⟩ := load_is cs ⟨new_base (Is M) hn, rfl, rfl⟩ hcs.cls hm (by show 0 + cs.length ≤ 1000000; omega)
 refine (run_ok (Is M) (fun S q => S.n = n ∧ q + S.pot ≤ 2 ^ n) cs n limit true hn hcs (is_all hm) hlim (fun _ => ⟨ld5, ?_⟩) (fun S S' q hE hI => ⟨hE.n.trans hI.1, by have := hE.pot; have := hI.2; omega⟩) (fun S B q hB hSn hh hc hI hd => ?_) (fun S B k c d q hBd hSn hI hq hL hp => ?_) up).mono fun v u hv => ?_
 ·unfold Sol.pot
  rw [ld2.st]
  have := Nat.pow_le_pow_right (n := 2) (by decide) (show (Sol.load cs (Sol.new n)).1.n - (Sol.load cs (Sol.new n)).1.tr.length ≤ n by rw [ld5]; exact Nat.sub_le _ _)
  simp only [List.map_nil, List.sum_nil]
  omega
 ·obtain ⟨g1, g2, g3, _⟩ := (hB.decide hh).2 hd
  exact ⟨g3.trans hSn, by rw [g2]; exact hI.2⟩
 ·obtain ⟨hp1, hp2⟩ := hp rfl
  have hps := hBd.pos (M := M) rfl
  have hst := hBd.sw.len.stn
  have hne : c.length ≤ 100000 := by
   rw [hp1, refuted_len]; have := hBd.sw.len.n; omega
  by_cases hz : S.cl.length + 1 ≤ 1000000
  ·by_cases hM : HoldsC M c
   ·obtain ⟨hbk, _, _, _, _, hn2, _⟩ := hBd.heed hL (is_all hM) hne hz
    have := back_pot (c := c) (d := d) (by omega) hbk
    exact ⟨hn2.trans hSn, by have := hI.2; omega⟩
   ·exact absurd (by rw [hp1]; exact refuted_holds hBd.sw hBd.con (hBd.snd M rfl) hBd.hst) hM
  ·have hb := hBd.sw.csz
   have hbk : Bk S d (S.back d) := (back_calm hBd.sw hBd.con.inv hBd.con.wat hBd.con.pro hBd.hst hBd.hsh hL.dl).2
   have := back_pot (c := c) (d := d) (by omega) hbk
   have f5 : ((S.back d).heed c).n = (S.back d).n := by unfold Sol.heed; split <;> rfl
   exact ⟨f5.trans (hbk.n.trans hSn), by have := hI.2; omega⟩
 ·obtain ⟨rfl, d, f, m, pr, q, h1, h3, h4, h5⟩ := hv
  cases f with
  | true =>
   obtain ⟨rfl, rfl, h6⟩ := h4 rfl
   exact ⟨rfl, m, q, h1, h3, h6⟩
  | false =>
   obtain ⟨_, h6, h7⟩ := h5 rfl
   cases d with
   | true => exact absurd rfl (h6 rfl M)
   | false =>
    obtain ⟨_, S, B, k, hB, hSn, hI⟩ := h7 rfl
    have := pot_pos S
    have := hI.2
    omega
theorem runL_ok (M : Nat → Bool) (cs : List (List Int)) (n limit : Nat) (hn : n ≤ 20000) (hcs : ClsIn n cs) (hm : ∀ c ∈ cs, HoldsC M c) (hlim : limit ≤ 65536) (up : Frs) :
  ACalls Try.prog 46 [.im (.sl (clss cs)), .i (n : Nat), .i (limit : Nat), .im (.bool false)] up fun v u => u = up ∧ ∃ (d : Bool) (m : List Bool) (q : Nat), v = .agg [.im (.bool d), .im (.bool d), .im (.sl (bools m)), .im (.sl []), .i (q : Nat)] ∧ q ≤ limit ∧ (d = true → FndM n cs m) :=
 (run_ok (Is M) (fun _ _ => True) cs n limit false hn hcs (is_all hm) hlim (fun _ => trivial) (fun _ _ _ _ _ => trivial) (fun _ _ _ _ _ _ _ _ _ => trivial) (fun _ _ _ _ _ _ _ _ _ _ _ _ => trivial) up).mono fun v u hv => by
  obtain ⟨rfl, d, f, m, pr, q, h1, h3, h4, h5⟩ := hv
  cases f with
  | true =>
   obtain ⟨rfl, rfl, h6⟩ := h4 rfl
   exact ⟨rfl, true, m, q, h1, h3, fun _ => h6⟩
  | false =>
   obtain ⟨rfl, h6, h7⟩ := h5 rfl
   cases d with
   | true => exact absurd rfl (h6 rfl M)
   | false =>
    obtain ⟨rfl, _⟩ := h7 rfl
    exact ⟨rfl, false, [], q, h1, h3, fun h => by simp at h⟩
theorem ClsIn.ok {n : Nat} {cs : List (List Int)} (hn : n ≤ 20000) (h : ClsIn n cs) : ClsOk n cs := ⟨hn, h.len, fun c hc => ⟨by have := (h.cls c hc).2.1; omega, (h.cls c hc).2.2⟩⟩
theorem solve_ok (M : Nat → Bool) (cs : List (List Int)) (n limit : Nat) (hn : n ≤ 20000) (hcs : ClsIn n cs) (hm : ∀ c ∈ cs, HoldsC M c) (hlim : limit ≤ 65536) (h2 : 2 ^ n ≤ limit) (up : Frs) :
  ACalls Try.prog 16 [.im (.sl (clss cs)), .i (n : Nat), .i (limit : Nat)] up fun v u => u = up ∧ ∃ (m : List Bool) (q : Nat), v = .tup [.agg [.im (.bool true), .im (.bool true), .im (.sl (bools m)), .im (.sl []), .i (q : Nat)], .i 0] ∧ FndM n cs m := by
 have d1 : decide ((limit : Int) < 0) = false := decide_eq_false (by omega)
 have d2 : decide ((65536 : Int) < (limit : Int)) = false := decide_eq_false (by omega)
 refine ACalls.code Try.func16 rfl 44 rfl (by simp) [.cell 6 46, .tmp 7] rfl fun Q hQ => ?_
 simp only [ups, PV.up, argEnv]
 have ft := ai ty_3 (ai ty_4 (ai ty_22 (ai ty_35 (ai ty_36 (ai ty_46 trivial)))))
 refine Run.seq ?_
 have fx := ai d2 (ai d1 ft)
 refine Run.go ?_
 refine End.kp [0, 1, 2, 6] ?_
 refine Run.seq ?_
 refine Run.seq ?_
 refine Run.region rfl fun K hK => GOps.sim ?_
 refine GOps.call rfl rfl rfl rfl (by kernel_rfl) (ACalls.sim ?_)
 refine (satCheck_ok n cs (hcs.ok hn) _).mono fun v u hv => ?_
 obtain ⟨rfl, rfl⟩ := hv
 refine ⟨_, _, rfl, GOps.sim ?_⟩
 refine GOps.done (hK _ ?_); clear hK K
 refine End.kp [0, 1, 2, 6, 8] ?_
 refine Run.seq ?_
 refine Run.go ?_
 refine End.kp [0, 1, 2, 6, 8, 15] ?_
 refine Run.cond _ rfl (fun hb => ?_) (fun hb => ?_)
 ·have hb2 := hb
  simp at hb
 ·have hb2 := hb
  refine Run.skip ?_
  refine End.kp [0, 1, 2, 6] ?_
  refine Run.seq ?_
  refine Run.seq ?_
  have fx := ai d2 (ai d1 ft)
  refine Run.go ?_
  refine End.kp [0, 1, 2, 6, 23] ?_
  refine Run.cond _ rfl (fun hb => ?_) (fun hb => ?_)
  ·have hb3 := hb
   simp at hb
  ·have hb3 := hb
   refine Run.skip ?_
   refine End.kp [0, 1, 2, 6] ?_
   refine Run.seq ?_
   have fx := ai d2 (ai d1 ft)
   refine Run.region rfl fun K hK => GOps.sim ?_
   refine GOps.call rfl rfl rfl rfl (by kernel_rfl) (ACalls.sim ?_)
   refine (runL_ok M cs n limit hn hcs hm hlim _).mono fun v u hv => ?_
   obtain ⟨rfl, d, m, q, rfl, hq, hd1⟩ := hv
   refine ⟨_, _, rfl, GOps.sim ?_⟩
   refine GOps.done (hK _ ?_); clear hK K
   refine End.kp [0, 1, 2, 6, 9] ?_
   refine Run.seq ?_
   refine Run.seq ?_
   refine Run.go ?_
   refine End.kp [0, 1, 2, 6, 9, 31] ?_
   refine Run.cond _ rfl (fun hb => ?_) (fun hb => ?_)
   ·have hd : d = false := by simpa using hb
    refine Run.seq ?_
    have fx := ai d2 (ai d1 ft)
    refine Run.go ?_
    refine End.kp [0, 1, 2, 6, 9, 10] ?_
    refine Run.seq ?_
    refine Run.region rfl fun K hK => GOps.sim ?_
    refine GOps.call rfl rfl rfl rfl (by kernel_rfl) (ACalls.sim ?_)
    refine (runP_ok M cs n limit hn hcs hm hlim h2 _).mono fun v u hv => ?_
    obtain ⟨rfl, m2, q2, rfl, hq2, hf2⟩ := hv
    have wq : IntKind.i64.wrap ((q2 : Int) + (q : Int)) = ((q2 + q : Nat) : Int) := by rw [wrap64 (by omega)]; rfl
    have fx := ai d2 (ai d1 ft)
    refine ⟨_, _, rfl, GOps.sim ?_⟩
    refine GOps.done (hK _ ?_); clear hK K
    refine End.kp [6, 9, 10] ?_
    have fx := ai wq (ai d2 (ai d1 ft))
    refine Run.go ?_
    refine End.kp [6, 9] ?_
    refine Run.seq ?_
    refine Run.go ?_
    refine End.kp [6, 7] ?_
    refine Run.resC hQ ?_
    exact ⟨rfl, m2, q2 + q, rfl, hf2⟩
   ·have hd : d = true := by simpa using hb
    refine Run.skip ?_
    refine End.kp [6, 9] ?_
    refine Run.seq ?_
    have fx := ai d2 (ai d1 ft)
    refine Run.go ?_
    refine End.kp [6, 7] ?_
    refine Run.resC hQ ?_
    subst hd; exact ⟨rfl, m, q, rfl, hd1 rfl⟩
end Go.Proofs.YtkjfdacjjogpcaaPi

/- The walk of Holds, for models that fulfil the clauses; solved. -/
set_option linter.unusedVariables false
set_option linter.unusedSimpArgs false
set_option maxRecDepth 100000
namespace Go.Proofs.YtkjfdacjjogpcaaPi
set_option maxHeartbeats 40000000
end Go.Proofs.YtkjfdacjjogpcaaPi

/- The walk of solved. -/
set_option linter.unusedVariables false
set_option linter.unusedSimpArgs false
set_option maxRecDepth 100000
namespace Go.Proofs.YtkjfdacjjogpcaaPi
set_option maxHeartbeats 40000000
abbrev smallC : List (List Int) := [[-1, 2], [1]]
theorem small_in : ClsIn 2 smallC := ⟨by decide, fun c hc => by
 rcases List.mem_cons.1 hc with rfl | hc
 ·exact ⟨by decide, by decide, fun l hl => by
   rcases List.mem_cons.1 hl with rfl | hl
   ·exact ⟨by decide, by decide⟩
   ·rw [List.mem_singleton.1 hl]; exact ⟨by decide, by decide⟩⟩
 ·rw [List.mem_singleton.1 hc]
  exact ⟨by decide, by decide, fun l hl => by rw [List.mem_singleton.1 hl]; exact ⟨by decide, by decide⟩⟩⟩
theorem small_hold : ∀ c ∈ smallC, HoldsC (fun _ => true) c := fun c hc => by
 rcases List.mem_cons.1 hc with rfl | hc
 ·exact ⟨2, by simp, by unfold hl; decide⟩
 ·rw [List.mem_singleton.1 hc]
  exact ⟨1, by simp, by unfold hl; decide⟩
theorem small_model {m : List Bool} (h : FndM 2 smallC m) : m = [true, true] := by
 obtain ⟨h1, h2⟩ := h
 match m, h1 with
 | [a, b], _ =>
  have k1 := h2 [1] (by simp)
  have k2 := h2 [-1, 2] (by simp)
  obtain ⟨l, m1, m2⟩ := k1
  rw [List.mem_singleton.1 m1] at m2
  have ha : a = true := by simpa [hl] using m2
  subst ha
  obtain ⟨l, m1, m2⟩ := k2
  rcases List.mem_cons.1 m1 with rfl | m1
  ·simp [hl] at m2
  ·rw [List.mem_singleton.1 m1] at m2
   have hb : b = true := by simpa [hl] using m2
   rw [hb]
theorem IndexE_ok (up : Frs) (d j : Nat) : ACalls Try.prog 97 [.im (.sl []), .fn 80 [.ptr d j 0]] up fun r u => r = .i (-1) ∧ u = up := by
 refine ACalls.code Try.func97 rfl 19 rfl (by simp) [.tmp 4] rfl fun Q hQ => ?_
 simp only [ups, PV.up, argEnv]
 have ft := ai ty_3 (ai ty_4 (ai ty_22 trivial))
 refine Run.seq ?_
 have fx := ai (@List.length_nil.{0}) ft
 refine Run.go ?_
 refine End.kp [0, 1] ?_
 refine Run.seq ?_
 refine Run.seq ?_
 refine Run.go ?_
 refine End.kp [0, 1, 7, 8] ?_
 refine Run.block ?_
 refine Run.ghost (Ghost.form [(0, .im (.sl ([] : List (List Im)))), (1, .fn 80 [.ptr (d + 1) j 0]), (7, .i 0), (8, .i 0)] 0 ⟨rfl, rfl, rfl, rfl, trivial⟩ rfl (by simp only [ASt.push, List.nil_append, List.cons_append, List.take_succ_cons, List.take_zero, List.all_cons, List.all_nil, AObj.under, i64s_set, unders_append, unders_ims, unders, PV.under, Bool.and_true, Bool.and_self])) ?_
 refine Run.loop (fun q s => s = ⟨[(0, .im (.sl ([] : List (List Im)))), (1, .fn 80 [.ptr (d + 1) j 0]), (7, .i 0), (8, .i 0)], [], up⟩) 0 rfl fun q s hI => ?_
 subst hI
 refine Run.seq ?_
 have fx := ai (@List.length_nil.{0}) ft
 refine Run.go ?_
 refine End.kp [0, 1, 7, 8, 9] ?_
 refine Run.seq ?_
 refine Run.cond _ rfl (fun hb => ?_) (fun hb => ?_)
 ·have hb2 := hb
  simp at hb
 ·have hb2 := hb
  refine Run.exit rfl ?_
  refine End.kp [] ?_
  refine Run.seq ?_
  have fx := ai (@List.length_nil.{0}) ft
  refine Run.go ?_
  refine End.kp [4] ?_
  refine Run.ret (hQ _ _ ⟨.inr rfl, _, rfl, _, rfl, ?_⟩)
  exact ⟨rfl, rfl⟩
theorem ContainsE_ok (up : Frs) (d j : Nat) : ACalls Try.prog 81 [.im (.sl []), .fn 80 [.ptr d j 0]] up fun r u => r = .im (.bool false) ∧ u = up := by
 refine ACalls.code Try.func81 rfl 9 rfl (by simp) [.tmp 4] rfl fun Q hQ => ?_
 simp only [ups, PV.up, argEnv]
 have ft := ai ty_3 (ai ty_4 (ai ty_22 trivial))
 refine Run.seq ?_
 have fx := ai (@ge_iff_le Int _) ft
 refine Run.go ?_
 refine End.kp [0, 1] ?_
 refine Run.seq ?_
 refine Run.region rfl fun K hK => GOps.sim ?_
 refine GOps.call rfl rfl rfl rfl (by kernel_rfl) (ACalls.sim ?_)
 refine (IndexE_ok _ (d + 1) j).mono fun v u hv => ?_
 obtain ⟨rfl, rfl⟩ := hv
 refine ⟨_, _, rfl, GOps.sim ?_⟩
 refine GOps.done (hK _ ?_); clear hK K
 refine End.kp [4] ?_
 refine Run.ret (hQ _ _ ⟨.inr rfl, _, rfl, _, rfl, ?_⟩)
 exact ⟨rfl, rfl⟩
theorem holdsE_ok (up : Frs) : ACalls Try.prog 48 [.im (.sl [[.sl []]]), .im (.sl [])] up fun r u => r = .im (.bool false) ∧ u = up := by
 refine ACalls.code Try.func48 rfl 20 rfl (by simp) [.tmp 4] rfl fun Q hQ => ?_
 simp only [ups, PV.up, argEnv]
 have ft := ai ty_3 (ai ty_4 (ai ty_22 (ai ty_33 (ai ty_35 trivial))))
 refine Run.seq ?_
 have fx := ai (@List.length_nil.{0}) (ai (@List.length_cons.{0}) ft)
 refine Run.go ?_
 refine End.kp [0, 3] ?_
 refine Run.seq ?_
 refine Run.go ?_
 refine End.kp [0, 5] ?_
 refine Run.seq ?_
 refine Run.seq ?_
 refine Run.go ?_
 refine End.kp [5, 9, 10, 11] ?_
 refine Run.block ?_
 refine Run.ghost (Ghost.form [(5, .fn 80 [.ptr 0 0 0]), (9, .im (.sl [[.sl []]])), (10, .i 1), (11, .i 0)] 1 ⟨rfl, rfl, rfl, rfl, trivial⟩ rfl (by simp only [ASt.push, List.nil_append, List.cons_append, List.take_succ_cons, List.take_zero, List.all_cons, List.all_nil, AObj.under, i64s_set, unders_append, unders_ims, unders, PV.under, Bool.and_true, Bool.and_self])) ?_
 refine Run.loop (fun q s => s = ⟨[(5, .fn 80 [.ptr 0 0 0]), (9, .im (.sl [[.sl []]])), (10, .i 1), (11, .i 0)], [.box [.im (.sl [])]], up⟩) 0 rfl fun q s hI => ?_
 subst hI
 refine Run.seq ?_
 have fx := ai (@List.length_nil.{0}) (ai (@List.length_cons.{0}) ft)
 refine Run.go ?_
 refine End.kp [5, 9, 10, 11, 12] ?_
 refine Run.seq ?_
 refine Run.cond _ rfl (fun hb => ?_) (fun hb => ?_)
 ·have hb2 := hb
  refine Run.skip ?_
  refine End.kp [5, 9, 10, 11] ?_
  refine Run.seq ?_
  refine Run.block ?_
  refine Run.seq ?_
  have fx := ai (@List.length_nil.{0}) (ai (@List.length_cons.{0}) ft)
  refine Run.go ?_
  refine End.kp [5, 7, 9, 10, 11] ?_
  refine Run.seq ?_
  refine Run.region rfl fun K hK => GOps.sim ?_
  refine GOps.call rfl rfl rfl rfl (by kernel_rfl) (ACalls.sim ?_)
  refine (ContainsE_ok _ 0 0).mono fun v u hv => ?_
  obtain ⟨rfl, rfl⟩ := hv
  refine ⟨_, _, rfl, GOps.sim ?_⟩
  refine GOps.done (hK _ ?_); clear hK K
  refine End.kp [5, 9, 10, 11, 18] ?_
  refine Run.cond _ rfl (fun hb => ?_) (fun hb => ?_)
  ·have hb3 := hb
   refine Run.seq ?_
   have fx := ai (@List.length_nil.{0}) (ai (@List.length_cons.{0}) ft)
   refine Run.go ?_
   refine End.kp [4] ?_
   refine Run.ret (hQ _ _ ⟨.inr rfl, _, rfl, _, rfl, ?_⟩)
   exact ⟨rfl, rfl⟩
  ·have hb3 := hb
   simp at hb
 ·have hb2 := hb
  simp at hb
theorem EqT_same (p q : List Bool) (h : p = q) (hn : p.length ≤ 1000000) (up : Frs) : ACalls Try.prog 19 [.im (.sl (bools p)), .im (.sl (bools q))] up fun v u => v = .im (.bool true) ∧ u = up := by
 have d1 : ((p.length : Int) != q.length) = false := by rw [h]; simp
 refine ACalls.code Try.func19 rfl 26 rfl (by simp) [.tmp 4] rfl fun Q hQ => ?_
 simp only [ups, PV.up, argEnv]
 have ft := ai ty_3 (ai ty_4 (ai ty_33 trivial))
 refine Run.seq ?_
 have fx := ai d1 (ai bools_len ft)
 refine Run.go ?_
 refine End.kp [0, 1] ?_
 refine Run.seq ?_
 refine Run.seq ?_
 refine Run.go ?_
 refine End.kp [0, 1, 10] ?_
 refine Run.cond _ rfl (fun hb => ?_) (fun hb => ?_)
 ·have hb2 := hb
  simp at hb
 ·have hb2 := hb
  refine Run.skip ?_
  refine End.kp [0, 1] ?_
  refine Run.seq ?_
  refine Run.seq ?_
  have fx := ai d1 (ai bools_len ft)
  refine Run.go ?_
  refine End.kp [0, 1, 12, 13] ?_
  refine Run.block ?_
  refine Run.ghost (Ghost.form [(0, .im (.sl (bools p))), (1, .im (.sl (bools q))), (12, .i p.length), (13, .i (0 : Nat))] 0 ⟨rfl, rfl, rfl, rfl, trivial⟩ rfl (by simp only [ASt.push, List.nil_append, List.cons_append, List.take_succ_cons, List.take_zero, List.all_cons, List.all_nil, AObj.under, i64s_set, unders_append, unders_ims, unders, PV.under, Bool.and_true, Bool.and_self])) ?_
  refine Run.loop (fun m' st => ∃ i : Nat, m' = p.length - i ∧ i ≤ p.length ∧ st = ⟨[(0, .im (.sl (bools p))), (1, .im (.sl (bools q))), (12, .i p.length), (13, .i (i : Nat))], [], up⟩) p.length ⟨0, rfl, by omega, rfl⟩ fun m' st hI => ?_
  obtain ⟨i, rfl, hi, rfl⟩ := hI
  refine Run.seq ?_
  have fx := ai d1 (ai bools_len ft)
  refine Run.go ?_
  refine End.kp [0, 1, 12, 13, 14] ?_
  refine Run.seq ?_
  refine Run.cond _ rfl (fun hb => ?_) (fun hb => ?_)
  ·have hb2 := of_decide_eq_true hb
   have hin : i < p.length := by omega
   have hiq : i < q.length := by rw [← h]; exact hin
   have wi := wsucc hin (by omega)
   have hp := bools_get p i hin
   have hq := bools_get q i hiq
   have hlp : (i : Int) < (p.length : Int) := by omega
   have hlq : (i : Int) < (q.length : Int) := by omega
   refine Run.skip ?_
   refine End.kp [0, 1, 12, 13] ?_
   refine Run.seq ?_
   refine Run.block ?_
   refine Run.seq ?_
   have fx := ai (@Int.toNat_natCast) (ai (@Int.natCast_nonneg) (ai hlq (ai hlp (ai hq (ai hp (ai wi (ai d1 (ai bools_len ft))))))))
   refine Run.go ?_
   refine End.kp [0, 1, 5, 12, 13] ?_
   refine Run.seq ?_
   refine Run.drawA fun K hK => ?_
   refine DOps.sim ?_
   refine DOps.nil (metAll_quiet rfl) (hK _ ?_); clear hK K
   refine End.kp [0, 1, 12, 13, 24] ?_
   refine Run.cond _ rfl (fun hb => ?_) (fun hb => ?_)
   ·have hb2 := hb
    simp [h] at hb
   ·have hb2 := hb
    refine Run.skip ?_
    refine End.blk ?_
    refine End.kp [0, 1, 12, 13] ?_
    have fx := ai (@Int.toNat_natCast) (ai (@Int.natCast_nonneg) (ai hlq (ai hlp (ai hq (ai hp (ai wi (ai d1 (ai bools_len ft))))))))
    refine Run.go ?_
    refine End.lp ?_
    refine ⟨p.length - (i + 1), _, by omega, Ghost.form [(0, .im (.sl (bools p))), (1, .im (.sl (bools q))), (12, .i p.length), (13, .i (i + 1 : Nat))] 0 ⟨rfl, rfl, rfl, rfl, trivial⟩ rfl (by simp only [ASt.push, List.nil_append, List.cons_append, List.take_succ_cons, List.take_zero, List.all_cons, List.all_nil, AObj.under, i64s_set, unders_append, unders_ims, unders, PV.under, Bool.and_true, Bool.and_self]), i + 1, rfl, by omega, rfl⟩
  ·have hb2 := of_decide_eq_false hb
   refine Run.exit rfl ?_
   refine End.kp [] ?_
   refine Run.seq ?_
   have fx := ai d1 (ai bools_len ft)
   refine Run.go ?_
   refine End.kp [4] ?_
   refine Run.ret (hQ _ _ ⟨.inr rfl, _, rfl, _, rfl, ?_⟩)
   exact ⟨rfl, rfl⟩
theorem solved_ok (up : Frs) : ACalls Try.prog 18 [] up fun v u => v = .im (.bool true) ∧ u = up := by
 have hsv := solve_ok (fun _ => true) smallC 2 4 (by omega) small_in small_hold (by omega) (by decide)
 refine ACalls.code Try.func18 rfl 28 rfl (by simp) [.tmp 0] rfl fun Q hQ => ?_
 simp only [ups, PV.up, argEnv]
 have ft := ai ty_2 (ai ty_3 (ai ty_4 (ai ty_22 (ai ty_33 (ai ty_35 (ai ty_36 (ai ty_46 trivial)))))))
 refine Run.seq ?_
 have fx := ft
 refine Run.go ?_
 refine End.kp [] ?_
 refine Run.seq ?_
 refine Run.region rfl fun K hK => GOps.litF (rows := ints [-1, 2]) ?_ rfl rfl (by simp only [litF, fx] <;> rfl)
 refine GOps.litF (rows := ints [1]) ?_ rfl rfl (by simp only [litF, fx] <;> rfl)
 refine GOps.litF (rows := clss smallC) ?_ rfl rfl (by simp only [litF, fx] <;> rfl)
 refine GOps.call rfl rfl rfl rfl (by kernel_rfl) (ACalls.sim ?_)
 refine (hsv _).mono fun v u hv => ?_
 obtain ⟨rfl, m, q, rfl, hf⟩ := hv
 have hm := small_model hf
 subst hm
 refine ⟨_, _, rfl, GOps.sim ?_⟩
 refine GOps.done (hK _ ?_); clear hK K
 refine End.kp [1, 2] ?_
 refine Run.seq ?_
 have fx := ft
 refine Run.region rfl fun K hK => GOps.simK 9 ?_
 refine GOps.litF (rows := bools [true, true]) ?_ rfl rfl (by simp only [litF, fx] <;> rfl)
 refine GOps.call rfl rfl rfl rfl (by kernel_rfl) (ACalls.sim ?_)
 refine (EqT_same [true, true] [true, true] rfl (by decide) _).mono fun v u hv => ?_
 obtain ⟨rfl, rfl⟩ := hv
 refine ⟨_, _, rfl, GOps.simK 2 ?_⟩
 refine GOps.litF (rows := []) ?_ rfl rfl (by simp only [litF, fx] <;> rfl)
 refine GOps.litF (rows := [[.sl []]]) ?_ rfl rfl (by simp only [litF, fx] <;> rfl)
 refine GOps.call rfl rfl rfl rfl (by kernel_rfl) (ACalls.sim ?_)
 refine (holdsE_ok _).mono fun v u hv => ?_
 obtain ⟨rfl, rfl⟩ := hv
 refine ⟨_, _, rfl, GOps.sim ?_⟩
 refine GOps.done (hK _ ?_); clear hK K
 refine End.kp [0] ?_
 refine Run.ret (hQ _ _ ⟨.inr rfl, _, rfl, _, rfl, ?_⟩)
 exact ⟨rfl, rfl⟩
end Go.Proofs.YtkjfdacjjogpcaaPi

/- The walks of Of and of the clauses of a graph. -/
set_option linter.unusedVariables false
set_option linter.unusedSimpArgs false
set_option maxRecDepth 100000
namespace Go.Proofs.YtkjfdacjjogpcaaPi
set_option maxHeartbeats 40000000
theorem csN_next (g : LGraph) (base : Int) (k : Nat) : csN g base (k + 1) = csN g base k ++ and3 g base k := rfl
theorem Of_lit (l base : Int) (h0 : 0 ≤ l) (h1 : l ≤ 1000000) (b0 : 0 ≤ base) (b1 : base ≤ 1000000) (up : Frs) : ACalls Try.prog 28 [.i l, .i base] up fun v u => v = .i (ofL l base) ∧ u = up := by
 have d0 : decide (l < 0) = false := decide_eq_false (by omega)
 have hm := tmod2 l h0
 have wm : IntKind.i64.wrap (l % 2) = l % 2 := wrap64 (by omega)
 have hd := tdiv2 l h0 (by omega)
 have w1 : IntKind.i64.wrap (base + 1) = base + 1 := wrap64 (by omega)
 have w2 : IntKind.i64.wrap (base + 1 + l / 2) = base + 1 + l / 2 := wrap64 (by omega)
 have w3 : IntKind.i64.wrap (0 - (base + 1 + l / 2)) = -(base + 1 + l / 2) := by rw [wrap64 (by omega)]; omega
 refine ACalls.code Try.func28 rfl 23 rfl (by simp) [.tmp 4] rfl fun Q hQ => ?_
 simp only [ups, PV.up, argEnv]
 have ft := ai ty_3 (ai ty_4 (ai ty_55 trivial))
 refine Run.seq ?_
 have fx := ai w3 (ai w2 (ai w1 (ai hd (ai wm (ai hm (ai d0 ft))))))
 refine Run.go ?_
 refine End.kp [0, 1] ?_
 refine Run.seq ?_
 refine Run.block ?_
 refine Run.seq ?_
 refine Run.go ?_
 refine End.kp [0, 1, 5] ?_
 refine Run.cond _ rfl (fun hb => ?_) (fun hb => ?_)
 ·have hb2 := hb
  simp at hb
 ·have hb2 := hb
  refine Run.seq ?_
  have fx := ai w3 (ai w2 (ai w1 (ai hd (ai wm (ai hm (ai d0 ft))))))
  refine Run.go ?_
  refine End.kp [0, 1, 8] ?_
  refine Run.cond _ rfl (fun hb => ?_) (fun hb => ?_)
  ·have hb3 : l % 2 = 1 := by simpa using hb
   refine Run.seq ?_
   have fx := ai w3 (ai w2 (ai w1 (ai hd (ai wm (ai hm (ai d0 ft))))))
   refine Run.go ?_
   refine End.kp [4] ?_
   refine Run.ret (hQ _ _ ⟨.inr rfl, _, rfl, _, rfl, ?_⟩)
   exact ⟨by rw [ofL, if_pos hb3], rfl⟩
  ·have hb3 : ¬ (l % 2 = 1) := by simpa using hb
   refine Run.skip ?_
   refine End.blk ?_
   refine End.kp [0, 1] ?_
   refine Run.seq ?_
   have fx := ai w3 (ai w2 (ai w1 (ai hd (ai wm (ai hm (ai d0 ft))))))
   refine Run.go ?_
   refine End.kp [4] ?_
   refine Run.ret (hQ _ _ ⟨.inr rfl, _, rfl, _, rfl, ?_⟩)
   exact ⟨by rw [ofL, if_neg hb3], rfl⟩
theorem clausesX_ok (g : LGraph) (hg : GraphOk g) (base : Nat) (hb : base ≤ 100000) (f : List AObj) (rest : Frs) : ACalls Try.prog 42 [g.pv, .i (base : Nat)] (f :: rest) fun v u => v = .ms 0 (f.length + 1) (csN g base g.ands.length).length ∧ u = (f ++ [.box [.im (.sl (strs g.inn)), .im (.sl (strs g.out)), .im (.sl (g.regs.map LReg.im)), .im (.sl (g.ands.map nd)), .im (.sl (ints g.outs))], .row 22 1 (clss (csN g base g.ands.length)) 0]) :: rest := by
 obtain ⟨z1, z2, z3, z4, z5⟩ := hg.small
 have w1 : IntKind.i64.wrap ((base : Int) + 1) = (base : Int) + 1 := wrap64 (by omega)
 have w2 : IntKind.i64.wrap (0 - ((base : Int) + 1)) = -((base : Int) + 1) := by rw [wrap64 (by omega)]; omega
 refine ACalls.codeX Try.func42 rfl 60 rfl (by simp) [.tmp 4] rfl fun Q hQ => ?_
 simp only [ups, PV.up, argEnv]
 have ft := ai ty_2 (ai ty_3 (ai ty_22 (ai ty_28 (ai ty_31 (ai ty_35 (ai ty_55 (ai ty_59 trivial)))))))
 refine Run.seq ?_
 have fx := ai (@List.length_map.{0, 0}) (ai w2 (ai w1 ft))
 refine Run.go ?_
 refine End.kp [1, 2] ?_
 refine Run.seq ?_
 refine Run.region rfl fun K hK => GOps.simK 3 ?_
 refine GOps.litF (rows := ints [-((base : Int) + 1)]) ?_ rfl rfl (by simp only [litF, fx] <;> rfl)
 refine GOps.sim ?_
 refine GOps.done (hK _ ?_); clear hK K
 refine End.kp [1, 2, 5] ?_
 refine Run.seq ?_
 have fx := ai (@List.length_map.{0, 0}) (ai w2 (ai w1 ft))
 refine Run.region rfl fun K hK => GOps.sim ?_
 refine GOps.call rfl rfl rfl rfl (by kernel_rfl) (ACalls.sim ?_)
 refine (GFirst_ok g hg.small _).mono fun v u hv => ?_
 obtain ⟨rfl, rfl⟩ := hv
 refine ⟨_, _, rfl, GOps.sim ?_⟩
 refine GOps.done (hK _ ?_); clear hK K
 refine End.kp [1, 2, 5, 6] ?_
 refine Run.seq ?_
 refine Run.seq ?_
 refine Run.go ?_
 refine End.kp [1, 5, 6, 20, 21, 22] ?_
 refine Run.block ?_
 refine Run.ghost (Ghost.form [(1, .i (base : Nat)), (5, .ms 0 1 1), (6, .i (1 + g.inn.length + g.regs.length)), (20, .im (.sl (g.ands.map nd))), (21, .i g.ands.length), (22, .i (0 : Nat))] 2 ⟨rfl, rfl, rfl, rfl, rfl, rfl, trivial⟩ rfl (by simp only [ASt.push, List.nil_append, List.cons_append, List.take_succ_cons, List.take_zero, List.all_cons, List.all_nil, AObj.under, unders, PV.under, Bool.and_true, Bool.and_self])) ?_
 refine Run.loop (fun m st => ∃ i : Nat, m = g.ands.length - i ∧ i ≤ g.ands.length ∧ st = ⟨[(1, .i (base : Nat)), (5, .ms 0 1 (csN g base i).length), (6, .i (1 + g.inn.length + g.regs.length)), (20, .im (.sl (g.ands.map nd))), (21, .i g.ands.length), (22, .i (i : Nat))], [.box [.im (.sl (strs g.inn)), .im (.sl (strs g.out)), .im (.sl (g.regs.map LReg.im)), .im (.sl (g.ands.map nd)), .im (.sl (ints g.outs))], .row 22 1 (clss (csN g base i)) 0], f :: rest⟩) g.ands.length ⟨0, rfl, by omega, rfl⟩ fun m st hI => ?_
 obtain ⟨i, hm, hi, rfl⟩ := hI
 subst m
 have hcl := csN_len g base i
 have hcc : (clss (csN g base i)).length = (csN g base i).length := by simp
 have hap : ((csN g base i).length + 3) * 24 ≤ 140737488355328 := by omega
 refine Run.seq ?_
 have fx := ai hap (ai hcc (ai (@List.length_map.{0, 0}) (ai w2 (ai w1 ft))))
 refine Run.go ?_
 refine End.kp [1, 5, 6, 20, 21, 22, 23] ?_
 refine Run.seq ?_
 refine Run.cond _ rfl (fun hb => ?_) (fun hb => ?_)
 ·have hb2 := of_decide_eq_true hb
  have hin : i < g.ands.length := by omega
  have wi := wsucc hin (by omega)
  obtain ⟨p, hpi, hpm, hp⟩ := node_at g.ands i hin
  obtain ⟨⟨p0, p1⟩, p2, p3⟩ := hg.ands i p hpi
  have hpd : g.ands.getD i (0, 0) = p := by rw [List.getD_eq_getElem?_getD, hpi]; rfl
  have hil : (i : Int) < (g.ands.length : Int) := by omega
  have x1 : IntKind.i64.wrap ((base : Int) + 1 + (1 + g.inn.length + g.regs.length)) = (base : Int) + 1 + (1 + g.inn.length + g.regs.length) := wrap64 (by omega)
  have x2 : IntKind.i64.wrap ((base : Int) + 1 + (1 + g.inn.length + g.regs.length) + (i : Int)) = andN g base i := by rw [wrap64 (by omega)]; unfold andN; omega
  have x3 : IntKind.i64.wrap (0 - andN g base i) = -(andN g base i) := by unfold andN; rw [wrap64 (by omega)]; omega
  have x4 : IntKind.i64.wrap (0 - ofL p.1 base) = -(ofL p.1 base) := by unfold ofL; split <;> (rw [wrap64 (by omega)]; omega)
  have x5 : IntKind.i64.wrap (0 - ofL p.2 base) = -(ofL p.2 base) := by unfold ofL; split <;> (rw [wrap64 (by omega)]; omega)
  refine Run.skip ?_
  refine End.kp [1, 5, 6, 20, 21, 22] ?_
  refine Run.seq ?_
  refine Run.block ?_
  refine Run.seq ?_
  have fx := ai (@Int.toNat_natCast) (ai (@Int.natCast_nonneg) (ai x5 (ai x4 (ai x3 (ai x2 (ai x1 (ai hil (ai hp (ai wi (ai hap (ai hcc (ai (@List.length_map.{0, 0}) (ai w2 (ai w1 ft))))))))))))))
  refine Run.go ?_
  refine End.kp [1, 5, 6, 7, 8, 20, 21, 22] ?_
  refine Run.seq ?_
  refine Run.drawA fun K hK => ?_
  refine DOps.sim ?_
  refine DOps.call (.i (ofL p.1 base)) [] [] rfl rfl rfl rfl (by kernel_rfl) (by simp [Agree]) (fun u hu => Of_lit p.1 base p0 (by omega) (by omega) (by omega) u) ?_
  refine DOps.sim ?_
  refine DOps.call (.i (ofL p.2 base)) [] [] rfl rfl rfl rfl (by kernel_rfl) (by simp [Agree]) (fun u hu => Of_lit p.2 base p2 (by omega) (by omega) (by omega) u) ?_
  refine DOps.sim ?_
  refine DOps.nil ?_ (hK _ ?_)
  ·rfl
  clear hK K
  refine End.kp [1, 5, 6, 9, 10, 11, 20, 21, 22] ?_
  refine Run.region rfl fun K hK => GOps.simK 4 ?_
  refine GOps.litF (rows := ints [-(andN g base i), ofL p.1 base]) ?_ rfl rfl (by simp only [litF, fx] <;> rfl)
  refine GOps.simK 3 ?_
  refine GOps.litF (rows := ints [-(andN g base i), ofL p.2 base]) ?_ rfl rfl (by simp only [litF, fx] <;> rfl)
  refine GOps.simK 5 ?_
  refine GOps.litF (rows := ints [andN g base i, -(ofL p.1 base), -(ofL p.2 base)]) ?_ rfl rfl (by simp only [litF, fx] <;> rfl)
  refine GOps.litF (rows := clss [[-(andN g base i), ofL p.1 base], [-(andN g base i), ofL p.2 base], [andN g base i, -(ofL p.1 base), -(ofL p.2 base)]]) ?_ rfl rfl (by simp only [litF, fx] <;> rfl)
  refine GOps.sim ?_
  refine GOps.done (hK _ ?_); clear hK K
  refine End.blk ?_
  refine End.kp [1, 5, 6, 20, 21, 22] ?_
  have fx := ai (@Int.toNat_natCast) (ai (@Int.natCast_nonneg) (ai x5 (ai x4 (ai x3 (ai x2 (ai x1 (ai hil (ai hp (ai wi (ai hap (ai hcc (ai (@List.length_map.{0, 0}) (ai w2 (ai w1 ft))))))))))))))
  refine Run.go ?_
  refine End.lp ?_
  refine ⟨g.ands.length - (i + 1), _, by omega, Ghost.form [(1, .i (base : Nat)), (5, .ms 0 1 ((csN g base i).length + 3)), (6, .i (1 + g.inn.length + g.regs.length)), (20, .im (.sl (g.ands.map nd))), (21, .i g.ands.length), (22, .i (i + 1 : Nat))] 2 ⟨rfl, rfl, rfl, rfl, rfl, rfl, trivial⟩ rfl (by simp only [ASt.push, List.nil_append, List.cons_append, List.take_succ_cons, List.take_zero, List.all_cons, List.all_nil, AObj.under, unders, PV.under, Bool.and_true, Bool.and_self]), i + 1, rfl, by omega, ?_⟩
  have e1 : clss (csN g base (i + 1)) = clss (csN g base i) ++ clss [[-(andN g base i), ofL p.1 base], [-(andN g base i), ofL p.2 base], [andN g base i, -(ofL p.1 base), -(ofL p.2 base)]] := by
   rw [csN_next, and3, hpd]
   exact List.map_append ..
  have e2 : (csN g base (i + 1)).length = (csN g base i).length + 3 := by rw [csN_next, List.length_append]; rfl
  rw [e1, e2]
  rfl
 ·have hb2 := of_decide_eq_false hb
  have hie : i = g.ands.length := by omega
  rw [hie]
  refine Run.exit rfl ?_
  refine End.kp [5] ?_
  refine Run.seq ?_
  have fx := ai hap (ai hcc (ai (@List.length_map.{0, 0}) (ai w2 (ai w1 ft))))
  refine Run.go ?_
  refine End.kp [4] ?_
  refine Run.ret (hQ _ _ ⟨.inr rfl, _, rfl, _, _, rfl, ?_⟩)
  exact ⟨rfl, rfl⟩
theorem ClausesX_ok (g : LGraph) (hg : GraphOk g) (base : Nat) (hb : base ≤ 20000) (f : List AObj) (rest : Frs) : ACalls Try.prog 12 [g.pv, .i (base : Nat)] (f :: rest) fun v u => v = .tup [.ms 0 (f.length + 2) (csN g base g.ands.length).length, .i 0] ∧ u = (f ++ [.box [.im (.sl (strs g.inn)), .im (.sl (strs g.out)), .im (.sl (g.regs.map LReg.im)), .im (.sl (g.ands.map nd)), .im (.sl (ints g.outs))], .box [.im (.sl (strs g.inn)), .im (.sl (strs g.out)), .im (.sl (g.regs.map LReg.im)), .im (.sl (g.ands.map nd)), .im (.sl (ints g.outs))], .row 22 1 (clss (csN g base g.ands.length)) 0]) :: rest := by
 have d1 : decide ((base : Int) < 0) = false := decide_eq_false (by omega)
 have d2 : decide ((20000 : Int) < (base : Int)) = false := decide_eq_false (by omega)
 refine ACalls.codeX Try.func12 rfl 21 rfl (by simp) [.tmp 4, .tmp 5] rfl fun Q hQ => ?_
 simp only [ups, PV.up, argEnv]
 have ft := ai ty_3 (ai ty_4 (ai ty_22 (ai ty_31 (ai ty_35 (ai ty_36 trivial)))))
 refine Run.seq ?_
 have fx := ai d2 (ai d1 ft)
 refine Run.go ?_
 refine End.kp [1, 2] ?_
 refine Run.seq ?_
 refine Run.seq ?_
 refine Run.region rfl fun K hK => GOps.sim ?_
 refine GOps.call rfl rfl rfl rfl (by kernel_rfl) (ACalls.sim ?_)
 refine (Check_ok g hg _).mono fun v u hv => ?_
 obtain ⟨rfl, rfl⟩ := hv
 refine ⟨_, _, rfl, GOps.sim ?_⟩
 refine GOps.done (hK _ ?_); clear hK K
 refine End.kp [1, 2, 6] ?_
 refine Run.seq ?_
 refine Run.go ?_
 refine End.kp [1, 2, 6, 10] ?_
 refine Run.cond _ rfl (fun hb => ?_) (fun hb => ?_)
 ·have hb2 := hb
  simp at hb
 ·have hb2 := hb
  refine Run.skip ?_
  refine End.kp [1, 2] ?_
  refine Run.seq ?_
  refine Run.seq ?_
  have fx := ai d2 (ai d1 ft)
  refine Run.go ?_
  refine End.kp [1, 2, 17] ?_
  refine Run.cond _ rfl (fun hb => ?_) (fun hb => ?_)
  ·have hb3 := hb
   simp at hb
  ·have hb3 := hb
   refine Run.skip ?_
   refine End.kp [1, 2] ?_
   refine Run.seq ?_
   have fx := ai d2 (ai d1 ft)
   refine Run.region rfl fun K hK => GOps.sim ?_
   refine GOps.call rfl rfl rfl rfl (by kernel_rfl) (ACalls.sim ?_)
   refine (clausesX_ok g hg base (by omega) _ _).mono fun v u hv => ?_
   obtain ⟨rfl, rfl⟩ := hv
   refine ⟨_, _, rfl, GOps.sim ?_⟩
   refine GOps.done (hK _ ?_); clear hK K
   refine End.kp [4, 5] ?_
   refine Run.ret (hQ _ _ ⟨.inr rfl, _, rfl, _, _, rfl, ?_⟩)
   exact ⟨rfl, rfl⟩
end Go.Proofs.YtkjfdacjjogpcaaPi

/- Solve for clauses of which unit clauses determine all: no decision is made. -/
set_option linter.unusedVariables false
set_option linter.unusedSimpArgs false
set_option maxRecDepth 100000
namespace Go.Proofs.YtkjfdacjjogpcaaPi
set_option maxHeartbeats 40000000
def Det (M : Nat → Bool) (n : Nat) (cs : List (List Int)) : Prop := ∀ S B, Base (Is M) S B → S.n = n → S.head = S.tr.length → (∀ c ∈ cs, Cov S c) → ∀ v, 1 ≤ v → v ≤ n → S.val.getD v 0 ≠ 0
theorem runD_ok (M : Nat → Bool) (cs : List (List Int)) (n limit : Nat) (hn : n ≤ 20000) (hcs : ClsIn n cs) (hm : ∀ c ∈ cs, HoldsC M c) (hlim : limit ≤ 65536) (hdet : Det M n cs) (up : Frs) :
  ACalls Try.prog 46 [.im (.sl (clss cs)), .i (n : Nat), .i (limit : Nat), .im (.bool false)] up fun v u => u = up ∧ ∃ (m : List Bool) (q : Nat), v = .agg [.im (.bool true), .im (.bool true), .im (.sl (bools m)), .im (.sl []), .i (q : Nat)] ∧ FndM n cs m := by
 have hcl := hcs.len
 obtain ⟨ld1, ⟨B2, ld2⟩, ld3, ld4, ld5⟩ := load_is cs ⟨new_base (Is M) hn, rfl, rfl⟩ hcs.cls hm (by show 0 + cs.length ≤ 1000000; omega)
 refine (run_ok (Is M) (fun S q => S.st = []) cs n limit false hn hcs (is_all hm) hlim (fun _ => ld2.st) (fun S S' q hE hI => hE.st.trans hI) (fun S B q hB hSn hh hc hI hd => ?_) (fun S B k c d q hBd hSn hI hq hL hp => ?_) up).mono fun v u hv => ?_
 ·obtain ⟨p, p1, p2, _, p3, _⟩ := (decide_calm hB.sw hB.calm hB.hst hB.n1 hB.n2).2 hd
  exact absurd p3 (hdet S B hB hSn hh hc p p1 (by omega))
 ·have := hBd.pos (M := M) rfl
  rw [hI] at this
  simp at this
 ·obtain ⟨rfl, d, f, m, pr, q, h1, h3, h4, h5⟩ := hv
  cases f with
  | true =>
   obtain ⟨rfl, rfl, h6⟩ := h4 rfl
   exact ⟨rfl, m, q, h1, h6⟩
  | false =>
   obtain ⟨_, h6, h7⟩ := h5 rfl
   cases d with
   | true => exact absurd rfl (h6 rfl M)
   | false =>
    obtain ⟨_, S, B, k, hB, hSn, hI⟩ := h7 rfl
    have := hB.pos (M := M) rfl
    rw [hI] at this
    simp at this
theorem solveD_ok (M : Nat → Bool) (cs : List (List Int)) (n limit : Nat) (hn : n ≤ 20000) (hcs : ClsIn n cs) (hm : ∀ c ∈ cs, HoldsC M c) (hlim : limit ≤ 65536) (hdet : Det M n cs) (up : Frs) :
  ACalls Try.prog 16 [.im (.sl (clss cs)), .i (n : Nat), .i (limit : Nat)] up fun v u => u = up ∧ ∃ (m : List Bool) (q : Nat), v = .tup [.agg [.im (.bool true), .im (.bool true), .im (.sl (bools m)), .im (.sl []), .i (q : Nat)], .i 0] ∧ FndM n cs m := by
 have d1 : decide ((limit : Int) < 0) = false := decide_eq_false (by omega)
 have d2 : decide ((65536 : Int) < (limit : Int)) = false := decide_eq_false (by omega)
 refine ACalls.code Try.func16 rfl 44 rfl (by simp) [.cell 6 46, .tmp 7] rfl fun Q hQ => ?_
 simp only [ups, PV.up, argEnv]
 have ft := ai ty_3 (ai ty_4 (ai ty_22 (ai ty_35 (ai ty_36 (ai ty_46 trivial)))))
 refine Run.seq ?_
 have fx := ai d2 (ai d1 ft)
 refine Run.go ?_
 refine End.kp [0, 1, 2, 6] ?_
 refine Run.seq ?_
 refine Run.seq ?_
 refine Run.region rfl fun K hK => GOps.sim ?_
 refine GOps.call rfl rfl rfl rfl (by kernel_rfl) (ACalls.sim ?_)
 refine (satCheck_ok n cs (hcs.ok hn) _).mono fun v u hv => ?_
 obtain ⟨rfl, rfl⟩ := hv
 refine ⟨_, _, rfl, GOps.sim ?_⟩
 refine GOps.done (hK _ ?_); clear hK K
 refine End.kp [0, 1, 2, 6, 8] ?_
 refine Run.seq ?_
 refine Run.go ?_
 refine End.kp [0, 1, 2, 6, 8, 15] ?_
 refine Run.cond _ rfl (fun hb => ?_) (fun hb => ?_)
 ·have hb2 := hb
  simp at hb
 ·have hb2 := hb
  refine Run.skip ?_
  refine End.kp [0, 1, 2, 6] ?_
  refine Run.seq ?_
  refine Run.seq ?_
  have fx := ai d2 (ai d1 ft)
  refine Run.go ?_
  refine End.kp [0, 1, 2, 6, 23] ?_
  refine Run.cond _ rfl (fun hb => ?_) (fun hb => ?_)
  ·have hb3 := hb
   simp at hb
  ·have hb3 := hb
   refine Run.skip ?_
   refine End.kp [0, 1, 2, 6] ?_
   refine Run.seq ?_
   have fx := ai d2 (ai d1 ft)
   refine Run.region rfl fun K hK => GOps.sim ?_
   refine GOps.call rfl rfl rfl rfl (by kernel_rfl) (ACalls.sim ?_)
   refine (runD_ok M cs n limit hn hcs hm hlim hdet _).mono fun v u hv => ?_
   obtain ⟨rfl, m, q, rfl, hf⟩ := hv
   refine ⟨_, _, rfl, GOps.sim ?_⟩
   refine GOps.done (hK _ ?_); clear hK K
   refine End.kp [0, 1, 2, 6, 9] ?_
   refine Run.seq ?_
   refine Run.seq ?_
   refine Run.go ?_
   refine End.kp [0, 1, 2, 6, 9, 31] ?_
   refine Run.cond _ rfl (fun hb => ?_) (fun hb => ?_)
   ·have hb4 := hb
    simp at hb
   ·have hb4 := hb
    refine Run.skip ?_
    refine End.kp [6, 9] ?_
    refine Run.seq ?_
    have fx := ai d2 (ai d1 ft)
    refine Run.go ?_
    refine End.kp [6, 7] ?_
    refine Run.resC hQ ?_
    exact ⟨rfl, m, q, rfl, hf⟩
end Go.Proofs.YtkjfdacjjogpcaaPi

/- The walks of slices.Concat of rows of bools, and of rows of words, that are not all empty. -/
set_option linter.unusedVariables false
set_option linter.unusedSimpArgs false
set_option maxRecDepth 100000
namespace Go.Proofs.YtkjfdacjjogpcaaPi
set_option maxHeartbeats 4000000
def sumL {α : Type} (ps : List (List α)) : Nat := (ps.map List.length).foldr (· + ·) 0
theorem sumL_take {α : Type} (ps : List (List α)) (i : Nat) (r : List α) (h : ps[i]? = some r) : sumL (ps.take (i + 1)) = sumL (ps.take i) + r.length := by
 induction ps generalizing i with
 | nil => simp at h
 | cons p ps ih =>
  cases i with
  | zero => simp at h; subst h; simp [sumL]
  | succ i =>
   have := ih i (by simpa using h)
   simp only [sumL, List.take_succ_cons, List.map_cons, List.foldr_cons] at this ⊢
   omega
theorem flat_take {α : Type} (ps : List (List α)) (i : Nat) (r : List α) (h : ps[i]? = some r) : (ps.take (i + 1)).flatten = (ps.take i).flatten ++ r := by simp [List.take_add_one, h]
theorem sumL_le {α : Type} (ps : List (List α)) (i : Nat) : sumL (ps.take i) ≤ sumL ps := by
 induction ps generalizing i with
 | nil => simp
 | cons p ps ih =>
  cases i with
  | zero => simp [sumL]
  | succ i =>
   have := ih i
   simp only [sumL, List.take_succ_cons, List.map_cons, List.foldr_cons] at this ⊢
   omega
theorem flat_len {α : Type} (ps : List (List α)) : ps.flatten.length = sumL ps := by
 induction ps with
 | nil => rfl
 | cons p ps ih => simp only [List.flatten_cons, List.length_append, sumL, List.map_cons, List.foldr_cons] at ih ⊢; rw [ih]
theorem ConcatB_ok (ps : List (List Bool)) (h0 : 0 < sumL ps) (h1 : sumL ps ≤ 100000) (h2 : ps.length ≤ 1000) (up : Frs) : ACalls Try.prog 15 [.im (.sl (boolss ps))] up fun v u => v = .im (.sl (bools ps.flatten)) ∧ u = up := by
 refine ACalls.code Try.func15 rfl 36 rfl (by simp) [.tmp 2] rfl fun Q hQ => ?_
 simp only [ups, PV.up, argEnv]
 have ft := ai ty_3 (ai ty_4 (ai ty_9 (ai ty_33 (ai ty_62 trivial))))
 refine Run.seq ?_
 have fx := ai boolss_len ft
 refine Run.go ?_
 refine End.kp [0] ?_
 refine Run.seq ?_
 refine Run.go ?_
 refine End.kp [0, 3] ?_
 refine Run.seq ?_
 refine Run.seq ?_
 refine Run.go ?_
 refine End.kp [0, 3, 9, 10, 11] ?_
 refine Run.block ?_
 refine Run.ghost (Ghost.form [(0, .im (.sl (boolss ps))), (3, .i 0), (9, .im (.sl (boolss ps))), (10, .i ps.length), (11, .i (0 : Nat))] 0 ⟨rfl, rfl, rfl, rfl, rfl, trivial⟩ rfl rfl) ?_
 refine Run.loop (fun m' st => ∃ i : Nat, m' = ps.length - i ∧ i ≤ ps.length ∧ st = ⟨[(0, .im (.sl (boolss ps))), (3, .i (sumL (ps.take i) : Nat)), (9, .im (.sl (boolss ps))), (10, .i ps.length), (11, .i (i : Nat))], [], up⟩) ps.length ⟨0, rfl, by omega, by simp [sumL]⟩ fun m' st hI => ?_
 obtain ⟨i, rfl, hi, rfl⟩ := hI
 refine Run.seq ?_
 have fx := ai boolss_len ft
 refine Run.go ?_
 refine End.kp [0, 3, 9, 10, 11, 12] ?_
 refine Run.seq ?_
 refine Run.cond _ rfl (fun hb => ?_) (fun hb => ?_)
 ·have hb2 := of_decide_eq_true hb
  have hin : i < ps.length := by omega
  have wi := wsucc hin (by omega)
  obtain ⟨r, hri, hrm, _, hrr⟩ := boolss_at ps i hin
  have hil : (i : Int) < (ps.length : Int) := by omega
  have ht := sumL_take ps i r hri
  have hle := sumL_le ps (i + 1)
  have wa : IntKind.i64.wrap ((sumL (ps.take i) : Int) + r.length) = (sumL (ps.take (i + 1)) : Int) := by rw [wrap64 (by omega)]; omega
  have hn0 : decide ((sumL (ps.take (i + 1)) : Int) < 0) = false := decide_eq_false (by omega)
  refine Run.skip ?_
  refine End.kp [0, 3, 9, 10, 11] ?_
  refine Run.seq ?_
  refine Run.block ?_
  refine Run.seq ?_
  have fx := ai (@Int.toNat_natCast) (ai (@Int.natCast_nonneg) (ai hn0 (ai wa (ai bools_len (ai hil (ai hrr (ai wi (ai boolss_len ft))))))))
  refine Run.go ?_
  refine End.kp [0, 3, 5, 9, 10, 11] ?_
  refine Run.seq ?_
  refine Run.go ?_
  refine End.kp [0, 3, 9, 10, 11] ?_
  refine Run.seq ?_
  refine Run.go ?_
  refine End.kp [0, 3, 9, 10, 11, 20] ?_
  refine Run.cond _ rfl (fun hb => ?_) (fun hb => ?_)
  ·have hb3 := hb
   simp at hb
  ·have hb3 := hb
   refine Run.skip ?_
   refine End.blk ?_
   refine End.kp [0, 3, 9, 10, 11] ?_
   have fx := ai (@Int.toNat_natCast) (ai (@Int.natCast_nonneg) (ai hn0 (ai wa (ai bools_len (ai hil (ai hrr (ai wi (ai boolss_len ft))))))))
   refine Run.go ?_
   refine End.lp ?_
   refine ⟨ps.length - (i + 1), _, by omega, Ghost.form [(0, .im (.sl (boolss ps))), (3, .i (sumL (ps.take (i + 1)) : Nat)), (9, .im (.sl (boolss ps))), (10, .i ps.length), (11, .i (i + 1 : Nat))] 0 ⟨rfl, rfl, rfl, rfl, rfl, trivial⟩ rfl rfl, i + 1, rfl, by omega, rfl⟩
 ·have hb2 := of_decide_eq_false hb
  have hiN : i = ps.length := by omega
  subst hiN
  rw [List.take_length]
  refine Run.exit rfl ?_
  refine End.kp [0, 3] ?_
  refine Run.seq ?_
  have fx := ai boolss_len ft
  refine Run.region rfl fun K hK => GOps.sim ?_
  refine GOps.callM rfl rfl rfl rfl (by kernel_rfl) (ACalls.sim ?_)
  refine (growB_ok (sumL ps) h0 (by omega) _ _).mono fun v u hv => ?_
  obtain ⟨rfl, rfl⟩ := hv
  refine ⟨_, _, rfl, GOps.sim ?_⟩
  refine GOps.done (hK _ ?_); clear hK K
  refine End.kp [0, 6] ?_
  refine Run.seq ?_
  refine Run.seq ?_
  refine Run.go ?_
  refine End.kp [6, 25, 26, 27] ?_
  refine Run.block ?_
  refine Run.ghost (Ghost.form [(6, .ms 0 0 0), (25, .im (.sl (boolss ps))), (26, .i ps.length), (27, .i (0 : Nat))] 1 ⟨rfl, rfl, rfl, rfl, trivial⟩ rfl rfl) ?_
  refine Run.loop (fun m' st => ∃ i : Nat, m' = ps.length - i ∧ i ≤ ps.length ∧ st = ⟨[(6, .ms 0 0 (ps.take i).flatten.length), (25, .im (.sl (boolss ps))), (26, .i ps.length), (27, .i (i : Nat))], [.row 4 1 (bools (ps.take i).flatten) 0], up⟩) ps.length ⟨0, rfl, by omega, rfl⟩ fun m' st hI => ?_
  obtain ⟨i, rfl, hi, rfl⟩ := hI
  have hfl : (bools (ps.take i).flatten).length = (ps.take i).flatten.length := by rw [bools_len]
  have hfs := flat_len (ps.take i)
  have hsl := sumL_le ps i
  refine Run.seq ?_
  have fx := ai hfl (ai boolss_len ft)
  refine Run.go ?_
  refine End.kp [6, 25, 26, 27, 28] ?_
  refine Run.seq ?_
  refine Run.cond _ rfl (fun hb => ?_) (fun hb => ?_)
  ·have hb2 := of_decide_eq_true hb
   have hin : i < ps.length := by omega
   have wi := wsucc hin (by omega)
   obtain ⟨r, hri, hrm, _, hrr⟩ := boolss_at ps i hin
   have hil : (i : Int) < (ps.length : Int) := by omega
   have ht := sumL_take ps i r hri
   have hle := sumL_le ps (i + 1)
   have hft := flat_take ps i r hri
   have hcap : ((ps.take i).flatten.length + r.length) * 1 ≤ 140737488355328 := by omega
   have hcap2 : (ps.take i).flatten.length + r.length ≤ 140737488355328 := by omega
   have hall : (bools r).all (fun r => r.length == 1) = true := by simp
   refine Run.skip ?_
   refine End.kp [6, 25, 26, 27] ?_
   refine Run.seq ?_
   refine Run.block ?_
   refine Run.seq ?_
   have fx := ai (@Int.toNat_natCast) (ai (@Int.natCast_nonneg) (ai hall (ai hcap2 (ai hcap (ai bools_len (ai hil (ai hrr (ai wi (ai hfl (ai boolss_len ft))))))))))
   refine Run.go ?_
   refine End.kp [6, 8, 25, 26, 27] ?_
   refine Run.go ?_
   refine End.blk ?_
   refine End.kp [6, 25, 26, 27] ?_
   refine Run.go ?_
   refine End.lp ?_
   refine ⟨ps.length - (i + 1), _, by omega, Ghost.form [(6, .ms 0 0 ((ps.take i).flatten.length + r.length)), (25, .im (.sl (boolss ps))), (26, .i ps.length), (27, .i (i + 1 : Nat))] 1 ⟨rfl, rfl, rfl, rfl, trivial⟩ rfl rfl, i + 1, rfl, by omega, ?_⟩
   rw [hft]
   simp
  ·have hb2 := of_decide_eq_false hb
   have hiN : i = ps.length := by omega
   subst hiN
   rw [List.take_length] at hfl ⊢
   refine Run.exit rfl ?_
   refine End.kp [6] ?_
   refine Run.seq ?_
   refine Run.ghost (Ghost.shut (t := 6) (j := 0) rfl rfl hfl) ?_
   simp only [eput, edel]
   have fx := ai hfl (ai boolss_len ft)
   refine Run.go ?_
   refine End.kp [2] ?_
   refine Run.ret (hQ _ _ ⟨.inr rfl, _, rfl, _, rfl, ?_⟩)
   exact ⟨rfl, rfl⟩
end Go.Proofs.YtkjfdacjjogpcaaPi

/- slices.Concat of rows of bools that may all be empty. -/
set_option linter.unusedVariables false
set_option linter.unusedSimpArgs false
set_option maxRecDepth 100000
namespace Go.Proofs.YtkjfdacjjogpcaaPi
set_option maxHeartbeats 4000000
theorem growB0_ok (up : Frs) : ACalls Try.prog 44 [.nils, .i 0] up fun v u => v = .im (.sl []) ∧ u = up := by
 refine ACalls.code Try.func44 rfl 27 rfl (by simp) [.tmp 4] rfl fun Q hQ => ?_
 simp only [ups, PV.up, argEnv]
 have ft := ai ty_3 (ai ty_4 (ai ty_9 (ai ty_33 trivial)))
 refine Run.seq ?_
 have fx := ft
 refine Run.go ?_
 refine End.kp [0, 1] ?_
 refine Run.seq ?_
 refine Run.seq ?_
 refine Run.go ?_
 refine End.kp [0, 1, 6] ?_
 refine Run.cond _ rfl (fun hb => ?_) (fun hb => ?_)
 ·have hb2 := hb
  simp at hb
 ·have hb2 := hb
  refine Run.skip ?_
  refine End.kp [0, 1] ?_
  refine Run.seq ?_
  refine Run.seq ?_
  have fx := ft
  refine Run.region rfl fun K hK => GOps.sim ?_
  refine GOps.capNil (GOps.sim ?_)
  refine GOps.done (hK _ ?_); clear hK K
  refine End.kp [0, 1] ?_
  refine Run.seq ?_
  have fx := ft
  refine Run.go ?_
  refine End.kp [0, 1, 16] ?_
  refine Run.cond _ rfl (fun hb => ?_) (fun hb => ?_)
  ·have hb3 := hb
   exact absurd hb (by decide)
  ·have hb3 := hb
   refine Run.skip ?_
   refine End.kp [0] ?_
   refine Run.seq ?_
   have fx := ft
   refine Run.go ?_
   refine End.kp [4] ?_
   refine Run.ret (hQ _ _ ⟨.inr rfl, _, rfl, _, rfl, ?_⟩)
   exact ⟨rfl, rfl⟩
theorem ConcatB0_ok (ps : List (List Bool)) (h0 : ∀ r ∈ ps, r = []) (h2 : ps.length ≤ 1000) (up : Frs) : ACalls Try.prog 15 [.im (.sl (boolss ps))] up fun v u => v = .im (.sl (bools [])) ∧ u = up := by
 refine ACalls.code Try.func15 rfl 36 rfl (by simp) [.tmp 2] rfl fun Q hQ => ?_
 simp only [ups, PV.up, argEnv]
 have ft := ai ty_3 (ai ty_4 (ai ty_9 (ai ty_33 (ai ty_62 trivial))))
 refine Run.seq ?_
 have fx := ai boolss_len ft
 refine Run.go ?_
 refine End.kp [0] ?_
 refine Run.seq ?_
 refine Run.go ?_
 refine End.kp [0, 3] ?_
 refine Run.seq ?_
 refine Run.seq ?_
 refine Run.go ?_
 refine End.kp [0, 3, 9, 10, 11] ?_
 refine Run.block ?_
 refine Run.ghost (Ghost.form [(0, .im (.sl (boolss ps))), (3, .i 0), (9, .im (.sl (boolss ps))), (10, .i ps.length), (11, .i (0 : Nat))] 0 ⟨rfl, rfl, rfl, rfl, rfl, trivial⟩ rfl (by simp only [ASt.push, List.nil_append, List.cons_append, List.take_succ_cons, List.take_zero, List.all_cons, List.all_nil, AObj.under, unders, PV.under, Bool.and_true, Bool.and_self])) ?_
 refine Run.loop (fun m' st => ∃ i : Nat, m' = ps.length - i ∧ i ≤ ps.length ∧ st = ⟨[(0, .im (.sl (boolss ps))), (3, .i 0), (9, .im (.sl (boolss ps))), (10, .i ps.length), (11, .i (i : Nat))], [], up⟩) ps.length ⟨0, rfl, by omega, rfl⟩ fun m' st hI => ?_
 obtain ⟨i, rfl, hi, rfl⟩ := hI
 refine Run.seq ?_
 have fx := ai boolss_len ft
 refine Run.go ?_
 refine End.kp [0, 3, 9, 10, 11, 12] ?_
 refine Run.seq ?_
 refine Run.cond _ rfl (fun hb => ?_) (fun hb => ?_)
 ·have hb2 := of_decide_eq_true hb
  have hin : i < ps.length := by omega
  have wi := wsucc hin (by omega)
  obtain ⟨r, hri, hrm, _, hrr⟩ := boolss_at ps i hin
  have hil : (i : Int) < (ps.length : Int) := by omega
  have e := h0 r hrm
  subst e
  refine Run.skip ?_
  refine End.kp [0, 3, 9, 10, 11] ?_
  refine Run.seq ?_
  refine Run.block ?_
  refine Run.seq ?_
  have fx := ai (@List.map_nil.{0, 0}) (ai (@Int.toNat_natCast) (ai (@Int.natCast_nonneg) (ai bools_len (ai hil (ai hrr (ai wi (ai boolss_len ft)))))))
  refine Run.go ?_
  refine End.kp [0, 3, 5, 9, 10, 11] ?_
  refine Run.seq ?_
  refine Run.go ?_
  refine End.kp [0, 3, 9, 10, 11] ?_
  refine Run.seq ?_
  refine Run.go ?_
  refine End.kp [0, 3, 9, 10, 11, 20] ?_
  refine Run.cond _ rfl (fun hb => ?_) (fun hb => ?_)
  ·have hb3 := hb
   exact absurd hb (by decide)
  ·have hb3 := hb
   refine Run.skip ?_
   refine End.blk ?_
   refine End.kp [0, 3, 9, 10, 11] ?_
   have fx := ai (@List.map_nil.{0, 0}) (ai (@Int.toNat_natCast) (ai (@Int.natCast_nonneg) (ai bools_len (ai hil (ai hrr (ai wi (ai boolss_len ft)))))))
   refine Run.go ?_
   refine End.lp ?_
   refine ⟨ps.length - (i + 1), _, by omega, Ghost.form [(0, .im (.sl (boolss ps))), (3, .i 0), (9, .im (.sl (boolss ps))), (10, .i ps.length), (11, .i (i + 1 : Nat))] 0 ⟨rfl, rfl, rfl, rfl, rfl, trivial⟩ rfl (by simp only [ASt.push, List.nil_append, List.cons_append, List.take_succ_cons, List.take_zero, List.all_cons, List.all_nil, AObj.under, unders, PV.under, Bool.and_true, Bool.and_self]), i + 1, rfl, by omega, rfl⟩
 ·have hb2 := of_decide_eq_false hb
  refine Run.exit rfl ?_
  refine End.kp [0, 3] ?_
  refine Run.seq ?_
  have fx := ai boolss_len ft
  refine Run.region rfl fun K hK => GOps.sim ?_
  refine GOps.callM rfl rfl rfl rfl (by kernel_rfl) (ACalls.sim ?_)
  refine (growB0_ok _).mono fun v u hv => ?_
  obtain ⟨rfl, rfl⟩ := hv
  refine ⟨_, _, rfl, GOps.sim ?_⟩
  refine GOps.done (hK _ ?_); clear hK K
  refine End.kp [0, 6] ?_
  refine Run.seq ?_
  refine Run.seq ?_
  refine Run.go ?_
  refine End.kp [6, 25, 26, 27] ?_
  refine Run.block ?_
  refine Run.ghost (Ghost.form [(6, .im (.sl [])), (25, .im (.sl (boolss ps))), (26, .i ps.length), (27, .i (0 : Nat))] 0 ⟨rfl, rfl, rfl, rfl, trivial⟩ rfl (by simp only [ASt.push, List.nil_append, List.cons_append, List.take_succ_cons, List.take_zero, List.all_cons, List.all_nil, AObj.under, unders, PV.under, Bool.and_true, Bool.and_self])) ?_
  refine Run.loop (fun m' st => ∃ i : Nat, m' = ps.length - i ∧ i ≤ ps.length ∧ st = ⟨[(6, .im (.sl [])), (25, .im (.sl (boolss ps))), (26, .i ps.length), (27, .i (i : Nat))], [], up⟩) ps.length ⟨0, rfl, by omega, rfl⟩ fun m' st hI => ?_
  obtain ⟨i, rfl, hi, rfl⟩ := hI
  refine Run.seq ?_
  have fx := ai boolss_len ft
  refine Run.go ?_
  refine End.kp [6, 25, 26, 27, 28] ?_
  refine Run.seq ?_
  refine Run.cond _ rfl (fun hb => ?_) (fun hb => ?_)
  ·have hb2 := of_decide_eq_true hb
   have hin : i < ps.length := by omega
   have wi := wsucc hin (by omega)
   obtain ⟨r, hri, hrm, _, hrr⟩ := boolss_at ps i hin
   have hil : (i : Int) < (ps.length : Int) := by omega
   have e := h0 r hrm
   subst e
   refine Run.skip ?_
   refine End.kp [6, 25, 26, 27] ?_
   refine Run.seq ?_
   refine Run.block ?_
   refine Run.seq ?_
   have fx := ai (@List.map_nil.{0, 0}) (ai (@Int.toNat_natCast) (ai (@Int.natCast_nonneg) (ai hil (ai hrr (ai wi (ai boolss_len ft))))))
   refine Run.go ?_
   refine End.kp [6, 8, 25, 26, 27] ?_
   refine Run.region rfl fun K hK => GOps.sim ?_
   refine GOps.appendE (GOps.sim ?_)
   refine GOps.done (hK _ ?_); clear hK K
   refine End.blk ?_
   refine End.kp [6, 25, 26, 27] ?_
   have fx := ai (@List.map_nil.{0, 0}) (ai (@Int.toNat_natCast) (ai (@Int.natCast_nonneg) (ai hil (ai hrr (ai wi (ai boolss_len ft))))))
   refine Run.go ?_
   refine End.lp ?_
   refine ⟨ps.length - (i + 1), _, by omega, Ghost.form [(6, .im (.sl [])), (25, .im (.sl (boolss ps))), (26, .i ps.length), (27, .i (i + 1 : Nat))] 0 ⟨rfl, rfl, rfl, rfl, trivial⟩ rfl (by simp only [ASt.push, List.nil_append, List.cons_append, List.take_succ_cons, List.take_zero, List.all_cons, List.all_nil, AObj.under, unders, PV.under, Bool.and_true, Bool.and_self]), i + 1, rfl, by omega, rfl⟩
  ·have hb2 := of_decide_eq_false hb
   refine Run.exit rfl ?_
   refine End.kp [6] ?_
   refine Run.seq ?_
   have fx := ai boolss_len ft
   refine Run.go ?_
   refine End.kp [2] ?_
   refine Run.ret (hQ _ _ ⟨.inr rfl, _, rfl, _, rfl, ?_⟩)
   exact ⟨rfl, rfl⟩
theorem ConcatBs_ok (ps : List (List Bool)) (h1 : sumL ps ≤ 100000) (h2 : ps.length ≤ 1000) (f0 : List AObj) (rest : Frs) : ACalls Try.prog 15 [.im (.sl (boolss ps))] (f0 :: rest) fun v u => v = .im (.sl (bools ps.flatten)) ∧ u = f0 :: rest := by
 by_cases h : ∀ r ∈ ps, r = []
 ·rw [List.flatten_eq_nil_iff.2 h]
  exact ConcatB0_ok ps h h2 _
 ·refine ConcatB_ok ps (Nat.pos_of_ne_zero fun e => h fun r hr => ?_) h1 h2 _
  obtain ⟨i, hi⟩ := List.mem_iff_getElem?.1 hr
  have k1 := sumL_take ps i r hi
  have k2 := sumL_le ps (i + 1)
  exact List.eq_nil_of_length_eq_zero (by omega)
end Go.Proofs.YtkjfdacjjogpcaaPi

/- The walk of SatGraphs. -/
set_option linter.unusedVariables false
set_option linter.unusedSimpArgs false
set_option maxRecDepth 100000
namespace Go.Proofs.YtkjfdacjjogpcaaPi
set_option maxHeartbeats 40000000
theorem csS_lane {g : LGraph} (hg : GraphOk g) {r s : List Bool} (h1 : r.length = g.inn.length) (h2 : s.length = g.regs.length) {m : List Bool} (h : FndM (varsN g) (csS g (r ++ s)) m) : m = (graphVals g (lanes0 r) (lanes0 s)).map fun w => bits .and .u64 w 1 == 1 := by
 obtain ⟨hl, hh⟩ := h
 have hm := csS_model hg h1 h2 hh
 have hv := graphVals_len g (lanes0 r) (lanes0 s) (by simpa using h1) (by simpa using h2)
 refine List.ext_getElem (by rw [hl, List.length_map, hv]) fun k k1 k2 => ?_
 have := hm k (by rw [hl] at k1; exact k1)
 rw [List.getElem_map, one_iff]
 unfold bitsG at this
 rw [List.getD_eq_getElem?_getD, List.getD_eq_getElem?_getD, List.getElem?_eq_getElem k1, List.getElem?_eq_getElem (by rw [hv]; rw [hl] at k1; exact k1)] at this
 exact this
theorem small_ands (l : List Int) (a : Int) (ands : Nat) : (smallV l a ands).1.ands.length ≤ ands := by
 obtain ⟨r1, s1⟩ := nextV_range l a 5 (by omega)
 obtain ⟨r2, s2⟩ := nextV_range l (a + 1) 4 (by omega)
 obtain ⟨r3, s3⟩ := nextV_range l (a + 1 + 1) (ands + 1) (by omega)
 obtain ⟨r4, s4⟩ := nextV_range l (a + 1 + 1 + 1) (4 - 1 + 1) (by omega)
 have h2 := graphV_pos l (a + 1 + 1 + 1 + 1) (nextV l a 5).toNat (nextV l (a + 1) 4).toNat (nextV l (a + 1 + 1) (ands + 1)).toNat (1 + nextV l (a + 1 + 1 + 1) (4 - 1 + 1)).toNat
 simp only [smallV]
 omega
theorem SatGraphs_walk (l : List Int) (hs : StmOk l 0) (up : Frs) : ACalls Try.prog 3 [.im (.sl (ints l))] up fun v u => v = .im (.bool true) ∧ u = up := by
 have ok : ∀ b : Int, 0 ≤ b → b ≤ 100000 → StmOk l b := fun b h1 h2 => ⟨hs.vals, hs.len, h1, by omega⟩
 have hSm := Small_ok 30 (by omega) l 0 hs (by omega)
 obtain ⟨hg, hb1, hb2⟩ := small_ok l 0 30 (by omega)
 obtain ⟨hi4, hr3⟩ := small_len l 0 30
 have ha30 := small_ands l 0 30
 generalize smallV l 0 30 = M at hSm hg hb1 hb2 hi4 hr3 ha30
 obtain ⟨g, b⟩ := M
 simp only at hSm hg hb1 hb2 hi4 hr3 ha30
 obtain ⟨z1, z2, z3, z4, z5⟩ := hg.small
 obtain ⟨r, hr⟩ : ∃ r, r = valsV l g.inn.length b := ⟨_, rfl⟩
 obtain ⟨s, hst⟩ : ∃ s, s = valsV l g.regs.length (b + g.inn.length) := ⟨_, rfl⟩
 obtain ⟨b2, hb2e⟩ : ∃ b2 : Int, b2 = b + g.inn.length + g.regs.length := ⟨_, rfl⟩
 have hrl : r.length = g.inn.length := by rw [hr]; exact valsV_len _ _ _
 have hsl : s.length = g.regs.length := by rw [hst]; exact valsV_len _ _ _
 obtain ⟨bs, hbs⟩ : ∃ bs, bs = r ++ s := ⟨_, rfl⟩
 have hbl : bs.length = g.inn.length + g.regs.length := by rw [hbs, List.length_append, hrl, hsl]
 have hCB := ConcatBs_ok [r, s] (by simp [sumL]; omega) (by simp)
 rw [show [r, s].flatten = bs by simp [hbs]] at hCB
 have hCin := csS_in hg hbl (by omega)
 obtain ⟨vals, hvals⟩ : ∃ vals, vals = graphVals g (lanes0 r) (lanes0 s) := ⟨_, rfl⟩
 have hvl : vals.length = varsN g := by rw [hvals]; exact graphVals_len g _ _ (by simpa using hrl) (by simpa using hsl)
 have hvar0 : varsN g ≤ 1000 := by unfold varsN; omega
 have hvar : varsN g ≤ 20000 := by omega
 have hpl := csS_plant hg hrl hsl
 rw [← hbs] at hpl
 have hnod : (1 + (g.inn.length : Int) + g.regs.length + g.ands.length) = ((varsN g : Nat) : Int) := by unfold varsN; omega
 have hdet : Det (fun v => bitsG g r s (v - 1)) (varsN g) (csS g bs) := fun S B hB hSn hh hc => csS_det hg hbl hB hSn hh hc
 have hmod : ∀ m, FndM (varsN g) (csS g bs) m → m = vals.map fun w => bits .and .u64 w 1 == 1 := fun m hm => by rw [hvals]; exact csS_lane hg hrl hsl (by rw [← hbs]; exact hm)
 have hcl0 := csN_len g ((0 : Nat) : Int) g.ands.length
 refine ACalls.code Try.func3 rfl 107 rfl (by simp) [.tmp 2] rfl fun Q hQ => ?_
 simp only [ups, PV.up, argEnv]
 have ft := ai ty_2 (ai ty_3 (ai ty_4 (ai ty_9 (ai ty_22 (ai ty_23 (ai ty_25 (ai ty_26 (ai ty_27 (ai ty_31 (ai ty_33 (ai ty_35 (ai ty_36 (ai ty_39 (ai ty_46 (ai ty_57 (ai ty_62 (ai ty_99 trivial)))))))))))))))))
 refine Run.seq ?_
 have fx := ai bools_len (ai rim_len (ai strs_len ft))
 refine Run.go ?_
 refine End.kp [0] ?_
 refine Run.seq ?_
 refine Run.go ?_
 refine End.kp [3] ?_
 refine Run.seq ?_
 refine Run.region rfl fun K hK => GOps.sim ?_
 refine GOps.call rfl rfl rfl rfl (by kernel_rfl) (ACalls.sim ?_)
 refine (hSm _ 0 0 rfl).mono fun v u hv => ?_
 obtain ⟨rfl, rfl⟩ := hv
 refine ⟨_, _, rfl, GOps.sim ?_⟩
 refine GOps.done (hK _ ?_); clear hK K
 refine End.kp [3, 4] ?_
 refine Run.seq ?_
 refine Run.drawA fun K hK => ?_
 refine DOps.sim ?_
 refine DOps.call (.im (.sl (bools r))) [((0, 0), stm l b)] [((0, 0), stm l (b + g.inn.length))] rfl rfl rfl rfl (by kernel_rfl) (by simp [Agree, ASt.fr]) (fun u hu => by rw [hr]; exact Values_ok g.inn.length (by omega) l b (ok _ (by omega) (by omega)) (by omega) u 0 0 (hu ((0, 0), stm l b) (by simp))) ?_
 refine DOps.sim ?_
 refine DOps.call (.im (.sl (bools s))) [((0, 0), stm l (b + g.inn.length))] [((0, 0), stm l b2)] rfl rfl rfl rfl (by kernel_rfl) (by simp [Agree, ASt.fr]) (fun u hu => by rw [hst, hb2e]; exact Values_ok g.regs.length (by omega) l (b + g.inn.length) (ok _ (by omega) (by omega)) (by omega) u 0 0 (hu ((0, 0), stm l (b + g.inn.length)) (by simp))) ?_
 refine DOps.sim ?_
 refine DOps.nil ?_ (hK _ ?_)
 ·rfl
 clear hK K
 refine End.kp [4, 5, 6] ?_
 refine Run.seq ?_
 refine Run.region rfl fun K hK => GOps.sim ?_
 refine GOps.call rfl rfl rfl rfl (by kernel_rfl) (ACalls.sim ?_)
 refine (ClausesX_ok g hg 0 (by omega) _ _).mono fun v u hv => ?_
 obtain ⟨rfl, rfl⟩ := hv
 refine ⟨_, _, rfl, GOps.sim ?_⟩
 refine GOps.done (hK _ ?_); clear hK K
 refine End.kp [4, 5, 6, 7, 8] ?_
 refine Run.seq ?_
 refine Run.drawA fun K hK => ?_
 refine DOps.sim ?_
 refine DOps.call (.im (.sl (us (lanes0 r)))) [] [] rfl rfl rfl rfl (by kernel_rfl) (by simp [Agree]) (fun u hu => Lanes_ok r (by omega) u) ?_
 refine DOps.sim ?_
 refine DOps.call (.im (.sl (us (lanes0 s)))) [] [] rfl rfl rfl rfl (by kernel_rfl) (by simp [Agree]) (fun u hu => Lanes_ok s (by omega) u) ?_
 refine DOps.sim ?_
 refine DOps.call (.tup [.im (.sl (us vals)), .i 0]) [] [] rfl rfl rfl rfl (by kernel_rfl) (by simp [Agree]) (fun u hu => by rw [hvals]; exact GValues_ok g hg _ _ (by simpa using hrl) (by simpa using hsl) u) ?_
 refine DOps.sim ?_
 refine DOps.nil ?_ (hK _ ?_)
 ·rfl
 clear hK K
 refine End.kp [4, 5, 6, 7, 8, 9, 10] ?_
 refine Run.seq ?_
 refine Run.seq ?_
 refine Run.region rfl fun K hK => GOps.sim ?_
 refine GOps.call rfl rfl rfl rfl (by kernel_rfl) (ACalls.sim ?_)
 refine (hCB _ _).mono fun v u hv => ?_
 obtain ⟨rfl, rfl⟩ := hv
 refine ⟨_, _, rfl, GOps.sim ?_⟩
 refine GOps.done (hK _ ?_); clear hK K
 refine End.kp [4, 7, 8, 9, 10, 47, 48, 49] ?_
 refine Run.block ?_
 refine Run.ghost (Ghost.form [(4, .ptr 0 1 0), (7, .ms 0 4 (csN g ((0 : Nat) : Int) g.ands.length).length), (8, .i 0), (9, .im (.sl (us vals))), (10, .i 0), (47, .im (.sl (bools bs))), (48, .i bs.length), (49, .i (0 : Nat))] 5 ⟨rfl, rfl, rfl, rfl, rfl, rfl, rfl, rfl, trivial⟩ rfl (by simp only [ASt.push, List.nil_append, List.cons_append, List.take_succ_cons, List.take_zero, List.all_cons, List.all_nil, AObj.under, unders, PV.under, Bool.and_true, Bool.and_self])) ?_
 refine Run.loop (fun m st => ∃ i : Nat, m = bs.length - i ∧ i ≤ bs.length ∧ st = ⟨[(4, .ptr 0 1 0), (7, .ms 0 4 ((csN g ((0 : Nat) : Int) g.ands.length).length + i)), (8, .i 0), (9, .im (.sl (us vals))), (10, .i 0), (47, .im (.sl (bools bs))), (48, .i bs.length), (49, .i (i : Nat))], [stm l b2, .box [.im (.sl (strs g.inn)), .im (.sl (strs g.out)), .im (.sl (g.regs.map LReg.im)), .im (.sl (g.ands.map nd)), .im (.sl (ints g.outs))], .box [.im (.sl (strs g.inn)), .im (.sl (strs g.out)), .im (.sl (g.regs.map LReg.im)), .im (.sl (g.ands.map nd)), .im (.sl (ints g.outs))], .box [.im (.sl (strs g.inn)), .im (.sl (strs g.out)), .im (.sl (g.regs.map LReg.im)), .im (.sl (g.ands.map nd)), .im (.sl (ints g.outs))], .row 22 1 (clss (csN g ((0 : Nat) : Int) g.ands.length ++ unitsC bs i)) 0], up⟩) bs.length ⟨0, rfl, by omega, by rw [show unitsC bs 0 = [] from rfl, List.append_nil]; rfl⟩ fun m st hI => ?_
 obtain ⟨i, hm, hi, rfl⟩ := hI
 subst m
 have hcc : (clss (csN g ((0 : Nat) : Int) g.ands.length ++ unitsC bs i)).length = (csN g ((0 : Nat) : Int) g.ands.length).length + i := by simp [unitsC]
 have hap : ((csN g ((0 : Nat) : Int) g.ands.length).length + i + 1) * 24 ≤ 140737488355328 := by omega
 refine Run.seq ?_
 have fx := ai hap (ai hcc (ai bools_len (ai rim_len (ai strs_len ft))))
 refine Run.go ?_
 refine End.kp [4, 7, 8, 9, 10, 47, 48, 49, 50] ?_
 refine Run.seq ?_
 refine Run.cond _ rfl (fun hb => ?_) (fun hb => ?_)
 ·have hb3 := of_decide_eq_true hb
  have hin : i < bs.length := by omega
  have wi := wsucc hin (by omega)
  have hil : (i : Int) < (bs.length : Int) := by omega
  have gm := bools_get bs i hin
  have x1 : IntKind.i64.wrap (2 + (i : Int)) = 2 + (i : Int) := wrap64 (by omega)
  have x2 : IntKind.i64.wrap (-2 - (i : Int)) = -2 - (i : Int) := wrap64 (by omega)
  refine Run.skip ?_
  refine End.kp [4, 7, 8, 9, 10, 47, 48, 49] ?_
  refine Run.seq ?_
  refine Run.block ?_
  refine Run.seq ?_
  have fx := ai (@Int.toNat_natCast) (ai (@Int.natCast_nonneg) (ai x2 (ai x1 (ai gm (ai hil (ai wi (ai hap (ai hcc (ai bools_len (ai rim_len (ai strs_len ft)))))))))))
  refine Run.go ?_
  refine End.kp [4, 7, 8, 9, 10, 11, 12, 47, 48, 49] ?_
  refine Run.seq ?_
  refine Run.go ?_
  refine End.kp [4, 7, 8, 9, 10, 11, 47, 48, 49, 54] ?_
  refine Run.cond _ rfl (fun hb => ?_) (fun hb => ?_)
  ·have hbb : bs.getD i false = true := hb
   have fx := ai (@Int.toNat_natCast) (ai (@Int.natCast_nonneg) (ai x2 (ai x1 (ai gm (ai hil (ai wi (ai hap (ai hcc (ai bools_len (ai rim_len (ai strs_len ft)))))))))))
   refine Run.region rfl fun K hK => GOps.simK 3 ?_
   refine GOps.litF (rows := ints [2 + (i : Int)]) ?_ rfl rfl (by simp only [litF, fx] <;> rfl)
   refine GOps.litF (rows := clss [[2 + (i : Int)]]) ?_ rfl rfl (by simp only [litF, fx] <;> rfl)
   refine GOps.sim ?_
   refine GOps.done (hK _ ?_); clear hK K
   refine End.blk ?_
   refine End.kp [4, 7, 8, 9, 10, 47, 48, 49] ?_
   have fx := ai (@Int.toNat_natCast) (ai (@Int.natCast_nonneg) (ai x2 (ai x1 (ai gm (ai hil (ai wi (ai hap (ai hcc (ai bools_len (ai rim_len (ai strs_len ft)))))))))))
   refine Run.go ?_
   refine End.lp ?_
   refine ⟨bs.length - (i + 1), _, by omega, Ghost.form [(4, .ptr 0 1 0), (7, .ms 0 4 ((csN g ((0 : Nat) : Int) g.ands.length).length + (i + 1))), (8, .i 0), (9, .im (.sl (us vals))), (10, .i 0), (47, .im (.sl (bools bs))), (48, .i bs.length), (49, .i (i + 1 : Nat))] 5 ⟨rfl, rfl, rfl, rfl, rfl, rfl, rfl, rfl, trivial⟩ rfl (by simp only [ASt.push, List.nil_append, List.cons_append, List.take_succ_cons, List.take_zero, List.all_cons, List.all_nil, AObj.under, unders, PV.under, Bool.and_true, Bool.and_self]), i + 1, rfl, by omega, ?_⟩
   have e1 : clss (csN g ((0 : Nat) : Int) g.ands.length ++ unitsC bs (i + 1)) = clss (csN g ((0 : Nat) : Int) g.ands.length ++ unitsC bs i) ++ clss [[2 + (i : Int)]] := by
    rw [unitsC_next, unitC, hbb]
    simp
   rw [e1]
   rfl
  ·have hbb : bs.getD i false = false := hb
   have fx := ai (@Int.toNat_natCast) (ai (@Int.natCast_nonneg) (ai x2 (ai x1 (ai gm (ai hil (ai wi (ai hap (ai hcc (ai bools_len (ai rim_len (ai strs_len ft)))))))))))
   refine Run.region rfl fun K hK => GOps.simK 3 ?_
   refine GOps.litF (rows := ints [-2 - (i : Int)]) ?_ rfl rfl (by simp only [litF, fx] <;> rfl)
   refine GOps.litF (rows := clss [[-2 - (i : Int)]]) ?_ rfl rfl (by simp only [litF, fx] <;> rfl)
   refine GOps.sim ?_
   refine GOps.done (hK _ ?_); clear hK K
   refine End.blk ?_
   refine End.kp [4, 7, 8, 9, 10, 47, 48, 49] ?_
   have fx := ai (@Int.toNat_natCast) (ai (@Int.natCast_nonneg) (ai x2 (ai x1 (ai gm (ai hil (ai wi (ai hap (ai hcc (ai bools_len (ai rim_len (ai strs_len ft)))))))))))
   refine Run.go ?_
   refine End.lp ?_
   refine ⟨bs.length - (i + 1), _, by omega, Ghost.form [(4, .ptr 0 1 0), (7, .ms 0 4 ((csN g ((0 : Nat) : Int) g.ands.length).length + (i + 1))), (8, .i 0), (9, .im (.sl (us vals))), (10, .i 0), (47, .im (.sl (bools bs))), (48, .i bs.length), (49, .i (i + 1 : Nat))] 5 ⟨rfl, rfl, rfl, rfl, rfl, rfl, rfl, rfl, trivial⟩ rfl (by simp only [ASt.push, List.nil_append, List.cons_append, List.take_succ_cons, List.take_zero, List.all_cons, List.all_nil, AObj.under, unders, PV.under, Bool.and_true, Bool.and_self]), i + 1, rfl, by omega, ?_⟩
   have e1 : clss (csN g ((0 : Nat) : Int) g.ands.length ++ unitsC bs (i + 1)) = clss (csN g ((0 : Nat) : Int) g.ands.length ++ unitsC bs i) ++ clss [[-2 - (i : Int)]] := by
    rw [unitsC_next, unitC, hbb]
    simp
   rw [e1]
   rfl
 ·have hb3 := of_decide_eq_false hb
  have hie : i = bs.length := by omega
  subst hie
  refine Run.exit rfl ?_
  refine End.kp [4, 7, 8, 9, 10] ?_
  refine Run.seq ?_
  refine Run.ghost (Ghost.shut (t := 7) (j := 4) rfl rfl hcc) ?_
  simp only [eput, edel]
  have fx := ai us_len (ai hap (ai hcc (ai bools_len (ai rim_len (ai strs_len ft)))))
  refine Run.region rfl fun K hK => GOps.sim ?_
  refine GOps.call rfl rfl rfl rfl (by kernel_rfl) (ACalls.sim ?_)
  refine (GNodes_ok g hg.small _).mono fun v u hv => ?_
  obtain ⟨rfl, rfl⟩ := hv
  rw [hnod]
  have fx := ai us_len (ai hap (ai hcc (ai bools_len (ai rim_len (ai strs_len ft)))))
  refine ⟨_, _, rfl, GOps.sim ?_⟩
  refine GOps.call rfl rfl rfl rfl (by kernel_rfl) (ACalls.sim ?_)
  refine (solveD_ok (fun v => bitsG g r s (v - 1)) (csS g bs) (varsN g) 9 hvar ⟨hCin.1, hCin.2⟩ hpl (by omega) hdet _).mono fun v u hv => ?_
  obtain ⟨rfl, m, q, rfl, hf⟩ := hv
  have hmv := hmod m hf
  have e1 : ((m.length : Int) != (vals.length : Int)) = false := by rw [hmv]; simp
  have fx := ai us_len (ai hap (ai hcc (ai bools_len (ai rim_len (ai strs_len ft)))))
  refine ⟨_, _, rfl, GOps.sim ?_⟩
  refine GOps.done (hK _ ?_); clear hK K
  refine End.kp [8, 9, 10, 13, 14] ?_
  refine Run.seq ?_
  refine Run.seq ?_
  have fx := ai e1 (ai us_len (ai hap (ai hcc (ai bools_len (ai rim_len (ai strs_len ft))))))
  refine Run.region rfl fun K hK => GOps.sim ?_
  refine GOps.call rfl rfl rfl rfl (by kernel_rfl) (ACalls.sim ?_)
  refine (solved_ok _).mono fun v u hv => ?_
  obtain ⟨rfl, rfl⟩ := hv
  refine ⟨_, _, rfl, GOps.sim ?_⟩
  refine GOps.done (hK _ ?_); clear hK K
  refine End.kp [9, 13, 101] ?_
  refine Run.cond _ rfl (fun hb => ?_) (fun hb => ?_)
  ·have hb4 := hb
   simp at hb
  ·have hb4 := hb
   refine Run.skip ?_
   refine End.kp [9, 13] ?_
   refine Run.seq ?_
   have fx := ai e1 (ai us_len (ai hap (ai hcc (ai bools_len (ai rim_len (ai strs_len ft))))))
   refine Run.drawA fun K hK => ?_
   refine DOps.sim ?_
   refine DOps.call (.im (.sl (bools (vals.map fun w => bits .and .u64 w 1 == 1)))) [] [] rfl rfl rfl rfl (by kernel_rfl) (by simp [Agree]) (fun u hu => Lane_ok vals (by omega) u) ?_
   refine DOps.sim ?_
   refine DOps.call (.im (.bool true)) [] [] rfl rfl rfl rfl (by kernel_rfl) (by simp [Agree]) (fun u hu => EqT_same _ _ hmv (by rw [hf.1]; omega) u) ?_
   refine DOps.sim ?_
   refine DOps.nil ?_ (hK _ ?_)
   ·rfl
   clear hK K
   refine End.kp [2] ?_
   refine Run.ret (hQ _ _ ⟨.inr rfl, _, rfl, _, rfl, ?_⟩)
   exact ⟨rfl, rfl⟩
end Go.Proofs.YtkjfdacjjogpcaaPi

