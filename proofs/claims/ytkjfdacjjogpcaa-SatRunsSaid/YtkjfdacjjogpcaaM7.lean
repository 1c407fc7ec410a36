/- Part 7 of the proof: the texts WSV, WSW, WSX, WVB, WFC, one behind the other. Each holds for every input that it names; no condition is hidden. -/
import Derived.Test.YtkjfdacjjogpcaaM6
import Derived.Test.YtkjfdacjjogpcaaPiSim
import Derived.Test.YtkjfdacjjogpcaaM4
/- The walk of Solve, for clauses that some model fulfils. -/
set_option linter.unusedVariables false
set_option linter.unusedSimpArgs false
set_option maxRecDepth 100000
namespace Go.Proofs.YtkjfdacjjogpcaaPi
set_option maxHeartbeats 40000000
def FndM (n : Nat) (cs : List (List Int)) (m : List Bool) : Prop := m.length = n ∧ ∀ c ∈ cs, HoldsC (fun v => m.getD (v - 1) false) c
theorem pot_pos (S : Sol) : 1 ≤ S.pot := by
 unfold Sol.pot
 have := Nat.one_le_two_pow (n := S.n - S.tr.length)
 omega
def Is (M : Nat → Bool) : (Nat → Bool) → Prop := fun M' => M' = M
theorem is_all {M : Nat → Bool} {Q : (Nat → Bool) → Prop} (h : Q M) : ∀ M', Is M M' → Q M' := fun M' e => by
 have e2 : M' = M := e
 rw [e2]
 exact h
theorem load_is {M : Nat → Bool} (cs : List (List Int)) {S : Sol} {B : Nat} (h : Ld (Is M) S B) (h1 : ∀ c ∈ cs, 0 < c.length ∧ c.length ≤ 12 ∧ ∀ l ∈ c, LitOk S.n l) (h2 : ∀ c ∈ cs, HoldsC M c) (h3 : S.cl.length + cs.length ≤ 1000000) :
  (Sol.load cs S).2 = true ∧ (∃ B', Ld (Is M) (Sol.load cs S).1 B') ∧ (∀ c ∈ cs, Cov (Sol.load cs S).1 c) ∧ (∀ e, Cov S e → Cov (Sol.load cs S).1 e) ∧ (Sol.load cs S).1.n = S.n := by
 rcases Ld.load cs h h1 (is_all h2) h3 with h | ⟨_, h⟩
 ·exact h
 ·exact absurd rfl (h M)
theorem runP_ok (M : Nat → Bool) (cs : List (List Int)) (n limit : Nat) (hn : n ≤ 20000) (hcs : ClsIn n cs) (hm : ∀ c ∈ cs, HoldsC M c) (hlim : limit ≤ 65536) (h2 : 2 ^ n ≤ limit) (up : Frs) :
  ACalls Try.prog 46 [.im (.sl (clss cs)), .i (n : Nat), .i (limit : Nat), .im (.bool true)] up fun v u => u = up ∧ ∃ (m : List Bool) (q : Nat), v = .agg [.im (.bool true), .im (.bool true), .im (.sl (bools m)), .im (.sl []), .i (q : Nat)] ∧ q ≤ limit ∧ FndM n cs m := by
 have hcl := hcs.len
 obtain ⟨ld1, ⟨B2, ld2⟩, ld3, ld4, ld5⟩ := load_is cs ⟨new_base (Is M) hn, rfl, rfl⟩ hcs.cls hm (by show 0 + cs.length ≤ 1000000; omega)
 refine (run_ok (Is M) (fun S q => S.n = n ∧ q + S.pot ≤ 2 ^ n) cs n limit true hn hcs (is_all hm) hlim (fun _ => ⟨ld5, ?_⟩) (fun S S' q hE hI => ⟨hE.n.trans hI.1, by have := hE.pot; have := hI.2; omega⟩) (fun S B q hB hSn hh hc hI hd => ?_) (fun S B k c d q hBd hSn hI hq hL hp => ?_) up).mono fun v u hv => ?_
 ·unfold Sol.pot
  rw [ld2.st]
  have := Nat.pow_le_pow_right (n := 2) (by decide) (show (Sol.load cs (Sol.new n)).1.n - (Sol.load cs (Sol.new n)).1.tr.length ≤ n by rw [ld5]; exact Nat.sub_le _ _)
  simp only [List.map_nil, List.sum_nil]
  omega
 ·obtain ⟨g1, g2, g3, _⟩ := (hB.decide hh).2 hd
  exact ⟨g3.trans hSn, by rw [g2]; exact hI.2⟩
 ·obtain ⟨hp1, hp2⟩ := hp rfl
  have hps := hBd.pos (M := M) rfl
  have hst := hBd.sw.len.stn
  have hne : c.length ≤ 100000 := by
   rw [hp1, refuted_len]; have := hBd.sw.len.n; omega
  by_cases hz : S.cl.length + 1 ≤ 1000000
  ·by_cases hM : HoldsC M c
   ·obtain ⟨hbk, _, _, _, _, hn2, _⟩ := hBd.heed hL (is_all hM) hne hz
    have := back_pot (c := c) (d := d) (by omega) hbk
    exact ⟨hn2.trans hSn, by have := hI.2; omega⟩
   ·exact absurd (by rw [hp1]; exact refuted_holds hBd.sw hBd.con (hBd.snd M rfl) hBd.hst) hM
  ·have hb := hBd.sw.csz
   have hbk : Bk S d (S.back d) := (back_calm hBd.sw hBd.con.inv hBd.con.wat hBd.con.pro hBd.hst hBd.hsh hL.dl).2
   have := back_pot (c := c) (d := d) (by omega) hbk
   have f5 : ((S.back d).heed c).n = (S.back d).n := by unfold Sol.heed; split <;> rfl
   exact ⟨f5.trans (hbk.n.trans hSn), by have := hI.2; omega⟩
 ·obtain ⟨rfl, d, f, m, pr, q, h1, h3, h4, h5⟩ := hv
  cases f with
  | true =>
   obtain ⟨rfl, rfl, h6⟩ := h4 rfl
   exact ⟨rfl, m, q, h1, h3, h6⟩
  | false =>
   obtain ⟨_, h6, h7⟩ := h5 rfl
   cases d with
   | true => exact absurd rfl (h6 rfl M)
   | false =>
    obtain ⟨_, S, B, k, hB, hSn, hI⟩ := h7 rfl
    have := pot_pos S
    have := hI.2
    omega
theorem runL_ok (M : Nat → Bool) (cs : List (List Int)) (n limit : Nat) (hn : n ≤ 20000) (hcs : ClsIn n cs) (hm : ∀ c ∈ cs, HoldsC M c) (hlim : limit ≤ 65536) (up : Frs) :
  ACalls Try.prog 46 [.im (.sl (clss cs)), .i (n : Nat), .i (limit : Nat), .im (.bool false)] up fun v u => u = up ∧ ∃ (d : Bool) (m : List Bool) (q : Nat), v = .agg [.im (.bool d), .im (.bool d), .im (.sl (bools m)), .im (.sl []), .i (q : Nat)] ∧ q ≤ limit ∧ (d = true → FndM n cs m) :=
 (run_ok (Is M) (fun _ _ => True) cs n limit false hn hcs (is_all hm) hlim (fun _ => trivial) (fun _ _ _ _ _ => trivial) (fun _ _ _ _ _ _ _ _ _ => trivial) (fun _ _ _ _ _ _ _ _ _ _ _ _ => trivial) up).mono fun v u hv => by
  obtain ⟨rfl, d, f, m, pr, q, h1, h3, h4, h5⟩ := hv
  cases f with
  | true =>
   obtain ⟨rfl, rfl, h6⟩ := h4 rfl
   exact ⟨rfl, true, m, q, h1, h3, fun _ => h6⟩
  | false =>
   obtain ⟨rfl, h6, h7⟩ := h5 rfl
   cases d with
   | true => exact absurd rfl (h6 rfl M)
   | false =>
    obtain ⟨rfl, _⟩ := h7 rfl
    exact ⟨rfl, false, [], q, h1, h3, fun h => by simp at h⟩
theorem ClsIn.ok {n : Nat} {cs : List (List Int)} (hn : n ≤ 20000) (h : ClsIn n cs) : ClsOk n cs := ⟨hn, h.len, fun c hc => ⟨by have := (h.cls c hc).2.1; omega, (h.cls c hc).2.2⟩⟩
theorem solve_ok (M : Nat → Bool) (cs : List (List Int)) (n limit : Nat) (hn : n ≤ 20000) (hcs : ClsIn n cs) (hm : ∀ c ∈ cs, HoldsC M c) (hlim : limit ≤ 65536) (h2 : 2 ^ n ≤ limit) (up : Frs) :
  ACalls Try.prog 16 [.im (.sl (clss cs)), .i (n : Nat), .i (limit : Nat)] up fun v u => u = up ∧ ∃ (m : List Bool) (q : Nat), v = .tup [.agg [.im (.bool true), .im (.bool true), .im (.sl (bools m)), .im (.sl []), .i (q : Nat)], .i 0] ∧ FndM n cs m := by
 have d1 : decide ((limit : Int) < 0) = false := decide_eq_false (by omega)
 have d2 : decide ((65536 : Int) < (limit : Int)) = false := decide_eq_false (by omega)
 refine ACalls.code Try.func16 rfl 44 rfl (by simp) [.cell 6 46, .tmp 7] rfl fun Q hQ => ?_
 simp only [ups, PV.up, argEnv]
 have ft := ai ty_3 (ai ty_4 (ai ty_22 (ai ty_35 (ai ty_36 (ai ty_46 trivial)))))
 refine Run.seq ?_
 have fx := ai d2 (ai d1 ft)
 refine Run.go ?_
 refine End.kp [0, 1, 2, 6] ?_
 refine Run.seq ?_
 refine Run.seq ?_
 refine Run.region rfl fun K hK => GOps.sim ?_
 refine GOps.call rfl rfl rfl rfl (by kernel_rfl) (ACalls.sim ?_)
 refine (satCheck_ok n cs (hcs.ok hn) _).mono fun v u hv => ?_
 obtain ⟨rfl, rfl⟩ := hv
 refine ⟨_, _, rfl, GOps.sim ?_⟩
 refine GOps.done (hK _ ?_); clear hK K
 refine End.kp [0, 1, 2, 6, 8] ?_
 refine Run.seq ?_
 refine Run.go ?_
 refine End.kp [0, 1, 2, 6, 8, 15] ?_
 refine Run.cond _ rfl (fun hb => ?_) (fun hb => ?_)
 ·have hb2 := hb
  simp at hb
 ·have hb2 := hb
  refine Run.skip ?_
  refine End.kp [0, 1, 2, 6] ?_
  refine Run.seq ?_
  refine Run.seq ?_
  have fx := ai d2 (ai d1 ft)
  refine Run.go ?_
  refine End.kp [0, 1, 2, 6, 23] ?_
  refine Run.cond _ rfl (fun hb => ?_) (fun hb => ?_)
  ·have hb3 := hb
   simp at hb
  ·have hb3 := hb
   refine Run.skip ?_
   refine End.kp [0, 1, 2, 6] ?_
   refine Run.seq ?_
   have fx := ai d2 (ai d1 ft)
   refine Run.region rfl fun K hK => GOps.sim ?_
   refine GOps.call rfl rfl rfl rfl (by kernel_rfl) (ACalls.sim ?_)
   refine (runL_ok M cs n limit hn hcs hm hlim _).mono fun v u hv => ?_
   obtain ⟨rfl, d, m, q, rfl, hq, hd1⟩ := hv
   refine ⟨_, _, rfl, GOps.sim ?_⟩
   refine GOps.done (hK _ ?_); clear hK K
   refine End.kp [0, 1, 2, 6, 9] ?_
   refine Run.seq ?_
   refine Run.seq ?_
   refine Run.go ?_
   refine End.kp [0, 1, 2, 6, 9, 31] ?_
   refine Run.cond _ rfl (fun hb => ?_) (fun hb => ?_)
   ·have hd : d = false := by simpa using hb
    refine Run.seq ?_
    have fx := ai d2 (ai d1 ft)
    refine Run.go ?_
    refine End.kp [0, 1, 2, 6, 9, 10] ?_
    refine Run.seq ?_
    refine Run.region rfl fun K hK => GOps.sim ?_
    refine GOps.call rfl rfl rfl rfl (by kernel_rfl) (ACalls.sim ?_)
    refine (runP_ok M cs n limit hn hcs hm hlim h2 _).mono fun v u hv => ?_
    obtain ⟨rfl, m2, q2, rfl, hq2, hf2⟩ := hv
    have wq : IntKind.i64.wrap ((q2 : Int) + (q : Int)) = ((q2 + q : Nat) : Int) := by rw [wrap64 (by omega)]; rfl
    have fx := ai d2 (ai d1 ft)
    refine ⟨_, _, rfl, GOps.sim ?_⟩
    refine GOps.done (hK _ ?_); clear hK K
    refine End.kp [6, 9, 10] ?_
    have fx := ai wq (ai d2 (ai d1 ft))
    refine Run.go ?_
    refine End.kp [6, 9] ?_
    refine Run.seq ?_
    refine Run.go ?_
    refine End.kp [6, 7] ?_
    refine Run.resC hQ ?_
    exact ⟨rfl, m2, q2 + q, rfl, hf2⟩
   ·have hd : d = true := by simpa using hb
    refine Run.skip ?_
    refine End.kp [6, 9] ?_
    refine Run.seq ?_
    have fx := ai d2 (ai d1 ft)
    refine Run.go ?_
    refine End.kp [6, 7] ?_
    refine Run.resC hQ ?_
    subst hd; exact ⟨rfl, m, q, rfl, hd1 rfl⟩
end Go.Proofs.YtkjfdacjjogpcaaPi

/- The walk of Holds, for models that fulfil the clauses; solved. -/
set_option linter.unusedVariables false
set_option linter.unusedSimpArgs false
set_option maxRecDepth 100000
namespace Go.Proofs.YtkjfdacjjogpcaaPi
set_option maxHeartbeats 40000000
end Go.Proofs.YtkjfdacjjogpcaaPi

/- The walk of solved. -/
set_option linter.unusedVariables false
set_option linter.unusedSimpArgs false
set_option maxRecDepth 100000
namespace Go.Proofs.YtkjfdacjjogpcaaPi
set_option maxHeartbeats 40000000
abbrev smallC : List (List Int) := [[-1, 2], [1]]
theorem small_in : ClsIn 2 smallC := ⟨by decide, fun c hc => by
 rcases List.mem_cons.1 hc with rfl | hc
 ·exact ⟨by decide, by decide, fun l hl => by
   rcases List.mem_cons.1 hl with rfl | hl
   ·exact ⟨by decide, by decide⟩
   ·rw [List.mem_singleton.1 hl]; exact ⟨by decide, by decide⟩⟩
 ·rw [List.mem_singleton.1 hc]
  exact ⟨by decide, by decide, fun l hl => by rw [List.mem_singleton.1 hl]; exact ⟨by decide, by decide⟩⟩⟩
theorem small_hold : ∀ c ∈ smallC, HoldsC (fun _ => true) c := fun c hc => by
 rcases List.mem_cons.1 hc with rfl | hc
 ·exact ⟨2, by simp, by unfold hl; decide⟩
 ·rw [List.mem_singleton.1 hc]
  exact ⟨1, by simp, by unfold hl; decide⟩
theorem small_model {m : List Bool} (h : FndM 2 smallC m) : m = [true, true] := by
 obtain ⟨h1, h2⟩ := h
 match m, h1 with
 | [a, b], _ =>
  have k1 := h2 [1] (by simp)
  have k2 := h2 [-1, 2] (by simp)
  obtain ⟨l, m1, m2⟩ := k1
  rw [List.mem_singleton.1 m1] at m2
  have ha : a = true := by simpa [hl] using m2
  subst ha
  obtain ⟨l, m1, m2⟩ := k2
  rcases List.mem_cons.1 m1 with rfl | m1
  ·simp [hl] at m2
  ·rw [List.mem_singleton.1 m1] at m2
   have hb : b = true := by simpa [hl] using m2
   rw [hb]
theorem IndexE_ok (up : Frs) (d j : Nat) : ACalls Try.prog 97 [.im (.sl []), .fn 80 [.ptr d j 0]] up fun r u => r = .i (-1) ∧ u = up := by
 refine ACalls.code Try.func97 rfl 19 rfl (by simp) [.tmp 4] rfl fun Q hQ => ?_
 simp only [ups, PV.up, argEnv]
 have ft := ai ty_3 (ai ty_4 (ai ty_22 trivial))
 refine Run.seq ?_
 have fx := ai (@List.length_nil.{0}) ft
 refine Run.go ?_
 refine End.kp [0, 1] ?_
 refine Run.seq ?_
 refine Run.seq ?_
 refine Run.go ?_
 refine End.kp [0, 1, 7, 8] ?_
 refine Run.block ?_
 refine Run.ghost (Ghost.form [(0, .im (.sl ([] : List (List Im)))), (1, .fn 80 [.ptr (d + 1) j 0]), (7, .i 0), (8, .i 0)] 0 ⟨rfl, rfl, rfl, rfl, trivial⟩ rfl (by simp only [ASt.push, List.nil_append, List.cons_append, List.take_succ_cons, List.take_zero, List.all_cons, List.all_nil, AObj.under, i64s_set, unders_append, unders_ims, unders, PV.under, Bool.and_true, Bool.and_self])) ?_
 refine Run.loop (fun q s => s = ⟨[(0, .im (.sl ([] : List (List Im)))), (1, .fn 80 [.ptr (d + 1) j 0]), (7, .i 0), (8, .i 0)], [], up⟩) 0 rfl fun q s hI => ?_
 subst hI
 refine Run.seq ?_
 have fx := ai (@List.length_nil.{0}) ft
 refine Run.go ?_
 refine End.kp [0, 1, 7, 8, 9] ?_
 refine Run.seq ?_
 refine Run.cond _ rfl (fun hb => ?_) (fun hb => ?_)
 ·have hb2 := hb
  simp at hb
 ·have hb2 := hb
  refine Run.exit rfl ?_
  refine End.kp [] ?_
  refine Run.seq ?_
  have fx := ai (@List.length_nil.{0}) ft
  refine Run.go ?_
  refine End.kp [4] ?_
  refine Run.ret (hQ _ _ ⟨.inr rfl, _, rfl, _, rfl, ?_⟩)
  exact ⟨rfl, rfl⟩
theorem ContainsE_ok (up : Frs) (d j : Nat) : ACalls Try.prog 81 [.im (.sl []), .fn 80 [.ptr d j 0]] up fun r u => r = .im (.bool false) ∧ u = up := by
 refine ACalls.code Try.func81 rfl 9 rfl (by simp) [.tmp 4] rfl fun Q hQ => ?_
 simp only [ups, PV.up, argEnv]
 have ft := ai ty_3 (ai ty_4 (ai ty_22 trivial))
 refine Run.seq ?_
 have fx := ai (@ge_iff_le Int _) ft
 refine Run.go ?_
 refine End.kp [0, 1] ?_
 refine Run.seq ?_
 refine Run.region rfl fun K hK => GOps.sim ?_
 refine GOps.call rfl rfl rfl rfl (by kernel_rfl) (ACalls.sim ?_)
 refine (IndexE_ok _ (d + 1) j).mono fun v u hv => ?_
 obtain ⟨rfl, rfl⟩ := hv
 refine ⟨_, _, rfl, GOps.sim ?_⟩
 refine GOps.done (hK _ ?_); clear hK K
 refine End.kp [4] ?_
 refine Run.ret (hQ _ _ ⟨.inr rfl, _, rfl, _, rfl, ?_⟩)
 exact ⟨rfl, rfl⟩
theorem holdsE_ok (up : Frs) : ACalls Try.prog 48 [.im (.sl [[.sl []]]), .im (.sl [])] up fun r u => r = .im (.bool false) ∧ u = up := by
 refine ACalls.code Try.func48 rfl 20 rfl (by simp) [.tmp 4] rfl fun Q hQ => ?_
 simp only [ups, PV.up, argEnv]
 have ft := ai ty_3 (ai ty_4 (ai ty_22 (ai ty_33 (ai ty_35 trivial))))
 refine Run.seq ?_
 have fx := ai (@List.length_nil.{0}) (ai (@List.length_cons.{0}) ft)
 refine Run.go ?_
 refine End.kp [0, 3] ?_
 refine Run.seq ?_
 refine Run.go ?_
 refine End.kp [0, 5] ?_
 refine Run.seq ?_
 refine Run.seq ?_
 refine Run.go ?_
 refine End.kp [5, 9, 10, 11] ?_
 refine Run.block ?_
 refine Run.ghost (Ghost.form [(5, .fn 80 [.ptr 0 0 0]), (9, .im (.sl [[.sl []]])), (10, .i 1), (11, .i 0)] 1 ⟨rfl, rfl, rfl, rfl, trivial⟩ rfl (by simp only [ASt.push, List.nil_append, List.cons_append, List.take_succ_cons, List.take_zero, List.all_cons, List.all_nil, AObj.under, i64s_set, unders_append, unders_ims, unders, PV.under, Bool.and_true, Bool.and_self])) ?_
 refine Run.loop (fun q s => s = ⟨[(5, .fn 80 [.ptr 0 0 0]), (9, .im (.sl [[.sl []]])), (10, .i 1), (11, .i 0)], [.box [.im (.sl [])]], up⟩) 0 rfl fun q s hI => ?_
 subst hI
 refine Run.seq ?_
 have fx := ai (@List.length_nil.{0}) (ai (@List.length_cons.{0}) ft)
 refine Run.go ?_
 refine End.kp [5, 9, 10, 11, 12] ?_
 refine Run.seq ?_
 refine Run.cond _ rfl (fun hb => ?_) (fun hb => ?_)
 ·have hb2 := hb
  refine Run.skip ?_
  refine End.kp [5, 9, 10, 11] ?_
  refine Run.seq ?_
  refine Run.block ?_
  refine Run.seq ?_
  have fx := ai (@List.length_nil.{0}) (ai (@List.length_cons.{0}) ft)
  refine Run.go ?_
  refine End.kp [5, 7, 9, 10, 11] ?_
  refine Run.seq ?_
  refine Run.region rfl fun K hK => GOps.sim ?_
  refine GOps.call rfl rfl rfl rfl (by kernel_rfl) (ACalls.sim ?_)
  refine (ContainsE_ok _ 0 0).mono fun v u hv => ?_
  obtain ⟨rfl, rfl⟩ := hv
  refine ⟨_, _, rfl, GOps.sim ?_⟩
  refine GOps.done (hK _ ?_); clear hK K
  refine End.kp [5, 9, 10, 11, 18] ?_
  refine Run.cond _ rfl (fun hb => ?_) (fun hb => ?_)
  ·have hb3 := hb
   refine Run.seq ?_
   have fx := ai (@List.length_nil.{0}) (ai (@List.length_cons.{0}) ft)
   refine Run.go ?_
   refine End.kp [4] ?_
   refine Run.ret (hQ _ _ ⟨.inr rfl, _, rfl, _, rfl, ?_⟩)
   exact ⟨rfl, rfl⟩
  ·have hb3 := hb
   simp at hb
 ·have hb2 := hb
  simp at hb
theorem EqT_same (p q : List Bool) (h : p = q) (hn : p.length ≤ 1000000) (up : Frs) : ACalls Try.prog 19 [.im (.sl (bools p)), .im (.sl (bools q))] up fun v u => v = .im (.bool true) ∧ u = up := by
 have d1 : ((p.length : Int) != q.length) = false := by rw [h]; simp
 refine ACalls.code Try.func19 rfl 26 rfl (by simp) [.tmp 4] rfl fun Q hQ => ?_
 simp only [ups, PV.up, argEnv]
 have ft := ai ty_3 (ai ty_4 (ai ty_33 trivial))
 refine Run.seq ?_
 have fx := ai d1 (ai bools_len ft)
 refine Run.go ?_
 refine End.kp [0, 1] ?_
 refine Run.seq ?_
 refine Run.seq ?_
 refine Run.go ?_
 refine End.kp [0, 1, 10] ?_
 refine Run.cond _ rfl (fun hb => ?_) (fun hb => ?_)
 ·have hb2 := hb
  simp at hb
 ·have hb2 := hb
  refine Run.skip ?_
  refine End.kp [0, 1] ?_
  refine Run.seq ?_
  refine Run.seq ?_
  have fx := ai d1 (ai bools_len ft)
  refine Run.go ?_
  refine End.kp [0, 1, 12, 13] ?_
  refine Run.block ?_
  refine Run.ghost (Ghost.form [(0, .im (.sl (bools p))), (1, .im (.sl (bools q))), (12, .i p.length), (13, .i (0 : Nat))] 0 ⟨rfl, rfl, rfl, rfl, trivial⟩ rfl (by simp only [ASt.push, List.nil_append, List.cons_append, List.take_succ_cons, List.take_zero, List.all_cons, List.all_nil, AObj.under, i64s_set, unders_append, unders_ims, unders, PV.under, Bool.and_true, Bool.and_self])) ?_
  refine Run.loop (fun m' st => ∃ i : Nat, m' = p.length - i ∧ i ≤ p.length ∧ st = ⟨[(0, .im (.sl (bools p))), (1, .im (.sl (bools q))), (12, .i p.length), (13, .i (i : Nat))], [], up⟩) p.length ⟨0, rfl, by omega, rfl⟩ fun m' st hI => ?_
  obtain ⟨i, rfl, hi, rfl⟩ := hI
  refine Run.seq ?_
  have fx := ai d1 (ai bools_len ft)
  refine Run.go ?_
  refine End.kp [0, 1, 12, 13, 14] ?_
  refine Run.seq ?_
  refine Run.cond _ rfl (fun hb => ?_) (fun hb => ?_)
  ·have hb2 := of_decide_eq_true hb
   have hin : i < p.length := by omega
   have hiq : i < q.length := by rw [← h]; exact hin
   have wi := wsucc hin (by omega)
   have hp := bools_get p i hin
   have hq := bools_get q i hiq
   have hlp : (i : Int) < (p.length : Int) := by omega
   have hlq : (i : Int) < (q.length : Int) := by omega
   refine Run.skip ?_
   refine End.kp [0, 1, 12, 13] ?_
   refine Run.seq ?_
   refine Run.block ?_
   refine Run.seq ?_
   have fx := ai (@Int.toNat_natCast) (ai (@Int.natCast_nonneg) (ai hlq (ai hlp (ai hq (ai hp (ai wi (ai d1 (ai bools_len ft))))))))
   refine Run.go ?_
   refine End.kp [0, 1, 5, 12, 13] ?_
   refine Run.seq ?_
   refine Run.drawA fun K hK => ?_
   refine DOps.sim ?_
   refine DOps.nil (metAll_quiet rfl) (hK _ ?_); clear hK K
   refine End.kp [0, 1, 12, 13, 24] ?_
   refine Run.cond _ rfl (fun hb => ?_) (fun hb => ?_)
   ·have hb2 := hb
    simp [h] at hb
   ·have hb2 := hb
    refine Run.skip ?_
    refine End.blk ?_
    refine End.kp [0, 1, 12, 13] ?_
    have fx := ai (@Int.toNat_natCast) (ai (@Int.natCast_nonneg) (ai hlq (ai hlp (ai hq (ai hp (ai wi (ai d1 (ai bools_len ft))))))))
    refine Run.go ?_
    refine End.lp ?_
    refine ⟨p.length - (i + 1), _, by omega, Ghost.form [(0, .im (.sl (bools p))), (1, .im (.sl (bools q))), (12, .i p.length), (13, .i (i + 1 : Nat))] 0 ⟨rfl, rfl, rfl, rfl, trivial⟩ rfl (by simp only [ASt.push, List.nil_append, List.cons_append, List.take_succ_cons, List.take_zero, List.all_cons, List.all_nil, AObj.under, i64s_set, unders_append, unders_ims, unders, PV.under, Bool.and_true, Bool.and_self]), i + 1, rfl, by omega, rfl⟩
  ·have hb2 := of_decide_eq_false hb
   refine Run.exit rfl ?_
   refine End.kp [] ?_
   refine Run.seq ?_
   have fx := ai d1 (ai bools_len ft)
   refine Run.go ?_
   refine End.kp [4] ?_
   refine Run.ret (hQ _ _ ⟨.inr rfl, _, rfl, _, rfl, ?_⟩)
   exact ⟨rfl, rfl⟩
theorem solved_ok (up : Frs) : ACalls Try.prog 18 [] up fun v u => v = .im (.bool true) ∧ u = up := by
 have hsv := solve_ok (fun _ => true) smallC 2 4 (by omega) small_in small_hold (by omega) (by decide)
 refine ACalls.code Try.func18 rfl 28 rfl (by simp) [.tmp 0] rfl fun Q hQ => ?_
 simp only [ups, PV.up, argEnv]
 have ft := ai ty_2 (ai ty_3 (ai ty_4 (ai ty_22 (ai ty_33 (ai ty_35 (ai ty_36 (ai ty_46 trivial)))))))
 refine Run.seq ?_
 have fx := ft
 refine Run.go ?_
 refine End.kp [] ?_
 refine Run.seq ?_
 refine Run.region rfl fun K hK => GOps.litF (rows := ints [-1, 2]) ?_ rfl rfl (by simp only [litF, fx] <;> rfl)
 refine GOps.litF (rows := ints [1]) ?_ rfl rfl (by simp only [litF, fx] <;> rfl)
 refine GOps.litF (rows := clss smallC) ?_ rfl rfl (by simp only [litF, fx] <;> rfl)
 refine GOps.call rfl rfl rfl rfl (by kernel_rfl) (ACalls.sim ?_)
 refine (hsv _).mono fun v u hv => ?_
 obtain ⟨rfl, m, q, rfl, hf⟩ := hv
 have hm := small_model hf
 subst hm
 refine ⟨_, _, rfl, GOps.sim ?_⟩
 refine GOps.done (hK _ ?_); clear hK K
 refine End.kp [1, 2] ?_
 refine Run.seq ?_
 have fx := ft
 refine Run.region rfl fun K hK => GOps.simK 9 ?_
 refine GOps.litF (rows := bools [true, true]) ?_ rfl rfl (by simp only [litF, fx] <;> rfl)
 refine GOps.call rfl rfl rfl rfl (by kernel_rfl) (ACalls.sim ?_)
 refine (EqT_same [true, true] [true, true] rfl (by decide) _).mono fun v u hv => ?_
 obtain ⟨rfl, rfl⟩ := hv
 refine ⟨_, _, rfl, GOps.simK 2 ?_⟩
 refine GOps.litF (rows := []) ?_ rfl rfl (by simp only [litF, fx] <;> rfl)
 refine GOps.litF (rows := [[.sl []]]) ?_ rfl rfl (by simp only [litF, fx] <;> rfl)
 refine GOps.call rfl rfl rfl rfl (by kernel_rfl) (ACalls.sim ?_)
 refine (holdsE_ok _).mono fun v u hv => ?_
 obtain ⟨rfl, rfl⟩ := hv
 refine ⟨_, _, rfl, GOps.sim ?_⟩
 refine GOps.done (hK _ ?_); clear hK K
 refine End.kp [0] ?_
 refine Run.ret (hQ _ _ ⟨.inr rfl, _, rfl, _, rfl, ?_⟩)
 exact ⟨rfl, rfl⟩
end Go.Proofs.YtkjfdacjjogpcaaPi

/- Solve for clauses of which unit clauses determine all: no decision is made. -/
set_option linter.unusedVariables false
set_option linter.unusedSimpArgs false
set_option maxRecDepth 100000
namespace Go.Proofs.YtkjfdacjjogpcaaPi
set_option maxHeartbeats 40000000
def Det (M : Nat → Bool) (n : Nat) (cs : List (List Int)) : Prop := ∀ S B, Base (Is M) S B → S.n = n → S.head = S.tr.length → (∀ c ∈ cs, Cov S c) → ∀ v, 1 ≤ v → v ≤ n → S.val.getD v 0 ≠ 0
theorem runD_ok (M : Nat → Bool) (cs : List (List Int)) (n limit : Nat) (hn : n ≤ 20000) (hcs : ClsIn n cs) (hm : ∀ c ∈ cs, HoldsC M c) (hlim : limit ≤ 65536) (hdet : Det M n cs) (up : Frs) :
  ACalls Try.prog 46 [.im (.sl (clss cs)), .i (n : Nat), .i (limit : Nat), .im (.bool false)] up fun v u => u = up ∧ ∃ (m : List Bool) (q : Nat), v = .agg [.im (.bool true), .im (.bool true), .im (.sl (bools m)), .im (.sl []), .i (q : Nat)] ∧ FndM n cs m := by
 have hcl := hcs.len
 obtain ⟨ld1, ⟨B2, ld2⟩, ld3, ld4, ld5⟩ := load_is cs ⟨new_base (Is M) hn, rfl, rfl⟩ hcs.cls hm (by show 0 + cs.length ≤ 1000000; omega)
 refine (run_ok (Is M) (fun S q => S.st = []) cs n limit false hn hcs (is_all hm) hlim (fun _ => ld2.st) (fun S S' q hE hI => hE.st.trans hI) (fun S B q hB hSn hh hc hI hd => ?_) (fun S B k c d q hBd hSn hI hq hL hp => ?_) up).mono fun v u hv => ?_
 ·obtain ⟨p, p1, p2, _, p3, _⟩ := (decide_calm hB.sw hB.calm hB.hst hB.n1 hB.n2).2 hd
  exact absurd p3 (hdet S B hB hSn hh hc p p1 (by omega))
 ·have := hBd.pos (M := M) rfl
  rw [hI] at this
  simp at this
 ·obtain ⟨rfl, d, f, m, pr, q, h1, h3, h4, h5⟩ := hv
  cases f with
  | true =>
   obtain ⟨rfl, rfl, h6⟩ := h4 rfl
   exact ⟨rfl, m, q, h1, h6⟩
  | false =>
   obtain ⟨_, h6, h7⟩ := h5 rfl
   cases d with
   | true => exact absurd rfl (h6 rfl M)
   | false =>
    obtain ⟨_, S, B, k, hB, hSn, hI⟩ := h7 rfl
    have := hB.pos (M := M) rfl
    rw [hI] at this
    simp at this
theorem solveD_ok (M : Nat → Bool) (cs : List (List Int)) (n limit : Nat) (hn : n ≤ 20000) (hcs : ClsIn n cs) (hm : ∀ c ∈ cs, HoldsC M c) (hlim : limit ≤ 65536) (hdet : Det M n cs) (up : Frs) :
  ACalls Try.prog 16 [.im (.sl (clss cs)), .i (n : Nat), .i (limit : Nat)] up fun v u => u = up ∧ ∃ (m : List Bool) (q : Nat), v = .tup [.agg [.im (.bool true), .im (.bool true), .im (.sl (bools m)), .im (.sl []), .i (q : Nat)], .i 0] ∧ FndM n cs m := by
 have d1 : decide ((limit : Int) < 0) = false := decide_eq_false (by omega)
 have d2 : decide ((65536 : Int) < (limit : Int)) = false := decide_eq_false (by omega)
 refine ACalls.code Try.func16 rfl 44 rfl (by simp) [.cell 6 46, .tmp 7] rfl fun Q hQ => ?_
 simp only [ups, PV.up, argEnv]
 have ft := ai ty_3 (ai ty_4 (ai ty_22 (ai ty_35 (ai ty_36 (ai ty_46 trivial)))))
 refine Run.seq ?_
 have fx := ai d2 (ai d1 ft)
 refine Run.go ?_
 refine End.kp [0, 1, 2, 6] ?_
 refine Run.seq ?_
 refine Run.seq ?_
 refine Run.region rfl fun K hK => GOps.sim ?_
 refine GOps.call rfl rfl rfl rfl (by kernel_rfl) (ACalls.sim ?_)
 refine (satCheck_ok n cs (hcs.ok hn) _).mono fun v u hv => ?_
 obtain ⟨rfl, rfl⟩ := hv
 refine ⟨_, _, rfl, GOps.sim ?_⟩
 refine GOps.done (hK _ ?_); clear hK K
 refine End.kp [0, 1, 2, 6, 8] ?_
 refine Run.seq ?_
 refine Run.go ?_
 refine End.kp [0, 1, 2, 6, 8, 15] ?_
 refine Run.cond _ rfl (fun hb => ?_) (fun hb => ?_)
 ·have hb2 := hb
  simp at hb
 ·have hb2 := hb
  refine Run.skip ?_
  refine End.kp [0, 1, 2, 6] ?_
  refine Run.seq ?_
  refine Run.seq ?_
  have fx := ai d2 (ai d1 ft)
  refine Run.go ?_
  refine End.kp [0, 1, 2, 6, 23] ?_
  refine Run.cond _ rfl (fun hb => ?_) (fun hb => ?_)
  ·have hb3 := hb
   simp at hb
  ·have hb3 := hb
   refine Run.skip ?_
   refine End.kp [0, 1, 2, 6] ?_
   refine Run.seq ?_
   have fx := ai d2 (ai d1 ft)
   refine Run.region rfl fun K hK => GOps.sim ?_
   refine GOps.call rfl rfl rfl rfl (by kernel_rfl) (ACalls.sim ?_)
   refine (runD_ok M cs n limit hn hcs hm hlim hdet _).mono fun v u hv => ?_
   obtain ⟨rfl, m, q, rfl, hf⟩ := hv
   refine ⟨_, _, rfl, GOps.sim ?_⟩
   refine GOps.done (hK _ ?_); clear hK K
   refine End.kp [0, 1, 2, 6, 9] ?_
   refine Run.seq ?_
   refine Run.seq ?_
   refine Run.go ?_
   refine End.kp [0, 1, 2, 6, 9, 31] ?_
   refine Run.cond _ rfl (fun hb => ?_) (fun hb => ?_)
   ·have hb4 := hb
    simp at hb
   ·have hb4 := hb
    refine Run.skip ?_
    refine End.kp [6, 9] ?_
    refine Run.seq ?_
    have fx := ai d2 (ai d1 ft)
    refine Run.go ?_
    refine End.kp [6, 7] ?_
    refine Run.resC hQ ?_
    exact ⟨rfl, m, q, rfl, hf⟩
end Go.Proofs.YtkjfdacjjogpcaaPi

/- The walk of SatRuns. -/
set_option linter.unusedVariables false
set_option linter.unusedSimpArgs false
set_option maxRecDepth 100000
namespace Go.Proofs.YtkjfdacjjogpcaaPi
set_option maxHeartbeats 40000000
theorem small_ands2 (l : List Int) (a : Int) (ands : Nat) : (smallV l a ands).1.ands.length ≤ ands := by
 obtain ⟨r1, s1⟩ := nextV_range l a 5 (by omega)
 obtain ⟨r2, s2⟩ := nextV_range l (a + 1) 4 (by omega)
 obtain ⟨r3, s3⟩ := nextV_range l (a + 1 + 1) (ands + 1) (by omega)
 obtain ⟨r4, s4⟩ := nextV_range l (a + 1 + 1 + 1) (4 - 1 + 1) (by omega)
 have h2 := graphV_pos l (a + 1 + 1 + 1 + 1) (nextV l a 5).toNat (nextV l (a + 1) 4).toNat (nextV l (a + 1 + 1) (ands + 1)).toNat (1 + nextV l (a + 1 + 1 + 1) (4 - 1 + 1)).toNat
 simp only [smallV]
 omega
theorem model_bit {m : List Bool} {N t : Nat} {x : Int} (h : 0 ≤ x) : (m.getD ((ofL x ((t * N : Nat) : Int)).natAbs - 1) false == decide (0 < ofL x ((t * N : Nat) : Int))) = lbit (nodeM (fun v => m.getD (v - 1) false) (t * N)) x := by
 have e := ofL_hl (M := fun v => m.getD (v - 1) false) (base := t * N) h
 unfold hl at e
 rw [Bool.eq_iff_iff, ← e, beq_iff_eq]
theorem SatRuns_walk (l : List Int) (k0 : Int) (hk0 : I64 k0) (hs : StmOk l 0) (up : Frs) : ACalls Try.prog 5 [.im (.sl (ints l)), .i k0] up fun v u => v = .im (.bool true) ∧ u = up := by
 have ok : ∀ b : Int, 0 ≤ b → b ≤ 100000 → StmOk l b := fun b h1 h2 => ⟨hs.vals, hs.len, h1, by omega⟩
 have hSm := Small_ok 12 (by omega) l 0 hs (by omega)
 obtain ⟨hg, hb1, hb2⟩ := small_ok l 0 12 (by omega)
 obtain ⟨hi4, hr3⟩ := small_len l 0 12
 have ha30 := small_ands2 l 0 12
 generalize smallV l 0 12 = M at hSm hg hb1 hb2 hi4 hr3 ha30
 obtain ⟨g, b⟩ := M
 simp only at hSm hg hb1 hb2 hi4 hr3 ha30
 obtain ⟨z1, z2, z3, z4, z5⟩ := hg.small
 obtain ⟨kb0, kb1⟩ := below_range k0 6 (by omega)
 have hBel := Below_ok k0 6 hk0 ⟨by omega, by omega⟩
 obtain ⟨k, hk⟩ : ∃ k : Nat, below k0 6 + 1 = (k : Int) := ⟨(below k0 6 + 1).toNat, by omega⟩
 have hkp : 0 < k := by omega
 have hk6 : k ≤ 6 := by omega
 have wk : IntKind.i64.wrap (below k0 6 + 1) = (k : Int) := by rw [wrap64 (by omega), hk]
 have hnod : (1 + (g.inn.length : Int) + g.regs.length + g.ands.length) = ((varsN g : Nat) : Int) := by unfold varsN; omega
 obtain ⟨N, hN⟩ : ∃ N, N = varsN g := ⟨_, rfl⟩
 have hNs : N ≤ 20 := by rw [hN]; unfold varsN; omega
 have hNi : 1 + g.inn.length ≤ N := by rw [hN]; unfold varsN; omega
 have hkN : k * N ≤ 6 * 20 := Nat.mul_le_mul hk6 hNs
 have hkv : k * varsN g ≤ 20000 := by rw [← hN]; omega
 rw [← hN] at hnod
 have hki : g.inn.length * k ≤ 4 * 6 := Nat.mul_le_mul hi4 hk6
 have hks : k * (1 + 3 * g.ands.length + 2 * g.regs.length) ≤ 6 * 43 := Nat.mul_le_mul hk6 (by omega)
 have wkn : IntKind.i64.wrap ((k : Int) * (N : Int)) = ((k * N : Nat) : Int) := by rw [← Int.natCast_mul, wrap64 (by omega)]
 have wki : IntKind.i64.wrap ((g.inn.length : Int) * (k : Int)) = ((g.inn.length * k : Nat) : Int) := by rw [← Int.natCast_mul, wrap64 (by omega)]
 have hCin := csR_in (l := l) hg (a := b) (k := k) (by omega)
 have hpl := csR_plant (l := l) hg (a := b) (k := k)
 have hdet : Det (playM g (initG g) (inT l g b k)) (k * varsN g) (csR l g b k) := fun S B hB hSn hh hc => csR_det hg hB hSn hh hc
 have hrun : ∀ m, FndM (k * varsN g) (csR l g b k) m → insK g k (fun v => m.getD (v - 1) false) = inT l g b k ∧ runG g (lanes0 (initG g)) (inT l g b k) = (List.range k).map (outsM g fun v => m.getD (v - 1) false) := fun m hm => csR_run hg hm.2 hkp
 have hfl := frmC_len g false k
 have hsv := solveD_ok (playM g (initG g) (inT l g b k)) (csR l g b k) (k * varsN g) 9 hkv ⟨hCin.1, hCin.2⟩ hpl (by omega) hdet
 rw [← hN] at hsv
 refine ACalls.code Try.func5 rfl 160 rfl (by simp) [.tmp 4] rfl fun Q hQ => ?_
 simp only [ups, PV.up, argEnv]
 have ft := ai ty_2 (ai ty_3 (ai ty_4 (ai ty_9 (ai ty_22 (ai ty_23 (ai ty_25 (ai ty_26 (ai ty_29 (ai ty_31 (ai ty_33 (ai ty_35 (ai ty_36 (ai ty_46 (ai ty_55 (ai ty_62 trivial)))))))))))))))
 refine Run.seq ?_
 have fx := ai strs_len (ai wki (ai wkn (ai wk ft)))
 refine Run.go ?_
 refine End.kp [0, 1] ?_
 refine Run.seq ?_
 refine Run.go ?_
 refine End.kp [1, 5] ?_
 refine Run.seq ?_
 refine Run.region rfl fun K hK => GOps.sim ?_
 refine GOps.call rfl rfl rfl rfl (by kernel_rfl) (ACalls.sim ?_)
 refine (hSm _ 0 0 rfl).mono fun v u hv => ?_
 obtain ⟨rfl, rfl⟩ := hv
 refine ⟨_, _, rfl, GOps.sim ?_⟩
 refine GOps.done (hK _ ?_); clear hK K
 refine End.kp [1, 5, 6] ?_
 refine Run.seq ?_
 refine Run.region rfl fun K hK => GOps.sim ?_
 refine GOps.call rfl rfl rfl rfl (by kernel_rfl) (ACalls.sim ?_)
 refine (hBel _).mono fun v u hv => ?_
 obtain ⟨rfl, rfl⟩ := hv
 refine ⟨_, _, rfl, GOps.sim ?_⟩
 refine GOps.done (hK _ ?_); clear hK K
 refine End.kp [1, 5, 6] ?_
 refine Run.seq ?_
 refine Run.region rfl fun K hK => GOps.sim ?_
 refine GOps.call rfl rfl rfl rfl (by kernel_rfl) (ACalls.sim ?_)
 refine (FramesX_ok g hg k (by omega) hkv false _ _).mono fun v u hv => ?_
 obtain ⟨rfl, rfl⟩ := hv
 refine ⟨_, _, rfl, GOps.sim ?_⟩
 refine GOps.done (hK _ ?_); clear hK K
 refine End.kp [1, 5, 6, 7, 8] ?_
 refine Run.seq ?_
 refine Run.region rfl fun K hK => GOps.sim ?_
 refine GOps.call rfl rfl rfl rfl (by kernel_rfl) (ACalls.sim ?_)
 refine (GNodes_ok g hg.small _).mono fun v u hv => ?_
 obtain ⟨rfl, rfl⟩ := hv
 rw [hnod]
 have fx := ai strs_len (ai wki (ai wkn (ai wk ft)))
 refine ⟨_, _, rfl, GOps.sim ?_⟩
 refine GOps.done (hK _ ?_); clear hK K
 refine End.kp [1, 5, 6, 7, 8, 9] ?_
 refine Run.seq ?_
 refine Run.seq ?_
 refine Run.go ?_
 refine End.kp [1, 5, 6, 7, 8, 9, 41, 42] ?_
 refine Run.block ?_
 refine Run.ghost (Ghost.form [(1, .i (k : Nat)), (5, .ptr 0 0 0), (6, .ptr 0 1 0), (7, .ms 0 3 (frmC g false k).length), (8, .i 0), (9, .i (N : Nat)), (41, .i (g.inn.length * k : Nat)), (42, .i (0 : Nat))] 4 ⟨rfl, rfl, rfl, rfl, rfl, rfl, rfl, rfl, trivial⟩ rfl (by simp only [ASt.push, List.nil_append, List.cons_append, List.take_succ_cons, List.take_zero, List.all_cons, List.all_nil, AObj.under, unders, PV.under, Bool.and_true, Bool.and_self])) ?_
 refine Run.loop (fun s st => ∃ q : Nat, s = g.inn.length * k - q ∧ q ≤ g.inn.length * k ∧ st = ⟨[(1, .i (k : Nat)), (5, .ptr 0 0 0), (6, .ptr 0 1 0), (7, .ms 0 3 ((frmC g false k).length + q)), (8, .i 0), (9, .i (N : Nat)), (41, .i (g.inn.length * k : Nat)), (42, .i (q : Nat))], [stm l (b + q), .box [.im (.sl (strs g.inn)), .im (.sl (strs g.out)), .im (.sl (g.regs.map LReg.im)), .im (.sl (g.ands.map nd)), .im (.sl (ints g.outs))], .box [.im (.sl (strs g.inn)), .im (.sl (strs g.out)), .im (.sl (g.regs.map LReg.im)), .im (.sl (g.ands.map nd)), .im (.sl (ints g.outs))], .row 22 1 (clss (frmC g false k ++ insC l g b q)) 0], up⟩) (g.inn.length * k) ⟨0, rfl, by omega, by rw [show insC l g b 0 = [] from rfl, List.append_nil]; simp⟩ fun s st hI => ?_
 obtain ⟨q, hm, hq, rfl⟩ := hI
 subst s
 have hcc : (clss (frmC g false k ++ insC l g b q)).length = (frmC g false k).length + q := by simp [insC]
 have hap : ((frmC g false k).length + q + 1) * 24 ≤ 140737488355328 := by omega
 refine Run.seq ?_
 have fx := ai hap (ai hcc (ai strs_len (ai wki (ai wkn (ai wk ft)))))
 refine Run.go ?_
 refine End.kp [1, 5, 6, 7, 8, 9, 41, 42, 43] ?_
 refine Run.seq ?_
 refine Run.cond _ rfl (fun hb => ?_) (fun hb => ?_)
 ·have hb5 := of_decide_eq_true hb
  have hq2 : q < g.inn.length * k := by omega
  have wq := wsucc hq2 (by omega)
  have hip : 0 < g.inn.length := Nat.pos_of_ne_zero fun e => by rw [e] at hq2; simp at hq2
  have hiz : ¬ ((g.inn.length : Int) = 0) := by omega
  have td : Int.tdiv (q : Int) (g.inn.length : Int) = ((q / g.inn.length : Nat) : Int) := by rw [Int.tdiv_eq_ediv_of_nonneg (by omega)]; rfl
  have tm : Int.tmod (q : Int) (g.inn.length : Int) = ((q % g.inn.length : Nat) : Int) := by rw [Int.tmod_eq_emod_of_nonneg (by omega)]; rfl
  have hqt : q / g.inn.length < k := Nat.div_lt_of_lt_mul hq2
  have hqi := Nat.mod_lt q hip
  have hqn : (q / g.inn.length + 1) * N ≤ k * N := Nat.mul_le_mul_right _ (by omega)
  rw [Nat.succ_mul] at hqn
  have w00 : ∀ x : Nat, x ≤ 1000 → IntKind.i64.wrap (x : Int) = (x : Int) := fun x h => wrap64 (by omega)
  have v0 := w00 (q / g.inn.length) (by omega)
  have v0' := w00 (q % g.inn.length) (by omega)
  have v1 : IntKind.i64.wrap (((q / g.inn.length : Nat) : Int) * (N : Int)) = ((q / g.inn.length * N : Nat) : Int) := by rw [← Int.natCast_mul, wrap64 (by omega)]
  have v2 : IntKind.i64.wrap (1 + ((q / g.inn.length * N : Nat) : Int)) = ((1 + q / g.inn.length * N : Nat) : Int) := by rw [wrap64 (by omega)]; omega
  have v3 : IntKind.i64.wrap (((1 + q / g.inn.length * N : Nat) : Int) + 1) = ((1 + q / g.inn.length * N + 1 : Nat) : Int) := by rw [wrap64 (by omega)]; omega
  have v4 : IntKind.i64.wrap (((1 + q / g.inn.length * N + 1 : Nat) : Int) + ((q % g.inn.length : Nat) : Int)) = ((inV g q : Nat) : Int) := by rw [wrap64 (by omega)]; unfold inV; rw [← hN]; omega
  have hvb : inV g q ≤ k * N ∧ 0 < inV g q := by unfold inV; rw [← hN]; omega
  obtain ⟨n0, n1⟩ := nextV_range l (b + q) 2 (by omega)
  obtain ⟨nx, hnx⟩ : ∃ nx, nx = nextV l (b + q) 2 := ⟨_, rfl⟩
  have hNx := fun u d j h => Next_ok l (b + q) 2 (ok _ (by omega) (by omega)) ⟨by omega, by omega⟩ u d j h
  rw [← hnx] at hNx n0 n1
  have u1 : IntKind.i64.wrap (2 * nx) = 2 * nx := wrap64 (by omega)
  have u2 : IntKind.i64.wrap (1 - 2 * nx) = 1 - 2 * nx := wrap64 (by omega)
  have u3 : IntKind.i64.wrap (((inV g q : Nat) : Int) * (1 - 2 * nx)) = ((inV g q : Nat) : Int) * (1 - 2 * nx) := by
   rcases (show nx = 0 ∨ nx = 1 by omega) with e | e
   ·rw [e, wrap64 (by omega)]
   ·rw [e, wrap64 (by omega)]
  refine Run.skip ?_
  refine End.kp [1, 5, 6, 7, 8, 9, 41, 42] ?_
  refine Run.seq ?_
  refine Run.block ?_
  refine Run.seq ?_
  have fx := ai (@Int.toNat_natCast) (ai (@Int.natCast_nonneg) (ai u3 (ai u2 (ai u1 (ai v4 (ai v3 (ai v2 (ai v1 (ai v0' (ai v0 (ai tm (ai td (ai hiz (ai wq (ai hap (ai hcc (ai strs_len (ai wki (ai wkn (ai wk ft))))))))))))))))))))
  refine Run.go ?_
  refine End.kp [1, 5, 6, 7, 8, 9, 10, 41, 42] ?_
  refine Run.seq ?_
  refine Run.drawA fun K hK => ?_
  refine DOps.sim ?_
  refine DOps.nil ?_ (hK _ ?_)
  ·rfl
  clear hK K
  refine End.kp [1, 5, 6, 7, 8, 9, 11, 41, 42] ?_
  refine Run.region rfl fun K hK => GOps.sim ?_
  refine GOps.call rfl rfl rfl rfl (by kernel_rfl) (ACalls.sim ?_)
  refine (hNx _ 0 0 rfl).mono fun v u hv => ?_
  obtain ⟨rfl, rfl⟩ := hv
  refine ⟨_, _, rfl, GOps.simK 3 ?_⟩
  refine GOps.litF (rows := ints [((inV g q : Nat) : Int) * (1 - 2 * nx)]) ?_ rfl rfl (by simp only [litF, fx] <;> rfl)
  refine GOps.litF (rows := clss [[((inV g q : Nat) : Int) * (1 - 2 * nx)]]) ?_ rfl rfl (by simp only [litF, fx] <;> rfl)
  refine GOps.sim ?_
  refine GOps.done (hK _ ?_); clear hK K
  refine End.blk ?_
  refine End.kp [1, 5, 6, 7, 8, 9, 41, 42] ?_
  have fx := ai (@Int.toNat_natCast) (ai (@Int.natCast_nonneg) (ai u3 (ai u2 (ai u1 (ai v4 (ai v3 (ai v2 (ai v1 (ai v0' (ai v0 (ai tm (ai td (ai hiz (ai wq (ai hap (ai hcc (ai strs_len (ai wki (ai wkn (ai wk ft))))))))))))))))))))
  refine Run.go ?_
  refine End.lp ?_
  have e1 : clss (frmC g false k ++ insC l g b (q + 1)) = clss (frmC g false k ++ insC l g b q) ++ clss [[((inV g q : Nat) : Int) * (1 - 2 * nx)]] := by
   rw [insC_next, inC, ← hnx, ← List.append_assoc]
   exact List.map_append ..
  refine ⟨g.inn.length * k - (q + 1), _, by omega, Ghost.form [(1, .i (k : Nat)), (5, .ptr 0 0 0), (6, .ptr 0 1 0), (7, .ms 0 3 ((frmC g false k).length + (q + 1))), (8, .i 0), (9, .i (N : Nat)), (41, .i (g.inn.length * k : Nat)), (42, .i (q + 1 : Nat))] 4 ⟨rfl, rfl, rfl, rfl, rfl, rfl, rfl, rfl, trivial⟩ rfl (by simp only [ASt.push, List.nil_append, List.cons_append, List.take_succ_cons, List.take_zero, List.all_cons, List.all_nil, AObj.under, unders, PV.under, Bool.and_true, Bool.and_self]), q + 1, rfl, by omega, ?_⟩
  rw [e1, show b + ((q + 1 : Nat) : Int) = b + q + 1 by omega]
  rfl
 ·have hb5 := of_decide_eq_false hb
  have hie : q = g.inn.length * k := by omega
  subst hie
  refine Run.exit rfl ?_
  refine End.kp [1, 6, 7, 8, 9] ?_
  refine Run.seq ?_
  refine Run.ghost (Ghost.shut (t := 7) (j := 3) rfl rfl hcc) ?_
  simp only [eput, edel]
  rw [show frmC g false k ++ insC l g b (g.inn.length * k) = csR l g b k from rfl]
  have fx := ai hap (ai hcc (ai strs_len (ai wki (ai wkn (ai wk ft)))))
  refine Run.region rfl fun K hK => GOps.sim ?_
  refine GOps.call rfl rfl rfl rfl (by kernel_rfl) (ACalls.sim ?_)
  refine (hsv _).mono fun v u hv => ?_
  obtain ⟨rfl, m, qq, rfl, hf⟩ := hv
  have hml : m.length = k * varsN g := by rw [← hN]; exact hf.1
  obtain ⟨hr1, hr2⟩ := hrun m (by rw [← hN]; exact hf)
  have e1 : ((m.length : Int) != ((k * N : Nat) : Int)) = false := by rw [hml, hN]; simp
  have fx := ai hap (ai hcc (ai strs_len (ai wki (ai wkn (ai wk ft)))))
  refine ⟨_, _, rfl, GOps.sim ?_⟩
  refine GOps.done (hK _ ?_); clear hK K
  refine End.kp [1, 6, 8, 9, 12, 13] ?_
  refine Run.seq ?_
  refine Run.seq ?_
  have fx := ai e1 (ai bools_len (ai hap (ai hcc (ai strs_len (ai wki (ai wkn (ai wk ft)))))))
  refine Run.region rfl fun K hK => GOps.sim ?_
  refine GOps.call rfl rfl rfl rfl (by kernel_rfl) (ACalls.sim ?_)
  refine (solved_ok _).mono fun v u hv => ?_
  obtain ⟨rfl, rfl⟩ := hv
  refine ⟨_, _, rfl, GOps.sim ?_⟩
  refine GOps.done (hK _ ?_); clear hK K
  refine End.kp [1, 6, 9, 12, 102] ?_
  refine Run.cond _ rfl (fun hb => ?_) (fun hb => ?_)
  ·have hb6 := hb
   simp at hb
  ·have hb6 := hb
   refine Run.skip ?_
   refine End.kp [1, 6, 9, 12] ?_
   refine Run.seq ?_
   have fx := ai e1 (ai bools_len (ai hap (ai hcc (ai strs_len (ai wki (ai wkn (ai wk ft)))))))
   refine Run.drawA fun K hK => ?_
   refine DOps.sim ?_
   refine DOps.call (.im (.sl (boolss (inT l g b k)))) [] [] rfl rfl rfl rfl (by kernel_rfl) (by simp [Agree]) (fun u hu => by rw [← hr1]; exact Inputs_ok g hg.small k (by omega) hkv m hml u) ?_
   refine DOps.sim ?_
   refine DOps.call (.tup [.im (.sl (boolss ((List.range k).map (outsM g fun v => m.getD (v - 1) false)))), .i 0]) [] [] rfl rfl rfl rfl (by kernel_rfl) (by simp [Agree]) (fun u hu => by rw [← hr2]; exact GRun_ok g hg _ (by rw [inT_len]; omega) inT_row u) ?_
   refine DOps.sim ?_
   refine DOps.nil ?_ (hK _ ?_)
   ·rfl
   clear hK K
   refine End.kp [1, 6, 9, 12, 14, 15] ?_
   refine Run.seq ?_
   refine Run.seq ?_
   obtain ⟨O, hO⟩ : ∃ O, O = (List.range k).map (outsM g fun v => m.getD (v - 1) false) := ⟨_, rfl⟩
   rw [← hO]
   have hOl : O.length = k := by rw [hO]; simp
   have e2 : ((k : Int) != (k : Int)) = false := by simp
   have fx := ai e2 (ai hOl (ai boolss_len (ai e1 (ai bools_len (ai hap (ai hcc (ai strs_len (ai wki (ai wkn (ai wk ft))))))))))
   refine Run.go ?_
   refine End.kp [6, 9, 12, 14, 120] ?_
   refine Run.cond _ rfl (fun hb => ?_) (fun hb => ?_)
   ·have hb7 := hb
    simp at hb
   ·have hb7 := hb
    refine Run.skip ?_
    refine End.kp [6, 9, 12, 14] ?_
    refine Run.seq ?_
    refine Run.seq ?_
    have fx := ai e2 (ai hOl (ai boolss_len (ai e1 (ai bools_len (ai hap (ai hcc (ai strs_len (ai wki (ai wkn (ai wk ft))))))))))
    refine Run.go ?_
    refine End.kp [6, 9, 12, 121, 122, 123] ?_
    refine Run.block ?_
    refine Run.ghost (Ghost.form [(6, .ptr 0 1 0), (9, .i (N : Nat)), (12, .ptr 0 4 0), (121, .im (.sl (boolss O))), (122, .i (k : Nat)), (123, .i (0 : Nat))] 5 ⟨rfl, rfl, rfl, rfl, rfl, rfl, trivial⟩ rfl (by simp only [ASt.push, List.nil_append, List.cons_append, List.take_succ_cons, List.take_zero, List.all_cons, List.all_nil, AObj.under, unders, PV.under, Bool.and_true, Bool.and_self])) ?_
    refine Run.loop (fun s st => ∃ t : Nat, s = k - t ∧ t ≤ k ∧ st = ⟨[(6, .ptr 0 1 0), (9, .i (N : Nat)), (12, .ptr 0 4 0), (121, .im (.sl (boolss O))), (122, .i (k : Nat)), (123, .i (t : Nat))], [stm l (b + ((g.inn.length * k : Nat) : Int)), .box [.im (.sl (strs g.inn)), .im (.sl (strs g.out)), .im (.sl (g.regs.map LReg.im)), .im (.sl (g.ands.map nd)), .im (.sl (ints g.outs))], .box [.im (.sl (strs g.inn)), .im (.sl (strs g.out)), .im (.sl (g.regs.map LReg.im)), .im (.sl (g.ands.map nd)), .im (.sl (ints g.outs))], .row 22 1 (clss (csR l g b k)) (clss (csR l g b k)).length, .box [.im (.bool true), .im (.bool true), .im (.sl (bools m)), .im (.sl []), .i (qq : Nat)]], up⟩) k ⟨0, rfl, by omega, rfl⟩ fun s st hI => ?_
    obtain ⟨t, hm2, htk, rfl⟩ := hI
    subst s
    refine Run.seq ?_
    have fx := ai e2 (ai hOl (ai boolss_len (ai e1 (ai bools_len (ai hap (ai hcc (ai strs_len (ai wki (ai wkn (ai wk ft))))))))))
    refine Run.go ?_
    refine End.kp [6, 9, 12, 121, 122, 123, 124] ?_
    refine Run.seq ?_
    refine Run.cond _ rfl (fun hb => ?_) (fun hb => ?_)
    ·have hb8 := of_decide_eq_true hb
     have htk2 : t < k := by omega
     have wt := wsucc htk2 (by omega)
     obtain ⟨r, hri, hrm, hrd, hrr⟩ := boolss_at O t (by omega)
     have htN : t < O.length := by omega
     have htI : (t : Int) < (k : Int) := by omega
     have hre : r = outsM g (fun v => m.getD (v - 1) false) t := by rw [← hrd, hO]; exact range_getD _ _ _ htk2
     have hrl : r.length = g.outs.length := by rw [hre]; simp
     have htn2 : (t + 1) * N ≤ k * N := Nat.mul_le_mul_right _ (by omega)
     rw [Nat.succ_mul] at htn2
     have w2 : IntKind.i64.wrap ((t : Int) * (N : Int)) = ((t * N : Nat) : Int) := by rw [← Int.natCast_mul, wrap64 (by omega)]
     refine Run.skip ?_
     refine End.kp [6, 9, 12, 121, 122, 123] ?_
     refine Run.seq ?_
     refine Run.block ?_
     refine Run.seq ?_
     have fx := ai (@Int.toNat_natCast) (ai (@Int.natCast_nonneg) (ai ints_len (ai w2 (ai htN (ai htI (ai hrr (ai wt (ai e2 (ai hOl (ai boolss_len (ai e1 (ai bools_len (ai hap (ai hcc (ai strs_len (ai wki (ai wkn (ai wk ft))))))))))))))))))
     refine Run.go ?_
     refine End.kp [6, 9, 12, 16, 17, 121, 122, 123] ?_
     refine Run.seq ?_
     refine Run.go ?_
     refine End.kp [6, 9, 12, 16, 121, 122, 123, 128, 129, 130] ?_
     refine Run.block ?_
     refine Run.ghost (Ghost.form [(6, .ptr 0 1 0), (9, .i (N : Nat)), (12, .ptr 0 4 0), (16, .i (t : Nat)), (121, .im (.sl (boolss O))), (122, .i (k : Nat)), (123, .i (t : Nat)), (128, .im (.sl (bools r))), (129, .i r.length), (130, .i (0 : Nat))] 5 ⟨rfl, rfl, rfl, rfl, rfl, rfl, rfl, rfl, rfl, rfl, trivial⟩ rfl (by simp only [ASt.push, List.nil_append, List.cons_append, List.take_succ_cons, List.take_zero, List.all_cons, List.all_nil, AObj.under, unders, PV.under, Bool.and_true, Bool.and_self])) ?_
     refine Run.loop (fun s st => ∃ i : Nat, s = r.length - i ∧ i ≤ r.length ∧ st = ⟨[(6, .ptr 0 1 0), (9, .i (N : Nat)), (12, .ptr 0 4 0), (16, .i (t : Nat)), (121, .im (.sl (boolss O))), (122, .i (k : Nat)), (123, .i (t : Nat)), (128, .im (.sl (bools r))), (129, .i r.length), (130, .i (i : Nat))], [stm l (b + ((g.inn.length * k : Nat) : Int)), .box [.im (.sl (strs g.inn)), .im (.sl (strs g.out)), .im (.sl (g.regs.map LReg.im)), .im (.sl (g.ands.map nd)), .im (.sl (ints g.outs))], .box [.im (.sl (strs g.inn)), .im (.sl (strs g.out)), .im (.sl (g.regs.map LReg.im)), .im (.sl (g.ands.map nd)), .im (.sl (ints g.outs))], .row 22 1 (clss (csR l g b k)) (clss (csR l g b k)).length, .box [.im (.bool true), .im (.bool true), .im (.sl (bools m)), .im (.sl []), .i (qq : Nat)]], up⟩) r.length ⟨0, rfl, by omega, rfl⟩ fun s st hI => ?_
     obtain ⟨i, hm3, hi, rfl⟩ := hI
     subst s
     refine Run.seq ?_
     have fx := ai (@Int.toNat_natCast) (ai (@Int.natCast_nonneg) (ai ints_len (ai w2 (ai htN (ai htI (ai hrr (ai wt (ai e2 (ai hOl (ai boolss_len (ai e1 (ai bools_len (ai hap (ai hcc (ai strs_len (ai wki (ai wkn (ai wk ft))))))))))))))))))
     refine Run.go ?_
     refine End.kp [6, 9, 12, 16, 121, 122, 123, 128, 129, 130, 131] ?_
     refine Run.seq ?_
     refine Run.cond _ rfl (fun hb => ?_) (fun hb => ?_)
     ·have hb9 := of_decide_eq_true hb
      have hin : i < r.length := by omega
      have wi := wsucc hin (by omega)
      have hil : (i : Int) < (r.length : Int) := by omega
      have hio : (i : Int) < (g.outs.length : Int) := by omega
      have hio2 : i < g.outs.length := by omega
      obtain ⟨x, hxi, hxm, hx⟩ := int_at g.outs i hio2
      obtain ⟨x0, x1⟩ := hg.outs x hxm
      have hbg := bools_get r i hin
      have hbv : r.getD i false = lbit (nodeM (fun v => m.getD (v - 1) false) (t * N)) x := by
       rw [hre, List.getD_eq_getElem?_getD, List.getElem?_map, hxi, hN]
       rfl
      have hbit := (model_bit (m := m) (N := N) (t := t) x0).trans hbv.symm
      have ha1 : 1 ≤ (ofL x ((t * N : Nat) : Int)).natAbs ∧ (ofL x ((t * N : Nat) : Int)).natAbs ≤ k * N := by
       rw [hN] at htn2 ⊢
       unfold ofL
       unfold varsN at htn2 ⊢
       split <;> omega
      have wng : IntKind.i64.wrap (0 - ofL x ((t * N : Nat) : Int)) = -(ofL x ((t * N : Nat) : Int)) := by rw [wrap64 (by omega)]; omega
      obtain ⟨X, hX⟩ : ∃ X, X = ofL x ((t * N : Nat) : Int) := ⟨_, rfl⟩
      rw [← hX] at hbit ha1 wng
      have hmx : (if X < -X then -X else X) = (X.natAbs : Int) := by split <;> omega
      have wa : IntKind.i64.wrap ((X.natAbs : Int) - 1) = ((X.natAbs - 1 : Nat) : Int) := by rw [wrap64 (by omega)]; omega
      have hal2 : X.natAbs - 1 < m.length := by rw [hml, ← hN]; omega
      have hal : ((X.natAbs - 1 : Nat) : Int) < (m.length : Int) := by omega
      have hmg := bools_get m (X.natAbs - 1) hal2
      have hne : (r.getD i false != r.getD i false) = false := by simp
      refine Run.skip ?_
      refine End.kp [6, 9, 12, 16, 121, 122, 123, 128, 129, 130] ?_
      refine Run.seq ?_
      refine Run.block ?_
      refine Run.seq ?_
      have fx := ai (@gt_iff_lt Int _) (ai hne (ai hbit (ai hmg (ai hal2 (ai hal (ai wa (ai hmx (ai wng (ai hbg (ai hx (ai hio2 (ai hin (ai hio (ai hil (ai wi (ai (@Int.toNat_natCast) (ai (@Int.natCast_nonneg) (ai ints_len (ai w2 (ai htN (ai htI (ai hrr (ai wt (ai e2 (ai hOl (ai boolss_len (ai e1 (ai bools_len (ai hap (ai hcc (ai strs_len (ai wki (ai wkn (ai wk ft))))))))))))))))))))))))))))))))))
      refine Run.go ?_
      refine End.kp [6, 9, 12, 16, 18, 19, 121, 122, 123, 128, 129, 130] ?_
      refine Run.seq ?_
      refine Run.region rfl fun K hK => GOps.sim ?_
      refine GOps.call rfl rfl rfl rfl (by kernel_rfl) (ACalls.sim ?_)
      refine (Of_lit x _ x0 (by omega) (by omega) (by omega) _).mono fun v u hv => ?_
      obtain ⟨rfl, rfl⟩ := hv
      rw [← hX]
      have fx := ai (@gt_iff_lt Int _) (ai hne (ai hbit (ai hmg (ai hal2 (ai hal (ai wa (ai hmx (ai wng (ai hbg (ai hx (ai hio2 (ai hin (ai hio (ai hil (ai wi (ai (@Int.toNat_natCast) (ai (@Int.natCast_nonneg) (ai ints_len (ai w2 (ai htN (ai htI (ai hrr (ai wt (ai e2 (ai hOl (ai boolss_len (ai e1 (ai bools_len (ai hap (ai hcc (ai strs_len (ai wki (ai wkn (ai wk ft))))))))))))))))))))))))))))))))))
      refine ⟨_, _, rfl, GOps.sim ?_⟩
      refine GOps.done (hK _ ?_); clear hK K
      refine End.kp [6, 9, 12, 16, 19, 20, 121, 122, 123, 128, 129, 130] ?_
      refine Run.seq ?_
      refine Run.go ?_
      refine End.kp [6, 9, 12, 16, 121, 122, 123, 128, 129, 130, 157] ?_
      refine Run.cond _ rfl (fun hb => ?_) (fun hb => ?_)
      ·have hb10 := hb
       simp at hb
      ·have hb10 := hb
       refine Run.skip ?_
       refine End.blk ?_
       refine End.kp [6, 9, 12, 16, 121, 122, 123, 128, 129, 130] ?_
       have fx := ai (@gt_iff_lt Int _) (ai hne (ai hbit (ai hmg (ai hal2 (ai hal (ai wa (ai hmx (ai wng (ai hbg (ai hx (ai hio2 (ai hin (ai hio (ai hil (ai wi (ai (@Int.toNat_natCast) (ai (@Int.natCast_nonneg) (ai ints_len (ai w2 (ai htN (ai htI (ai hrr (ai wt (ai e2 (ai hOl (ai boolss_len (ai e1 (ai bools_len (ai hap (ai hcc (ai strs_len (ai wki (ai wkn (ai wk ft))))))))))))))))))))))))))))))))))
       refine Run.go ?_
       refine End.lp ?_
       refine ⟨r.length - (i + 1), _, by omega, Ghost.form [(6, .ptr 0 1 0), (9, .i (N : Nat)), (12, .ptr 0 4 0), (16, .i (t : Nat)), (121, .im (.sl (boolss O))), (122, .i (k : Nat)), (123, .i (t : Nat)), (128, .im (.sl (bools r))), (129, .i r.length), (130, .i (i + 1 : Nat))] 5 ⟨rfl, rfl, rfl, rfl, rfl, rfl, rfl, rfl, rfl, rfl, trivial⟩ rfl (by simp only [ASt.push, List.nil_append, List.cons_append, List.take_succ_cons, List.take_zero, List.all_cons, List.all_nil, AObj.under, unders, PV.under, Bool.and_true, Bool.and_self]), i + 1, rfl, by omega, rfl⟩
     ·have hb9 := of_decide_eq_false hb
      refine Run.exit rfl ?_
      refine End.blk ?_
      refine End.kp [6, 9, 12, 121, 122, 123] ?_
      have fx := ai (@Int.toNat_natCast) (ai (@Int.natCast_nonneg) (ai ints_len (ai w2 (ai htN (ai htI (ai hrr (ai wt (ai e2 (ai hOl (ai boolss_len (ai e1 (ai bools_len (ai hap (ai hcc (ai strs_len (ai wki (ai wkn (ai wk ft))))))))))))))))))
      refine Run.go ?_
      refine End.lp ?_
      refine ⟨k - (t + 1), _, by omega, Ghost.form [(6, .ptr 0 1 0), (9, .i (N : Nat)), (12, .ptr 0 4 0), (121, .im (.sl (boolss O))), (122, .i (k : Nat)), (123, .i (t + 1 : Nat))] 5 ⟨rfl, rfl, rfl, rfl, rfl, rfl, trivial⟩ rfl (by simp only [ASt.push, List.nil_append, List.cons_append, List.take_succ_cons, List.take_zero, List.all_cons, List.all_nil, AObj.under, unders, PV.under, Bool.and_true, Bool.and_self]), t + 1, rfl, by omega, rfl⟩
    ·have hb8 := of_decide_eq_false hb
     refine Run.exit rfl ?_
     refine End.kp [] ?_
     refine Run.seq ?_
     have fx := ai e2 (ai hOl (ai boolss_len (ai e1 (ai bools_len (ai hap (ai hcc (ai strs_len (ai wki (ai wkn (ai wk ft))))))))))
     refine Run.go ?_
     refine End.kp [4] ?_
     refine Run.ret (hQ _ _ ⟨.inr rfl, _, rfl, _, rfl, ?_⟩)
     exact ⟨rfl, rfl⟩
end Go.Proofs.YtkjfdacjjogpcaaPi

