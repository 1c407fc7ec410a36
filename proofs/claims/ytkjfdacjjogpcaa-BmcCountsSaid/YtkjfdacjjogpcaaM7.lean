/- Part 7 of the proof: the texts WBO, WBP, WBQ, WBR, WGL, WKE, WKF, WBT, WBU, one behind the other. Each holds for every input that it names; no condition is hidden. -/
import Derived.Test.YtkjfdacjjogpcaaM6
import Derived.Test.YtkjfdacjjogpcaaPiChoice
import Derived.Test.YtkjfdacjjogpcaaM2
import Derived.Laws.Runes
import Derived.Test.YtkjfdacjjogpcaaM4
set_option linter.unusedVariables false
set_option linter.unusedSimpArgs false
set_option linter.unusedSectionVars false
namespace Go.Proofs.YtkjfdacjjogpcaaPi
set_option maxRecDepth 100000
set_option maxHeartbeats 40000000
def cntG : LGraph := ⟨[], [⟨#[111]⟩], [⟨⟨#[114]⟩, 3, false⟩], [], [2]⟩
theorem name_one (b : UInt8) (h : (33 : Nat) ≤ b.toNat ∧ b.toNat ≤ 126) : NameOk ⟨#[b]⟩ := ⟨by simp [ByteArray.size], by simp [ByteArray.size], fun x hx => by
 have : x = b := by simpa using hx
 subst this
 exact h⟩
theorem cntG_ok : GraphOk cntG := by
 refine ⟨⟨by decide, by decide, by decide, by decide, by decide⟩, fun s hs => ?_, by simp [cntG], fun s hs => ?_, by simp [cntG], rfl, fun i p hp => by simp [cntG] at hp, fun r hr => ?_, fun x hx => ?_⟩
 ·have : s = ⟨#[114]⟩ := by simpa [cntG] using hs
  subst this
  exact name_one 114 (by decide)
 ·have : s = ⟨#[111]⟩ := by simpa [cntG] using hs
  subst this
  exact name_one 111 (by decide)
 ·have : r = ⟨⟨#[114]⟩, 3, false⟩ := by simpa [cntG] using hr
  subst this
  decide
 ·have : x = 2 := by simpa [cntG] using hx
  subst this
  decide
theorem cntG_two : Reach cntG 0 2 := ⟨[[], []], rfl, by intro r hr; simp at hr; subst hr; rfl, by unfold hitB; decide⟩
theorem cntG_one : ¬ Reach cntG 0 1 := by
 rintro ⟨tr, h1, h2, h3⟩
 match tr, h1 with
 | [r], _ =>
  have : r = [] := List.eq_nil_of_length_eq_zero (h2 r (by simp))
  subst this
  exact absurd h3 (by unfold hitB; decide)
theorem counted_ok (up : Frs) : ACalls Try.prog 32 [] up fun v u => v = .im (.bool true) ∧ u = up := by
 have hfd := Find_ok cntG cntG_ok 0 2 9 (by decide) (by decide) (by decide) (by decide) (by decide) (by decide)
 refine ACalls.code Try.func32 rfl 27 rfl (by simp) [.tmp 0] rfl fun Q hQ => ?_
 simp only [ups, PV.up, argEnv]
 have ft := ai ty_2 (ai ty_3 (ai ty_4 (ai ty_9 (ai ty_26 (ai ty_27 (ai ty_29 (ai ty_31 (ai ty_33 (ai ty_36 (ai ty_55 (ai ty_57 (ai ty_60 (ai ty_62 (ai ty_77 trivial))))))))))))))
 refine Run.seq ?_
 have fx := ft
 refine Run.go ?_
 refine End.kp [] ?_
 refine Run.seq ?_
 refine Run.region rfl fun K hK => GOps.litF (rows := strs [⟨#[111]⟩]) ?_ rfl rfl (by simp only [litF, fx] <;> rfl)
 refine GOps.simK 1 ?_
 refine GOps.litF (rows := [LReg.im ⟨⟨#[114]⟩, 3, false⟩]) ?_ rfl rfl (by simp only [litF, fx] <;> rfl)
 refine GOps.litF (rows := ints [2]) ?_ rfl rfl (by simp only [litF, fx] <;> rfl)
 refine GOps.sim ?_
 refine GOps.done (hK _ ?_); clear hK K
 refine End.kp [1] ?_
 refine Run.seq ?_
 refine Run.ghost (Ghost.thawBox (j := 0) (i := 0) 9 1 (by decide) rfl rfl) ?_
 refine Run.ghost (Ghost.boxShut (j := 0) (i := 0) (r := 1) (m := 0) rfl rfl rfl rfl) ?_
 refine Run.ghost (Ghost.thawBox (j := 0) (i := 3) 59 2 (by decide) rfl rfl) ?_
 refine Run.ghost (Ghost.boxShut (j := 0) (i := 3) (r := 2) (m := 0) rfl rfl rfl rfl) ?_
 change Run _ _ _ _ _ (⟨_, [.box cntG.cells, .row 9 1 [] 0, .row 59 2 [] 0], up⟩ : ASt)
 have fx := ft
 refine Run.region rfl fun K hK => GOps.sim ?_
 refine GOps.call rfl rfl rfl rfl (by kernel_rfl) (ACalls.sim ?_)
 refine (hfd _).mono fun v u hv => ?_
 obtain ⟨rfl, ver, tr, ps, rfl, hv⟩ := hv
 obtain ⟨hv2, hv3⟩ : ver = 2 ∧ tr.length = 2 := by
  rcases hv with ⟨h1, _, h2⟩ | ⟨_, _, _, h2⟩
  ·refine ⟨h1, ?_⟩
   have h3 := h2.pos
   have h4 := h2.le
   by_cases e : tr.length = 1
   ·exact absurd ⟨tr, e, h2.rows, h2.hit⟩ cntG_one
   ·omega
  ·exact absurd cntG_two (h2 2 (by omega) (by omega))
 subst hv2
 refine ⟨_, _, rfl, GOps.sim ?_⟩
 refine GOps.done (hK _ ?_); clear hK K
 refine End.kp [2, 3] ?_
 refine Run.seq ?_
 have fx := ai hv3 (ai boolss_len ft)
 refine Run.go ?_
 refine End.kp [0] ?_
 refine Run.ret (hQ _ _ ⟨.inr rfl, _, rfl, _, rfl, ?_⟩)
 exact ⟨rfl, rfl⟩
theorem hit_last {g : LGraph} {k : Nat} {tr : List (List Bool)} (h : FindHit g 0 k tr) {a : Int} (ha : (∃ t : Nat, a = t ∧ t < tr.length ∧ ((runB g (initG g) tr).getD t []).getD 0 false = true ∧ ∀ j, j < t → ((runB g (initG g) tr).getD j []).getD 0 false = false) ∨ a = -1 ∧ ∀ j, j < tr.length → ((runB g (initG g) tr).getD j []).getD 0 false = false) : a = (tr.length : Int) - 1 := by
 have hp := h.pos
 rcases ha with ⟨t, rfl, ht, hh, _⟩ | ⟨_, hno⟩
 ·by_cases e : t + 1 < tr.length
  ·exact absurd (hit_reach h.rows ht hh) (h.low _ (by omega) e)
  ·omega
 ·have := hno (tr.length - 1) (by omega)
  have h2 := h.hit
  unfold hitB at h2
  rw [this] at h2
  simp at h2

set_option maxRecDepth 100000
set_option maxHeartbeats 40000000

set_option maxRecDepth 100000
set_option maxHeartbeats 40000000
theorem runB_drop (g : LGraph) (s : List Bool) (tr : List (List Bool)) : ∀ m, m ≤ tr.length → runB g (stB g s tr m) (tr.drop m) = (runB g s tr).drop m
 | 0, _ => rfl
 | m + 1, h => by
  have ih := runB_drop g s tr m (by omega)
  have e : tr.drop m = tr.getD m [] :: tr.drop (m + 1) := drop_gtD [] (by omega)
  have e2 : (runB g s tr).drop (m + 1) = ((runB g s tr).drop m).drop 1 := by rw [List.drop_drop]
  rw [e2, ← ih, e, runB]
  rfl

set_option maxRecDepth 100000
set_option maxHeartbeats 40000000
theorem DOps.rune {P : Program} {n : Nat} {st : ASt} {deps : List (List Nat)} {K : ASt → Prop} {gs : List GO} {acc : List Met} {dst : Option Nat} {gd : Option (Nat × Bool)} {src t : TypeId} {x : Operand} {k : IntKind} (r : Int) (h0 : 0 ≤ r) (h1 : r < 128)
  (hk : DOps P n deps gs (acc ++ [⟨(refsOf st.fr (valsO st (opndsM (.convert src t x))) ++ ([] : List (Ref × AObj))).map (·.1), [], [], []⟩]) (st.put dst (.im (.str ⟨#[UInt8.ofNat r.toNat]⟩))) K)
  (hg : guardA st.env gd = some true) (hd : okDst n dst = true) (hx : evalPV st x = some (.im (.int k r))) (hs : (P.underlying src).isSome = true) (ht : stringT P t = true) : DOps P n deps (⟨dst, .convert src t x, gd⟩ :: gs) acc st K := by
 refine DOps.opX (g := ⟨dst, .convert src t x, gd⟩) (.im (.str ⟨#[UInt8.ofNat r.toNat]⟩)) [] [] hg hd (fun p hp => by simp at hp) (fun s hse ha => ?_) hk
 have e := hse.ev (x := x) (by simp [opndsO]) hx
 intro F bs a w hr o ho
 have hv := evalPV_rel hr e
 simp only [VRel, IRel] at hv
 have hrun := run_convert_int_string (P := P) w src t k r hs (stringT_some ht)
 have henc : Utf8.encode r = ⟨#[UInt8.ofNat r.toNat]⟩ := by
  unfold Utf8.encode
  have hval : Utf8.valid r = true := by unfold Utf8.valid; simp; omega
  simp only [hval, if_true]
  rw [if_pos (by omega)]
 rw [henc] at hrun
 exact ⟨.value (.string ⟨#[UInt8.ofNat r.toNat]⟩), .string ⟨#[UInt8.ofNat r.toNat]⟩, w, F, bs, by simp [execOp, ho, hv, hrun], .inl rfl, hr.mem, CStep.refl _ _ _ _, by simp [VRel, IRel], rfl⟩

set_option maxHeartbeats 4000000

set_option maxRecDepth 100000
set_option maxHeartbeats 4000000
theorem mReg_ok (i : Nat) (m : LMk) (hm : MkSmall m) (up : Frs) (d j r q : Nat) (hk : MkAt up d j r q m) (hi : i < m.regs.length) : ACalls Try.prog 65 [.ptr d j 0, .i i] up fun v u => v = .i (2 * (1 + m.inn.length + i)) ∧ u = up := by
 obtain ⟨z1, z2, z3⟩ := hm
 have kb := hk.box
 have kr := hk.row
 have kq := hk.map
 have w1 : IntKind.i64.wrap (1 + (m.inn.length : Int)) = 1 + (m.inn.length : Int) := wrap64 (by omega)
 have d1 : decide ((i : Int) < 0) = false := decide_eq_false (by omega)
 have d2 : decide ((m.regs.length : Int) ≤ i) = false := decide_eq_false (by omega)
 have w4 : IntKind.i64.wrap (1 + (m.inn.length : Int) + i) = 1 + (m.inn.length : Int) + i := wrap64 (by omega)
 have w5 : IntKind.i64.wrap (2 * (1 + (m.inn.length : Int) + i)) = 2 * (1 + (m.inn.length : Int) + i) := wrap64 (by omega)
 refine ACalls.code Try.func65 rfl 27 rfl (by simp) [.tmp 4] rfl fun Q hQ => ?_
 simp only [ups, PV.up, argEnv]
 have ft := ai ty_3 (ai ty_4 (ai ty_9 (ai ty_26 (ai ty_27 (ai ty_36 (ai ty_55 (ai ty_57 (ai ty_123 (ai ty_156 trivial)))))))))
 refine Run.seq ?_
 have fx := ai (@ge_iff_le Int _) (ai w5 (ai w4 (ai w1 (ai d2 (ai d1 (ai rim_len (ai strs_len (ai kb ft))))))))
 refine Run.go ?_
 refine End.kp [0, 1] ?_
 refine Run.seq ?_
 refine Run.seq ?_
 refine Run.go ?_
 refine End.kp [0, 1, 15] ?_
 refine Run.cond _ rfl (fun hb => ?_) (fun hb => ?_)
 ·have hb2 := hb
  simp at hb
 ·have hb2 := hb
  refine Run.skip ?_
  refine End.kp [0, 1] ?_
  refine Run.seq ?_
  refine Run.go ?_
  refine End.kp [4] ?_
  refine Run.ret (hQ _ _ ⟨.inr rfl, _, rfl, _, rfl, ?_⟩)
  exact ⟨rfl, rfl⟩
theorem CopyRI_ok (g : LGraph) (hg : GSmall g) (k : Nat) (up : Frs) (hk : fget up 0 k = some .dead) : ACalls Try.prog 92 [g.pv] up fun v u => v = .agg [.im (.sl (strs g.inn)), .im (.sl (strs g.out)), .ms 0 k g.regs.length, .im (.sl (g.ands.map nd)), .im (.sl (ints g.outs))] ∧ u = fset up 0 k (.row 57 3 (g.regs.map LReg.im) 0) := by
 obtain ⟨z1, z2, z3, z4, z5⟩ := hg
 have hset : ∀ (u : Frs) (d j : Nat) (o x : AObj), fget u d j = some o → fget (fset u d j x) d j = some x := fun u d j o x h => fget_fset_same _ _ _ _ _ h
 refine ACalls.codeI Try.func92 rfl 19 rfl (by simp) [.cell 2 31] rfl k fun Q hQ => ?_
 simp only [ups, PV.up, argEnv]
 have ft := ai ty_2 (ai ty_3 (ai ty_4 (ai ty_9 (ai ty_26 (ai ty_27 (ai ty_28 (ai ty_29 (ai ty_31 (ai ty_55 (ai ty_57 (ai ty_59 trivial)))))))))))
 refine Run.ghost (.spares 1) ?_
 simp only [ASt.pushN, ASt.push, List.append_assoc, List.cons_append, List.nil_append]
 refine Run.seq ?_
 have fx := ft
 refine Run.go ?_
 refine End.kp [1, 2] ?_
 refine Run.seq ?_
 refine Run.drawA fun K hK => ?_
 refine DOps.sim ?_
 refine DOps.call (.im (.sl (strs g.inn))) [] [] rfl rfl rfl rfl (by kernel_rfl) (by simp [Agree]) (fun u hu => CloneS_ok g.inn (by omega) u) ?_
 refine DOps.sim ?_
 refine DOps.call (.im (.sl (strs g.out))) [] [] rfl rfl rfl rfl (by kernel_rfl) (by simp [Agree]) (fun u hu => CloneS_ok g.out (by omega) u) ?_
 refine DOps.sim ?_
 refine DOps.call (.ms 0 0 g.regs.length) [((0, 0), .dead)] [((0, 0), .row 57 3 (g.regs.map LReg.im) 0)] rfl rfl rfl rfl (by kernel_rfl) (by simp [Agree, ASt.fr]) (fun u hu => CloneRI_ok g.regs (by omega) 0 u (hu ((0, 0), .dead) (by simp))) ?_
 refine DOps.sim ?_
 refine DOps.call (.im (.sl (g.ands.map nd))) [] [] rfl rfl rfl rfl (by kernel_rfl) (by simp [Agree]) (fun u hu => CloneN_ok g.ands (by omega) u) ?_
 refine DOps.sim ?_
 refine DOps.call (.im (.sl (ints g.outs))) [] [] rfl rfl rfl rfl (by kernel_rfl) (by simp [Agree]) (fun u hu => CloneL_ok g.outs (by omega) u) ?_
 refine DOps.sim ?_
 refine DOps.nil (by rfl) (hK _ ?_); clear hK K
 refine End.kp [2] ?_
 refine Run.resI 0 hQ hk ?_
 exact ⟨rfl, rfl⟩

set_option maxRecDepth 100000
set_option maxHeartbeats 4000000
def regsN (R0 : List LReg) (next : List Int) (i : Nat) : List LReg := (List.range R0.length).map fun k => ⟨(R0.map LReg.name).getD k ByteArray.empty, if k < i then next.getD k 0 else (R0.map LReg.next).getD k 0, (R0.map LReg.init).getD k false⟩
theorem regsN_len (R0 : List LReg) (next : List Int) (i : Nat) : (regsN R0 next i).length = R0.length := by simp [regsN]
theorem regsN_get (R0 : List LReg) (next : List Int) (i k : Nat) (r : LReg) (h : R0[k]? = some r) : (regsN R0 next i)[k]? = some ⟨r.name, if k < i then next.getD k 0 else r.next, r.init⟩ := by
 obtain ⟨hk, he⟩ := List.getElem?_eq_some_iff.1 h
 subst he
 simp [regsN, hk, List.getD_eq_getElem?_getD]
theorem regsN_zero (R0 : List LReg) (next : List Int) : regsN R0 next 0 = R0 := by
 refine List.ext_getElem? fun k => ?_
 by_cases h : k < R0.length
 ·rw [regsN_get R0 next 0 k R0[k] (List.getElem?_eq_getElem h), List.getElem?_eq_getElem h]
  simp
 ·rw [List.getElem?_eq_none (by rw [regsN_len]; omega), List.getElem?_eq_none (by omega)]
theorem regsN_set (R0 : List LReg) (next : List Int) (i : Nat) (r : LReg) (x : Int) (h : R0[i]? = some r) (hx : next[i]? = some x) : (regsN R0 next i).set i ⟨r.name, x, r.init⟩ = regsN R0 next (i + 1) := by
 refine List.ext_getElem? fun k => ?_
 have hi := (List.getElem?_eq_some_iff.1 h).1
 rw [List.getElem?_set, regsN_len]
 by_cases e : i = k
 ·subst e
  rw [if_pos rfl, if_pos hi, regsN_get R0 next (i + 1) i r h]
  simp [List.getD_eq_getElem?_getD, hx]
 ·rw [if_neg e]
  by_cases hk : k < R0.length
  ·rw [regsN_get R0 next i k R0[k] (List.getElem?_eq_getElem hk), regsN_get R0 next (i + 1) k R0[k] (List.getElem?_eq_getElem hk)]
   by_cases h2 : k < i
   ·rw [if_pos h2, if_pos (by omega)]
   ·rw [if_neg h2, if_neg (by omega)]
  ·rw [List.getElem?_eq_none (by rw [regsN_len]; omega), List.getElem?_eq_none (by rw [regsN_len]; omega)]
theorem mGraphR_ok (g : LGraph) (hs : GSmall g) (next : List Int) (hn : next.length = g.regs.length) (hg : GraphOk (⟨g.inn, g.out, regsN g.regs next g.regs.length, g.ands, g.outs⟩ : LGraph)) (up : Frs) (d j q : Nat) (hk : fget up d j = some (.box [.im (.sl (strs g.inn)), .im (.sl (g.regs.map LReg.im)), .im (.sl (g.ands.map nd)), .map 0 q, .i 0])) : ACalls Try.prog 67 [.ptr d j 0, .im (.sl (strs g.out)), .im (.sl (ints g.outs)), .im (.sl (ints next))] up fun v u => v = .tup [(⟨g.inn, g.out, regsN g.regs next g.regs.length, g.ands, g.outs⟩ : LGraph).pv, .i 0] ∧ u = up := by
 obtain ⟨z1, z2, z3, z4, z5⟩ := hs
 have dR : ((next.length : Int) != g.regs.length) = false := by rw [hn]; simp
 refine ACalls.code Try.func67 rfl 70 rfl (by simp) [.cell 8 31, .tmp 9] rfl fun Q hQ => ?_
 simp only [ups, PV.up, argEnv]
 have ft := ai ty_2 (ai ty_3 (ai ty_4 (ai ty_9 (ai ty_26 (ai ty_27 (ai ty_28 (ai ty_29 (ai ty_31 (ai ty_36 (ai ty_55 (ai ty_57 (ai ty_59 (ai ty_123 (ai ty_156 trivial))))))))))))))
 refine Run.seq ?_
 have fx := ai dR (ai ints_len (ai rim_len (ai hk ft)))
 refine Run.go ?_
 refine End.kp [0, 1, 2, 3, 8] ?_
 refine Run.seq ?_
 refine Run.seq ?_
 refine Run.go ?_
 refine End.kp [0, 1, 2, 3, 8, 18] ?_
 refine Run.cond _ rfl (fun hb => ?_) (fun hb => ?_)
 ·have hb0 := hb
  simp at hb
 ·have hb0 := hb
  refine Run.skip ?_
  refine End.kp [0, 1, 2, 3, 8] ?_
  refine Run.seq ?_
  refine Run.seq ?_
  refine Run.go ?_
  refine End.kp [0, 1, 2, 3, 8, 31] ?_
  refine Run.cond _ rfl (fun hb => ?_) (fun hb => ?_)
  ·have hb0 := hb
   simp at hb
  ·have hb0 := hb
   refine Run.skip ?_
   refine End.kp [0, 1, 2, 3, 8] ?_
   refine Run.seq ?_
   refine Run.ghost (.spares 2) ?_
   simp only [ASt.pushN, ASt.push, List.append_assoc, List.cons_append, List.nil_append]
   refine Run.drawA fun K hK => ?_
   refine DOps.sim ?_
   refine DOps.call (.agg [.im (.sl (strs g.inn)), .im (.sl (strs g.out)), .ms 0 1 g.regs.length, .im (.sl (g.ands.map nd)), .im (.sl (ints g.outs))]) [((0, 1), .dead)] [((0, 1), .row 57 3 (g.regs.map LReg.im) 0)] rfl rfl rfl rfl (by kernel_rfl) (by simp [Agree, ASt.fr]) (fun u hu => CopyRI_ok g ⟨z1, z2, z3, z4, z5⟩ 1 u (hu ((0, 1), .dead) (by simp))) ?_
   refine DOps.sim ?_
   refine DOps.nil (by rfl) (hK _ ?_); clear hK K
   refine End.kp [3, 8, 10] ?_
   refine Run.seq ?_
   refine Run.seq ?_
   have fx := ai dR (ai ints_len (ai rim_len (ai hk ft)))
   refine Run.go ?_
   refine End.kp [8, 10, 49, 50, 51] ?_
   refine Run.block ?_
   refine Run.ghost (Ghost.form [(8, .ptr 0 0 0), (10, .ptr 0 2 0), (49, .im (.sl (ints next))), (50, .i next.length), (51, .i (0 : Nat))] 3 ⟨rfl, rfl, rfl, rfl, rfl, trivial⟩ rfl rfl) ?_
   refine Run.loop (fun m s => ∃ i : Nat, m = next.length - i ∧ i ≤ next.length ∧ s = ⟨[(8, .ptr 0 0 0), (10, .ptr 0 2 0), (49, .im (.sl (ints next))), (50, .i next.length), (51, .i (i : Nat))], [.box [.nils, .nils, .nils, .nils, .nils], .row 57 3 ((regsN g.regs next (i)).map LReg.im) 0, .box [.im (.sl (strs g.inn)), .im (.sl (strs g.out)), .ms 0 1 g.regs.length, .im (.sl (g.ands.map nd)), .im (.sl (ints g.outs))]], up⟩) next.length ⟨0, rfl, by omega, by rw [regsN_zero]; rfl⟩ fun m s hI => ?_
   obtain ⟨i, rfl, hi, rfl⟩ := hI
   refine Run.seq ?_
   refine Run.go ?_
   refine End.kp [8, 10, 49, 50, 51, 52] ?_
   refine Run.seq ?_
   refine Run.cond _ rfl (fun hb => ?_) (fun hb => ?_)
   ·have hb3 := of_decide_eq_true hb
    have hin : i < next.length := by omega
    have wi := wsucc hin (by omega)
    obtain ⟨x, hxi, hxm, hx⟩ := int_at next i hin
    obtain ⟨r, hri, hrm, hrr⟩ := reg_at g.regs i (by omega)
    have hil : (i : Int) < (g.regs.length : Int) := by omega
    have hfr : ((regsN g.regs next i).map LReg.im)[i]? = some [.str r.name, .int .i64 r.next, .bool r.init] := by
     rw [List.getElem?_map, regsN_get _ _ _ i r hri, if_neg (by omega)]
     rfl
    have hl0 : ((regsN g.regs next i).map LReg.im).length = g.regs.length := by rw [List.length_map, regsN_len]
    have hset : ((regsN g.regs next i).map LReg.im).set i [.str r.name, .int .i64 x, .bool r.init] = (regsN g.regs next (i + 1)).map LReg.im := by
     rw [← regsN_set g.regs next i r x hri hxi, List.map_set]
    refine Run.skip ?_
    refine End.kp [8, 10, 49, 50, 51] ?_
    refine Run.seq ?_
    refine Run.block ?_
    refine Run.seq ?_
    have fx := ai zTn (ai zNn (ai hl0 (ai hfr (ai hil (ai hx (ai wi fx))))))
    refine Run.go ?_
    refine End.kp [8, 10, 11, 12, 49, 50, 51] ?_
    refine Run.go ?_
    refine End.blk ?_
    refine End.kp [8, 10, 49, 50, 51] ?_
    refine Run.go ?_
    refine End.lp ?_
    refine ⟨next.length - (i + 1), _, by omega, Ghost.form [(8, .ptr 0 0 0), (10, .ptr 0 2 0), (49, .im (.sl (ints next))), (50, .i next.length), (51, .i (i + 1 : Nat))] 3 ⟨rfl, rfl, rfl, rfl, rfl, trivial⟩ rfl rfl, i + 1, rfl, by omega, by rw [← hset]; rfl⟩
   ·have hb3 := of_decide_eq_false hb
    have hie : i = g.regs.length := by omega
    subst hie
    refine Run.exit rfl ?_
    refine End.kp [8, 10] ?_
    refine Run.seq ?_
    refine Run.seq ?_
    refine Run.ghost (Ghost.boxShut (j := 2) (i := 2) (r := 1) rfl rfl rfl (by rw [List.length_map, regsN_len])) ?_
    simp only [List.set_cons_succ, List.set_cons_zero]
    refine Run.region rfl fun K hK => GOps.sim ?_
    refine GOps.call rfl rfl rfl rfl (by kernel_rfl) (ACalls.sim ?_)
    refine (Check_ok (⟨g.inn, g.out, regsN g.regs next g.regs.length, g.ands, g.outs⟩ : LGraph) hg _).mono fun v u hv => ?_
    obtain ⟨rfl, rfl⟩ := hv
    refine ⟨_, _, rfl, GOps.sim ?_⟩
    refine GOps.done (hK _ ?_); clear hK K
    refine End.kp [8, 10, 13] ?_
    refine Run.seq ?_
    refine Run.go ?_
    refine End.kp [8, 10, 13, 66] ?_
    refine Run.cond _ rfl (fun hb => ?_) (fun hb => ?_)
    ·have hb3 := hb
     simp at hb
    ·have hb3 := hb
     refine Run.skip ?_
     refine End.kp [8, 10] ?_
     refine Run.seq ?_
     have fx := ai dR (ai ints_len (ai rim_len (ai hk ft)))
     refine Run.go ?_
     refine End.kp [8, 9] ?_
     refine Run.resC hQ ?_
     exact ⟨rfl, rfl⟩

set_option maxRecDepth 100000
set_option maxHeartbeats 40000000
theorem mXor_ok (a b : Int) (m : LMk) (hm : MkSmall m) (up : Frs) (d j r q : Nat) (hk : MkAt up d j r q m) (hn : m.ands.length + 3 ≤ 4000) (ha : InM m a) (hb0 : InM m b) : ACalls Try.prog 64 [.ptr d j 0, .i a, .i b] up fun v u => v = .i (mkPair m a (flipL b) (flipL a) b).1 ∧ u = setMk up d j r q (mkPair m a (flipL b) (flipL a) b).2 := by
 have hm2 := hm
 obtain ⟨z1, z2, z3⟩ := hm
 have ha2 : 0 ≤ a ∧ a ≤ 1000000 := by have := ha; unfold InM LMk.top LMk.first at this; omega
 have hb2 : 0 ≤ b ∧ b ≤ 1000000 := by have := hb0; unfold InM LMk.top LMk.first at this; omega
 have hkn : ∀ x ∈ [a, b], 0 ≤ x ∧ x < 2 * (1 + (m.inn.length : Int) + m.regs.length + m.ands.length) := fun x hx => by
  simp only [List.mem_cons, List.not_mem_nil, or_false] at hx
  rcases hx with rfl | rfl
  ·exact ha
  ·exact hb0
 refine ACalls.code Try.func64 rfl 27 rfl (by simp) [.tmp 6] rfl fun Q hQ => ?_
 simp only [ups, PV.up, argEnv]
 have ft := ai ty_2 (ai ty_4 (ai ty_29 (ai ty_55 (ai ty_123 trivial))))
 refine Run.seq ?_
 have fx := ft
 refine Run.go ?_
 refine End.kp [0, 1, 2] ?_
 refine Run.seq ?_
 refine Run.seq ?_
 refine Run.region rfl fun K hK => GOps.sim ?_
 refine GOps.call rfl rfl rfl rfl (by kernel_rfl) (ACalls.sim ?_)
 refine (mknown_ok m hm2 _ (d + 1) j r q (by exact ⟨hk.box, hk.row, hk.map⟩) [a, b] hkn (by simp)).mono fun v u hv => ?_
 obtain ⟨rfl, rfl⟩ := hv
 refine ⟨_, _, rfl, GOps.sim ?_⟩
 refine GOps.done (hK _ ?_); clear hK K
 refine End.kp [0, 1, 2, 14] ?_
 refine Run.cond _ rfl (fun hb => ?_) (fun hb => ?_)
 ·have hb9 := hb
  simp at hb
 ·have hb9 := hb
  refine Run.skip ?_
  refine End.kp [0, 1, 2] ?_
  refine Run.seq ?_
  have fx := ft
  refine Run.region rfl fun K hK => GOps.sim ?_
  refine GOps.call rfl rfl rfl rfl (by kernel_rfl) (ACalls.sim ?_)
  refine (Not_ok b hb2.1 (by omega) _).mono fun v u hv => ?_
  obtain ⟨rfl, rfl⟩ := hv
  refine ⟨_, _, rfl, GOps.sim ?_⟩
  refine GOps.call rfl rfl rfl rfl (by kernel_rfl) (ACalls.sim ?_)
  refine (Not_ok a ha2.1 (by omega) _).mono fun v u hv => ?_
  obtain ⟨rfl, rfl⟩ := hv
  refine ⟨_, _, rfl, GOps.sim ?_⟩
  refine GOps.call rfl rfl rfl rfl (by kernel_rfl) (ACalls.sim ?_)
  refine (mpair_ok a (flipL b) (flipL a) b m hm2 _ (d + 1) j r q (by exact ⟨hk.box, hk.row, hk.map⟩) hn ha (flip_in hb0) (flip_in ha) hb0).mono fun v u hv => ?_
  obtain ⟨rfl, rfl⟩ := hv
  refine ⟨_, _, rfl, GOps.sim ?_⟩
  refine GOps.done (hK _ ?_); clear hK K
  refine End.kp [7] ?_
  refine Run.seq ?_
  refine Run.go ?_
  refine End.kp [6] ?_
  refine Run.ret (hQ _ _ ⟨.inr rfl, _, rfl, _, rfl, ?_⟩)
  exact ⟨rfl, rfl⟩
theorem rune_ok {P : Program} {n : Nat} {st : ASt} {src t : TypeId} {x : Operand} {k : IntKind} (r : Int) (h0 : 0 ≤ r) (h1 : r < 128) (hx : evalPV st x = some (.im (.int k r))) (hs : (P.underlying src).isSome = true) (ht : stringT P t = true) : OpOk P n st (.convert src t x) (.im (.str ⟨#[UInt8.ofNat r.toNat]⟩)) st := by
 intro F bs a w hr o ho
 have hv := evalPV_rel hr hx
 simp only [VRel, IRel] at hv
 have hrun := run_convert_int_string (P := P) w src t k r hs (stringT_some ht)
 have henc : Utf8.encode r = ⟨#[UInt8.ofNat r.toNat]⟩ := by
  unfold Utf8.encode
  have hval : Utf8.valid r = true := by unfold Utf8.valid; simp; omega
  simp only [hval, if_true]
  rw [if_pos (by omega)]
 rw [henc] at hrun
 exact ⟨.value (.string ⟨#[UInt8.ofNat r.toNat]⟩), .string ⟨#[UInt8.ofNat r.toNat]⟩, w, F, bs, by simp [execOp, ho, hv, hrun], .inl rfl, hr.mem, CStep.refl _ _ _ _, by simp [VRel, IRel], rfl⟩
theorem GOps.rune {P : Program} {n : Nat} {Q : Exit → ASt → Prop} {st : ASt} {gs : List GO} {dst : Option Nat} {gd : Option (Nat × Bool)} {src t : TypeId} {x : Operand} {k : IntKind} (r : Int) (h0 : 0 ≤ r) (h1 : r < 128)
  (hk : GOps P n gs Q (st.put dst (.im (.str ⟨#[UInt8.ofNat r.toNat]⟩)))) (hg : guardA st.env gd = some true) (hd : okDst n dst = true) (hx : evalPV st x = some (.im (.int k r))) (hs : (P.underlying src).isSome = true) (ht : stringT P t = true) : GOps P n (⟨dst, .convert src t x, gd⟩ :: gs) Q st :=
 GOps.step (g := ⟨dst, .convert src t x, gd⟩) hg (rune_ok r h0 h1 hx hs ht) hd hk
def cntN (i : Nat) : ByteArray := ⟨#[99]⟩ ++ ⟨#[UInt8.ofNat (48 + (i : Int)).toNat]⟩
def cntRegs (n : Nat) : List LReg := (List.range n).map fun i => ⟨cntN i, 0, false⟩
theorem cntRegs_len (n : Nat) : (cntRegs n).length = n := by simp [cntRegs]
def cR (m : LMk) (i : Nat) : Int := 2 * (1 + (m.inn.length : Int) + i)
def cX (i : Nat) (s : LMk × Int × Int × List Int) : Int × LMk := mkPair s.1 (cR s.1 i) (flipL s.2.1) (flipL (cR s.1 i)) s.2.1
def cY (i : Nat) (s : LMk × Int × Int × List Int) : Int × LMk := mkAnd (cX i s).2 s.2.1 (cR s.1 i)
def cZ (i : Nat) (s : LMk × Int × Int × List Int) : Int × LMk := mkAnd (cY i s).2 s.2.2.1 (cR s.1 i)
def cS (n : Nat) (en : Bool) : Nat → LMk × Int × Int × List Int
 | 0 => (⟨[⟨#[101, 110]⟩], cntRegs n, [], 0⟩, if en = true then 2 else 1, 1, [])
 | i + 1 => ((cZ i (cS n en i)).2, (cY i (cS n en i)).1, (cZ i (cS n en i)).1, (cS n en i).2.2.2 ++ [(cX i (cS n en i)).1])
def cntK (n : Nat) (en : Bool) : LGraph := ⟨[⟨#[101, 110]⟩], [⟨#[102, 117, 108, 108]⟩], regsN (cntRegs n) (cS n en n).2.2.2 n, (cS n en n).1.ands, [(cS n en n).2.2.1]⟩
def cvalB : List Bool → Nat
 | [] => 0
 | b :: l => (if b then 1 else 0) + 2 * cvalB l
def allB : Nat → List (List Bool)
 | 0 => [[]]
 | n + 1 => (allB n).map (true :: ·) ++ (allB n).map (false :: ·)
theorem allB_mem : ∀ (l : List Bool), l ∈ allB l.length
 | [] => by simp [allB]
 | b :: l => by
  have := allB_mem l
  cases b <;> simp [allB, this]
def stepB (n : Nat) (en : Bool) (r s : List Bool) : Bool := ((cntK n en).outs.map (lbit (bitsG (cntK n en) r s)) == [cvalB s + 1 == 2 ^ n]) && decide (cvalB (nxB (cntK n en) (bitsG (cntK n en) r s)) ≤ cvalB s + 1)
def chkB (n : Nat) : Bool := [true, false].all fun en => ((allB 1).all fun r => (allB n).all fun s => stepB n en r s) && ((runB (cntK n en) (initG (cntK n en)) (List.replicate (2 ^ n) [true])).getD (2 ^ n - 1) []).getD 0 false
def andsB (g : LGraph) : Bool := (List.range g.ands.length).all fun i => decide (0 ≤ (g.ands.getD i (0, 0)).1 ∧ (g.ands.getD i (0, 0)).1 < 2 * (1 + (g.inn.length : Int) + g.regs.length + i) ∧ 0 ≤ (g.ands.getD i (0, 0)).2 ∧ (g.ands.getD i (0, 0)).2 < 2 * (1 + (g.inn.length : Int) + g.regs.length + i))
def wellB (g : LGraph) : Bool := andsB g && decide (g.ands.length ≤ 30) && (g.regs.all fun r => decide (0 ≤ r.next ∧ r.next < 2 * (1 + (g.inn.length : Int) + g.regs.length + g.ands.length))) && (g.outs.all fun x => decide (0 ≤ x ∧ x < 2 * (1 + (g.inn.length : Int) + g.regs.length + g.ands.length)))
theorem chk1 : chkB 1 = true := by kernel_rfl
theorem chk2 : chkB 2 = true := by kernel_rfl
theorem chk3 : chkB 3 = true := by kernel_rfl
theorem well_all : ([1, 2, 3].all fun n => [true, false].all fun en => wellB (cntK n en)) = true := by kernel_rfl
theorem cntK_len (n : Nat) (en : Bool) : (cntK n en).inn.length = 1 ∧ (cntK n en).regs.length = n ∧ (cntK n en).outs.length = 1 ∧ (cntK n en).out.length = 1 := ⟨rfl, by simp [cntK, regsN_len, cntRegs_len], rfl, rfl⟩
theorem cntN_data (i : Nat) : (cntN i).data.toList = [99, UInt8.ofNat (48 + (i : Int)).toNat] := rfl
theorem cntN_inj {i j : Nat} (hi : i < 100) (hj : j < 100) (h : cntN i = cntN j) : i = j := by
 have e := congrArg (fun b => (b.data.toList.getD 1 0).toNat) h
 simp only [cntN_data] at e
 have e2 : (UInt8.ofNat (48 + (i : Int)).toNat).toNat = (UInt8.ofNat (48 + (j : Int)).toNat).toNat := e
 rw [UInt8.toNat_ofNat', UInt8.toNat_ofNat'] at e2
 omega
theorem cntN_ok {i : Nat} (hi : i < 10) : NameOk (cntN i) := by
 have hd := cntN_data i
 have hs : (cntN i).size = 2 := by
  have : (cntN i).data.toList.length = 2 := by rw [hd]; rfl
  simpa using this
 refine ⟨by omega, by omega, fun b hb => ?_⟩
 rw [hd] at hb
 simp only [List.mem_cons, List.not_mem_nil, or_false] at hb
 rcases hb with rfl | rfl
 ·decide
 ·rw [UInt8.toNat_ofNat']
  omega
theorem cntN_en (i : Nat) : (⟨#[101, 110]⟩ : ByteArray) ≠ cntN i := fun h => by
 have e := congrArg (fun b => b.data.toList.getD 0 0) h
 simp only [cntN_data] at e
 have e2 : (101 : UInt8) = 99 := e
 exact absurd e2 (by decide)
theorem cnt_names (n : Nat) (en : Bool) : (cntK n en).regs.map LReg.name = (List.range n).map cntN := by
 refine ext_getD ByteArray.empty (by simp [cntK, regsN_len, cntRegs_len]) fun i hi => ?_
 have hi2 : i < n := by simpa [cntK, regsN_len, cntRegs_len] using hi
 have h0 : (cntRegs n)[i]? = some ⟨cntN i, 0, false⟩ := by simp [cntRegs, hi2]
 have h1 := regsN_get (cntRegs n) (cS n en n).2.2.2 n i _ h0
 rw [range_getD n cntN _ hi2, List.getD_eq_getElem?_getD, List.getElem?_map]
 show (Option.map LReg.name ((regsN (cntRegs n) (cS n en n).2.2.2 n)[i]?)).getD ByteArray.empty = _
 rw [h1]
 rfl
theorem cntK_ok {n : Nat} (hn : n = 1 ∨ n = 2 ∨ n = 3) (en : Bool) : GraphOk (cntK n en) ∧ (cntK n en).ands.length ≤ 30 := by
 obtain ⟨l1, l2, l3, l4⟩ := cntK_len n en
 have hnm := cnt_names n en
 have hw : wellB (cntK n en) = true := by
  have := well_all
  simp only [List.all_eq_true] at this
  exact this n (by simp; omega) en (by cases en <;> simp)
 simp only [wellB, andsB, Bool.and_eq_true, List.all_eq_true, List.mem_range, decide_eq_true_eq] at hw
 obtain ⟨⟨⟨w1, w2⟩, w3⟩, w4⟩ := hw
 refine ⟨⟨⟨by omega, by omega, by omega, by omega, by omega⟩, fun s hs => ?_, ?_, fun s hs => ?_, by simp [cntK], by rw [l3, l4], fun i p hp => ?_, w3, w4⟩, w2⟩
 ·rw [hnm] at hs
  rcases List.mem_append.1 hs with h | h
  ·have : s = ⟨#[101, 110]⟩ := by simpa [cntK] using h
   subst this
   exact bytes_name [101, 110] (by decide) (by decide) (by decide)
  ·obtain ⟨i, hi, rfl⟩ := List.mem_map.1 h
   exact cntN_ok (by have := List.mem_range.1 hi; omega)
 ·rw [hnm]
  refine List.nodup_append.2 ⟨by simp [cntK], ?_, fun a ha b hb e => ?_⟩
  ·rw [List.Nodup, List.pairwise_map]
   exact List.nodup_range.imp_of_mem fun {a b} ha hb hne h => hne (cntN_inj (by have := List.mem_range.1 ha; omega) (by have := List.mem_range.1 hb; omega) h)
  ·have h1 : a = ⟨#[101, 110]⟩ := by simpa [cntK] using ha
   obtain ⟨i, hi, h2⟩ := List.mem_map.1 hb
   exact cntN_en i (by rw [← h1, e, ← h2])
 ·have : s = ⟨#[102, 117, 108, 108]⟩ := by simpa [cntK] using hs
  subst this
  exact bytes_name [102, 117, 108, 108] (by decide) (by decide) (by decide)
 ·have hi := (List.getElem?_eq_some_iff.1 hp).1
  have := w1 i hi
  rw [List.getD_eq_getElem?_getD, hp] at this
  exact ⟨⟨this.1, this.2.1⟩, this.2.2.1, this.2.2.2⟩
theorem chk_all {n : Nat} (hn : n = 1 ∨ n = 2 ∨ n = 3) : chkB n = true := by
 rcases hn with rfl | rfl | rfl
 ·exact chk1
 ·exact chk2
 ·exact chk3
theorem cnt_step {n : Nat} (hn : n = 1 ∨ n = 2 ∨ n = 3) (en : Bool) {r s : List Bool} (hr : r.length = 1) (hs : s.length = n) : (cntK n en).outs.map (lbit (bitsG (cntK n en) r s)) = [cvalB s + 1 == 2 ^ n] ∧ cvalB (nxB (cntK n en) (bitsG (cntK n en) r s)) ≤ cvalB s + 1 := by
 have h := chk_all hn
 simp only [chkB, List.all_eq_true, Bool.and_eq_true] at h
 have h2 := (h en (by cases en <;> simp)).1 r (by rw [← hr]; exact allB_mem r) s (by rw [← hs]; exact allB_mem s)
 simp only [stepB, Bool.and_eq_true, beq_iff_eq, decide_eq_true_eq] at h2
 exact h2
theorem cnt_full {n : Nat} (hn : n = 1 ∨ n = 2 ∨ n = 3) (en : Bool) : Reach (cntK n en) 0 (2 ^ n) := by
 have h := chk_all hn
 simp only [chkB, List.all_eq_true, Bool.and_eq_true] at h
 have h2 := (h en (by cases en <;> simp)).2
 refine ⟨List.replicate (2 ^ n) [true], by simp, fun r hr => by rw [List.eq_of_mem_replicate hr]; rfl, ?_⟩
 unfold hitB
 rw [List.length_replicate]
 exact h2
theorem cnt_state {n : Nat} (hn : n = 1 ∨ n = 2 ∨ n = 3) (en : Bool) (s : List Bool) (hs : s.length = n) (tr : List (List Bool)) (hr : Rows (cntK n en) tr) : ∀ m, m ≤ tr.length → cvalB (stB (cntK n en) s tr m) ≤ cvalB s + m
 | 0, _ => Nat.le_refl _
 | m + 1, h => by
  have ih := cnt_state hn en s hs tr hr m (by omega)
  have hl := stB_len (cntK n en) (s := s) (by rw [(cntK_len n en).2.1]; exact hs) tr m
  rw [(cntK_len n en).2.1] at hl
  have := (cnt_step hn en (r := tr.getD m []) (s := stB (cntK n en) s tr m) (hr _ (gtD_mem (by omega))) hl).2
  rw [stB]
  omega
theorem cval_init : ∀ (n : Nat) (l : List LReg), (∀ r ∈ l, r.init = false) → cvalB (l.map LReg.init) = 0
 | _, [], _ => rfl
 | n, r :: l, h => by
  rw [List.map_cons, cvalB, cval_init n l fun x hx => h x (by simp [hx]), h r (by simp)]
  rfl
theorem cnt_not {n : Nat} (hn : n = 1 ∨ n = 2 ∨ n = 3) (en : Bool) : ∀ t, 1 ≤ t → t < 2 ^ n → ¬ Reach (cntK n en) 0 t := by
 rintro t ht1 ht2 ⟨tr, rfl, hr, hh⟩
 have hi : (initG (cntK n en)).length = n := by simp [(cntK_len n en).2.1]
 have hz : cvalB (initG (cntK n en)) = 0 := cval_init n _ fun r hr => by
  obtain ⟨i, hi, e⟩ := List.getElem_of_mem hr
  have hi2 : i < n := by rw [(cntK_len n en).2.1] at hi; exact hi
  have h0 : (cntRegs n)[i]? = some ⟨cntN i, 0, false⟩ := by simp [cntRegs, hi2]
  have h1 := regsN_get (cntRegs n) (cS n en n).2.2.2 n i _ h0
  have h2 : (cntK n en).regs[i]? = some r := by rw [List.getElem?_eq_getElem hi, e]
  have h3 : (cntK n en).regs[i]? = _ := h1
  rw [h2] at h3
  rw [Option.some.inj h3]
 have hd := runB_drop (cntK n en) (initG (cntK n en)) tr (tr.length - 1) (by omega)
 have e : tr.drop (tr.length - 1) = [tr.getD (tr.length - 1) []] := by
  rw [drop_gtD [] (by omega), List.drop_of_length_le (by omega)]
 rw [e, runB, runB] at hd
 have hs2 := stB_len (cntK n en) (s := initG (cntK n en)) (by rw [hi, (cntK_len n en).2.1]) tr (tr.length - 1)
 rw [(cntK_len n en).2.1] at hs2
 rw [(cnt_step hn en (hr _ (gtD_mem (by omega))) hs2).1] at hd
 have hg : (runB (cntK n en) (initG (cntK n en)) tr).getD (tr.length - 1) [] = [cvalB (stB (cntK n en) (initG (cntK n en)) tr (tr.length - 1)) + 1 == 2 ^ n] := by
  have e2 : (runB (cntK n en) (initG (cntK n en)) tr).getD (tr.length - 1) [] = ((runB (cntK n en) (initG (cntK n en)) tr).drop (tr.length - 1)).getD 0 [] := by
   simp only [List.getD_eq_getElem?_getD, List.getElem?_drop, Nat.add_zero]
  rw [e2, ← hd]
  rfl
 unfold hitB at hh
 rw [hg] at hh
 have := cnt_state hn en (initG (cntK n en)) hi tr hr (tr.length - 1) (by omega)
 rw [hz] at this
 have h5 : cvalB (stB (cntK n en) (initG (cntK n en)) tr (tr.length - 1)) + 1 = 2 ^ n := eq_of_beq hh
 omega

set_option maxRecDepth 100000
set_option maxHeartbeats 40000000
structure CntOk (n i : Nat) (s : LMk × Int × Int × List Int) : Prop where
 inn : s.1.inn = [⟨#[101, 110]⟩]
 regs : s.1.regs = cntRegs n
 bad : s.1.bad = 0
 ic : InM s.1 s.2.1
 ia : InM s.1 s.2.2.1
 al : s.1.ands.length ≤ 5 * i
 nl : s.2.2.2.length = i
theorem mkAnd_bad0 (m : LMk) (a b : Int) : (mkAnd m a b).2.bad = m.bad := by
 unfold mkAnd
 split
 ·rfl
 ·split
  ·rfl
  ·split <;> rfl
theorem CntOk.small {n i : Nat} {s : LMk × Int × Int × List Int} (h : CntOk n i s) (hn : n ≤ 9) (hi : i ≤ n) : MkSmall s.1 := ⟨by rw [h.inn]; decide, by rw [h.regs, cntRegs_len]; omega, by have := h.al; omega⟩
theorem CntOk.reg {n i : Nat} {s : LMk × Int × Int × List Int} (h : CntOk n i s) (hi : i < n) : InM s.1 (cR s.1 i) := by
 unfold InM LMk.top LMk.first cR
 rw [h.inn, h.regs, cntRegs_len]
 simp only [List.length_cons, List.length_nil]
 omega
theorem CntOk.after {n i : Nat} {s : LMk × Int × Int × List Int} (h : CntOk n i s) (hi : i < n) : (AfterM s.1 (cX i s).2 3 ∧ InM (cX i s).2 (cX i s).1) ∧ (AfterM (cX i s).2 (cY i s).2 1 ∧ InM (cY i s).2 (cY i s).1) ∧ (AfterM (cY i s).2 (cZ i s).2 1 ∧ InM (cZ i s).2 (cZ i s).1) := by
 have hR := h.reg hi
 have x := mkPair_after s.1 hR (flip_in h.ic) (flip_in hR) h.ic
 have y := mkAnd_after (cX i s).2 (x.1.up h.ic) (x.1.up hR)
 have z := mkAnd_after (cY i s).2 (y.1.up (x.1.up h.ia)) (y.1.up (x.1.up hR))
 exact ⟨x, y, z⟩
theorem cS_next (n : Nat) (en : Bool) (i : Nat) : cS n en (i + 1) = ((cZ i (cS n en i)).2, (cY i (cS n en i)).1, (cZ i (cS n en i)).1, (cS n en i).2.2.2 ++ [(cX i (cS n en i)).1]) := rfl
theorem cS_ok (n : Nat) (en : Bool) : ∀ i, i ≤ n → CntOk n i (cS n en i)
 | 0, _ => by
  refine ⟨rfl, rfl, rfl, ?_, ?_, Nat.le_refl _, rfl⟩
  ·unfold InM LMk.top LMk.first
   show 0 ≤ (if en = true then (2 : Int) else 1) ∧ (if en = true then (2 : Int) else 1) < 2 * (1 + ((1 : Nat) : Int) + ((cntRegs n).length : Int) + ((0 : Nat) : Int))
   split <;> omega
  ·unfold InM LMk.top LMk.first
   show 0 ≤ (1 : Int) ∧ (1 : Int) < 2 * (1 + ((1 : Nat) : Int) + ((cntRegs n).length : Int) + ((0 : Nat) : Int))
   omega
 | i + 1, hi => by
  have h := cS_ok n en i (by omega)
  rw [cS_next]
  generalize cS n en i = s at h ⊢
  obtain ⟨⟨x1, x2⟩, ⟨y1, y2⟩, ⟨z1, z2⟩⟩ := h.after (by omega)
  have al := h.al
  have m1 := x1.most
  have m2 := y1.most
  have m3 := z1.most
  refine ⟨by show (cZ i s).2.inn = _; rw [z1.inn, y1.inn, x1.inn, h.inn], by show (cZ i s).2.regs = _; rw [z1.regs, y1.regs, x1.regs, h.regs], ?_, z1.up y2, z2, by show (cZ i s).2.ands.length ≤ _; omega, by simp [h.nl]⟩
  show (cZ i s).2.bad = 0
  unfold cZ cY cX mkPair
  simp only [mkAnd_bad0]
  exact h.bad
theorem counter_ok (n : Nat) (hn3 : n = 1 ∨ n = 2 ∨ n = 3) (en : Bool) (up : Frs) : ACalls Try.prog 40 [.i (n : Nat), .im (.bool en)] up fun v u => v = .tup [(cntK n en).pv, .im (.bool true)] ∧ u = up := by
 have hm0 := (cS_ok n true 0 (by omega)).small (by omega) (by omega)
 refine ACalls.code Try.func40 rfl 76 rfl (by simp) [.cell 4 31, .tmp 5] rfl fun Q hQ => ?_
 simp only [ups, PV.up, argEnv]
 have ft := ai ty_3 (ai ty_4 (ai ty_9 (ai ty_21 (ai ty_26 (ai ty_27 (ai ty_29 (ai ty_31 (ai ty_36 (ai ty_55 (ai ty_57 (ai ty_123 trivial)))))))))))
 refine Run.seq ?_
 have fx := ft
 refine Run.go ?_
 refine End.kp [0, 1, 4] ?_
 refine Run.seq ?_
 refine Run.go ?_
 refine End.kp [0, 1, 4, 6] ?_
 refine Run.seq ?_
 refine Run.seq ?_
 refine Run.go ?_
 refine End.kp [0, 1, 4, 6, 15, 16] ?_
 refine Run.block ?_
 refine Run.ghost (Ghost.thaw (u := 6) 57 3 (by decide) rfl) ?_
 refine Run.ghost (Ghost.form [(0, .i (n : Nat)), (1, .im (.bool en)), (4, .ptr 0 0 0), (6, .ms 0 1 0), (15, .i (n : Nat)), (16, .i (0 : Nat))] 2 ⟨rfl, rfl, rfl, rfl, rfl, rfl, trivial⟩ rfl (by simp only [ASt.push, List.nil_append, List.cons_append, List.take_succ_cons, List.take_zero, List.all_cons, List.all_nil, AObj.under, unders, unders_append, unders_ims, PV.under, Bool.and_true, Bool.and_self, Bool.true_and, Bool.and_eq_true, decide_eq_true_eq]; try omega)) ?_
 refine Run.loop (fun st0 st => ∃ i : Nat, st0 = n - i ∧ i ≤ n ∧ st = ⟨[(0, .i (n : Nat)), (1, .im (.bool en)), (4, .ptr 0 0 0), (6, .ms 0 1 i), (15, .i (n : Nat)), (16, .i (i : Nat))], [.box [.nils, .nils, .nils, .nils, .nils], .row 57 3 ((cntRegs i).map LReg.im) 0], up⟩) n ⟨0, rfl, by omega, rfl⟩ fun st0 st hI => ?_
 obtain ⟨i, hm, hi, rfl⟩ := hI
 subst st0
 have hrl : ((cntRegs i).map LReg.im).length = i := by rw [List.length_map, cntRegs_len]
 have hap : (i + 1) * 32 ≤ 140737488355328 := by omega
 refine Run.seq ?_
 have fx := ai hap (ai hrl ft)
 refine Run.go ?_
 refine End.kp [0, 1, 4, 6, 15, 16, 17] ?_
 refine Run.seq ?_
 refine Run.cond _ rfl (fun hb => ?_) (fun hb => ?_)
 ·have hb2 := of_decide_eq_true hb
  have hin : i < n := by omega
  have wi := wsucc hin (by omega)
  have w1 : IntKind.i64.wrap (48 + (i : Int)) = 48 + (i : Int) := wrap64 (by omega)
  have w2 : IntKind.i32.wrap (48 + (i : Int)) = 48 + (i : Int) := by unfold IntKind.wrap; simp only [IntKind.bits, IntKind.signed]; simp; omega
  have hss : (⟨#[99]⟩ : ByteArray).size + (⟨#[UInt8.ofNat (48 + (i : Int)).toNat]⟩ : ByteArray).size ≤ 9223372036854775807 := show 1 + 1 ≤ 9223372036854775807 by decide
  refine Run.skip ?_
  refine End.kp [0, 1, 4, 6, 15, 16] ?_
  refine Run.seq ?_
  refine Run.block ?_
  refine Run.seq ?_
  have fx := ai w2 (ai w1 (ai hss (ai wi fx)))
  refine Run.go ?_
  refine End.kp [0, 1, 4, 6, 7, 15, 16] ?_
  refine Run.region rfl fun K hK => GOps.simK 4 ?_
  refine GOps.rune (48 + (i : Int)) (by omega) (by omega) ?_ rfl rfl rfl rfl rfl
  refine GOps.simK 2 ?_
  refine GOps.litF (rows := [LReg.im ⟨cntN i, 0, false⟩]) ?_ rfl rfl (by simp only [litF, fx] <;> rfl)
  refine GOps.sim ?_
  refine GOps.done (hK _ ?_); clear hK K
  refine End.blk ?_
  refine End.kp [0, 1, 4, 6, 15, 16] ?_
  have fx := ai w2 (ai w1 (ai hss (ai wi (ai hap (ai hrl ft)))))
  refine Run.go ?_
  refine End.lp ?_
  have e1 : (cntRegs (i + 1)).map LReg.im = (cntRegs i).map LReg.im ++ [LReg.im ⟨cntN i, 0, false⟩] := by
   unfold cntRegs
   rw [List.range_succ, List.map_append, List.map_append]
   rfl
  refine ⟨n - (i + 1), _, by omega, Ghost.form [(0, .i (n : Nat)), (1, .im (.bool en)), (4, .ptr 0 0 0), (6, .ms 0 1 (i + 1)), (15, .i (n : Nat)), (16, .i (i + 1 : Nat))] 2 ⟨rfl, rfl, rfl, rfl, rfl, rfl, trivial⟩ rfl (by simp only [ASt.push, List.nil_append, List.cons_append, List.take_succ_cons, List.take_zero, List.all_cons, List.all_nil, AObj.under, unders, unders_append, unders_ims, PV.under, Bool.and_true, Bool.and_self, Bool.true_and, Bool.and_eq_true, decide_eq_true_eq]; try omega), i + 1, rfl, by omega, ?_⟩
  rw [e1]
  rfl
 ·have hb2 := of_decide_eq_false hb
  have hie : i = n := by omega
  subst hie
  refine Run.exit rfl ?_
  refine End.kp [0, 1, 4, 6] ?_
  refine Run.seq ?_
  refine Run.ghost (Ghost.shut (t := 6) (j := 1) rfl rfl hrl) ?_
  simp only [eput, edel]
  refine Run.region rfl fun K hK => ?_
  refine GOps.litF (rows := strs [⟨#[101, 110]⟩]) ?_ rfl rfl (by simp only [litF, fx] <;> rfl)
  refine GOps.sim ?_
  refine GOps.call rfl rfl rfl rfl (by kernel_rfl) (ACalls.sim ?_)
  refine (New_ok [⟨#[101, 110]⟩] (cntRegs i) (by decide) (by rw [cntRegs_len]; omega) _ _).mono fun v u hv => ?_
  obtain ⟨rfl, rfl⟩ := hv
  refine ⟨_, _, rfl, GOps.sim ?_⟩
  refine GOps.done (hK _ ?_); clear hK K
  refine End.kp [0, 1, 4, 8] ?_
  refine Run.seq ?_
  refine Run.seq ?_
  have fx := ai hap (ai hrl ft)
  refine Run.go ?_
  refine End.kp [0, 1, 4, 8, 33] ?_
  refine Run.cond _ rfl (fun hb => ?_) (fun hb => ?_)
  ·have hb3 := hb
   simp at hb
  ·have hb3 := hb
   obtain ⟨n, rfl⟩ : ∃ n, n = i := ⟨_, rfl⟩
   refine Run.skip ?_
   refine End.kp [0, 1, 4, 8] ?_
   refine Run.seq ?_
   refine Run.go ?_
   refine End.kp [0, 1, 4, 8, 9, 10] ?_
   refine Run.seq ?_
   refine Run.seq ?_
   refine Run.go ?_
   refine End.kp [0, 4, 8, 9, 10, 35] ?_
   refine Run.cond _ rfl (fun hb => ?_) (fun hb => ?_)
   ·have he : en = true := hb
    subst he
    refine Run.region rfl fun K hK => GOps.sim ?_
    refine GOps.call rfl rfl rfl rfl (by kernel_rfl) (ACalls.sim ?_)
    refine (mIn_ok 0 ⟨[⟨#[101, 110]⟩], cntRegs n, [], 0⟩ hm0 _ 0 3 4 2 ⟨rfl, rfl, rfl⟩ (show 0 < 1 by decide)).mono fun v u hv => ?_
    obtain ⟨rfl, rfl⟩ := hv
    refine ⟨_, _, rfl, GOps.sim ?_⟩
    refine GOps.done (hK _ ?_); clear hK K
    refine End.kp [0, 4, 8, 9, 10] ?_
    refine Run.seq ?_
    refine Run.go ?_
    refine End.kp [0, 4, 8, 9, 10, 11] ?_
    refine Run.seq ?_
    refine Run.seq ?_
    refine Run.go ?_
    refine End.kp [4, 8, 9, 10, 11, 38, 39] ?_
    refine Run.block ?_
    refine Run.ghost (Ghost.thaw (u := 11) 55 1 (by decide) rfl) ?_
    refine Run.ghost (Ghost.form [(4, .ptr 0 0 0), (8, .ptr 0 3 0), (9, .i 2), (10, .i 1), (11, .ms 0 5 0), (38, .i (n : Nat)), (39, .i (0 : Nat))] 6 ⟨rfl, rfl, rfl, rfl, rfl, rfl, rfl, trivial⟩ rfl (by simp only [ASt.push, List.nil_append, List.cons_append, List.take_succ_cons, List.take_zero, List.all_cons, List.all_nil, AObj.under, unders, unders_append, unders_ims, PV.under, Bool.and_true, Bool.and_self, Bool.true_and, Bool.and_eq_true, decide_eq_true_eq]; try omega)) ?_
    refine Run.loop (fun st0 st => ∃ i : Nat, st0 = n - i ∧ i ≤ n ∧ st = ⟨[(4, .ptr 0 0 0), (8, .ptr 0 3 0), (9, .i (cS n true i).2.1), (10, .i (cS n true i).2.2.1), (11, .ms 0 5 i), (38, .i (n : Nat)), (39, .i (i : Nat))], [.box [.nils, .nils, .nils, .nils, .nils], .row 57 3 ((cntRegs n).map LReg.im) n, mkMap (cS n true i).1, mkBox 4 2 (cS n true i).1, mkRow (cS n true i).1, .row 55 1 (ints (cS n true i).2.2.2) 0], up⟩) n ⟨0, rfl, by omega, rfl⟩ fun st0 st hI => ?_
    obtain ⟨i, hm, hi, rfl⟩ := hI
    subst st0
    have hck := cS_ok n true i hi
    have hrl2 : (ints (cS n true i).2.2.2).length = i := by rw [ints_len]; exact hck.nl
    have hap2 : (i + 1) * 8 ≤ 140737488355328 := by omega
    refine Run.seq ?_
    have fx := ai hap2 (ai hrl2 (ai hap (ai hrl ft)))
    refine Run.go ?_
    refine End.kp [4, 8, 9, 10, 11, 38, 39, 40] ?_
    refine Run.seq ?_
    refine Run.cond _ rfl (fun hb => ?_) (fun hb => ?_)
    ·have hb5 := of_decide_eq_true hb
     have hin : i < n := by omega
     have wi := wsucc hin (by omega)
     have hnx := cS_next n true i
     obtain ⟨s, hs⟩ : ∃ s, s = cS n true i := ⟨_, rfl⟩
     rw [← hs] at hck hrl2 hnx ⊢
     obtain ⟨⟨x1, x2⟩, ⟨y1, y2⟩, ⟨z1, z2⟩⟩ := hck.after hin
     have hR := hck.reg hin
     have s0 := hck.small (by omega) (by omega)
     have al := hck.al
     have s1 := x1.small s0 (by omega)
     have m1 := x1.most
     have s2 := y1.small s1 (by omega)
     have m2 := y1.most
     have rl0 : i < s.1.regs.length := by rw [hck.regs, cntRegs_len]; exact hin
     have rl1 : i < (cX i s).2.regs.length := by rw [x1.regs]; exact rl0
     have rl2 : i < (cY i s).2.regs.length := by rw [y1.regs]; exact rl1
     have hReg0 : ∀ R1 Rw, ACalls Try.prog 65 [.ptr 0 3 0, .i (i : Nat)] ([.box [.nils, .nils, .nils, .nils, .nils], R1, mkMap s.1, mkBox 4 2 s.1, mkRow s.1, Rw] :: up) fun v u => v = .i (cR s.1 i) ∧ u = [.box [.nils, .nils, .nils, .nils, .nils], R1, mkMap s.1, mkBox 4 2 s.1, mkRow s.1, Rw] :: up := fun R1 Rw => mReg_ok i s.1 s0 _ 0 3 4 2 ⟨rfl, rfl, rfl⟩ rl0
     have hXor : ∀ R1 Rw, ACalls Try.prog 64 [.ptr 0 3 0, .i (cR s.1 i), .i s.2.1] ([.box [.nils, .nils, .nils, .nils, .nils], R1, mkMap s.1, mkBox 4 2 s.1, mkRow s.1, Rw] :: up) fun v u => v = .i (cX i s).1 ∧ u = [.box [.nils, .nils, .nils, .nils, .nils], R1, mkMap (cX i s).2, mkBox 4 2 (cX i s).2, mkRow (cX i s).2, Rw] :: up := fun R1 Rw => mXor_ok (cR s.1 i) s.2.1 s.1 s0 _ 0 3 4 2 ⟨rfl, rfl, rfl⟩ (by omega) hR hck.ic
     have hReg1 : ∀ R1 Rw, ACalls Try.prog 65 [.ptr 0 3 0, .i (i : Nat)] ([.box [.nils, .nils, .nils, .nils, .nils], R1, mkMap (cX i s).2, mkBox 4 2 (cX i s).2, mkRow (cX i s).2, Rw] :: up) fun v u => v = .i (cR s.1 i) ∧ u = [.box [.nils, .nils, .nils, .nils, .nils], R1, mkMap (cX i s).2, mkBox 4 2 (cX i s).2, mkRow (cX i s).2, Rw] :: up := fun R1 Rw => by
      have := mReg_ok i (cX i s).2 s1 ([.box [.nils, .nils, .nils, .nils, .nils], R1, mkMap (cX i s).2, mkBox 4 2 (cX i s).2, mkRow (cX i s).2, Rw] :: up) 0 3 4 2 ⟨rfl, rfl, rfl⟩ rl1
      rw [x1.inn] at this
      exact this
     have hAnd1 : ∀ R1 Rw, ACalls Try.prog 66 [.ptr 0 3 0, .i s.2.1, .i (cR s.1 i)] ([.box [.nils, .nils, .nils, .nils, .nils], R1, mkMap (cX i s).2, mkBox 4 2 (cX i s).2, mkRow (cX i s).2, Rw] :: up) fun v u => v = .i (cY i s).1 ∧ u = [.box [.nils, .nils, .nils, .nils, .nils], R1, mkMap (cY i s).2, mkBox 4 2 (cY i s).2, mkRow (cY i s).2, Rw] :: up := fun R1 Rw => mAnd_ok s.2.1 (cR s.1 i) (cX i s).2 s1 _ 0 3 4 2 ⟨rfl, rfl, rfl⟩ (by omega) (x1.up hck.ic) (x1.up hR)
     have hReg2 : ∀ R1 Rw, ACalls Try.prog 65 [.ptr 0 3 0, .i (i : Nat)] ([.box [.nils, .nils, .nils, .nils, .nils], R1, mkMap (cY i s).2, mkBox 4 2 (cY i s).2, mkRow (cY i s).2, Rw] :: up) fun v u => v = .i (cR s.1 i) ∧ u = [.box [.nils, .nils, .nils, .nils, .nils], R1, mkMap (cY i s).2, mkBox 4 2 (cY i s).2, mkRow (cY i s).2, Rw] :: up := fun R1 Rw => by
      have := mReg_ok i (cY i s).2 s2 ([.box [.nils, .nils, .nils, .nils, .nils], R1, mkMap (cY i s).2, mkBox 4 2 (cY i s).2, mkRow (cY i s).2, Rw] :: up) 0 3 4 2 ⟨rfl, rfl, rfl⟩ rl2
      rw [y1.inn, x1.inn] at this
      exact this
     have hAnd2 : ∀ R1 Rw, ACalls Try.prog 66 [.ptr 0 3 0, .i s.2.2.1, .i (cR s.1 i)] ([.box [.nils, .nils, .nils, .nils, .nils], R1, mkMap (cY i s).2, mkBox 4 2 (cY i s).2, mkRow (cY i s).2, Rw] :: up) fun v u => v = .i (cZ i s).1 ∧ u = [.box [.nils, .nils, .nils, .nils, .nils], R1, mkMap (cZ i s).2, mkBox 4 2 (cZ i s).2, mkRow (cZ i s).2, Rw] :: up := fun R1 Rw => mAnd_ok s.2.2.1 (cR s.1 i) (cY i s).2 s2 _ 0 3 4 2 ⟨rfl, rfl, rfl⟩ (by omega) (y1.up (x1.up hck.ia)) (y1.up (x1.up hR))
     refine Run.skip ?_
     refine End.kp [4, 8, 9, 10, 11, 38, 39] ?_
     refine Run.seq ?_
     refine Run.block ?_
     refine Run.seq ?_
     have fx := ai wi (ai hap2 (ai hrl2 (ai hap (ai hrl ft))))
     refine Run.go ?_
     refine End.kp [4, 8, 9, 10, 11, 12, 38, 39] ?_
     refine Run.seq ?_
     refine Run.region rfl fun K hK => GOps.sim ?_
     refine GOps.call rfl rfl rfl rfl (by kernel_rfl) (ACalls.sim ?_)
     refine (hReg0 _ _).mono fun v u hv => ?_
     obtain ⟨rfl, rfl⟩ := hv
     refine ⟨_, _, rfl, GOps.sim ?_⟩
     refine GOps.call rfl rfl rfl rfl (by kernel_rfl) (ACalls.sim ?_)
     refine (hXor _ _).mono fun v u hv => ?_
     obtain ⟨rfl, rfl⟩ := hv
     refine ⟨_, _, rfl, ?_⟩
     refine GOps.litF (rows := ints [(cX i s).1]) ?_ rfl rfl (by simp only [litF, fx] <;> rfl)
     refine GOps.sim ?_
     refine GOps.done (hK _ ?_); clear hK K
     refine End.kp [4, 8, 9, 10, 11, 12, 38, 39] ?_
     have fx := ai wi (ai hap2 (ai hrl2 (ai hap (ai hrl ft))))
     refine Run.region rfl fun K hK => GOps.sim ?_
     refine GOps.call rfl rfl rfl rfl (by kernel_rfl) (ACalls.sim ?_)
     refine (hReg1 _ _).mono fun v u hv => ?_
     obtain ⟨rfl, rfl⟩ := hv
     refine ⟨_, _, rfl, GOps.sim ?_⟩
     refine GOps.call rfl rfl rfl rfl (by kernel_rfl) (ACalls.sim ?_)
     refine (hAnd1 _ _).mono fun v u hv => ?_
     obtain ⟨rfl, rfl⟩ := hv
     refine ⟨_, _, rfl, GOps.sim ?_⟩
     refine GOps.call rfl rfl rfl rfl (by kernel_rfl) (ACalls.sim ?_)
     refine (hReg2 _ _).mono fun v u hv => ?_
     obtain ⟨rfl, rfl⟩ := hv
     refine ⟨_, _, rfl, GOps.sim ?_⟩
     refine GOps.call rfl rfl rfl rfl (by kernel_rfl) (ACalls.sim ?_)
     refine (hAnd2 _ _).mono fun v u hv => ?_
     obtain ⟨rfl, rfl⟩ := hv
     refine ⟨_, _, rfl, GOps.sim ?_⟩
     refine GOps.done (hK _ ?_); clear hK K
     refine End.blk ?_
     refine End.kp [4, 8, 9, 10, 11, 38, 39] ?_
     refine Run.go ?_
     refine End.lp ?_
     refine ⟨n - (i + 1), _, by omega, Ghost.form [(4, .ptr 0 0 0), (8, .ptr 0 3 0), (9, .i (cY i s).1), (10, .i (cZ i s).1), (11, .ms 0 5 (i + 1)), (38, .i (n : Nat)), (39, .i (i + 1 : Nat))] 6 ⟨rfl, rfl, rfl, rfl, rfl, rfl, rfl, trivial⟩ rfl (by simp only [ASt.push, List.nil_append, List.cons_append, List.take_succ_cons, List.take_zero, List.all_cons, List.all_nil, AObj.under, unders, unders_append, unders_ims, PV.under, Bool.and_true, Bool.and_self, Bool.true_and, Bool.and_eq_true, decide_eq_true_eq]; try omega), i + 1, rfl, by omega, ?_⟩
     rw [hnx]
     simp only [List.map_append]
     rfl
    ·have hb5 := of_decide_eq_false hb
     have hie : i = n := by omega
     subst hie
     have hK : cntK i true = ⟨[⟨#[101, 110]⟩], [⟨#[102, 117, 108, 108]⟩], regsN (cntRegs i) (cS i true i).2.2.2 i, (cS i true i).1.ands, [(cS i true i).2.2.1]⟩ := rfl
     have hko := (cntK_ok hn3 true).1
     rw [hK] at hko
     generalize cS i true i = s at *
     obtain ⟨⟨inn, rg, A, bd⟩, c, a, nx⟩ := s
     obtain ⟨g1, g2, g3, _, _, _, g7⟩ := hck
     simp only at g1 g2 g3 g7
     subst g1 g2 g3
     have hcl := cntRegs_len i
     have hGr : ∀ R1 R4 Rw, ACalls Try.prog 67 [.ptr 0 3 0, .im (.sl (strs [⟨#[102, 117, 108, 108]⟩])), .im (.sl (ints [a])), .im (.sl (ints nx))] ([.box [.nils, .nils, .nils, .nils, .nils], R1, mkMap ⟨[⟨#[101, 110]⟩], cntRegs i, A, 0⟩, .box [.im (.sl (strs [⟨#[101, 110]⟩])), .im (.sl ((cntRegs i).map LReg.im)), .im (.sl (A.map nd)), .map 0 2, .i 0], R4, Rw] :: up) fun v u => v = .tup [(⟨[⟨#[101, 110]⟩], [⟨#[102, 117, 108, 108]⟩], regsN (cntRegs i) nx i, A, [a]⟩ : LGraph).pv, .i 0] ∧ u = ([.box [.nils, .nils, .nils, .nils, .nils], R1, mkMap ⟨[⟨#[101, 110]⟩], cntRegs i, A, 0⟩, .box [.im (.sl (strs [⟨#[101, 110]⟩])), .im (.sl ((cntRegs i).map LReg.im)), .im (.sl (A.map nd)), .map 0 2, .i 0], R4, Rw] :: up) := fun R1 R4 Rw => by
      have hz := hko.small
      have := mGraphR_ok ⟨[⟨#[101, 110]⟩], [⟨#[102, 117, 108, 108]⟩], cntRegs i, A, [a]⟩ ⟨hz.inn, hz.out, by show (cntRegs i).length ≤ 288; omega, hz.ands, hz.outs⟩ nx (by show nx.length = (cntRegs i).length; omega) (by show GraphOk ⟨_, _, regsN (cntRegs i) nx (cntRegs i).length, _, _⟩; rw [hcl]; exact hko) ([.box [.nils, .nils, .nils, .nils, .nils], R1, mkMap ⟨[⟨#[101, 110]⟩], cntRegs i, A, 0⟩, .box [.im (.sl (strs [⟨#[101, 110]⟩])), .im (.sl ((cntRegs i).map LReg.im)), .im (.sl (A.map nd)), .map 0 2, .i 0], R4, Rw] :: up) 0 3 2 rfl
      simp only [hcl] at this
      exact this
     refine Run.exit rfl ?_
     refine End.kp [4, 8, 10, 11] ?_
     refine Run.seq ?_
     refine Run.ghost (Ghost.shut (t := 11) (j := 5) rfl rfl hrl2) ?_
     simp only [eput, edel]
     refine Run.ghost (Ghost.boxShut (j := 3) (i := 2) (r := 4) (m := A.length) rfl rfl rfl (nd_len A)) ?_
     simp only [List.set_cons_succ, List.set_cons_zero]
     have fx := ai hap2 (ai hrl2 (ai hap (ai hrl ft)))
     refine Run.region rfl fun K hK => GOps.simK 1 ?_
     refine GOps.litF (rows := strs [⟨#[102, 117, 108, 108]⟩]) ?_ rfl rfl (by simp only [litF, fx] <;> rfl)
     refine GOps.simK 1 ?_
     refine GOps.litF (rows := ints [a]) ?_ rfl rfl (by simp only [litF, fx] <;> rfl)
     refine GOps.sim ?_
     refine GOps.call rfl rfl rfl rfl (by kernel_rfl) (ACalls.sim ?_)
     refine (hGr _ _ _).mono fun v u hv => ?_
     obtain ⟨rfl, rfl⟩ := hv
     refine ⟨_, _, rfl, GOps.sim ?_⟩
     refine GOps.done (hK _ ?_); clear hK K
     refine End.kp [4, 13, 14] ?_
     refine Run.seq ?_
     have fx := ai hap2 (ai hrl2 (ai hap (ai hrl ft)))
     refine Run.go ?_
     refine End.kp [4, 5] ?_
     refine Run.resC hQ ?_
     exact ⟨by rw [hK]; rfl, rfl⟩
   ·have he : en = false := hb
    subst he
    refine Run.skip ?_
    refine End.kp [0, 4, 8, 9, 10] ?_
    refine Run.seq ?_
    refine Run.go ?_
    refine End.kp [0, 4, 8, 9, 10, 11] ?_
    refine Run.seq ?_
    refine Run.seq ?_
    refine Run.go ?_
    refine End.kp [4, 8, 9, 10, 11, 38, 39] ?_
    refine Run.block ?_
    refine Run.ghost (Ghost.thaw (u := 11) 55 1 (by decide) rfl) ?_
    refine Run.ghost (Ghost.form [(4, .ptr 0 0 0), (8, .ptr 0 3 0), (9, .i 1), (10, .i 1), (11, .ms 0 5 0), (38, .i (n : Nat)), (39, .i (0 : Nat))] 6 ⟨rfl, rfl, rfl, rfl, rfl, rfl, rfl, trivial⟩ rfl (by simp only [ASt.push, List.nil_append, List.cons_append, List.take_succ_cons, List.take_zero, List.all_cons, List.all_nil, AObj.under, unders, unders_append, unders_ims, PV.under, Bool.and_true, Bool.and_self, Bool.true_and, Bool.and_eq_true, decide_eq_true_eq]; try omega)) ?_
    refine Run.loop (fun st0 st => ∃ i : Nat, st0 = n - i ∧ i ≤ n ∧ st = ⟨[(4, .ptr 0 0 0), (8, .ptr 0 3 0), (9, .i (cS n false i).2.1), (10, .i (cS n false i).2.2.1), (11, .ms 0 5 i), (38, .i (n : Nat)), (39, .i (i : Nat))], [.box [.nils, .nils, .nils, .nils, .nils], .row 57 3 ((cntRegs n).map LReg.im) n, mkMap (cS n false i).1, mkBox 4 2 (cS n false i).1, mkRow (cS n false i).1, .row 55 1 (ints (cS n false i).2.2.2) 0], up⟩) n ⟨0, rfl, by omega, rfl⟩ fun st0 st hI => ?_
    obtain ⟨i, hm, hi, rfl⟩ := hI
    subst st0
    have hck := cS_ok n false i hi
    have hrl2 : (ints (cS n false i).2.2.2).length = i := by rw [ints_len]; exact hck.nl
    have hap2 : (i + 1) * 8 ≤ 140737488355328 := by omega
    refine Run.seq ?_
    have fx := ai hap2 (ai hrl2 fx)
    refine Run.go ?_
    refine End.kp [4, 8, 9, 10, 11, 38, 39, 40] ?_
    refine Run.seq ?_
    refine Run.cond _ rfl (fun hb => ?_) (fun hb => ?_)
    ·have hb5 := of_decide_eq_true hb
     have hin : i < n := by omega
     have wi := wsucc hin (by omega)
     have hnx := cS_next n false i
     obtain ⟨s, hs⟩ : ∃ s, s = cS n false i := ⟨_, rfl⟩
     rw [← hs] at hck hrl2 hnx ⊢
     obtain ⟨⟨x1, x2⟩, ⟨y1, y2⟩, ⟨z1, z2⟩⟩ := hck.after hin
     have hR := hck.reg hin
     have s0 := hck.small (by omega) (by omega)
     have al := hck.al
     have s1 := x1.small s0 (by omega)
     have m1 := x1.most
     have s2 := y1.small s1 (by omega)
     have m2 := y1.most
     have rl0 : i < s.1.regs.length := by rw [hck.regs, cntRegs_len]; exact hin
     have rl1 : i < (cX i s).2.regs.length := by rw [x1.regs]; exact rl0
     have rl2 : i < (cY i s).2.regs.length := by rw [y1.regs]; exact rl1
     have hReg0 : ∀ R1 Rw, ACalls Try.prog 65 [.ptr 0 3 0, .i (i : Nat)] ([.box [.nils, .nils, .nils, .nils, .nils], R1, mkMap s.1, mkBox 4 2 s.1, mkRow s.1, Rw] :: up) fun v u => v = .i (cR s.1 i) ∧ u = [.box [.nils, .nils, .nils, .nils, .nils], R1, mkMap s.1, mkBox 4 2 s.1, mkRow s.1, Rw] :: up := fun R1 Rw => mReg_ok i s.1 s0 _ 0 3 4 2 ⟨rfl, rfl, rfl⟩ rl0
     have hXor : ∀ R1 Rw, ACalls Try.prog 64 [.ptr 0 3 0, .i (cR s.1 i), .i s.2.1] ([.box [.nils, .nils, .nils, .nils, .nils], R1, mkMap s.1, mkBox 4 2 s.1, mkRow s.1, Rw] :: up) fun v u => v = .i (cX i s).1 ∧ u = [.box [.nils, .nils, .nils, .nils, .nils], R1, mkMap (cX i s).2, mkBox 4 2 (cX i s).2, mkRow (cX i s).2, Rw] :: up := fun R1 Rw => mXor_ok (cR s.1 i) s.2.1 s.1 s0 _ 0 3 4 2 ⟨rfl, rfl, rfl⟩ (by omega) hR hck.ic
     have hReg1 : ∀ R1 Rw, ACalls Try.prog 65 [.ptr 0 3 0, .i (i : Nat)] ([.box [.nils, .nils, .nils, .nils, .nils], R1, mkMap (cX i s).2, mkBox 4 2 (cX i s).2, mkRow (cX i s).2, Rw] :: up) fun v u => v = .i (cR s.1 i) ∧ u = [.box [.nils, .nils, .nils, .nils, .nils], R1, mkMap (cX i s).2, mkBox 4 2 (cX i s).2, mkRow (cX i s).2, Rw] :: up := fun R1 Rw => by
      have := mReg_ok i (cX i s).2 s1 ([.box [.nils, .nils, .nils, .nils, .nils], R1, mkMap (cX i s).2, mkBox 4 2 (cX i s).2, mkRow (cX i s).2, Rw] :: up) 0 3 4 2 ⟨rfl, rfl, rfl⟩ rl1
      rw [x1.inn] at this
      exact this
     have hAnd1 : ∀ R1 Rw, ACalls Try.prog 66 [.ptr 0 3 0, .i s.2.1, .i (cR s.1 i)] ([.box [.nils, .nils, .nils, .nils, .nils], R1, mkMap (cX i s).2, mkBox 4 2 (cX i s).2, mkRow (cX i s).2, Rw] :: up) fun v u => v = .i (cY i s).1 ∧ u = [.box [.nils, .nils, .nils, .nils, .nils], R1, mkMap (cY i s).2, mkBox 4 2 (cY i s).2, mkRow (cY i s).2, Rw] :: up := fun R1 Rw => mAnd_ok s.2.1 (cR s.1 i) (cX i s).2 s1 _ 0 3 4 2 ⟨rfl, rfl, rfl⟩ (by omega) (x1.up hck.ic) (x1.up hR)
     have hReg2 : ∀ R1 Rw, ACalls Try.prog 65 [.ptr 0 3 0, .i (i : Nat)] ([.box [.nils, .nils, .nils, .nils, .nils], R1, mkMap (cY i s).2, mkBox 4 2 (cY i s).2, mkRow (cY i s).2, Rw] :: up) fun v u => v = .i (cR s.1 i) ∧ u = [.box [.nils, .nils, .nils, .nils, .nils], R1, mkMap (cY i s).2, mkBox 4 2 (cY i s).2, mkRow (cY i s).2, Rw] :: up := fun R1 Rw => by
      have := mReg_ok i (cY i s).2 s2 ([.box [.nils, .nils, .nils, .nils, .nils], R1, mkMap (cY i s).2, mkBox 4 2 (cY i s).2, mkRow (cY i s).2, Rw] :: up) 0 3 4 2 ⟨rfl, rfl, rfl⟩ rl2
      rw [y1.inn, x1.inn] at this
      exact this
     have hAnd2 : ∀ R1 Rw, ACalls Try.prog 66 [.ptr 0 3 0, .i s.2.2.1, .i (cR s.1 i)] ([.box [.nils, .nils, .nils, .nils, .nils], R1, mkMap (cY i s).2, mkBox 4 2 (cY i s).2, mkRow (cY i s).2, Rw] :: up) fun v u => v = .i (cZ i s).1 ∧ u = [.box [.nils, .nils, .nils, .nils, .nils], R1, mkMap (cZ i s).2, mkBox 4 2 (cZ i s).2, mkRow (cZ i s).2, Rw] :: up := fun R1 Rw => mAnd_ok s.2.2.1 (cR s.1 i) (cY i s).2 s2 _ 0 3 4 2 ⟨rfl, rfl, rfl⟩ (by omega) (y1.up (x1.up hck.ia)) (y1.up (x1.up hR))
     refine Run.skip ?_
     refine End.kp [4, 8, 9, 10, 11, 38, 39] ?_
     refine Run.seq ?_
     refine Run.block ?_
     refine Run.seq ?_
     have fx := ai wi (ai hap2 (ai hrl2 (ai hap (ai hrl ft))))
     refine Run.go ?_
     refine End.kp [4, 8, 9, 10, 11, 12, 38, 39] ?_
     refine Run.seq ?_
     refine Run.region rfl fun K hK => GOps.sim ?_
     refine GOps.call rfl rfl rfl rfl (by kernel_rfl) (ACalls.sim ?_)
     refine (hReg0 _ _).mono fun v u hv => ?_
     obtain ⟨rfl, rfl⟩ := hv
     refine ⟨_, _, rfl, GOps.sim ?_⟩
     refine GOps.call rfl rfl rfl rfl (by kernel_rfl) (ACalls.sim ?_)
     refine (hXor _ _).mono fun v u hv => ?_
     obtain ⟨rfl, rfl⟩ := hv
     refine ⟨_, _, rfl, ?_⟩
     refine GOps.litF (rows := ints [(cX i s).1]) ?_ rfl rfl (by simp only [litF, fx] <;> rfl)
     refine GOps.sim ?_
     refine GOps.done (hK _ ?_); clear hK K
     refine End.kp [4, 8, 9, 10, 11, 12, 38, 39] ?_
     have fx := ai wi (ai hap2 (ai hrl2 (ai hap (ai hrl ft))))
     refine Run.region rfl fun K hK => GOps.sim ?_
     refine GOps.call rfl rfl rfl rfl (by kernel_rfl) (ACalls.sim ?_)
     refine (hReg1 _ _).mono fun v u hv => ?_
     obtain ⟨rfl, rfl⟩ := hv
     refine ⟨_, _, rfl, GOps.sim ?_⟩
     refine GOps.call rfl rfl rfl rfl (by kernel_rfl) (ACalls.sim ?_)
     refine (hAnd1 _ _).mono fun v u hv => ?_
     obtain ⟨rfl, rfl⟩ := hv
     refine ⟨_, _, rfl, GOps.sim ?_⟩
     refine GOps.call rfl rfl rfl rfl (by kernel_rfl) (ACalls.sim ?_)
     refine (hReg2 _ _).mono fun v u hv => ?_
     obtain ⟨rfl, rfl⟩ := hv
     refine ⟨_, _, rfl, GOps.sim ?_⟩
     refine GOps.call rfl rfl rfl rfl (by kernel_rfl) (ACalls.sim ?_)
     refine (hAnd2 _ _).mono fun v u hv => ?_
     obtain ⟨rfl, rfl⟩ := hv
     refine ⟨_, _, rfl, GOps.sim ?_⟩
     refine GOps.done (hK _ ?_); clear hK K
     refine End.blk ?_
     refine End.kp [4, 8, 9, 10, 11, 38, 39] ?_
     refine Run.go ?_
     refine End.lp ?_
     refine ⟨n - (i + 1), _, by omega, Ghost.form [(4, .ptr 0 0 0), (8, .ptr 0 3 0), (9, .i (cY i s).1), (10, .i (cZ i s).1), (11, .ms 0 5 (i + 1)), (38, .i (n : Nat)), (39, .i (i + 1 : Nat))] 6 ⟨rfl, rfl, rfl, rfl, rfl, rfl, rfl, trivial⟩ rfl (by simp only [ASt.push, List.nil_append, List.cons_append, List.take_succ_cons, List.take_zero, List.all_cons, List.all_nil, AObj.under, unders, unders_append, unders_ims, PV.under, Bool.and_true, Bool.and_self, Bool.true_and, Bool.and_eq_true, decide_eq_true_eq]; try omega), i + 1, rfl, by omega, ?_⟩
     rw [hnx]
     simp only [List.map_append]
     rfl
    ·have hb5 := of_decide_eq_false hb
     have hie : i = n := by omega
     subst hie
     have hK : cntK i false = ⟨[⟨#[101, 110]⟩], [⟨#[102, 117, 108, 108]⟩], regsN (cntRegs i) (cS i false i).2.2.2 i, (cS i false i).1.ands, [(cS i false i).2.2.1]⟩ := rfl
     have hko := (cntK_ok hn3 false).1
     rw [hK] at hko
     generalize cS i false i = s at *
     obtain ⟨⟨inn, rg, A, bd⟩, c, a, nx⟩ := s
     obtain ⟨g1, g2, g3, _, _, _, g7⟩ := hck
     simp only at g1 g2 g3 g7
     subst g1 g2 g3
     have hcl := cntRegs_len i
     have hGr : ∀ R1 R4 Rw, ACalls Try.prog 67 [.ptr 0 3 0, .im (.sl (strs [⟨#[102, 117, 108, 108]⟩])), .im (.sl (ints [a])), .im (.sl (ints nx))] ([.box [.nils, .nils, .nils, .nils, .nils], R1, mkMap ⟨[⟨#[101, 110]⟩], cntRegs i, A, 0⟩, .box [.im (.sl (strs [⟨#[101, 110]⟩])), .im (.sl ((cntRegs i).map LReg.im)), .im (.sl (A.map nd)), .map 0 2, .i 0], R4, Rw] :: up) fun v u => v = .tup [(⟨[⟨#[101, 110]⟩], [⟨#[102, 117, 108, 108]⟩], regsN (cntRegs i) nx i, A, [a]⟩ : LGraph).pv, .i 0] ∧ u = ([.box [.nils, .nils, .nils, .nils, .nils], R1, mkMap ⟨[⟨#[101, 110]⟩], cntRegs i, A, 0⟩, .box [.im (.sl (strs [⟨#[101, 110]⟩])), .im (.sl ((cntRegs i).map LReg.im)), .im (.sl (A.map nd)), .map 0 2, .i 0], R4, Rw] :: up) := fun R1 R4 Rw => by
      have hz := hko.small
      have := mGraphR_ok ⟨[⟨#[101, 110]⟩], [⟨#[102, 117, 108, 108]⟩], cntRegs i, A, [a]⟩ ⟨hz.inn, hz.out, by show (cntRegs i).length ≤ 288; omega, hz.ands, hz.outs⟩ nx (by show nx.length = (cntRegs i).length; omega) (by show GraphOk ⟨_, _, regsN (cntRegs i) nx (cntRegs i).length, _, _⟩; rw [hcl]; exact hko) ([.box [.nils, .nils, .nils, .nils, .nils], R1, mkMap ⟨[⟨#[101, 110]⟩], cntRegs i, A, 0⟩, .box [.im (.sl (strs [⟨#[101, 110]⟩])), .im (.sl ((cntRegs i).map LReg.im)), .im (.sl (A.map nd)), .map 0 2, .i 0], R4, Rw] :: up) 0 3 2 rfl
      simp only [hcl] at this
      exact this
     refine Run.exit rfl ?_
     refine End.kp [4, 8, 10, 11] ?_
     refine Run.seq ?_
     refine Run.ghost (Ghost.shut (t := 11) (j := 5) rfl rfl hrl2) ?_
     simp only [eput, edel]
     refine Run.ghost (Ghost.boxShut (j := 3) (i := 2) (r := 4) (m := A.length) rfl rfl rfl (nd_len A)) ?_
     simp only [List.set_cons_succ, List.set_cons_zero]
     have fx := ai hap2 (ai hrl2 (ai hap (ai hrl ft)))
     refine Run.region rfl fun K hK => GOps.simK 1 ?_
     refine GOps.litF (rows := strs [⟨#[102, 117, 108, 108]⟩]) ?_ rfl rfl (by simp only [litF, fx] <;> rfl)
     refine GOps.simK 1 ?_
     refine GOps.litF (rows := ints [a]) ?_ rfl rfl (by simp only [litF, fx] <;> rfl)
     refine GOps.sim ?_
     refine GOps.call rfl rfl rfl rfl (by kernel_rfl) (ACalls.sim ?_)
     refine (hGr _ _ _).mono fun v u hv => ?_
     obtain ⟨rfl, rfl⟩ := hv
     refine ⟨_, _, rfl, GOps.sim ?_⟩
     refine GOps.done (hK _ ?_); clear hK K
     refine End.kp [4, 13, 14] ?_
     refine Run.seq ?_
     have fx := ai hap2 (ai hrl2 (ai hap (ai hrl ft)))
     refine Run.go ?_
     refine End.kp [4, 5] ?_
     refine Run.resC hQ ?_
     exact ⟨by rw [hK]; rfl, rfl⟩
theorem BmcCounts_walk (n0 k0 : Int) (hn0 : I64 n0) (hk0 : I64 k0) (en : Bool) (up : Frs) : ACalls Try.prog 9 [.i n0, .i k0, .im (.bool en)] up fun v u => v = .im (.bool true) ∧ u = up := by
 obtain ⟨nb0, nb1⟩ := below_range n0 3 (by omega)
 have hBn := Below_ok n0 3 hn0 ⟨by omega, by omega⟩
 obtain ⟨n, hn⟩ : ∃ n : Nat, below n0 3 + 1 = (n : Int) := ⟨(below n0 3 + 1).toNat, by omega⟩
 have wn : IntKind.i64.wrap (below n0 3 + 1) = (n : Int) := by rw [wrap64 (by omega), hn]
 have hn3 : n = 1 ∨ n = 2 ∨ n = 3 := by omega
 obtain ⟨kb0, kb1⟩ := below_range k0 9 (by omega)
 have hBk := Below_ok k0 9 hk0 ⟨by omega, by omega⟩
 obtain ⟨k, hk⟩ : ∃ k : Nat, below k0 9 + 1 = (k : Int) := ⟨(below k0 9 + 1).toNat, by omega⟩
 have wk : IntKind.i64.wrap (below k0 9 + 1) = (k : Int) := by rw [wrap64 (by omega), hk]
 obtain ⟨hg, hgl⟩ := cntK_ok hn3 en
 obtain ⟨l1, l2, l3, l4⟩ := cntK_len n en
 have hfull := cnt_full hn3 en
 have hnot := cnt_not hn3 en
 have hco := fun u => counter_ok n hn3 en u
 obtain ⟨g, hgg⟩ : ∃ g, g = cntK n en := ⟨_, rfl⟩
 rw [← hgg] at hg hgl l1 l2 l3 l4 hfull hnot hco
 have hvs : varsN g ≤ 40 := by unfold varsN; omega
 have hkv : k * varsN g ≤ 9 * 40 := Nat.mul_le_mul (by omega) hvs
 have hpw : 2 ^ (g.inn.length * k) ≤ 8192 := Nat.le_trans (Nat.pow_le_pow_right (by decide) (show g.inn.length * k ≤ 1 * 9 from Nat.mul_le_mul (by omega) (by omega))) (by decide)
 have hFA := Find_ok g hg 0 k 8192 (by omega) (by omega) (by omega) (by omega) (by omega) hpw
 have hn00 : ¬ ((n : Int) < 0) := by omega
 have hsh : IntKind.i64.wrap (1 * 2 ^ min n IntKind.i64.bits) = ((2 ^ n : Nat) : Int) := shl1 n (by omega)
 have h2n : 2 ^ n = 2 ∨ 2 ^ n = 4 ∨ 2 ^ n = 8 := by rcases hn3 with rfl | rfl | rfl <;> simp
 refine ACalls.code Try.func9 rfl 84 rfl (by simp) [.tmp 6] rfl fun Q hQ => ?_
 simp only [ups, PV.up, argEnv]
 have ft := ai ty_2 (ai ty_3 (ai ty_4 (ai ty_31 (ai ty_33 (ai ty_36 (ai ty_44 (ai ty_60 (ai ty_61 (ai ty_62 (ai ty_77 (ai ty_135 trivial)))))))))))
 refine Run.seq ?_
 have fx := ai zTn (ai zNn (ai hsh (ai hn00 (ai wk (ai wn ft)))))
 refine Run.go ?_
 refine End.kp [0, 1, 2] ?_
 refine Run.seq ?_
 refine Run.region rfl fun K hK => GOps.sim ?_
 refine GOps.call rfl rfl rfl rfl (by kernel_rfl) (ACalls.sim ?_)
 refine (hBn _).mono fun v u hv => ?_
 obtain ⟨rfl, rfl⟩ := hv
 refine ⟨_, _, rfl, GOps.sim ?_⟩
 refine GOps.call rfl rfl rfl rfl (by kernel_rfl) (ACalls.sim ?_)
 refine (hBk _).mono fun v u hv => ?_
 obtain ⟨rfl, rfl⟩ := hv
 refine ⟨_, _, rfl, GOps.sim ?_⟩
 refine GOps.done (hK _ ?_); clear hK K
 refine End.kp [0, 1, 2] ?_
 refine Run.seq ?_
 refine Run.region rfl fun K hK => GOps.sim ?_
 refine GOps.call rfl rfl rfl rfl (by kernel_rfl) (ACalls.sim ?_)
 refine (hco _).mono fun v u hv => ?_
 obtain ⟨rfl, rfl⟩ := hv
 refine ⟨_, _, rfl, GOps.sim ?_⟩
 refine GOps.done (hK _ ?_); clear hK K
 refine End.kp [0, 1, 7, 8] ?_
 refine Run.seq ?_
 refine Run.region rfl fun K hK => GOps.sim ?_
 refine GOps.call rfl rfl rfl rfl (by kernel_rfl) (ACalls.sim ?_)
 refine (hFA _).mono fun v u hv => ?_
 obtain ⟨rfl, ver, tr, ps, rfl, hv⟩ := hv
 refine ⟨_, _, rfl, GOps.sim ?_⟩
 refine GOps.done (hK _ ?_); clear hK K
 refine End.kp [0, 1, 7, 8, 9, 10] ?_
 refine Run.seq ?_
 refine Run.seq ?_
 refine Run.region rfl fun K hK => GOps.sim ?_
 refine GOps.call rfl rfl rfl rfl (by kernel_rfl) (ACalls.sim ?_)
 refine (counted_ok _).mono fun v u hv => ?_
 obtain ⟨rfl, rfl⟩ := hv
 refine ⟨_, _, rfl, GOps.sim ?_⟩
 refine GOps.done (hK _ ?_); clear hK K
 refine End.kp [0, 1, 7, 9, 40] ?_
 refine Run.cond _ rfl (fun hb => ?_) (fun hb => ?_)
 ·have hb2 := hb
  simp at hb
 ·have hb2 := hb
  refine Run.skip ?_
  refine End.kp [0, 1, 7, 9] ?_
  refine Run.seq ?_
  refine Run.seq ?_
  have fx := ai zTn (ai zNn (ai hsh (ai hn00 (ai wk (ai wn ft)))))
  refine Run.go ?_
  refine End.kp [0, 1, 7, 9, 44] ?_
  refine Run.cond _ rfl (fun hb => ?_) (fun hb => ?_)
  ·have hb3 := of_decide_eq_true hb
   have hlt : k < 2 ^ n := by omega
   have hv3 : ver = 3 ∧ ps.length = k := by
    rcases hv with ⟨_, _, h⟩ | ⟨h1, _, h2, _⟩
    ·exact absurd ⟨tr, rfl, h.rows, h.hit⟩ (hnot tr.length h.pos (by have := h.le; omega))
    ·exact ⟨h1, h2⟩
   obtain ⟨hv3, hpl⟩ := hv3
   subst hv3
   have hpl2 : (prfs ps).length = k := by simp [hpl]
   have hkk : ((k : Int) == (k : Int)) = true := by simp
   refine Run.seq ?_
   have fx := ai hkk (ai hpl2 fx)
   refine Run.go ?_
   refine End.kp [6] ?_
   refine Run.ret (hQ _ _ ⟨.inr rfl, _, rfl, _, rfl, ?_⟩)
   exact ⟨rfl, rfl⟩
  ·have hb3 := of_decide_eq_false hb
   have hge : 2 ^ n ≤ k := by omega
   have hv2 : ver = 2 ∧ FindHit g 0 k tr ∧ tr.length = 2 ^ n := by
    rcases hv with ⟨h1, _, h⟩ | ⟨_, _, _, h2⟩
    ·refine ⟨h1, h, ?_⟩
     have hp := h.pos
     rcases Nat.lt_trichotomy tr.length (2 ^ n) with h3 | h3 | h3
     ·exact absurd ⟨tr, rfl, h.rows, h.hit⟩ (hnot tr.length hp h3)
     ·exact h3
     ·exact absurd hfull (h.low _ (by omega) h3)
    ·exact absurd hfull (h2 _ (by omega) hge)
   obtain ⟨hv2, hH, hlen⟩ := hv2
   subst hv2
   have hbl : (boolss tr).length = 2 ^ n := by rw [boolss_len, hlen]
   have hkk : (((2 ^ n : Nat) : Int) == ((2 ^ n : Nat) : Int)) = true := by simp
   have wl : IntKind.i64.wrap (((2 ^ n : Nat) : Int) - 1) = ((2 ^ n : Nat) : Int) - 1 := wrap64 (by omega)
   have hl1 : (((2 ^ n : Nat) : Int) - 1 == ((2 ^ n : Nat) : Int) - 1) = true := by simp
   refine Run.skip ?_
   refine End.kp [0, 7, 9] ?_
   refine Run.seq ?_
   have fx := ai hl1 (ai wl (ai hkk (ai hbl fx)))
   refine Run.region rfl fun K hK => GOps.sim ?_
   refine GOps.call rfl rfl rfl rfl (by kernel_rfl) (ACalls.sim ?_)
   refine (Replay_ok g hg 0 (by omega) tr (by omega) hH.rows _).mono fun v u hv => ?_
   obtain ⟨rfl, at0, rfl, hat⟩ := hv
   have hat2 := hit_last hH hat
   rw [hlen] at hat2
   subst hat2
   have fx := ai hl1 (ai wl (ai hkk (ai hbl (ai zTn (ai zNn (ai hsh (ai hn00 (ai wk (ai wn ft)))))))))
   refine ⟨_, _, rfl, GOps.sim ?_⟩
   refine GOps.done (hK _ ?_); clear hK K
   refine End.kp [0, 9, 11, 12] ?_
   refine Run.seq ?_
   refine Run.drawA fun K hK => ?_
   refine DOps.sim ?_
   refine DOps.nil ?_ (hK _ ?_)
   ·rfl
   clear hK K
   refine End.kp [6] ?_
   refine Run.ret (hQ _ _ ⟨.inr rfl, _, rfl, _, rfl, ?_⟩)
   exact ⟨rfl, rfl⟩

end Go.Proofs.YtkjfdacjjogpcaaPi
