/- Part 6 of the proof: the texts WSP, WSQ, WSR, WSU, WST, WSV, WVF, WBN, one behind the other. Each holds for every input that it names; no condition is hidden. -/
import Derived.Test.YtkjfdacjjogpcaaM5
import Derived.Test.YtkjfdacjjogpcaaM3
import Derived.Test.YtkjfdacjjogpcaaM1
import Derived.Test.YtkjfdacjjogpcaaM4
set_option linter.unusedVariables false
set_option linter.unusedSimpArgs false
set_option linter.unusedSectionVars false
namespace Go.Proofs.YtkjfdacjjogpcaaPi
set_option maxRecDepth 100000
set_option maxHeartbeats 40000000
theorem i64s_app (a b : List Int) : i64s (a ++ b) = i64s a ++ i64s b := by simp
def midL (c : List Int) (j : Nat) : List Int := ddN c j ++ c.drop (ddN c j).length
theorem midL_len (c : List Int) (j : Nat) (h : j ≤ c.length) : (midL c j).length = c.length := by
 have := ddN_len c j
 simp [midL]
 omega
theorem midL_get (c : List Int) (j i : Nat) (h : (ddN c j).length ≤ i) (hi : i < c.length) : (midL c j).getD i 0 = c.getD i 0 := by
 simp only [midL, List.getD_eq_getElem?_getD, List.getElem?_append, List.getElem?_drop]
 rw [if_neg (by omega), show (ddN c j).length + (i - (ddN c j).length) = i by omega]
theorem midL_same (c : List Int) (j : Nat) (h0 : 0 < j) (h : c.getD j 0 = c.getD (j - 1) 0) : ddN c (j + 1) = ddN c j := by rw [ddN, if_pos ⟨h0, h⟩]
theorem midL_next (c : List Int) (j : Nat) (hj : j < c.length) (hl : (ddN c j).length < j) (h : c.getD j 0 ≠ c.getD (j - 1) 0) : (midL c j).set (ddN c j).length (c.getD j 0) = midL c (j + 1) ∧ (ddN c (j + 1)).length = (ddN c j).length + 1 := by
 have e : ddN c (j + 1) = ddN c j ++ [c.getD j 0] := by rw [ddN, if_neg (fun h2 => h h2.2)]
 refine ⟨?_, by rw [e]; simp⟩
 rw [midL, midL, e, List.set_append_right _ _ (Nat.le_refl _), Nat.sub_self]
 have : c.drop (ddN c j).length = c.getD (ddN c j).length 0 :: c.drop ((ddN c j).length + 1) := drop_gtD 0 (by omega)
 rw [this]
 simp
theorem fset_fset2 {α : Type} : ∀ (fr : List (List α)) (d j : Nat) (x y : α), fset (fset fr d j x) d j y = fset fr d j y
 | [], d, j, x, y => rfl
 | f :: fr, 0, j, x, y => by simp [fset]
 | f :: fr, d + 1, j, x, y => by simp only [fset, fset_fset2 fr d j x y]
theorem compactV_ok (p g n : Nat) (c : List Int) (up : Frs) (hc : fget up 0 p = some (.vec 3 g (i64s c))) (hn : n = c.length) (hl : c.length ≤ 1000000) : ACalls Try.prog 104 [.vs 0 p 0 n g] up fun v u => ∃ rest : List Int, v = .vs 0 p 0 (dd c).length g ∧ u = fset up 0 p (.vec 3 g (i64s (dd c) ++ i64s rest)) := by
 have hfs := fset_self up 0 p _ hc
 refine ACalls.code Try.func104 rfl 61 rfl (by simp) [.tmp 2] rfl fun Q hQ => ?_
 simp only [ups, PV.up, argEnv]
 have ft := ai ty_3 (ai ty_4 (ai ty_22 trivial))
 refine Run.seq ?_
 have fx := ai (@List.length_set.{0}) (ai zTn (ai zNn (ai zZa ft)))
 refine Run.go ?_
 refine End.kp [0] ?_
 refine Run.seq ?_
 refine Run.seq ?_
 refine Run.go ?_
 refine End.kp [0, 8] ?_
 refine Run.cond _ rfl (fun hb => ?_) (fun hb => ?_)
 ·have hb2 := of_decide_eq_true hb
  have hd : dd c = c := by
   unfold dd
   rw [ddN_take c _ (Nat.le_refl _) (fun i h1 h2 => by omega), List.take_of_length_le (Nat.le_refl _)]
  refine Run.seq ?_
  refine Run.go ?_
  refine End.kp [2] ?_
  refine Run.ret (hQ _ _ ⟨.inr rfl, _, rfl, _, rfl, ?_⟩)
  exact ⟨[], by rw [hd, ← hn], by rw [hd]; exact (List.append_nil (i64s c)).symm ▸ hfs.symm⟩
 ·have hb2 := of_decide_eq_false hb
  refine Run.skip ?_
  refine End.kp [0] ?_
  refine Run.seq ?_
  refine Run.seq ?_
  refine Run.go ?_
  refine End.kp [0, 3] ?_
  refine Run.block ?_
  refine Run.ghost (Ghost.form [(0, .vs 1 p 0 n g), (3, .i (1 : Nat))] 0 ⟨rfl, rfl, trivial⟩ rfl (by simp only [ASt.push, List.nil_append, List.cons_append, List.take_succ_cons, List.take_zero, List.all_cons, List.all_nil, AObj.under, i64s_set, unders_append, unders_ims, unders, PV.under, Bool.and_true, Bool.and_self])) ?_
  refine Run.loop (fun m st => ∃ (k : Nat), m = n - k ∧ 1 ≤ k ∧ k ≤ n ∧ (∀ i, 1 ≤ i → i < k → c.getD i 0 ≠ c.getD (i - 1) 0) ∧ st = ⟨[(0, .vs 1 p 0 n g), (3, .i (k : Nat))], [], up⟩) (n - 1) ⟨1, rfl, by omega, by omega, fun i h1 h2 => by omega, rfl⟩ fun m st hI => ?_
  obtain ⟨k0, rfl, hk1, hkn, hne, rfl⟩ := hI
  refine Run.seq ?_
  refine Run.seq ?_
  refine Run.go ?_
  refine End.kp [0, 3, 13] ?_
  refine Run.cond _ rfl (fun hb => ?_) (fun hb => ?_)
  ·have hb3 := of_decide_eq_true hb
   have hkl : k0 < n := by omega
   have gk := i64s_get c k0 (by omega)
   have gk1 := i64s_get c (k0 - 1) (by omega)
   have wk : IntKind.i64.wrap ((k0 : Int) - 1) = ((k0 - 1 : Nat) : Int) := by rw [wrap64 (by omega)]; omega
   have ki : (k0 : Int) < (n : Int) := by omega
   have ki1 : ((k0 - 1 : Nat) : Int) < (n : Int) := by omega
   have wk2 := nsucc hkl (by omega)
   refine Run.skip ?_
   refine End.kp [0, 3] ?_
   refine Run.seq ?_
   refine Run.block ?_
   refine Run.seq ?_
   have fx := ai wk2 (ai ki1 (ai ki (ai wk (ai gk1 (ai gk (ai hc fx))))))
   refine Run.drawA fun K hK => ?_
   refine DOps.sim ?_
   refine DOps.nil ?_ (hK _ ?_)
   ·rfl
   clear hK K
   refine End.kp [0, 3, 25] ?_
   refine Run.cond _ rfl (fun hb => ?_) (fun hb => ?_)
   ·have heq : c.getD k0 0 = c.getD (k0 - 1) 0 := eq_of_beq hb
    have hk0n : k0 ≤ n := by omega
    refine Run.seq ?_
    have fx := ai hk0n (ai wk2 (ai ki1 (ai ki (ai wk (ai gk1 (ai gk (ai hc (ai (@List.length_set.{0}) (ai zTn (ai zNn (ai zZa ft)))))))))))
    refine Run.go ?_
    refine End.kp [0, 3, 4] ?_
    refine Run.seq ?_
    refine Run.seq ?_
    refine Run.go ?_
    refine End.kp [0, 3, 4, 5] ?_
    refine Run.block ?_
    refine Run.ghost (Ghost.form [(0, .vs 1 p 0 n g), (3, .i (k0 : Nat)), (4, .vs 1 p k0 (n - k0) g), (5, .i (1 : Nat))] 0 ⟨rfl, rfl, rfl, rfl, trivial⟩ rfl (by simp only [ASt.push, List.nil_append, List.cons_append, List.take_succ_cons, List.take_zero, List.all_cons, List.all_nil, AObj.under, i64s_set, unders_append, unders_ims, unders, PV.under, Bool.and_true, Bool.and_self])) ?_
    have hd0 : ddN c (k0 + 1) = c.take k0 := by rw [midL_same c k0 (by omega) heq]; exact ddN_take c k0 (by omega) hne
    have hl0 : (ddN c (k0 + 1)).length = k0 := by rw [hd0]; simp; omega
    have hm0 : midL c (k0 + 1) = c := by rw [midL, hl0, hd0, List.take_append_drop]
    refine Run.loop (fun m st => ∃ (q : Nat), m = n - (k0 + q) ∧ 1 ≤ q ∧ k0 + q ≤ n ∧ (ddN c (k0 + q)).length < k0 + q ∧ st = ⟨[(0, .vs 1 p 0 n g), (3, .i ((ddN c (k0 + q)).length : Nat)), (4, .vs 1 p k0 (n - k0) g), (5, .i (q : Nat))], [], fset up 0 p (.vec 3 g (i64s (midL c (k0 + q))))⟩) (n - (k0 + 1)) ⟨1, rfl, by omega, by omega, by omega, by rw [hl0, hm0, hfs]; rfl⟩ fun m st hJ => ?_
    obtain ⟨q, rfl, hq1, hqn, hdl, rfl⟩ := hJ
    have hcc : fget (fset up 0 p (.vec 3 g (i64s (midL c (k0 + q))))) 0 p = some (.vec 3 g (i64s (midL c (k0 + q)))) := by rw [fget_fset, if_pos ⟨rfl, rfl⟩, hc]; rfl
    have hml := midL_len c (k0 + q) (by omega)
    have hmg := midL_get c (k0 + q)
    have hmi : (i64s (midL c (k0 + q))).length = n := by simp; omega
    have kk1 : (ddN c (k0 + q)).length ≤ n := by omega
    refine Run.seq ?_
    refine Run.seq ?_
    have fx := ai hcc fx
    refine Run.go ?_
    refine End.kp [0, 3, 4, 5, 32] ?_
    refine Run.cond _ rfl (fun hb => ?_) (fun hb => ?_)
    ·have hb4 := of_decide_eq_true hb
     have hjl : k0 + q < n := by omega
     have gj : (i64s (midL c (k0 + q)))[k0 + q]? = some (.im (.int .i64 (c.getD (k0 + q) 0))) := by rw [i64s_get _ _ (by omega), hmg _ (by omega) (by omega)]
     have gj1 : (i64s (midL c (k0 + q)))[k0 + (q - 1)]? = some (.im (.int .i64 (c.getD (k0 + q - 1) 0))) := by rw [i64s_get _ _ (by omega), hmg _ (by omega) (by omega), show k0 + (q - 1) = k0 + q - 1 by omega]
     have wq : IntKind.i64.wrap ((q : Int) - 1) = ((q - 1 : Nat) : Int) := by rw [wrap64 (by omega)]; omega
     have qi : (q : Int) < ((n - k0 : Nat) : Int) := by omega
     have qi1 : ((q - 1 : Nat) : Int) < ((n - k0 : Nat) : Int) := by omega
     have wq2 := nsucc (i := q) (n := n) (by omega) (by omega)
     have wd2 := nsucc (i := (ddN c (k0 + q)).length) (n := n) (by omega) (by omega)
     have di : (((ddN c (k0 + q)).length : Nat) : Int) < (n : Int) := by omega
     have dn : (ddN c (k0 + q)).length < n := by omega
     refine Run.skip ?_
     refine End.kp [0, 3, 4, 5] ?_
     refine Run.seq ?_
     refine Run.block ?_
     refine Run.seq ?_
     have fx := ai hmi (ai dn (ai di (ai wd2 (ai wq2 (ai qi1 (ai qi (ai wq (ai gj1 (ai gj (ai (@fget_fset) fx))))))))))
     refine Run.drawA fun K hK => ?_
     refine DOps.sim ?_
     refine DOps.nil ?_ (hK _ ?_)
     ·rfl
     clear hK K
     refine End.kp [0, 3, 4, 5, 44] ?_
     refine Run.cond _ rfl (fun hb => ?_) (fun hb => ?_)
     ·have hne2 : c.getD (k0 + q) 0 ≠ c.getD (k0 + q - 1) 0 := by simpa using hb
      obtain ⟨hs1, hs2⟩ := midL_next c (k0 + q) (by omega) hdl hne2
      refine Run.seq ?_
      have fx := ai hmi (ai dn (ai di (ai wd2 (ai wq2 (ai qi1 (ai qi (ai wq (ai gj1 (ai gj (ai (@fget_fset) (ai hcc (ai hk0n (ai wk2 (ai ki1 (ai ki (ai wk (ai gk1 (ai gk (ai hc (ai (@List.length_set.{0}) (ai zTn (ai zNn (ai zZa ft)))))))))))))))))))))))
      refine Run.go ?_
      refine End.kp [0, 3, 4, 5] ?_
      refine Run.go ?_
      refine End.blk ?_
      refine End.kp [0, 3, 4, 5] ?_
      refine Run.go ?_
      refine End.lp ?_
      refine ⟨n - (k0 + (q + 1)), _, by omega, Ghost.form [(0, .vs 1 p 0 n g), (3, .i (((ddN c (k0 + q)).length + 1) : Nat)), (4, .vs 1 p k0 (n - k0) g), (5, .i (q + 1 : Nat))] 0 ⟨rfl, rfl, rfl, rfl, trivial⟩ rfl (by simp only [ASt.push, List.nil_append, List.cons_append, List.take_succ_cons, List.take_zero, List.all_cons, List.all_nil, AObj.under, i64s_set, unders_append, unders_ims, unders, PV.under, Bool.and_true, Bool.and_self]), q + 1, rfl, by omega, by omega, by show (ddN c (k0 + q + 1)).length < _; omega, ?_⟩
      show _ = (⟨_, [], fset up 0 p (.vec 3 g (i64s (midL c (k0 + q + 1))))⟩ : ASt)
      rw [← hs1, show (ddN c (k0 + (q + 1))).length = (ddN c (k0 + q)).length + 1 from hs2, ← i64s_set]
      simp only [ASt.push, List.take_zero, fset_fset2]
     ·have heq2 : c.getD (k0 + q) 0 = c.getD (k0 + q - 1) 0 := by simpa using hb
      have hs1 := midL_same c (k0 + q) (by omega) heq2
      refine Run.skip ?_
      refine End.blk ?_
      refine End.kp [0, 3, 4, 5] ?_
      have fx := ai hmi (ai dn (ai di (ai wd2 (ai wq2 (ai qi1 (ai qi (ai wq (ai gj1 (ai gj (ai (@fget_fset) (ai hcc (ai hk0n (ai wk2 (ai ki1 (ai ki (ai wk (ai gk1 (ai gk (ai hc (ai (@List.length_set.{0}) (ai zTn (ai zNn (ai zZa ft)))))))))))))))))))))))
      refine Run.go ?_
      refine End.lp ?_
      refine ⟨n - (k0 + (q + 1)), _, by omega, Ghost.form [(0, .vs 1 p 0 n g), (3, .i ((ddN c (k0 + q)).length : Nat)), (4, .vs 1 p k0 (n - k0) g), (5, .i (q + 1 : Nat))] 0 ⟨rfl, rfl, rfl, rfl, trivial⟩ rfl (by simp only [ASt.push, List.nil_append, List.cons_append, List.take_succ_cons, List.take_zero, List.all_cons, List.all_nil, AObj.under, i64s_set, unders_append, unders_ims, unders, PV.under, Bool.and_true, Bool.and_self]), q + 1, rfl, by omega, by omega, by show (ddN c (k0 + q + 1)).length < _; rw [hs1]; omega, ?_⟩
      show _ = (⟨_, [], fset up 0 p (.vec 3 g (i64s (midL c (k0 + q + 1))))⟩ : ASt)
      rw [show midL c (k0 + q + 1) = midL c (k0 + q) by unfold midL; rw [hs1], show (ddN c (k0 + (q + 1))) = ddN c (k0 + q) from hs1]
      rfl
    ·have hb4 := of_decide_eq_false hb
     have hqe : k0 + q = n := by omega
     have hdd : dd c = ddN c (k0 + q) := by rw [hqe, hn]; rfl
     have hlt : (ddN c (k0 + q)).length < n := by omega
     refine Run.exit rfl ?_
     refine End.kp [0, 3] ?_
     refine Run.seq ?_
     have fx := ai kk1 fx
     refine Run.region rfl fun K hK => GOps.simK 3 ?_
     refine GOps.clearVs (d := 1) (j := p) (o := (ddN c (k0 + q)).length) (m := n - (ddN c (k0 + q)).length) (g := g) (e := 3) (z := .im (.int .i64 0)) (cs := i64s (midL c (k0 + q))) (by exact hcc) (by omega) ?_
     refine GOps.sim ?_
     refine GOps.done (hK _ ?_); clear hK K
     refine End.kp [0, 3] ?_
     refine Run.seq ?_
     have fx := ai kk1 (ai hcc (ai hk0n (ai wk2 (ai ki1 (ai ki (ai wk (ai gk1 (ai gk (ai hc (ai (@List.length_set.{0}) (ai zTn (ai zNn (ai zZa ft)))))))))))))
     refine Run.go ?_
     refine End.kp [2] ?_
     refine Run.ret (hQ _ _ ⟨.inr rfl, _, rfl, _, rfl, ?_⟩)
     refine ⟨List.replicate (n - (ddN c (k0 + q)).length) 0, by rw [hdd]; rfl, ?_⟩
     rw [hdd, show i64s (List.replicate (n - (ddN c (k0 + q)).length) 0) = List.replicate (n - (ddN c (k0 + q)).length) (PV.im (.int .i64 0)) by simp]
     have h1 : (List.replicate (n - (ddN c (k0 + q)).length) (PV.im (.int .i64 0))).length = n - (ddN c (k0 + q)).length := by simp
     have h2 : (i64s (midL c (k0 + q))).take (ddN c (k0 + q)).length = i64s (ddN c (k0 + q)) := by rw [midL, i64s_app, List.take_left' (by simp)]
     have h3 : (i64s (midL c (k0 + q))).drop ((ddN c (k0 + q)).length + (n - (ddN c (k0 + q)).length)) = [] := List.drop_of_length_le (by omega)
     show fset up 0 p _ = fset up 0 p _
     rw [h1, h2, h3, List.append_nil]
   ·have hne1 : c.getD k0 0 ≠ c.getD (k0 - 1) 0 := ne_of_beq_false hb
    refine Run.skip ?_
    refine End.blk ?_
    refine End.kp [0, 3] ?_
    have fx := ai wk2 (ai ki1 (ai ki (ai wk (ai gk1 (ai gk (ai hc (ai (@List.length_set.{0}) (ai zTn (ai zNn (ai zZa ft))))))))))
    refine Run.go ?_
    refine End.lp ?_
    refine ⟨n - (k0 + 1), _, by omega, Ghost.form [(0, .vs 1 p 0 n g), (3, .i ((k0 + 1) : Nat))] 0 ⟨rfl, rfl, trivial⟩ rfl (by simp only [ASt.push, List.nil_append, List.cons_append, List.take_succ_cons, List.take_zero, List.all_cons, List.all_nil, AObj.under, i64s_set, unders_append, unders_ims, unders, PV.under, Bool.and_true, Bool.and_self]), k0 + 1, rfl, by omega, by omega, fun i h1 h2 => ?_, rfl⟩
    by_cases e : i = k0
    ·subst e; exact hne1
    ·exact hne i h1 (by omega)
  ·have hb3 := of_decide_eq_false hb
   have hd : dd c = c := by
    unfold dd
    rw [ddN_take c _ (Nat.le_refl _) (fun i h1 h2 => hne i h1 (by omega)), List.take_of_length_le (Nat.le_refl _)]
   refine Run.exit rfl ?_
   refine End.kp [0] ?_
   refine Run.seq ?_
   refine Run.go ?_
   refine End.kp [2] ?_
   refine Run.ret (hQ _ _ ⟨.inr rfl, _, rfl, _, rfl, ?_⟩)
   exact ⟨[], by rw [hd, ← hn], by rw [hd]; exact (List.append_nil (i64s c)).symm ▸ hfs.symm⟩

set_option maxRecDepth 100000
set_option maxHeartbeats 40000000
theorem tidy_ok (x : Int) (xs : List Int) (hl : xs.length ≤ 11) (hb0 : ∀ l ∈ x :: xs, -100000 ≤ l ∧ l ≤ 100000) (f : List AObj) (rest : Frs) : ACalls Try.prog 94 [.im (.sl (ints (x :: xs)))] (f :: rest) fun v u =>
  ∃ rs : List Int, v = (if taut (tidyL (x :: xs)) = true then .tup [.nils, .im (.bool false)] else .tup [.vs 0 (f.length + 0) 0 (tidyL (x :: xs)).length 1, .im (.bool true)]) ∧ u = (f ++ [.vec 3 1 (i64s (tidyL (x :: xs)) ++ i64s rs)]) :: rest := by
 obtain ⟨t1, t2, t3, t4⟩ := tidyL_spec (x :: xs)
 obtain ⟨s1, s2, s3⟩ := sorts_spec ((x :: xs).length - 1) (x :: xs) 1 (by simp) (by omega) (fun a b hab hb _ => by rw [show a = b by omega]; exact Int.le_refl _)
 simp only [List.length_cons] at t4
 refine ACalls.codeX Try.func94 rfl 30 rfl (by simp) [.tmp 2, .tmp 3] rfl fun Q hQ => ?_
 simp only [ups, PV.up, argEnv]
 have ft := ai ty_3 (ai ty_4 (ai ty_22 trivial))
 refine Run.seq ?_
 have fx := ai zTn (ai zNn (ai zZa ft))
 refine Run.go ?_
 refine End.kp [0] ?_
 refine Run.seq ?_
 refine Run.region rfl fun K hK => GOps.sim ?_
 refine GOps.call rfl rfl rfl rfl (by kernel_rfl) (ACalls.sim ?_)
 refine (CloneD_cons x xs (by omega) _ _).mono fun v u hv => ?_
 obtain ⟨rfl, rfl⟩ := hv
 refine ⟨_, _, rfl, GOps.sim ?_⟩
 refine GOps.done (hK _ ?_); clear hK K
 refine End.kp [0] ?_
 refine Run.seq ?_
 refine Run.region rfl fun K hK => GOps.sim ?_
 refine GOps.call rfl rfl rfl rfl (by kernel_rfl) (ACalls.sim ?_)
 refine (sortV_ok 0 1 (xs.length + 1) (x :: xs) _ rfl rfl (by omega)).mono fun v u hv => ?_
 obtain ⟨rfl, rfl⟩ := hv
 refine ⟨_, _, rfl, GOps.sim ?_⟩
 refine GOps.done (hK _ ?_); clear hK K
 refine End.kp [0] ?_
 refine Run.seq ?_
 refine Run.region rfl fun K hK => GOps.sim ?_
 refine GOps.call rfl rfl rfl rfl (by kernel_rfl) (ACalls.sim ?_)
 refine (compactV_ok 0 1 (xs.length + 1) (sorts ((x :: xs).length - 1) (x :: xs) 1) _ rfl s1.symm (by rw [s1]; simp; omega)).mono fun v u hv => ?_
 obtain ⟨rs, rfl, rfl⟩ := hv
 refine ⟨_, _, rfl, GOps.sim ?_⟩
 refine GOps.done (hK _ ?_); clear hK K
 refine End.kp [0] ?_
 refine Run.seq ?_
 refine Run.seq ?_
 refine Run.go ?_
 refine End.kp [0, 14, 15, 16] ?_
 refine Run.block ?_
 change Run _ _ _ _ _ (⟨_, [.vec 3 1 (i64s (tidyL (x :: xs)) ++ i64s rs)], _⟩ : ASt)
 refine Run.ghost (Ghost.form [(0, .vs 0 0 0 (tidyL (x :: xs)).length 1), (14, .vs 0 0 0 (tidyL (x :: xs)).length 1), (15, .i (tidyL (x :: xs)).length), (16, .i (0 : Nat))] 1 ⟨rfl, rfl, rfl, rfl, trivial⟩ rfl (by simp only [ASt.push, List.nil_append, List.cons_append, List.take_succ_cons, List.take_zero, List.all_cons, List.all_nil, AObj.under, i64s_set, unders_append, unders_ims, unders, PV.under, Bool.and_true, Bool.and_self])) ?_
 refine Run.loop (fun m st => ∃ (i : Nat), m = (tidyL (x :: xs)).length - i ∧ i ≤ (tidyL (x :: xs)).length ∧ (∀ q, q < i → -((tidyL (x :: xs)).getD q 0) ∉ tidyL (x :: xs)) ∧ st = ⟨[(0, .vs 0 0 0 (tidyL (x :: xs)).length 1), (14, .vs 0 0 0 (tidyL (x :: xs)).length 1), (15, .i (tidyL (x :: xs)).length), (16, .i (i : Nat))], [.vec 3 1 (i64s (tidyL (x :: xs)) ++ i64s rs)], f :: rest⟩) (tidyL (x :: xs)).length ⟨0, rfl, by omega, fun q hq => by omega, rfl⟩ fun m st hI => ?_
 obtain ⟨i, rfl, hi, hno, rfl⟩ := hI
 refine Run.seq ?_
 have fx := ai zTn (ai zNn (ai zZa ft))
 refine Run.go ?_
 refine End.kp [0, 14, 15, 16, 17] ?_
 refine Run.seq ?_
 refine Run.cond _ rfl (fun hb => ?_) (fun hb => ?_)
 ·have hb2 := of_decide_eq_true hb
  have hil : i < (tidyL (x :: xs)).length := by omega
  have gi : (i64s (tidyL (x :: xs)) ++ i64s rs)[i]? = some (.im (.int .i64 ((tidyL (x :: xs)).getD i 0))) := by rw [List.getElem?_append_left (by simp; omega)]; exact i64s_get _ _ hil
  have hii : (i : Int) < ((tidyL (x :: xs)).length : Int) := by omega
  have wi := nsucc hil (by omega)
  have hlb := hb0 _ ((t3 _).1 (gtD_mem (d := 0) hil))
  obtain ⟨l, hle⟩ : ∃ l, l = (tidyL (x :: xs)).getD i 0 := ⟨_, rfl⟩
  rw [← hle] at gi hlb
  have wn : IntKind.i64.wrap (0 - l) = -l := by rw [wrap64 (by omega)]; omega
  refine Run.skip ?_
  refine End.kp [0, 14, 15, 16] ?_
  refine Run.seq ?_
  refine Run.block ?_
  refine Run.seq ?_
  have fx := ai wn (ai wi (ai hii (ai gi (ai zTn (ai zNn (ai zZa ft))))))
  refine Run.go ?_
  refine End.kp [0, 5, 14, 15, 16] ?_
  refine Run.seq ?_
  refine Run.region rfl fun K hK => GOps.sim ?_
  refine GOps.call rfl rfl rfl rfl (by kernel_rfl) (ACalls.sim ?_)
  refine (bsV_ok 0 1 (tidyL (x :: xs)).length (-l) (tidyL (x :: xs)) (i64s rs) _ rfl rfl (by omega) t2).mono fun v u hv => ?_
  obtain ⟨⟨k, rfl⟩, rfl⟩ := hv
  refine ⟨_, _, rfl, GOps.sim ?_⟩
  refine GOps.done (hK _ ?_); clear hK K
  refine End.kp [0, 7, 14, 15, 16] ?_
  refine Run.seq ?_
  refine Run.go ?_
  refine End.kp [0, 14, 15, 16, 27] ?_
  refine Run.cond _ rfl (fun hb => ?_) (fun hb => ?_)
  ·have hm := of_decide_eq_true hb
   have ht : taut (tidyL (x :: xs)) = true := decide_eq_true ⟨l, by rw [hle]; exact gtD_mem hil, hm⟩
   refine Run.seq ?_
   have fx := ai wn (ai wi (ai hii (ai gi (ai zTn (ai zNn (ai zZa ft))))))
   refine Run.go ?_
   refine End.kp [2, 3] ?_
   refine Run.ret (hQ _ _ ⟨.inr rfl, _, rfl, _, _, rfl, ?_⟩)
   refine ⟨rs, by rw [ht]; rfl, ?_⟩
   show (f ++ [AObj.vec 3 1 (mgs f.length (i64s (tidyL (x :: xs)) ++ i64s rs))]) :: rest = _
   rw [← i64s_app, mgs_ims]
  ·have hm := of_decide_eq_false hb
   refine Run.skip ?_
   refine End.blk ?_
   refine End.kp [0, 14, 15, 16] ?_
   have fx := ai wn (ai wi (ai hii (ai gi (ai zTn (ai zNn (ai zZa ft))))))
   refine Run.go ?_
   refine End.lp ?_
   refine ⟨(tidyL (x :: xs)).length - (i + 1), _, by omega, Ghost.form [(0, .vs 0 0 0 (tidyL (x :: xs)).length 1), (14, .vs 0 0 0 (tidyL (x :: xs)).length 1), (15, .i (tidyL (x :: xs)).length), (16, .i ((i + 1) : Nat))] 1 ⟨rfl, rfl, rfl, rfl, trivial⟩ rfl (by simp only [ASt.push, List.nil_append, List.cons_append, List.take_succ_cons, List.take_zero, List.all_cons, List.all_nil, AObj.under, i64s_set, unders_append, unders_ims, unders, PV.under, Bool.and_true, Bool.and_self]), i + 1, rfl, by omega, fun q hq => ?_, rfl⟩
   by_cases e : q = i
   ·rw [e, ← hle]; exact hm
   ·exact hno q (by omega)
 ·have hb2 := of_decide_eq_false hb
  have ht : taut (tidyL (x :: xs)) = false := decide_eq_false (fun ⟨l, h1, h2⟩ => by
   obtain ⟨q, hq, e⟩ := mem_getD (d := 0) h1
   exact hno q (by omega) (by rw [e]; exact h2))
  refine Run.exit rfl ?_
  refine End.kp [0] ?_
  refine Run.seq ?_
  refine Run.go ?_
  refine End.kp [2, 3] ?_
  refine Run.ret (hQ _ _ ⟨.inr rfl, _, rfl, _, _, rfl, ?_⟩)
  refine ⟨rs, by rw [ht]; rfl, ?_⟩
  show (f ++ [AObj.vec 3 1 (mgs f.length (i64s (tidyL (x :: xs)) ++ i64s rs))]) :: rest = _
  rw [← i64s_app, mgs_ims]

set_option maxRecDepth 100000
set_option maxHeartbeats 40000000
structure KeptN (up u : Frs) (d : Nat) (S : Sol) (V : Ver) (S' : Sol) (V' : Ver) : Prop where
 at' : SAt u d S' V'
 els : Else up u d S V.K
 K : V'.K = V.K
 n : S'.n = S.n
 cl : S.cl.length ≤ S'.cl.length
 spare : ∀ m, S'.cl.length ≤ m → Spare up d S V.K m → Spare u d S V.K m
theorem KeptD.toN {up u : Frs} {d : Nat} {S S' : Sol} {V V' : Ver} (h : KeptD up u d S V S' V') : KeptN up u d S V S' V' := ⟨h.at', h.els, h.K, h.n, Nat.le_of_eq h.cl.symm, fun m hm => h.spare m (by rw [← h.cl]; exact hm)⟩
theorem KeptN.trans {up u v : Frs} {d : Nat} {S S1 S2 : Sol} {V V1 V2 : Ver} (h : KeptN up u d S V S1 V1) (k : KeptN u v d S1 V1 S2 V2) : KeptN up v d S V S2 V2 :=
 ⟨k.at', h.els.trans h.n (h.K ▸ k.els), k.K.trans h.K, k.n.trans h.n, Nat.le_trans h.cl k.cl, fun m hm hs => by
  have h1 := h.spare m (Nat.le_trans k.cl hm) hs
  have h2 := k.spare m hm (by intro q a b; rw [h.n]; exact h1 q a (by rw [← h.K]; exact b))
  intro q a b
  have := h2 q a (by rw [h.K]; exact b)
  rwa [h.n] at this⟩
theorem SAt.put {up : Frs} {d : Nat} {S : Sol} {V : Ver} (h : SAt up d S V) {k : Nat} (hk : S.cl.length ≤ k) (o : AObj) : SAt (fset up d (k + (2 * S.n + 2) + 11) o) d S V := by
 have e : ∀ j, j ≠ k + (2 * S.n + 2) + 11 → fget (fset up d (k + (2 * S.n + 2) + 11) o) d j = fget up d j := fun j h1 => by rw [fget_fset, if_neg (fun e => h1 e.2)]
 exact ⟨(e 5 (by omega)).trans h.box, (e 1 (by omega)).trans h.wch, (e 2 (by omega)).trans h.val, (e 3 (by omega)).trans h.lev, (e 4 (by omega)).trans h.why, (e 7 (by omega)).trans h.clo, (e 8 (by omega)).trans h.trl, (e 9 (by omega)).trans h.sts, fun i hi => (e _ (by omega)).trans (h.wli i hi), fun i hi => (e _ (by omega)).trans (h.cli i hi)⟩
theorem addU_kept {up : Frs} {d : Nat} {S : Sol} {V : Ver} (h : SAt up d S V) {c : List Int} (hw : S.wl.length = 2 * S.n + 2) (hK : S.cl.length < V.K) (hsp : Spare up d S V.K S.cl.length) (h0 : atL (c.getD 0 0) < 2 * S.n + 2) (h1 : atL (c.getD 1 0) < 2 * S.n + 2) :
  KeptN up (addU (fset up d (S.cl.length + (2 * S.n + 2) + 11) (.vec 3 0 (i64s c))) d S V c) d S V (S.add c) (addV V c) := by
 have hd := hsp S.cl.length (Nat.le_refl _) hK
 have hA := h.put (k := S.cl.length) (Nat.le_refl _) (.vec 3 0 (i64s c))
 refine ⟨addU_at hA c (by rw [fget_fset, if_pos ⟨rfl, rfl⟩, hd]; rfl) hw h0 h1, ((Else.refl up d S V.K).fset (by unfold SPl; omega) _).trans rfl (addU_else _ d S V c h0 h1), rfl, rfl, by simp [Sol.add], fun m hm hs => ?_⟩
 have hm2 : S.cl.length + 1 ≤ m := by simpa [Sol.add] using hm
 exact addU_spare (fun k q1 q2 => by rw [fget_fset, if_neg (by omega)]; exact hs k q1 q2) h0 h1
structure ClsIn (n : Nat) (cs : List (List Int)) : Prop where
 len : cs.length ≤ 80000
 cls : ∀ c ∈ cs, 0 < c.length ∧ c.length ≤ 12 ∧ ∀ l ∈ c, LitOk n l
theorem tidy_no (x : Int) (xs : List Int) (h : taut (tidyL (x :: xs)) = true) (hl : xs.length ≤ 11) (hb0 : ∀ l ∈ x :: xs, -100000 ≤ l ∧ l ≤ 100000) (f : List AObj) (rest : Frs) : ACalls Try.prog 94 [.im (.sl (ints (x :: xs)))] (f :: rest) fun v u =>
  ∃ rs : List Int, v = .tup [.nils, .im (.bool false)] ∧ u = (f ++ [.vec 3 1 (i64s (tidyL (x :: xs)) ++ i64s rs)]) :: rest := (tidy_ok x xs hl hb0 f rest).mono fun v u ⟨rs, h1, h2⟩ => ⟨rs, by rw [h1, if_pos h], h2⟩
theorem tidy_yes (x : Int) (xs : List Int) (h : taut (tidyL (x :: xs)) = false) (hl : xs.length ≤ 11) (hb0 : ∀ l ∈ x :: xs, -100000 ≤ l ∧ l ≤ 100000) (f : List AObj) (rest : Frs) : ACalls Try.prog 94 [.im (.sl (ints (x :: xs)))] (f :: rest) fun v u =>
  ∃ rs : List Int, v = .tup [.vs 0 (f.length + 0) 0 (tidyL (x :: xs)).length 1, .im (.bool true)] ∧ u = (f ++ [.vec 3 1 (i64s (tidyL (x :: xs)) ++ i64s rs)]) :: rest := (tidy_ok x xs hl hb0 f rest).mono fun v u ⟨rs, h1, h2⟩ => ⟨rs, by rw [h1, if_neg (by rw [h]; decide)], h2⟩
theorem sload_ok (S : Sol) (V : Ver) (B : Nat) (up : Frs) (cs : List (List Int)) (hcs : ClsIn S.n cs) (hA : SAt up 0 S V) (hS : SW S B) (hK : S.cl.length + cs.length ≤ V.K) (hK2 : V.K ≤ 400000) (hsp : Spare up 0 S V.K S.cl.length) (hB : B + 2 * cs.length ≤ 1000000) : ACalls Try.prog 71 [.ptr 0 5 0, .im (.sl (clss cs))] up fun v u => ∃ V' B',
  v = .im (.bool (Sol.load cs S).2) ∧ KeptN up u 0 S V (Sol.load cs S).1 V' ∧ SW (Sol.load cs S).1 B' ∧ B' ≤ B + 2 * cs.length ∧ (Sol.load cs S).1.cl.length ≤ S.cl.length + cs.length := by
 have hcl := hcs.len
 have hn := hS.len.n
 refine ACalls.code Try.func71 rfl 65 rfl (by simp) [.tmp 4] rfl fun Q hQ => ?_
 simp only [ups, PV.up, argEnv]
 have ft := ai ty_3 (ai ty_4 (ai ty_22 (ai ty_35 (ai ty_130 (ai ty_138 trivial)))))
 refine Run.seq ?_
 have fx := ai zZa (ai zTn (ai zNn (ai (@List.length_map.{0, 0}) ft)))
 refine Run.go ?_
 refine End.kp [0, 1] ?_
 refine Run.seq ?_
 refine Run.seq ?_
 refine Run.go ?_
 refine End.kp [0, 9, 10, 11] ?_
 refine Run.block ?_
 refine Run.ghost (Ghost.form [(0, .ptr 1 5 0), (9, .im (.sl (clss cs))), (10, .i cs.length), (11, .i (0 : Nat))] 0 ⟨rfl, rfl, rfl, rfl, trivial⟩ rfl (by simp only [ASt.push, List.nil_append, List.cons_append, List.take_succ_cons, List.take_zero, List.all_cons, List.all_nil, AObj.under, i64s_set, unders_append, unders_ims, unders, PV.under, Bool.and_true, Bool.and_self])) ?_
 refine Run.loop (fun m st => ∃ (i : Nat) (u : Frs) (S1 : Sol) (V1 : Ver) (B1 : Nat), m = cs.length - i ∧ i ≤ cs.length ∧ Sol.load cs S = Sol.load (cs.drop i) S1 ∧ (KeptN up u 0 S V S1 V1 ∧ SW S1 B1 ∧ B1 ≤ B + 2 * i ∧ S1.cl.length ≤ S.cl.length + i) ∧ st = ⟨[(0, .ptr 1 5 0), (9, .im (.sl (clss cs))), (10, .i cs.length), (11, .i (i : Nat))], [], u⟩) cs.length ⟨0, up, S, V, B, rfl, by omega, rfl, ⟨(Kept.refl hA).toD.toN, hS, by omega, by omega⟩, rfl⟩ fun m st hI => ?_
 obtain ⟨i, u, S1, V1, B1, rfl, hi, heq, ⟨hkp, hS1, hB1, hc1⟩, rfl⟩ := hI
 have hA1 := hkp.at'
 refine Run.seq ?_
 have fx := ai zZa (ai zTn (ai zNn (ai (@List.length_map.{0, 0}) ft)))
 refine Run.go ?_
 refine End.kp [0, 9, 10, 11, 12] ?_
 refine Run.seq ?_
 refine Run.cond _ rfl (fun hb => ?_) (fun hb => ?_)
 ·have hb2 := of_decide_eq_true hb
  have hil : i < cs.length := by omega
  have gi := clss_get cs i hil
  have hii : (i : Int) < (cs.length : Int) := by omega
  have wi := csucc hil (by omega)
  obtain ⟨k1, k2, k3⟩ := hcs.cls _ (gtD_mem (d := []) hil)
  rw [drop_gtD [] hil] at heq
  generalize cs.getD i [] = c at gi k1 k2 k3 heq
  obtain ⟨x, xs, rfl⟩ : ∃ x xs, c = x :: xs := by
   cases c with
   | nil => simp at k1
   | cons x xs => exact ⟨x, xs, rfl⟩
  simp only [List.length_cons] at k2
  have hlb : ∀ l ∈ x :: xs, -100000 ≤ l ∧ l ≤ 100000 := fun l hl => by have := (k3 l hl).2; omega
  obtain ⟨td, tu, tm, tl⟩ := tidyL_spec (x :: xs)
  have tlo : ∀ l ∈ tidyL (x :: xs), LitOk S1.n l := fun l hl => by rw [hkp.n]; exact k3 l ((tm l).1 hl)
  have tpos : 0 < (tidyL (x :: xs)).length := List.length_pos_iff.2 (List.ne_nil_of_mem ((tm x).2 (by simp)))
  simp only [List.length_cons] at tl
  have l0 := tlo _ (gtD_mem (d := 0) tpos)
  refine Run.skip ?_
  refine End.kp [0, 9, 10, 11] ?_
  refine Run.seq ?_
  refine Run.block ?_
  refine Run.seq ?_
  have fx := ai wi (ai hii (ai gi (ai zZa (ai zTn (ai zNn (ai (@List.length_map.{0, 0}) ft))))))
  refine Run.go ?_
  refine End.kp [0, 6, 9, 10, 11] ?_
  refine Run.seq ?_
  rcases Bool.eq_false_or_eq_true (taut (tidyL (x :: xs))) with hs4 | hs4
  ·skip
   have hs5 := hs4
   have fx := ai hs4 fx
   refine Run.region rfl fun K hK => GOps.sim ?_
   refine GOps.call rfl rfl rfl rfl (by kernel_rfl) (ACalls.sim ?_)
   refine (tidy_no x xs hs4 (by omega) hlb _ _).mono fun v u hv => ?_
   obtain ⟨rs, rfl, rfl⟩ := hv
   refine ⟨_, _, rfl, GOps.sim ?_⟩
   refine GOps.done (hK _ ?_); clear hK K
   refine End.kp [0, 7, 8, 9, 10, 11] ?_
   refine Run.block ?_
   refine Run.seq ?_
   refine Run.go ?_
   refine End.kp [0, 7, 9, 10, 11, 20] ?_
   refine Run.cond _ rfl (fun hb => ?_) (fun hb => ?_)
   ·have hb3 := hb
    refine Run.skip ?_
    refine End.blk ?_
    refine End.blk ?_
    refine End.kp [0, 9, 10, 11] ?_
    have fx := ai hs4 (ai wi (ai hii (ai gi (ai zZa (ai zTn (ai zNn (ai (@List.length_map.{0, 0}) ft)))))))
    refine Run.go ?_
    refine End.lp ?_
    refine ⟨cs.length - (i + 1), _, by omega, Ghost.form [(0, .ptr 1 5 0), (9, .im (.sl (clss cs))), (10, .i cs.length), (11, .i ((i + 1) : Nat))] 0 ⟨rfl, rfl, rfl, rfl, trivial⟩ rfl (by simp only [ASt.push, List.nil_append, List.cons_append, List.take_succ_cons, List.take_zero, List.all_cons, List.all_nil, AObj.under, i64s_set, unders_append, unders_ims, unders, PV.under, Bool.and_true, Bool.and_self]), i + 1, _, S1, V1, B1, rfl, by omega, by rw [heq, load_yes (show S1.take1 (x :: xs) = (S1, true) by rw [Sol.take1, if_pos hs5])], ⟨hkp, hS1, by omega, by omega⟩, rfl⟩
   ·have hb3 := hb
    simp at hb
  ·skip
   have hs5 := hs4
   have fx := ai hs4 fx
   refine Run.region rfl fun K hK => GOps.sim ?_
   refine GOps.call rfl rfl rfl rfl (by kernel_rfl) (ACalls.sim ?_)
   refine (tidy_yes x xs hs4 (by omega) hlb _ _).mono fun v u hv => ?_
   obtain ⟨rs, rfl, rfl⟩ := hv
   refine ⟨_, _, rfl, GOps.sim ?_⟩
   refine GOps.done (hK _ ?_); clear hK K
   refine End.kp [0, 7, 8, 9, 10, 11] ?_
   refine Run.block ?_
   refine Run.seq ?_
   refine Run.go ?_
   refine End.kp [0, 7, 9, 10, 11, 20] ?_
   refine Run.cond _ rfl (fun hb => ?_) (fun hb => ?_)
   ·have hb3 := hb
    simp at hb
   ·have hb3 := hb
    have p0 : (0 : Int) < ((tidyL (x :: xs)).length : Int) := by omega
    have g0 : (i64s (tidyL (x :: xs)) ++ i64s rs)[0]? = some (.im (.int .i64 ((tidyL (x :: xs)).getD 0 0))) := by rw [List.getElem?_append_left (by simp; omega)]; exact i64s_get _ _ tpos
    have e0 : (((tidyL (x :: xs)).length : Int) == 0) = false := beq_eq_false_iff_ne.2 (by omega)
    have hnt : ¬ (taut (tidyL (x :: xs)) = true) := by rw [hs5]; decide
    obtain ⟨l, hl⟩ : ∃ l, l = (tidyL (x :: xs)).getD 0 0 := ⟨_, rfl⟩
    rw [← hl] at g0 l0
    refine Run.seq ?_
    rcases Bool.eq_false_or_eq_true (decide ((tidyL (x :: xs)).length = 1)) with hs6 | hs6
    ·skip
     have h1 := of_decide_eq_true hs6
     have e1 : (((tidyL (x :: xs)).length : Int) == 1) = true := by rw [h1]; rfl
     have e2 : decide ((1 : Int) < ((tidyL (x :: xs)).length : Int)) = false := by rw [h1]; rfl
     have hsx : ∀ (loc : List AObj), ACalls Try.prog 95 [.ptr 1 5 0, .i l] (loc :: u) fun v u' => v = .b8 (S1.is l) ∧ u' = loc :: u := fun loc => is_ok S1 V1 1 _ (hA1.cons _) hS1.len l l0
     have hset : ∀ (loc : List AObj), ACalls Try.prog 79 [.ptr 1 5 0, .i l, .i (-1)] (loc :: u) fun v u' => v = .tup [] ∧ u' = loc :: setU u 0 S1 V1 l (-1) := fun loc => set_ok S1 V1 1 _ (hA1.cons _) hS1.len l (-1) l0
     have fx := ai e2 (ai e1 (ai hs6 (ai tpos (ai e0 (ai g0 (ai p0 (ai hs4 (ai wi (ai hii (ai gi (ai zZa (ai zTn (ai zNn (ai (@List.length_map.{0, 0}) ft))))))))))))))
     refine Run.region rfl fun K hK => GOps.sim ?_
     refine GOps.call rfl rfl rfl rfl (by kernel_rfl) (ACalls.sim ?_)
     refine (hsx _).mono fun v u hv => ?_
     obtain ⟨rfl, rfl⟩ := hv
     refine ⟨_, _, rfl, GOps.sim ?_⟩
     refine GOps.done (hK _ ?_); clear hK K
     refine End.kp [0, 7, 9, 10, 11, 23] ?_
     refine Run.cond _ rfl (fun hb => ?_) (fun hb => ?_)
     ·have hm1 : S1.is l = -1 := by simpa using hb
      have hr : S1.take1 (x :: xs) = (S1, false) := by rw [Sol.take1, if_neg hnt, if_pos h1, ← hl, if_pos hm1]
      refine Run.seq ?_
      have fx := ai e2 (ai e1 (ai hs6 (ai tpos (ai e0 (ai g0 (ai p0 (ai hs4 (ai wi (ai hii (ai gi (ai zZa (ai zTn (ai zNn (ai (@List.length_map.{0, 0}) ft))))))))))))))
      refine Run.go ?_
      refine End.kp [4] ?_
      refine Run.ret (hQ _ _ ⟨.inr rfl, _, rfl, _, rfl, ?_⟩)
      rw [heq, load_no hr]; exact ⟨V1, B1, rfl, hkp, hS1, by omega, by show S1.cl.length ≤ _; omega⟩
     ·have hm1 : ¬ (S1.is l = -1) := by simpa using hb
      refine Run.seq ?_
      have fx := ai e2 (ai e1 (ai hs6 (ai tpos (ai e0 (ai g0 (ai p0 (ai hs4 (ai wi (ai hii (ai gi (ai zZa (ai zTn (ai zNn (ai (@List.length_map.{0, 0}) ft))))))))))))))
      refine Run.region rfl fun K hK => GOps.sim ?_
      refine GOps.call rfl rfl rfl rfl (by kernel_rfl) (ACalls.sim ?_)
      refine (hsx _).mono fun v u hv => ?_
      obtain ⟨rfl, rfl⟩ := hv
      refine ⟨_, _, rfl, GOps.sim ?_⟩
      refine GOps.done (hK _ ?_); clear hK K
      refine End.kp [0, 7, 9, 10, 11, 40] ?_
      refine Run.cond _ rfl (fun hb => ?_) (fun hb => ?_)
      ·have hm0 : S1.is l = 0 := by simpa using hb
       have hr : S1.take1 (x :: xs) = (S1.set l (-1), true) := by rw [Sol.take1, if_neg hnt, if_pos h1, ← hl, if_neg hm1, if_pos hm0]
       have fx := ai e2 (ai e1 (ai hs6 (ai tpos (ai e0 (ai g0 (ai p0 (ai hs4 (ai wi (ai hii (ai gi (ai zZa (ai zTn (ai zNn (ai (@List.length_map.{0, 0}) ft))))))))))))))
       refine Run.region rfl fun K hK => GOps.sim ?_
       refine GOps.call rfl rfl rfl rfl (by kernel_rfl) (ACalls.sim ?_)
       refine (hset _).mono fun v u hv => ?_
       obtain ⟨rfl, rfl⟩ := hv
       refine ⟨_, _, rfl, GOps.sim ?_⟩
       refine GOps.done (hK _ ?_); clear hK K
       refine End.blk ?_
       refine End.blk ?_
       refine End.kp [0, 9, 10, 11] ?_
       refine Run.go ?_
       refine End.lp ?_
       refine ⟨cs.length - (i + 1), _, by omega, Ghost.form [(0, .ptr 1 5 0), (9, .im (.sl (clss cs))), (10, .i cs.length), (11, .i ((i + 1) : Nat))] 0 ⟨rfl, rfl, rfl, rfl, trivial⟩ rfl (by simp only [ASt.push, List.nil_append, List.cons_append, List.take_succ_cons, List.take_zero, List.all_cons, List.all_nil, AObj.under, i64s_set, unders_append, unders_ims, unders, PV.under, Bool.and_true, Bool.and_self]), i + 1, _, S1.set l (-1), setV V1, B1, rfl, by omega, by rw [heq, load_yes (hr)], ⟨hkp.trans (setU_kept hA1 l (-1)).toD.toN, hS1.set _ l0 (is_zero hm0), by omega, by show S1.cl.length ≤ _; omega⟩, rfl⟩
      ·have hm0 : ¬ (S1.is l = 0) := by simpa using hb
       have hr : S1.take1 (x :: xs) = (S1, true) := by rw [Sol.take1, if_neg hnt, if_pos h1, ← hl, if_neg hm1, if_neg hm0]
       refine Run.seq ?_
       have fx := ai e2 (ai e1 (ai hs6 (ai tpos (ai e0 (ai g0 (ai p0 (ai hs4 (ai wi (ai hii (ai gi (ai zZa (ai zTn (ai zNn (ai (@List.length_map.{0, 0}) ft))))))))))))))
       refine Run.go ?_
       refine End.kp [0, 7, 9, 10, 11, 57] ?_
       refine Run.cond _ rfl (fun hb => ?_) (fun hb => ?_)
       ·have hb4 := hb
        simp at hb
       ·have hb4 := hb
        refine Run.skip ?_
        refine End.blk ?_
        refine End.blk ?_
        refine End.kp [0, 9, 10, 11] ?_
        refine Run.go ?_
        refine End.lp ?_
        refine ⟨cs.length - (i + 1), _, by omega, Ghost.form [(0, .ptr 1 5 0), (9, .im (.sl (clss cs))), (10, .i cs.length), (11, .i ((i + 1) : Nat))] 0 ⟨rfl, rfl, rfl, rfl, trivial⟩ rfl (by simp only [ASt.push, List.nil_append, List.cons_append, List.take_succ_cons, List.take_zero, List.all_cons, List.all_nil, AObj.under, i64s_set, unders_append, unders_ims, unders, PV.under, Bool.and_true, Bool.and_self]), i + 1, _, S1, V1, B1, rfl, by omega, by rw [heq, load_yes (hr)], ⟨hkp, hS1, by omega, by omega⟩, rfl⟩
    ·skip
     have h1 := of_decide_eq_false hs6
     have e1 : (((tidyL (x :: xs)).length : Int) == 1) = false := beq_eq_false_iff_ne.2 (by omega)
     have e2 : decide ((1 : Int) < ((tidyL (x :: xs)).length : Int)) = true := decide_eq_true (by omega)
     have fx := ai e2 (ai e1 (ai hs6 (ai tpos (ai e0 (ai g0 (ai p0 (ai hs4 (ai wi (ai hii (ai gi (ai zZa (ai zTn (ai zNn (ai (@List.length_map.{0, 0}) ft))))))))))))))
     refine Run.region rfl fun K hK => GOps.sim ?_
     refine GOps.done (hK _ ?_); clear hK K
     refine End.kp [0, 7, 9, 10, 11, 23] ?_
     refine Run.cond _ rfl (fun hb => ?_) (fun hb => ?_)
     ·have hb4 := hb
      simp at hb
     ·have hb4 := hb
      refine Run.seq ?_
      have fx := ai e2 (ai e1 (ai hs6 (ai tpos (ai e0 (ai g0 (ai p0 (ai hs4 (ai wi (ai hii (ai gi (ai zZa (ai zTn (ai zNn (ai (@List.length_map.{0, 0}) ft))))))))))))))
      refine Run.region rfl fun K hK => GOps.sim ?_
      refine GOps.done (hK _ ?_); clear hK K
      refine End.kp [0, 7, 9, 10, 11, 40] ?_
      refine Run.cond _ rfl (fun hb => ?_) (fun hb => ?_)
      ·have hb5 := hb
       simp at hb
      ·have hb5 := hb
       refine Run.seq ?_
       have fx := ai e2 (ai e1 (ai hs6 (ai tpos (ai e0 (ai g0 (ai p0 (ai hs4 (ai wi (ai hii (ai gi (ai zZa (ai zTn (ai zNn (ai (@List.length_map.{0, 0}) ft))))))))))))))
       refine Run.go ?_
       refine End.kp [0, 7, 9, 10, 11, 57] ?_
       refine Run.cond _ rfl (fun hb => ?_) (fun hb => ?_)
       ·have hb6 := hb
        have h2 : 2 ≤ (tidyL (x :: xs)).length := by omega
        have hr : S1.take1 (x :: xs) = (S1.add (tidyL (x :: xs)), true) := by rw [Sol.take1, if_neg hnt, if_neg h1, if_pos h2]
        have hK1 : S1.cl.length < V1.K := by rw [hkp.K]; omega
        have hsp1 : Spare u 0 S1 V1.K S1.cl.length := fun q q1 q2 => by
         have hh := hkp.spare S1.cl.length (Nat.le_refl _) (fun q q3 q4 => hsp q (Nat.le_trans hkp.cl q3) q4)
         have := hh q q1 (by rw [← hkp.K]; exact q2)
         rw [hkp.n]; exact this
        have hdead := hsp1 S1.cl.length (Nat.le_refl _) hK1
        have l1 := tlo _ (gtD_mem (l := tidyL (x :: xs)) (i := 1) (d := 0) (by omega))
        have hka := addU_kept (c := tidyL (x :: xs)) hA1 hS1.len.wl hK1 hsp1 (atL_lt (by rw [← hl]; exact l0)) (atL_lt l1)
        have hSa := hS1.add h2 (by omega) tlo (by omega)
        have hA2 := hA1.put (k := S1.cl.length) (Nat.le_refl _) (.vec 3 0 (i64s (tidyL (x :: xs))))
        have hcc : fget (fset u 0 (S1.cl.length + (2 * S1.n + 2) + 11) (.vec 3 0 (i64s (tidyL (x :: xs))))) 0 (S1.cl.length + (2 * S1.n + 2) + 11) = some (.vec 3 0 (i64s (tidyL (x :: xs)))) := by rw [fget_fset, if_pos ⟨rfl, rfl⟩, hdead]; rfl
        have hadd : ∀ (loc : List AObj), ACalls Try.prog 78 [.ptr 1 5 0, .vs 1 (S1.cl.length + (2 * S1.n + 2) + 11) 0 (tidyL (x :: xs)).length 0] (loc :: fset u 0 (S1.cl.length + (2 * S1.n + 2) + 11) (.vec 3 0 (i64s (tidyL (x :: xs))))) fun v u' => v = .i S1.cl.length ∧ u' = loc :: addU (fset u 0 (S1.cl.length + (2 * S1.n + 2) + 11) (.vec 3 0 (i64s (tidyL (x :: xs))))) 0 S1 V1 (tidyL (x :: xs)) := fun loc => add_ok S1 V1 1 _ (hA2.cons _) hS1.len (.inr rfl) (tidyL (x :: xs)) hcc h2 (by rw [← hl]; exact l0) l1 (fun e => by have := td 0 1 (by omega) (by omega) e; omega) (by omega) (fun q hq => by have := (hS1.list hq).1; omega)
        refine Run.ghost (Ghost.vecTrim (L := []) (rs := i64s rs) (e := [(0, .ptr 1 5 0), (7, .vs 0 0 0 (tidyL (x :: xs)).length 1), (9, .im (.sl (clss cs))), (10, .i cs.length), (11, .i i)]) ((tidyL (x :: xs)).map fun x => Im.int .i64 x) (cTrim.keep rfl rfl (cTrim.at rfl (by rw [List.length_map]; omega) (cTrim.keep rfl rfl (cTrim.keep rfl rfl (cTrim.keep rfl rfl cTrim.nil))))) rfl) ?_
        refine Run.ghost (Ghost.moveLast (L := []) (L' := []) (up' := fset u 0 (S1.cl.length + (2 * S1.n + 2) + 11) (.vec 3 0 (i64s (tidyL (x :: xs))))) (ims := (tidyL (x :: xs)).map fun x => Im.int .i64 x) (g := 1) (e := [(0, .ptr 1 5 0), (7, .vs 1 (S1.cl.length + (2 * S1.n + 2) + 11) 0 (tidyL (x :: xs)).length 0), (9, .im (.sl (clss cs))), (10, .i cs.length), (11, .i i)]) 1 (S1.cl.length + (2 * S1.n + 2) + 11) 0 (o := .dead) hdead trivial rfl (cMove.keep rfl rfl (cMove.conv rfl (cMove.keep rfl rfl (cMove.keep rfl rfl (cMove.keep rfl rfl cMove.nil))))) rfl) ?_
        have fx := ai e2 (ai e1 (ai hs6 (ai tpos (ai e0 (ai g0 (ai p0 (ai hs4 (ai wi (ai hii (ai gi (ai zZa (ai zTn (ai zNn (ai (@List.length_map.{0, 0}) ft))))))))))))))
        refine Run.region rfl fun K hK => GOps.sim ?_
        refine GOps.call rfl rfl rfl rfl (by kernel_rfl) (ACalls.sim ?_)
        refine (hadd _).mono fun v u hv => ?_
        obtain ⟨rfl, rfl⟩ := hv
        refine ⟨_, _, rfl, GOps.sim ?_⟩
        refine GOps.done (hK _ ?_); clear hK K
        refine End.blk ?_
        refine End.blk ?_
        refine End.kp [0, 9, 10, 11] ?_
        refine Run.go ?_
        refine End.lp ?_
        refine ⟨cs.length - (i + 1), _, by omega, Ghost.form [(0, .ptr 1 5 0), (9, .im (.sl (clss cs))), (10, .i cs.length), (11, .i ((i + 1) : Nat))] 0 ⟨rfl, rfl, rfl, rfl, trivial⟩ rfl (by simp only [ASt.push, List.nil_append, List.cons_append, List.take_succ_cons, List.take_zero, List.all_cons, List.all_nil, AObj.under, i64s_set, unders_append, unders_ims, unders, PV.under, Bool.and_true, Bool.and_self]), i + 1, _, S1.add (tidyL (x :: xs)), addV V1 (tidyL (x :: xs)), (B1 + 2), rfl, by omega, by rw [heq, load_yes (hr)], ⟨hkp.trans hka, hSa, by omega, by simp [Sol.add]; omega⟩, rfl⟩
       ·have hb6 := hb
        simp at hb
 ·have hb2 := of_decide_eq_false hb
  refine Run.exit rfl ?_
  refine End.kp [] ?_
  refine Run.seq ?_
  refine Run.go ?_
  refine End.kp [4] ?_
  refine Run.ret (hQ _ _ ⟨.inr rfl, _, rfl, _, rfl, ?_⟩)
  rw [heq, List.drop_of_length_le (by omega)]; exact ⟨V1, B1, rfl, hkp, hS1, by omega, by show S1.cl.length ≤ _; omega⟩

set_option maxHeartbeats 4000000
theorem frs_ext {α : Type} : ∀ {a b : List (List α)}, a.map List.length = b.map List.length → (∀ d j, fget a d j = fget b d j) → a = b
 | [], [], _, _ => rfl
 | [], y :: ys, h, _ => by simp at h
 | x :: xs, [], h, _ => by simp at h
 | x :: xs, y :: ys, h, k => by
  simp only [List.map_cons, List.cons.injEq] at h
  have e1 : x = y := List.ext_getElem? fun j => by have := k 0 j; simpa only [look_zero] using this
  have e2 : xs = ys := frs_ext h.2 fun d j => by have := k (d + 1) j; simpa only [look_succ] using this
  rw [e1, e2]
theorem Else.cons {l : List AObj} {up u : Frs} {S : Sol} {K : Nat} (h : Else (l :: up) u 0 S K) : ∃ l', u = l' :: up ∧ l'.length = l.length ∧ ∀ j, ¬ SPl S K j → l'[j]? = l[j]? := by
 have hs := h.shape
 cases u with
 | nil => simp at hs
 | cons l' up' =>
  simp only [List.map_cons, List.cons.injEq] at hs
  have e : up' = up := frs_ext hs.2 fun d j => by have := h.same (d + 1) j (fun e => by omega); simpa only [look_succ] using this
  exact ⟨l', by rw [e], hs.1, fun j hj => by have := h.same 0 j (fun e => hj e.2); simpa only [look_zero] using this⟩
theorem SAt.sameOn {fr fr' : Frs} {d : Nat} {S : Sol} {V : Ver} (h : SAt fr d S V) (hs : ∀ j, SPl S S.cl.length j → fget fr' d j = fget fr d j) : SAt fr' d S V :=
 ⟨(hs 5 (by unfold SPl; omega)).trans h.box, (hs 1 (by unfold SPl; omega)).trans h.wch, (hs 2 (by unfold SPl; omega)).trans h.val, (hs 3 (by unfold SPl; omega)).trans h.lev, (hs 4 (by unfold SPl; omega)).trans h.why, (hs 7 (by unfold SPl; omega)).trans h.clo, (hs 8 (by unfold SPl; omega)).trans h.trl, (hs 9 (by unfold SPl; omega)).trans h.sts,
  fun i hi => (hs _ (by unfold SPl; omega)).trans (h.wli i hi), fun k hk => (hs _ (by unfold SPl; omega)).trans (h.cli k hk)⟩
theorem SAt.app {loc : List AObj} {up : Frs} {S : Sol} {V : Ver} (h : SAt (loc :: up) 0 S V) (t : List AObj) : SAt ((loc ++ t) :: up) 0 S V := by
 have e : ∀ j o, fget (loc :: up) 0 j = some o → fget ((loc ++ t) :: up) 0 j = some o := fun j o h => by
  simp only [look_zero] at h ⊢
  rw [List.getElem?_append_left (List.getElem?_eq_some_iff.1 h).1]
  exact h
 exact ⟨e _ _ h.box, e _ _ h.wch, e _ _ h.val, e _ _ h.lev, e _ _ h.why, e _ _ h.clo, e _ _ h.trl, e _ _ h.sts, fun i hi => e _ _ (h.wli i hi), fun k hk => e _ _ (h.cli k hk)⟩
theorem SAt.ver {fr : Frs} {d : Nat} {S : Sol} {V : Ver} (h : SAt fr d S V) (K : Nat) : SAt fr d S { V with K := K } := ⟨h.box, h.wch, h.val, h.lev, h.why, h.clo, h.trl, h.sts, h.wli, h.cli⟩
abbrev outB (E q c : Nat) : AObj := .box [.im (.bool false), .im (.bool false), .nils, .ms 0 E q, .i (c : Nat)]
abbrev stepsR (l : List (List Int)) : List (List Im) := l.map fun c => [.bool false, .sl (ints c)]
abbrev noneB : AObj := .box [.im (.bool false), .im (.sl [])]
abbrev resB : AObj := .box [.im (.bool false), .im (.bool false), .nils, .nils, .i 0]
structure RunF (n K : Nat) (loc : List AObj) (up : Frs) (S : Sol) (V : Ver) (pr : List (List Int)) (q : Nat) : Prop where
 len : loc.length = K + (2 * n + 2) + 13
 at' : SAt (loc :: up) 0 S V
 sn : S.n = n
 clk : S.cl.length ≤ K
 res : loc[0]? = some resB
 six : loc[6]? = some noneB
 out : loc[10]? = some (outB (K + (2 * n + 2) + 12) pr.length q)
 prf : loc[K + (2 * n + 2) + 12]? = some (.row 135 2 (stepsR pr) 0)
 spr : ∀ k, S.cl.length ≤ k → k < K → loc[k + (2 * n + 2) + 11]? = some .dead
 unit : loc[K + (2 * n + 2) + 11]? = some .dead ∨ ∃ g l, loc[K + (2 * n + 2) + 11]? = some (.vec 3 g (i64s l))
theorem unders_all {L : Nat} : ∀ {xs : List PV}, (∀ x ∈ xs, x.under L = true) → unders L xs = true
 | [], _ => rfl
 | x :: xs, h => by
  have h1 := h x (List.mem_cons_self ..)
  have h2 : unders L xs = true := unders_all (fun y hy => h y (List.mem_cons_of_mem _ hy))
  rw [unders, h1, h2]
  rfl
theorem RunF.under {n K : Nat} {loc : List AObj} {up : Frs} {S : Sol} {V : Ver} {pr : List (List Int)} {q : Nat} (h : RunF n K loc up S V pr q) {L : Nat} (hL : loc.length ≤ L) : loc.all (AObj.under L) = true := by
 rw [List.all_eq_true]
 intro x hx
 obtain ⟨j, hj, e⟩ := List.getElem_of_mem hx
 have hx' : loc[j]? = some x := by rw [List.getElem?_eq_getElem hj, e]
 have hA := h.at'
 have hl := h.len
 have hn := h.sn
 have hc := h.clk
 have key : ∀ o, loc[j]? = some o → o.under L = true → x.under L = true := fun o ho hu => by rw [hx'] at ho; cases ho; exact hu
 have k2 : ∀ o, fget (loc :: up) 0 j = some o → o.under L = true → x.under L = true := fun o ho hu => key o (by simpa only [look_zero] using ho) hu
 by_cases j0 : j = 0
 ·subst j0; exact key _ h.res rfl
 by_cases j1 : j = 1
 ·subst j1
  refine k2 _ hA.wch ?_
  refine unders_all (fun y hy => ?_)
  obtain ⟨i, hi, rfl⟩ := List.mem_map.1 hy
  have := List.mem_range.1 hi
  simp only [PV.under, decide_eq_true_eq]
  omega
 by_cases j2 : j = 2
 ·subst j2; exact k2 _ hA.val (unders_ims _ _)
 by_cases j3 : j = 3
 ·subst j3; exact k2 _ hA.lev (unders_ims _ _)
 by_cases j4 : j = 4
 ·subst j4; exact k2 _ hA.why (unders_ims _ _)
 by_cases j5 : j = 5
 ·subst j5
  refine k2 _ hA.box ?_
  simp only [AObj.under, unders, PV.under, Bool.and_true, Bool.true_and, Bool.and_eq_true, decide_eq_true_eq]
  omega
 by_cases j6 : j = 6
 ·subst j6; exact key _ h.six rfl
 by_cases j7 : j = 7
 ·subst j7
  refine k2 _ hA.clo ?_
  refine unders_all (fun y hy => ?_)
  obtain ⟨i, hi, rfl⟩ := List.mem_map.1 hy
  have := List.mem_range.1 hi
  simp only [PV.under, decide_eq_true_eq]
  omega
 by_cases j8 : j = 8
 ·subst j8; exact k2 _ hA.trl (by show unders L (i64s S.tr ++ i64s V.tx) = true; rw [unders_append, unders_ims, unders_ims]; rfl)
 by_cases j9 : j = 9
 ·subst j9; exact k2 _ hA.sts (by show unders L (n64s S.st ++ n64s V.sx) = true; rw [unders_append, unders_ims, unders_ims]; rfl)
 by_cases j10 : j = 10
 ·subst j10
  refine key _ h.out ?_
  simp only [AObj.under, unders, PV.under, Bool.and_true, Bool.true_and, decide_eq_true_eq]
  omega
 by_cases jw : j < 11 + (2 * n + 2)
 ·have := hA.wli (j - 11) (by omega)
  rw [show j - 11 + 11 = j by omega] at this
  exact k2 _ this (unders_ims _ _)
 by_cases jc : j < S.cl.length + (2 * n + 2) + 11
 ·have := hA.cli (j - (2 * n + 2) - 11) (by omega)
  rw [show j - (2 * n + 2) - 11 + (2 * S.n + 2) + 11 = j by omega] at this
  exact k2 _ this (unders_ims _ _)
 by_cases jd : j < K + (2 * n + 2) + 11
 ·have := h.spr (j - (2 * n + 2) - 11) (by omega) (by omega)
  rw [show j - (2 * n + 2) - 11 + (2 * n + 2) + 11 = j by omega] at this
  exact key _ this rfl
 by_cases ju : j = K + (2 * n + 2) + 11
 ·subst ju
  rcases h.unit with hu | ⟨g, l, hu⟩
  ·exact key _ hu rfl
  ·exact key _ hu (unders_ims _ _)
 ·have je : j = K + (2 * n + 2) + 12 := by omega
  subst je
  exact key _ h.prf rfl
theorem RunF.keep {n K : Nat} {loc : List AObj} {up u : Frs} {S S' : Sol} {V V' : Ver} {pr : List (List Int)} {q : Nat} (h : RunF n K loc up S V pr q) (hu : SAt u 0 S' V') (he : Else (loc :: up) u 0 S S.cl.length) (hn : S'.n = S.n) (hc : S'.cl.length = S.cl.length) :
  ∃ loc', u = loc' :: up ∧ RunF n K loc' up S' V' pr q ∧ ∀ j, ¬ SPl S S.cl.length j → loc'[j]? = loc[j]? := by
 obtain ⟨l', rfl, h1, h2⟩ := he.cons
 have hl := h.len
 have hsn := h.sn
 have hck := h.clk
 refine ⟨l', rfl, ⟨h1.trans hl, hu, hn.trans hsn, by rw [hc]; exact hck, (h2 _ (by unfold SPl; omega)).trans h.res, (h2 _ (by unfold SPl; omega)).trans h.six, (h2 _ (by unfold SPl; omega)).trans h.out, (h2 _ (by unfold SPl; omega)).trans h.prf, fun k k1 k2 => (h2 _ (by unfold SPl; omega)).trans (h.spr k (by rw [← hc]; exact k1) k2), ?_⟩, h2⟩
 have e := h2 (K + (2 * n + 2) + 11) (by unfold SPl; omega)
 rcases h.unit with h3 | ⟨g, l, h3⟩
 ·exact .inl (e.trans h3)
 ·exact .inr ⟨g, l, e.trans h3⟩
theorem get_set {α : Type} (l : List α) (i j : Nat) (x : α) (h : i < l.length) : (l.set i x)[j]? = if j = i then some x else l[j]? := by
 by_cases e : j = i
 ·subst e; rw [if_pos rfl, List.getElem?_set_self h]
 ·rw [if_neg e, List.getElem?_set_ne (fun h => e h.symm)]
theorem RunF.put {n K : Nat} {loc : List AObj} {up : Frs} {S : Sol} {V : Ver} {pr pr' : List (List Int)} {q q' : Nat} (h : RunF n K loc up S V pr q) : RunF n K ((loc.set (K + (2 * n + 2) + 12) (.row 135 2 (stepsR pr') 0)).set 10 (outB (K + (2 * n + 2) + 12) pr'.length q')) up S V pr' q' := by
 have hl := h.len
 have hn := h.sn
 have hc := h.clk
 have e : ∀ j, ((loc.set (K + (2 * n + 2) + 12) (.row 135 2 (stepsR pr') 0)).set 10 (outB (K + (2 * n + 2) + 12) pr'.length q'))[j]? = if j = 10 then some (outB (K + (2 * n + 2) + 12) pr'.length q') else if j = K + (2 * n + 2) + 12 then some (.row 135 2 (stepsR pr') 0) else loc[j]? := fun j => by
  rw [get_set _ _ _ _ (by simp; omega), get_set _ _ _ _ (by omega)]
 have o : ∀ j, j ≠ 10 → j ≠ K + (2 * n + 2) + 12 → ((loc.set (K + (2 * n + 2) + 12) (.row 135 2 (stepsR pr') 0)).set 10 (outB (K + (2 * n + 2) + 12) pr'.length q'))[j]? = loc[j]? := fun j h1 h2 => by rw [e, if_neg h1, if_neg h2]
 refine ⟨by simp; exact hl, h.at'.sameOn (fun j hj => by simp only [look_zero]; unfold SPl at hj; exact o j (by omega) (by omega)), hn, hc, (o _ (by omega) (by omega)).trans h.res, (o _ (by omega) (by omega)).trans h.six, by rw [e, if_pos rfl], by rw [e, if_neg (by omega), if_pos rfl], fun k k1 k2 => (o _ (by omega) (by omega)).trans (h.spr k k1 k2), ?_⟩
 have e := o (K + (2 * n + 2) + 11) (by omega) (by omega)
 rcases h.unit with h3 | ⟨g, l, h3⟩
 ·exact .inl (e.trans h3)
 ·exact .inr ⟨g, l, e.trans h3⟩
theorem set_same {α : Type} {l : List α} {i : Nat} {x : α} (h : l[i]? = some x) : l.set i x = l := by
 obtain ⟨h1, h2⟩ := List.getElem?_eq_some_iff.1 h
 rw [← h2, List.set_getElem_self]
theorem RunF.count {n K : Nat} {loc : List AObj} {up : Frs} {S : Sol} {V : Ver} {pr : List (List Int)} {q : Nat} (h : RunF n K loc up S V pr q) (q' : Nat) : RunF n K (loc.set 10 (outB (K + (2 * n + 2) + 12) pr.length q')) up S V pr q' := by
 have := h.put (pr' := pr) (q' := q')
 rwa [set_same h.prf] at this
theorem Ghost.park {N : Nat} {env : List (Nat × PV)} {loc tail : List AObj} {up : Frs} {t g gv cp : Nat} {ims : List Im} {o : AObj} (e : List (Nat × PV)) (hcp : loc[cp]? = some o) (htk : Takes t gv o) (hu : ∀ L, loc.length ≤ L → loc.all (AObj.under L) = true) (htl : tail.all (AObj.under (loc.length + tail.length)) = true)
  (he : ehasT (cMove (loc.length + tail.length) 0 cp g gv) env e) (he2 : unders loc.length (e.map (·.2)) = true) :
  Ghost N ⟨env, loc ++ tail ++ [.vec t g (ims.map .im)], up⟩ ⟨e, loc.set cp (.vec t gv (ims.map .im)), up⟩ := by
 have hlt := (List.getElem?_eq_some_iff.1 hcp).1
 have hall : ∀ (L : Nat) (l : List AObj), l.all (AObj.under L) = true → ∀ i, (l.set i (.vec t gv (ims.map .im))).all (AObj.under L) = true := fun L l hl i => by
  rw [List.all_eq_true] at hl ⊢
  intro x hx
  rcases List.mem_or_eq_of_mem_set hx with h | rfl
  ·exact hl x h
  ·exact unders_ims _ _
 have g1 := Ghost.moveLast (n := N) (env := env) (e := e) (L := loc ++ tail) (L' := (loc ++ tail).set cp (.vec t gv (ims.map .im))) (up := up) (up' := up) (t := t) (g := g) (ims := ims) 0 cp gv (o := o) (by simp only [look_zero]; rw [List.getElem?_append_left hlt]; exact hcp) htk rfl (by rw [List.length_append]; exact he) (by
  rw [List.all_append, List.length_append, hu _ (by omega), htl]; rfl)
 refine g1.trans ?_
 have g2 := Ghost.trunc (n := N) (st := ⟨e, (loc ++ tail).set cp (.vec t gv (ims.map .im)), up⟩) loc.length he2 (by
  rw [List.set_append_left _ _ hlt, List.take_left' (by simp)]
  exact hall _ _ (hu _ (Nat.le_refl _)) _)
 rw [show ((⟨e, (loc ++ tail).set cp (.vec t gv (ims.map .im)), up⟩ : ASt).loc.take loc.length) = loc.set cp (.vec t gv (ims.map .im)) by
  show ((loc ++ tail).set cp _).take loc.length = _
  rw [List.set_append_left _ _ hlt, List.take_left' (by simp)]] at g2
 exact g2
theorem RunF.final {n K : Nat} {l2 l7 : List AObj} {up : Frs} {S S' : Sol} {V V' : Ver} {pr pr' : List (List Int)} {q q' : Nat} (h : RunF n K l2 up S V pr q) (hl : l7.length = l2.length) (hA : SAt (l7 :: up) 0 S' V') (hn : S'.n = S.n) (hc : S'.cl.length ≤ K) (hc2 : S.cl.length ≤ S'.cl.length)
  (hs : ∀ j, ¬ SPl S S'.cl.length j → j ≠ 10 → j ≠ K + (2 * n + 2) + 12 → j ≠ K + (2 * n + 2) + 11 → l7[j]? = l2[j]?) (h10 : l7[10]? = some (outB (K + (2 * n + 2) + 12) pr'.length q')) (hE : l7[K + (2 * n + 2) + 12]? = some (.row 135 2 (stepsR pr') 0))
  (hU : l7[K + (2 * n + 2) + 11]? = l2[K + (2 * n + 2) + 11]? ∨ ∃ g l, l7[K + (2 * n + 2) + 11]? = some (.vec 3 g (i64s l))) : RunF n K l7 up S' V' pr' q' := by
 have hsn := h.sn
 refine ⟨hl.trans h.len, hA, hn.trans hsn, hc, (hs _ (by unfold SPl; omega) (by omega) (by omega) (by omega)).trans h.res, (hs _ (by unfold SPl; omega) (by omega) (by omega) (by omega)).trans h.six, h10, hE, fun k k1 k2 => (hs _ (by unfold SPl; omega) (by omega) (by omega) (by omega)).trans (h.spr k (by omega) k2), ?_⟩
 rcases hU with h1 | h1
 ·rw [h1]; exact h.unit
 ·exact .inr h1
structure Laid (n K : Nat) (l2 l3 : List AObj) (S : Sol) (c : List Int) (cp gv : Nat) : Prop where
 eq : l3 = l2.set cp (.vec 3 gv (i64s c))
 lt : cp < K + (2 * n + 2) + 12
 pos : S.cl.length + (2 * n + 2) + 11 ≤ cp
 one : 1 < c.length → cp = S.cl.length + (2 * n + 2) + 11 ∧ gv = 0
 uni : ¬ 1 < c.length → cp = K + (2 * n + 2) + 11
theorem RunF.spot {n K : Nat} {loc : List AObj} {up : Frs} {S : Sol} {V : Ver} {pr : List (List Int)} {q : Nat} (h : RunF n K loc up S V pr q) (hk : S.cl.length < K) (c : List Int) : ∃ cp gv o, loc[cp]? = some o ∧ Takes 3 gv o ∧ Laid n K loc (loc.set cp (.vec 3 gv (i64s c))) S c cp gv := by
 by_cases e : 1 < c.length
 ·exact ⟨_, 0, _, h.spr S.cl.length (Nat.le_refl _) hk, trivial, rfl, by omega, Nat.le_refl _, fun _ => ⟨rfl, rfl⟩, fun h => absurd e h⟩
 ·rcases h.unit with h1 | ⟨g, l, h1⟩
  ·exact ⟨_, 0, _, h1, trivial, rfl, by omega, by omega, fun h => absurd h e, fun _ => rfl⟩
  ·exact ⟨_, g + 1, _, h1, ⟨rfl, Nat.lt_succ_self _⟩, rfl, by omega, by omega, fun h => absurd h e, fun _ => rfl⟩
theorem meas {limit q n x y : Nat} (h : q < limit) : (limit - (q + 1)) * (n + 2) + (n - x) < (limit - q) * (n + 2) + (n - y) := by
 have e : limit - q = (limit - (q + 1)) + 1 := by omega
 rw [e, Nat.add_mul, Nat.one_mul]
 omega
theorem RunF.round {n K : Nat} {l2 l3 l4 l7 : List AObj} {up : Frs} {S S' : Sol} {V V' : Ver} {pr : List (List Int)} {rf : List Int} {q q' cp gv : Nat} (hF : RunF n K l2 up S V pr q) (hLd : Laid n K l2 l3 S rf cp gv)
  (h4 : l4 = (l3.set (K + (2 * n + 2) + 12) (.row 135 2 (stepsR (pr ++ [rf])) 0)).set 10 (outB (K + (2 * n + 2) + 12) (pr ++ [rf]).length q')) (hlen : l7.length = l4.length) (h7 : ∀ j, ¬ SPl S S.cl.length j → l7[j]? = l4[j]?)
  (hA : SAt (l7 :: up) 0 S' V') (hn : S'.n = S.n) (hc2 : S.cl.length ≤ S'.cl.length) (hc : S'.cl.length ≤ K) (hone : 1 < rf.length → S.cl.length < S'.cl.length) : RunF n K l7 up S' V' (pr ++ [rf]) q' := by
 have hsn := hF.sn
 have hl := hF.len
 have hlt := hLd.lt
 have hps := hLd.pos
 have h3l : l3.length = l2.length := by rw [hLd.eq, List.length_set]
 have hck := hF.clk
 have g3 : ∀ j, l3[j]? = if j = cp then some (.vec 3 gv (i64s rf)) else l2[j]? := fun j => by rw [hLd.eq, get_set _ _ _ _ (by omega)]
 have g4 : ∀ j, l4[j]? = if j = 10 then some (outB (K + (2 * n + 2) + 12) (pr ++ [rf]).length q') else if j = K + (2 * n + 2) + 12 then some (.row 135 2 (stepsR (pr ++ [rf])) 0) else l3[j]? := fun j => by
  rw [h4, get_set _ _ _ _ (by rw [List.length_set]; omega), get_set _ _ _ _ (by omega)]
 have hcpU : 1 < rf.length ∨ cp = K + (2 * n + 2) + 11 := by
  by_cases e : 1 < rf.length
  ·exact .inl e
  ·exact .inr (hLd.uni e)
 refine hF.final (by rw [hlen, h4, List.length_set, List.length_set, h3l]) hA hn hc hc2 (fun j j1 j2 j3 j4 => ?_) ?_ ?_ ?_
 ·rw [h7 j (by unfold SPl at j1 ⊢; omega), g4, if_neg j2, if_neg j3, g3, if_neg ?_]
  intro e
  rcases hcpU with h1 | h1
  ·have := (hLd.one h1).1
   have := hone h1
   unfold SPl at j1
   omega
  ·omega
 ·rw [h7 _ (by unfold SPl; omega), g4, if_pos rfl]
 ·rw [h7 _ (by unfold SPl; omega), g4, if_neg (by omega), if_pos rfl]
 ·rw [h7 _ (by unfold SPl; omega), g4, if_neg (by omega), if_neg (by omega), g3]
  split
  ·exact .inr ⟨_, _, rfl⟩
  ·exact .inl rfl
theorem st_le {S : Sol} (h : Inv S) (hst : ∀ x ∈ S.st, x < S.tr.length) : S.st.length ≤ S.tr.length := by
 have grow : ∀ i, i < S.st.length → i ≤ S.st.getD i 0 := fun i => by
  induction i with
  | zero => intro _; omega
  | succ i ih =>
   intro hi
   have := ih (by omega)
   have := h.sts i (i + 1) (by omega) hi
   omega
 by_cases e0 : S.st.length = 0
 ·omega
 ·have := grow (S.st.length - 1) (by omega)
  have := hst _ (gtD_mem (l := S.st) (i := S.st.length - 1) (d := 0) (by omega))
  omega
def spr : Option Nat → Int
 | none => -1
 | some k => (k : Int)
theorem spread2_ok (S0 : Sol) (V0 : Ver) (B : Nat) (up : Frs) (hA0 : SAt up 0 S0 V0) (hS0 : SW S0 B) (hB : B ≤ 3000000) (hK : S0.cl.length ≤ V0.K) (f : Nat) (hf : S0.n + 1 ≤ f + S0.head) : ACalls Try.prog 72 [.ptr 0 5 0] up fun v u => ∃ V',
  v = .i (spr (Sol.spread f S0).2) ∧ Kept up u 0 S0 V0 (Sol.spread f S0).1 V' ∧ SW (Sol.spread f S0).1 B :=
 (sSpread_ok S0 V0 B up hA0 hS0 hB hK f hf).mono fun v u ⟨V', h1, h2, h3⟩ => ⟨V', by rw [h1]; cases (Sol.spread f S0).2 <;> rfl, h2, h3⟩
theorem unders_repl (L N : Nat) (x : PV) : unders L (List.replicate N x) = (decide (N = 0) || x.under L) := by
 induction N with
 | zero => rfl
 | succ N ih =>
  rw [List.replicate_succ, unders, ih]
  cases x.under L <;> simp
theorem pushN_eq : ∀ (k : Nat) (st : ASt), st.pushN k = ⟨st.env, st.loc ++ List.replicate k .dead, st.up⟩
 | 0, st => by simp [ASt.pushN]
 | k + 1, st => by
  rw [ASt.pushN, pushN_eq k]
  simp [ASt.push, List.replicate_succ]
def head0 (n : Nat) : List AObj := [resB, .vec 22 0 ((List.range (2 * n + 2)).map fun k => .vs 0 (11 + k) 0 0 0), .vec 138 0 (List.replicate (n + 1) (.im (.int .i8 0))), .vec 3 0 (List.replicate (n + 1) (.im (.int .i64 0))), .vec 3 0 (List.replicate (n + 1) (.im (.int .i64 0))),
 .box [.vs 0 7 0 0 0, .vs 0 1 0 (2 * n + 2) 0, .vs 0 2 0 (n + 1) 0, .vs 0 3 0 (n + 1) 0, .vs 0 4 0 (n + 1) 0, .vs 0 8 0 0 0, .vs 0 9 0 0 0, .im (.int .i64 0), .im (.int .i64 1)], noneB, .vec 22 0 [], .vec 3 0 [], .vec 3 0 [], .dead]
def loc0 (n K : Nat) : List AObj := head0 n ++ List.replicate (2 * n + 2) (.vec 3 0 []) ++ List.replicate (K + 1) .dead
def ver0 (K : Nat) : Ver := ⟨0, 0, 0, fun _ => 0, [], [], K⟩
theorem loc0_len (n K : Nat) : (loc0 n K).length = K + (2 * n + 2) + 12 := by simp [loc0, head0]; omega
theorem loc0_head (n K : Nat) {j : Nat} (h : j < 11) : (loc0 n K)[j]? = (head0 n)[j]? := by
 rw [loc0, List.append_assoc, List.getElem?_append_left (by simp [head0]; omega)]
theorem loc0_wl (n K : Nat) {i : Nat} (h : i < 2 * n + 2) : (loc0 n K)[i + 11]? = some (.vec 3 0 []) := by
 have hl : (head0 n).length = 11 := rfl
 rw [loc0, List.append_assoc, List.getElem?_append_right (by omega), List.getElem?_append_left (by rw [List.length_replicate]; omega), List.getElem?_replicate, if_pos (by omega)]
theorem loc0_sp (n K : Nat) {k : Nat} (h : k < K + 1) : (loc0 n K)[k + (2 * n + 2) + 11]? = some .dead := by
 have hl : (head0 n).length = 11 := rfl
 rw [loc0, List.getElem?_append_right (by rw [List.length_append, List.length_replicate]; omega), List.getElem?_replicate, if_pos (by rw [List.length_append, List.length_replicate]; omega)]
theorem new_at (n K : Nat) (up : Frs) : SAt (loc0 n K :: up) 0 (Sol.new n) (ver0 K) := by
 have hh : ∀ j, j < 11 → fget (loc0 n K :: up) 0 j = (head0 n)[j]? := fun j hj => by simp only [look_zero]; exact loc0_head n K hj
 have hw : ∀ i, (List.replicate (2 * n + 2) ([] : List Nat)).getD i [] = [] := fun i => by
  simp only [List.getD_eq_getElem?_getD, List.getElem?_replicate]
  split <;> rfl
 refine ⟨(hh 5 (by omega)).trans rfl, (hh 1 (by omega)).trans ?_, (hh 2 (by omega)).trans ?_, (hh 3 (by omega)).trans ?_, (hh 4 (by omega)).trans ?_, (hh 7 (by omega)).trans rfl, (hh 8 (by omega)).trans rfl, (hh 9 (by omega)).trans rfl, fun i hi => ?_, fun k hk => by simp [Sol.new] at hk⟩
 ·show some (AObj.vec _ _ _) = some (AObj.vec _ _ _)
  congr 2
  show (List.range (2 * n + 2)).map _ = (List.range (2 * n + 2)).map _
  refine List.map_congr_left fun i _ => ?_
  show PV.vs 0 (11 + i) 0 0 0 = PV.vs 0 (i + 11) 0 ((List.replicate (2 * n + 2) ([] : List Nat)).getD i []).length 0
  rw [hw, Nat.add_comm]
  rfl
 ·show some (AObj.vec _ _ (List.replicate (n + 1) _)) = some (AObj.vec _ _ (i8s (List.replicate (n + 1) 0)))
  simp
 ·show some (AObj.vec _ _ (List.replicate (n + 1) _)) = some (AObj.vec _ _ (n64s (List.replicate (n + 1) 0)))
  simp
 ·show some (AObj.vec _ _ (List.replicate (n + 1) _)) = some (AObj.vec _ _ (i64s (List.replicate (n + 1) 0)))
  simp
 ·simp only [look_zero]
  rw [loc0_wl n K hi]
  show _ = some (AObj.vec _ _ (n64s ((List.replicate (2 * n + 2) ([] : List Nat)).getD i [])))
  rw [hw]
  rfl
theorem new_spare (n K : Nat) (up : Frs) : Spare (loc0 n K :: up) 0 (Sol.new n) K 0 := fun k _ hk => by
 simp only [look_zero]
 exact loc0_sp n K (by omega)

set_option maxRecDepth 100000
set_option maxHeartbeats 40000000
theorem keepL {n : Nat} {st : ASt} (e : List (Nat × PV)) (he : ehas st.env e) : Ghost n st ⟨e, st.loc, st.up⟩ := Ghost.keepE he
def fndB (b : Bool) (x : PV) (q : Nat) : AObj := .box [.im (.bool b), .im (.bool b), x, .nils, .i (q : Nat)]
theorem RunF.load {n K : Nat} {up : Frs} {loc : List AObj} {S : Sol} {V : Ver} (hl : loc.length = K + (2 * n + 2) + 12) (hA : SAt (loc :: up) 0 S V) (hn : S.n = n) (hc : S.cl.length ≤ K) (h0 : loc[0]? = some resB) (h6 : loc[6]? = some noneB) (hs : ∀ k, S.cl.length ≤ k → k < K + 1 → loc[k + (2 * n + 2) + 11]? = some .dead) :
  RunF n K (loc.set 10 (outB (K + (2 * n + 2) + 12) 0 0) ++ [.row 135 2 [] 0]) up S V [] 0 := by
 have e : ∀ j, j < loc.length → (loc.set 10 (outB (K + (2 * n + 2) + 12) 0 0) ++ [AObj.row 135 2 [] 0])[j]? = if j = 10 then some (outB (K + (2 * n + 2) + 12) 0 0) else loc[j]? := fun j hj => by
  rw [List.getElem?_append_left (by simpa using hj), get_set _ _ _ _ (by omega)]
 refine ⟨by simp; omega, SAt.app (hA.sameOn (fun j hj => ?_)) _, hn, hc, (e _ (by omega)).trans (by rw [if_neg (by omega)]; exact h0), (e _ (by omega)).trans (by rw [if_neg (by omega)]; exact h6), (e _ (by omega)).trans (by rw [if_pos rfl]; rfl), ?_, fun k k1 k2 => (e _ (by omega)).trans (by rw [if_neg (by omega)]; exact hs k k1 (by omega)), .inl ((e _ (by omega)).trans (by rw [if_neg (by omega)]; exact hs K hc (by omega)))⟩
 ·simp only [look_zero]
  rw [get_set _ _ _ _ (by omega), if_neg (by unfold SPl at hj; omega)]
 ·rw [List.getElem?_append_right (by simp; omega)]
  simp [hl]
theorem rowVecM {n m : Nat} {env e : List (Nat × PV)} {L : List AObj} {up : Frs} {t : Nat} {rows : List (List Im)} (ims : List Im) (hr : rows = ims.map fun x => [x]) (hm : m = ims.length) (he : ehasT (cRow L.length m) env e) (h2 : L.all (AObj.under L.length) = true) :
  Ghost n ⟨env, L ++ [.row t 1 rows 0], up⟩ ⟨e, L ++ [.vec t 0 (ims.map .im)], up⟩ := Ghost.rowVec ims hr (by rw [hr, List.length_map, ← hm]; exact he) h2
theorem thawAt {N : Nat} {e : List (Nat × PV)} {loc : List AObj} {up : Frs} (hl : loc[10]? = some resB) : Ghost N ⟨e, loc, up⟩ ⟨e, loc.set 10 (outB loc.length 0 0) ++ [.row 135 2 [] 0], up⟩ := by
 have h := Ghost.thawBox (n := N) (st := ⟨e, loc, up⟩) (j := 10) (i := 3) 135 2 (by decide) hl rfl
 have hlt := (List.getElem?_eq_some_iff.1 hl).1
 simp only [ASt.push, ASt.fr, fset, ASt.setFr] at h
 rw [List.set_append_left _ _ hlt] at h
 exact h
theorem thawM {N q : Nat} {e : List (Nat × PV)} {loc : List AObj} {up : Frs} (hl : loc[10]? = some (fndB true .nils q)) : Ghost N ⟨e, loc, up⟩ ⟨e, loc.set 10 (fndB true (.ms 0 loc.length 0) q) ++ [.row 4 1 [] 0], up⟩ := by
 have h := Ghost.thawBox (n := N) (st := ⟨e, loc, up⟩) (j := 10) (i := 2) 4 1 (by decide) hl rfl
 have hlt := (List.getElem?_eq_some_iff.1 hl).1
 simp only [ASt.push, ASt.fr, fset, ASt.setFr] at h
 rw [List.set_append_left _ _ hlt] at h
 exact h
theorem run_ok (P : (Nat → Bool) → Prop) (I : Sol → Nat → Prop) (cs : List (List Int)) (n limit : Nat) (plain : Bool) (hn : n ≤ 20000) (hcs : ClsIn n cs) (hm : ∀ M, P M → ∀ c ∈ cs, HoldsC M c) (hlim : limit ≤ 65536)
  (hI0 : (Sol.load cs (Sol.new n)).2 = true → I (Sol.load cs (Sol.new n)).1 0) (hIs : ∀ S S' q, Ext S S' → I S q → I S' q)
  (hId : ∀ S B q, Base P S B → S.n = n → S.head = S.tr.length → (∀ c ∈ cs, Cov S c) → I S q → S.decide.2 = true → I S.decide.1 q)
  (hIc : ∀ S B k c d q, Bad P S B k → S.n = n → I S q → q < limit → Lesson S c d → (plain = true → c = S.refuted ∧ d = S.st.length - 1) → I ((S.back d).heed c) (q + 1)) (up : Frs) :
  ACalls Try.prog 46 [.im (.sl (clss cs)), .i (n : Nat), .i (limit : Nat), .im (.bool plain)] up fun v u => u = up ∧ ∃ (d f : Bool) (m : List Bool) (pr : List (List Int)) (q : Nat), v = .agg [.im (.bool d), .im (.bool f), .im (.sl (bools m)), .im (.sl (stepsR pr)), .i (q : Nat)] ∧ q ≤ limit ∧
   (f = true → d = true ∧ pr = [] ∧ m.length = n ∧ ∀ c ∈ cs, HoldsC (fun v => m.getD (v - 1) false) c) ∧ (f = false → m = [] ∧ (d = true → ∀ M, ¬ P M) ∧ (d = false → pr = [] ∧ ∃ S B k, Bad P S B k ∧ S.n = n ∧ I S limit)) := by
 have w1 : IntKind.i64.wrap (2 * (n : Int)) = ((2 * n : Nat) : Int) := by rw [wrap64 (by omega)]; omega
 have w2 : IntKind.i64.wrap (((2 * n : Nat) : Int) + 2) = ((2 * n + 2 : Nat) : Int) := by rw [wrap64 (by omega)]; omega
 have w3 : IntKind.i64.wrap ((n : Int) + 1) = ((n + 1 : Nat) : Int) := by rw [wrap64 (by omega)]; omega
 have m24 : 24 * (2 * n + 2) ≤ 281474976710656 := by omega
 have m1 : 1 * (n + 1) ≤ 281474976710656 := by omega
 have m8 : 8 * (n + 1) ≤ 281474976710656 := by omega
 have hcl := hcs.len
 refine ACalls.code Try.func46 rfl 141 rfl (by simp) [.cell 8 46] rfl fun Q hQ => ?_
 simp only [ups, PV.up, argEnv]
 have ft := ai ty_2 (ai ty_3 (ai ty_4 (ai ty_6 (ai ty_8 (ai ty_22 (ai ty_33 (ai ty_35 (ai ty_44 (ai ty_46 (ai ty_130 (ai ty_131 (ai ty_133 (ai ty_135 (ai ty_138 trivial))))))))))))))
 refine Run.seq ?_
 have fx := ai zZa (ai zTn (ai zNn (ai w3 (ai w2 (ai w1 ft)))))
 refine Run.go ?_
 refine End.kp [0, 1, 2, 3, 8] ?_
 refine Run.seq ?_
 refine Run.ghost (.spares 5) ?_
 simp only [ASt.pushN, ASt.push, List.append_assoc, List.cons_append, List.nil_append]
 refine Run.drawA fun K hK => ?_
 refine DOps.sim1 ?_
 refine DOps.sim1 ?_
 refine DOps.sim1 ?_
 refine DOps.makeVec (e := 22) (by_ := 24) (z := .nils) (k1 := .i64) (k2 := .i64) (2 * n + 2) 1 (by omega) m24 ?_
 refine DOps.sim1 ?_
 refine DOps.sim1 ?_
 refine DOps.makeVec (e := 138) (by_ := 1) (z := .im (.int .i8 0)) (k1 := .i64) (k2 := .i64) (n + 1) 2 (by omega) m1 ?_
 refine DOps.sim1 ?_
 refine DOps.sim1 ?_
 refine DOps.makeVec (e := 3) (by_ := 8) (z := .im (.int .i64 0)) (k1 := .i64) (k2 := .i64) (n + 1) 3 (by omega) m8 ?_
 refine DOps.sim1 ?_
 refine DOps.sim1 ?_
 refine DOps.makeVec (e := 3) (by_ := 8) (z := .im (.int .i64 0)) (k1 := .i64) (k2 := .i64) (n + 1) 4 (by omega) m8 ?_
 
 refine DOps.sim ?_
 refine DOps.nil ?_ (hK _ ?_)
 ·rfl
 clear hK K
 refine End.kp [0, 2, 3, 8, 9] ?_
 refine Run.seq ?_
 have fx := ai zZa (ai zTn (ai zNn (ai w3 (ai w2 (ai w1 ft)))))
 refine Run.region rfl fun K hK => GOps.litF (rows := []) ?_ rfl rfl (by simp only [litF, fx] <;> rfl)
 refine GOps.sim ?_
 refine GOps.done (hK _ ?_); clear hK K
 refine End.kp [0, 2, 3, 8, 9, 10] ?_
 refine Run.seq ?_
 refine Run.seq ?_
 refine Run.ghost (Ghost.form [(0, .im (.sl (clss cs))), (2, .i (limit : Nat)), (3, .im (.bool plain)), (8, .ptr 0 0 0), (9, .ptr 0 5 0), (10, .ptr 0 6 0)] 7 ⟨rfl, rfl, rfl, rfl, rfl, rfl, trivial⟩ rfl (by simp only [ASt.push, List.nil_append, List.cons_append, List.take_succ_cons, List.take_zero, List.all_cons, List.all_nil, AObj.under, i64s_set, unders_append, unders_ims, unders, PV.under, Bool.and_true, Bool.and_self, unders_repl]; simp)) ?_
 refine Run.ghost (.spares 4) ?_
 change Run _ _ _ _ _ (⟨[(0, .im (.sl (clss cs))), (2, .i (limit : Nat)), (3, .im (.bool plain)), (8, .ptr 0 0 0), (9, .ptr 0 5 0), (10, .ptr 0 6 0)], [resB, .vec 22 0 (List.replicate (2 * n + 2) .nils), .vec 138 0 (List.replicate (n + 1) (.im (.int .i8 0))), .vec 3 0 (List.replicate (n + 1) (.im (.int .i64 0))), .vec 3 0 (List.replicate (n + 1) (.im (.int .i64 0))),
  .box [.nils, .vs 0 1 0 (2 * n + 2) 0, .vs 0 2 0 (n + 1) 0, .vs 0 3 0 (n + 1) 0, .vs 0 4 0 (n + 1) 0, .nils, .nils, .im (.int .i64 0), .im (.int .i64 1)], noneB, .dead, .dead, .dead, .dead], up⟩ : ASt)
 refine Run.ghost (Ghost.boxNil (j := 5) (i := 0) (k := 7) 22 0 rfl rfl rfl) ?_
 refine Run.ghost (Ghost.boxNil (j := 5) (i := 5) (k := 8) 3 0 rfl rfl rfl) ?_
 refine Run.ghost (Ghost.boxNil (j := 5) (i := 6) (k := 9) 3 0 rfl rfl rfl) ?_
 refine Run.ghost (Ghost.vecNils (j := 1) (N := 2 * n + 2) 3 0 rfl) ?_
 refine Run.ghost (.spares (cs.length + limit + 1)) ?_
 rw [pushN_eq]
 change Run _ _ _ _ _ (⟨[(0, .im (.sl (clss cs))), (2, .i (limit : Nat)), (3, .im (.bool plain)), (8, .ptr 0 0 0), (9, .ptr 0 5 0), (10, .ptr 0 6 0)], loc0 n (cs.length + limit), up⟩ : ASt)
 have fx := ai zZa (ai zTn (ai zNn (ai w3 (ai w2 (ai w1 ft)))))
 refine Run.region rfl fun K hK => GOps.sim ?_
 refine GOps.call rfl rfl rfl rfl (by kernel_rfl) (ACalls.sim ?_)
 refine (sload_ok (Sol.new n) (ver0 (cs.length + limit)) 0 (loc0 n (cs.length + limit) :: up) cs hcs (new_at n _ up) (new_base P hn).sw (by show 0 + cs.length ≤ cs.length + limit; omega) (by show cs.length + limit ≤ 400000; omega) (new_spare n _ up) (by omega)).mono fun v u hv => ?_
 obtain ⟨V, B, rfl, hkp, hsw, hBb, hclb⟩ := hv
 obtain ⟨loc1, rfl, hl1, hs1⟩ := hkp.els.cons
 have hld := Ld.load (P := P) cs ⟨new_base P hn, rfl, rfl⟩ hcs.cls hm (by show 0 + cs.length ≤ 1000000; omega)
 refine ⟨_, _, rfl, GOps.sim ?_⟩
 refine GOps.done (hK _ ?_); clear hK K
 refine End.kp [2, 3, 8, 9, 10, 38] ?_
 refine Run.cond _ rfl (fun hb => ?_) (fun hb => ?_)
 ·have hl2 : (Sol.load cs (Sol.new n)).2 = false := by simpa using hb
  have hno : ∀ M, ¬ P M := by
   rcases hld with ⟨l1, _⟩ | ⟨_, l1⟩
   ·rw [l1] at hl2; simp at hl2
   ·exact l1
  have hq0 : loc1[0]? = some resB := by rw [hs1 _ (by unfold SPl; omega), loc0_head _ _ (by omega)]; rfl
  have hq6 : loc1[6]? = some noneB := by rw [hs1 _ (by unfold SPl; omega), loc0_head _ _ (by omega)]; rfl
  have hqself : ∀ X, (loc1.set 0 X)[0]? = some X := fun X => List.getElem?_set_self (List.getElem?_eq_some_iff.1 hq0).1
  refine Run.seq ?_
  have fx := ai hqself (ai hq6 (ai hq0 (ai zZa (ai zTn (ai zNn (ai w3 (ai w2 (ai w1 ft))))))))
  refine Run.region rfl fun K hK => GOps.simK 1 ?_
  refine GOps.litF (rows := [[.bool false, .sl []]]) ?_ rfl rfl (by simp only [litF, fx] <;> rfl)
  refine GOps.sim ?_
  refine GOps.done (hK _ ?_); clear hK K
  refine End.kp [8] ?_
  have fx := ai hqself (ai hq6 (ai hq0 (ai zZa (ai zTn (ai zNn (ai w3 (ai w2 (ai w1 ft))))))))
  refine Run.resC hQ ?_
  exact ⟨rfl, true, false, [], [[]], 0, rfl, Nat.zero_le _, fun h => by simp at h, fun _ => ⟨rfl, fun _ => hno, fun h => by simp at h⟩⟩
 ·obtain ⟨ld1, ⟨B2, ld2⟩, ld3, ld4, ld5⟩ : (Sol.load cs (Sol.new n)).2 = true ∧ (∃ B', Ld P (Sol.load cs (Sol.new n)).1 B') ∧ (∀ c ∈ cs, Cov (Sol.load cs (Sol.new n)).1 c) ∧ (∀ e, Cov (Sol.new n) e → Cov (Sol.load cs (Sol.new n)).1 e) ∧ (Sol.load cs (Sol.new n)).1.n = (Sol.new n).n := by
   rcases hld with l1 | ⟨l1, _⟩
   ·exact l1
   ·rw [l1] at hb; simp at hb
  rw [ld1] at hb
  replace hI0 := hI0 ld1
  have hA1 := hkp.at'
  have hbase : Base P (Sol.load cs (Sol.new n)).1 B := ⟨hsw, ld2.base.calm, ld2.base.hst, ld2.base.hsh, ld2.base.n1, ld2.base.n2, ld2.base.snd⟩
  have hcl1 : (Sol.load cs (Sol.new n)).1.cl.length ≤ cs.length := by have : (Sol.new n).cl.length = 0 := rfl; omega
  have hl1' : loc1.length = cs.length + limit + (2 * n + 2) + 12 := by rw [hl1, loc0_len]
  have hsp1 : ∀ k, (Sol.load cs (Sol.new n)).1.cl.length ≤ k → k < cs.length + limit + 1 → loc1[k + (2 * n + 2) + 11]? = some .dead := fun k k1 k2 => by
   by_cases e : k < cs.length + limit
   ·have := hkp.spare _ (Nat.le_refl _) (fun j j1 j2 => new_spare n _ up j (Nat.zero_le _) j2) k k1 e
    simp only [look_zero] at this
    exact this
   ·rw [hs1 _ (by unfold SPl; show ¬ (_ ∨ _ ∨ (11 ≤ _ ∧ k + (2 * n + 2) + 11 < cs.length + limit + (2 * n + 2) + 11)); omega)]
    exact loc0_sp n _ k2
  have h0 : loc1[0]? = some resB := by rw [hs1 _ (by unfold SPl; omega), loc0_head _ _ (by omega)]; rfl
  have h6 : loc1[6]? = some noneB := by rw [hs1 _ (by unfold SPl; omega), loc0_head _ _ (by omega)]; rfl
  have h10 : loc1[10]? = some .dead := by rw [hs1 _ (by unfold SPl; omega), loc0_head _ _ (by omega)]; rfl
  have hRF := RunF.load (K := cs.length + limit) (n := n) hl1' hA1 ld5 (by omega) h0 h6 hsp1
  generalize (Sol.load cs (Sol.new n)).1 = S0 at *
  refine Run.skip ?_
  refine End.kp [2, 3, 8, 9, 10] ?_
  refine Run.seq ?_
  have fx := ai zZa (ai zTn (ai zNn (ai w3 (ai w2 (ai w1 ft)))))
  refine Run.region rfl fun K hK => GOps.atDead (v := .ptr 0 10 0) (st1 := ⟨_, loc1.set 10 resB, up⟩) 10 (by simpa only [ASt.fr, look_zero] using h10) (by simp only [stepD, allocD, fx, Option.map_some] <;> rfl) rfl rfl ?_
  refine GOps.done (hK _ ?_); clear hK K
  refine End.kp [2, 3, 8, 9, 10, 11] ?_
  refine Run.block ?_
  refine Run.ghost (keepL [(2, .i (limit : Nat)), (3, .im (.bool plain)), (8, .ptr 0 0 0), (9, .ptr 0 5 0), (10, .ptr 0 6 0), (11, .ptr 0 10 0)] ⟨rfl, rfl, rfl, rfl, rfl, rfl, trivial⟩) ?_
  change Run _ _ _ _ _ (⟨_, loc1.set 10 resB, up⟩ : ASt)
  have hth := @thawAt 141 [(2, .i (limit : Nat)), (3, .im (.bool plain)), (8, .ptr 0 0 0), (9, .ptr 0 5 0), (10, .ptr 0 6 0), (11, .ptr 0 10 0)] (loc1.set 10 resB) up (by rw [get_set _ _ _ _ (by omega), if_pos rfl])
  rw [List.set_set, List.length_set, hl1'] at hth
  refine Run.ghost hth ?_
  refine Run.loop (fun m st => ∃ (S : Sol) (V : Ver) (B : Nat) (loc : List AObj) (pr : List (List Int)) (q : Nat), m = (limit - q) * (n + 2) + (n - S.tr.length) ∧ (RunF n (cs.length + limit) loc up S V pr q ∧ Base P S B ∧ B ≤ 2 * (cs.length + q) ∧ S.cl.length ≤ cs.length + q ∧ pr.length = q ∧ q ≤ limit ∧ (∀ c ∈ cs, Cov S c) ∧ I S q) ∧ st = ⟨[(2, .i (limit : Nat)), (3, .im (.bool plain)), (8, .ptr 0 0 0), (9, .ptr 0 5 0), (10, .ptr 0 6 0), (11, .ptr 0 10 0)], loc, up⟩) ((limit - 0) * (n + 2) + (n - S0.tr.length)) ⟨S0, V, B, _, [], 0, rfl, ⟨hRF, hbase, by omega, by omega, rfl, by omega, ld3, hI0⟩, rfl⟩ fun m st hL => ?_
  clear hRF hbase ld3 hI0 hsp1 hkp hA1
  obtain ⟨S, V, B, loc, pr, q, hmm, ⟨hF, hBs, hB2, hcl2, hpr, hql, hcov, hIq⟩, rfl⟩ := hL
  subst m
  have hsn := hF.sn
  have htn := hBs.sw.len.trn
  refine Run.block ?_
  refine Run.seq ?_
  have fx := ai zZa (ai zTn (ai zNn (ai w3 (ai w2 (ai w1 ft)))))
  refine Run.region rfl fun K hK => GOps.sim ?_
  refine GOps.call rfl rfl rfl rfl (by kernel_rfl) (ACalls.sim ?_)
  refine (spread2_ok S { V with K := S.cl.length } B (loc :: up) (hF.at'.ver _) hBs.sw (by omega) (Nat.le_refl _) (S.n + 1) (by omega)).mono fun v u hv => ?_
  obtain ⟨V1, rfl, hkp1, hsw1⟩ := hv
  obtain ⟨loc1, rfl, hF1, hs1⟩ := hF.keep hkp1.at' hkp1.els hkp1.n hkp1.cl
  obtain ⟨hE, hno, hso⟩ := hBs.spread (f := S.n + 1) (by omega) hsw1
  have hIq1 := hIs _ _ q hE hIq
  have hcov1 : ∀ c ∈ cs, Cov (Sol.spread (S.n + 1) S).1 c := fun c hc => (hcov c hc).ext hE
  have hn1 := hE.n
  have hc1 := hE.cln
  have ht1 := hE.trp
  clear hkp1
  generalize Sol.spread (S.n + 1) S = R at *
  obtain ⟨S1, ro⟩ := R
  obtain ⟨r, hr⟩ : ∃ r, r = spr ro := ⟨_, rfl⟩
  have hr' : spr (S1, ro).2 = r := hr.symm
  rw [hr']
  simp only at hF1 hno hso hIq1 hcov1 hn1 hc1 ht1 hsw1 hE
  have hbx := hF1.at'.box
  have hbx' : loc1[5]? = some (sbox S1 V1) := by simpa only [look_zero] using hbx
  have fx := ai hbx' (ai hbx (ai zZa (ai zTn (ai zNn (ai w3 (ai w2 (ai w1 ft)))))))
  refine ⟨_, _, rfl, GOps.sim ?_⟩
  refine GOps.done (hK _ ?_); clear hK K
  refine End.kp [2, 3, 8, 9, 10, 11, 12] ?_
  refine Run.seq ?_
  refine Run.block ?_
  refine Run.seq ?_
  rcases Bool.eq_false_or_eq_true (ro.isNone) with hs7 | hs7
  ·skip
   have hn0 : ro = none := by simpa using hs7
   have hr1 : r = -1 := by rw [hr, hn0]; rfl
   subst hr1
   obtain ⟨hB1, hh1⟩ := hno hn0
   have hdc := hB1.decide hh1
   have d0 := True.intro
   have d1 := True.intro
   have e1 := True.intro
   have fx := ai (@ge_iff_le Int _) (ai e1 (ai d1 (ai d0 (ai hs7 (ai hbx' (ai hbx (ai zZa (ai zTn (ai zNn (ai w3 (ai w2 (ai w1 ft))))))))))))
   refine Run.go ?_
   refine End.kp [2, 3, 8, 9, 10, 11, 12, 44] ?_
   refine Run.cond _ rfl (fun hb => ?_) (fun hb => ?_)
   ·have hb2 := hb
    simp at hb
   ·have hb2 := hb
    refine Run.seq ?_
    refine Run.region rfl fun K hK => GOps.sim ?_
    refine GOps.call rfl rfl rfl rfl (by kernel_rfl) (ACalls.sim ?_)
    refine (decide_ok S1 { V1 with K := S1.cl.length } B (loc1 :: up) (hF1.at'.ver _) hB1.sw hB1.n1 hB1.n2 (st_le hB1.calm.inv hB1.hst)).mono fun v u hv => ?_
    obtain ⟨V2, rfl, hkp2⟩ := hv
    obtain ⟨loc2, rfl, hF2, hs2⟩ := hF1.keep hkp2.at' hkp2.els hkp2.n hkp2.cl
    have fx := ai (@ge_iff_le Int _) (ai e1 (ai d1 (ai d0 (ai hs7 (ai hbx' (ai hbx (ai zZa (ai zTn (ai zNn (ai w3 (ai w2 (ai w1 ft))))))))))))
    refine ⟨_, _, rfl, GOps.sim ?_⟩
    refine GOps.done (hK _ ?_); clear hK K
    refine End.kp [2, 3, 8, 9, 10, 11, 12, 63] ?_
    refine Run.cond _ rfl (fun hb => ?_) (fun hb => ?_)
    ·obtain ⟨g1, g2, g3, g4, g5, g6, g7⟩ := hdc.2 hb
     refine Run.exit rfl ?_
     refine End.lp ?_
     refine ⟨(limit - q) * (n + 2) + (n - S1.decide.1.tr.length), _, Nat.add_lt_add_left (by omega) _, keepL [(2, .i (limit : Nat)), (3, .im (.bool plain)), (8, .ptr 0 0 0), (9, .ptr 0 5 0), (10, .ptr 0 6 0), (11, .ptr 0 10 0)] ⟨rfl, rfl, rfl, rfl, rfl, rfl, trivial⟩, S1.decide.1, V2, B, loc2, pr, q, rfl, ⟨hF2, g1, hB2, ?_, hpr, hql, fun c hc => g7 c (hcov1 c hc), hId S1 B q hB1 (by rw [hn1, hsn]) hh1 hcov1 hIq1 hb⟩, rfl⟩
     rw [g4, hc1]
     exact hcl2
    ·obtain ⟨f1, f2⟩ := hdc.1 hb
     have hout2 := hF2.out
     refine Run.seq ?_
     have fx := ai hout2 (ai (@ge_iff_le Int _) (ai e1 (ai d1 (ai d0 (ai hs7 (ai hbx' (ai hbx (ai zZa (ai zTn (ai zNn (ai w3 (ai w2 (ai w1 ft)))))))))))))
     refine Run.go ?_
     refine End.kp [2, 3, 8, 9, 10, 11, 12, 70] ?_
     refine Run.cond _ rfl (fun hb => ?_) (fun hb => ?_)
     ·have hb3 := hb
      refine Run.seq ?_
      refine Run.go ?_
      obtain ⟨l3, hl3⟩ : ∃ l3, l3 = loc2.set 10 (fndB true .nils q) := ⟨_, rfl⟩
      change End _ _ _ _ (⟨_, loc2.set 10 (fndB true .nils q), up⟩ : ASt)
      rw [← hl3]
      have hF2l := hF2.len
      have hget : ∀ j, l3[j]? = if j = 10 then some (fndB true .nils q) else loc2[j]? := fun j => by rw [hl3, get_set _ _ _ _ (by omega)]
      have b5 : l3[5]? = some (sbox S1.decide.1 V2) := by rw [hget, if_neg (by omega)]; have := hF2.at'.box; simp only [look_zero] at this; exact this
      unfold sbox at b5
      rw [hF2.sn] at b5
      have b2 : l3[2]? = some (.vec 138 0 (i8s S1.val)) := by rw [hget, if_neg (by omega)]; have := hF2.at'.val; rw [f1] at this; simp only [look_zero] at this; exact this
      have b10 : l3[10]? = some (fndB true .nils q) := by rw [hget, if_pos rfl]
      have b0 : l3[0]? = some resB := by rw [hget, if_neg (by omega)]; exact hF2.res
      have s1n : (1 : Int) ≤ ((n + 1 : Nat) : Int) := by omega
      have s1m : 1 ≤ n + 1 := by omega
      refine End.kp [8, 9, 11] ?_
      refine Run.seq ?_
      refine Run.seq ?_
      have fx := ai s1m (ai s1n (ai b5 (ai hout2 (ai (@ge_iff_le Int _) (ai e1 (ai d1 (ai d0 (ai hs7 (ai hbx' (ai hbx (ai zZa (ai zTn (ai zNn (ai w3 (ai w2 (ai w1 ft))))))))))))))))
      refine Run.go ?_
      refine End.kp [8, 11, 80, 81, 82] ?_
      refine Run.block ?_
      refine Run.ghost (keepL [(8, .ptr 0 0 0), (11, .ptr 0 10 0), (80, .vs 0 2 1 n 0), (81, .i (n : Nat)), (82, .i (0 : Nat))] ⟨rfl, rfl, rfl, rfl, rfl, trivial⟩) ?_
      refine Run.ghost (thawM (q := q) (loc := l3) b10) ?_
      obtain ⟨mv, hmv⟩ : ∃ mv : List Bool, mv = (S1.val.drop 1).map fun v => v == 1 := ⟨_, rfl⟩
      have hml : mv.length = n := by rw [hmv]; simp [hB1.sw.len.val, hn1, hsn]
      obtain ⟨Lm, hLm⟩ : ∃ Lm, Lm = l3.length := ⟨_, rfl⟩
      have hLm1 : 10 < Lm := by rw [hLm, hl3, List.length_set]; omega
      rw [← hLm]
      refine Run.loop (fun m st => ∃ (i : Nat) (l4 : List AObj), m = n - i ∧ i ≤ n ∧ (l4.length = Lm + 1 ∧ l4[0]? = some resB ∧ l4[2]? = some (.vec 138 0 (i8s S1.val)) ∧ l4[10]? = some (fndB true (.ms 0 Lm i) q) ∧ l4[Lm]? = some (.row 4 1 (bools (mv.take i)) 0)) ∧ st = ⟨[(8, .ptr 0 0 0), (11, .ptr 0 10 0), (80, .vs 0 2 1 n 0), (81, .i (n : Nat)), (82, .i (i : Nat))], l4, up⟩) n ⟨0, _, rfl, by omega, ⟨?_, ?_, ?_, ?_, ?_⟩, rfl⟩ fun m st hJ => ?_
      ·rw [List.length_append, List.length_set, ← hLm]; rfl
      ·rw [List.getElem?_append_left (by rw [List.length_set]; omega), get_set _ _ _ _ (by omega), if_neg (by omega)]; exact b0
      ·rw [List.getElem?_append_left (by rw [List.length_set]; omega), get_set _ _ _ _ (by omega), if_neg (by omega)]; exact b2
      ·rw [List.getElem?_append_left (by rw [List.length_set]; omega), get_set _ _ _ _ (by omega), if_pos rfl]
      ·rw [List.getElem?_append_right (by rw [List.length_set]; omega), List.length_set, ← hLm, Nat.sub_self]; rfl
      obtain ⟨i, l4, hmi, hin, ⟨c1, c0, c2, c10, cL⟩, rfl⟩ := hJ
      subst m
      unfold fndB at c10
      refine Run.seq ?_
      have fx := ai cL (ai c10 (ai c2 (ai s1m (ai s1n (ai b5 (ai hout2 (ai (@ge_iff_le Int _) (ai e1 (ai d1 (ai d0 (ai hs7 (ai hbx' (ai hbx (ai zZa (ai zTn (ai zNn (ai w3 (ai w2 (ai w1 ft)))))))))))))))))))
      refine Run.go ?_
      refine End.kp [8, 11, 80, 81, 82, 83] ?_
      refine Run.seq ?_
      refine Run.cond _ rfl (fun hb => ?_) (fun hb => ?_)
      ·have hb4 := of_decide_eq_true hb
       have hil : i < n := by omega
       have gi : (i8s S1.val)[1 + i]? = some (.im (.int .i8 (S1.val.getD (1 + i) 0))) := i8s_get _ _ (by rw [hB1.sw.len.val]; omega)
       have hii : (i : Int) < (n : Int) := by omega
       have wi := nsucc hil (by omega)
       have hbl : (bools (mv.take i)).length = i := by simp; omega
       have hap : (i + 1) * 1 ≤ 140737488355328 := by omega
       have hx10 : ∀ X, (l4.set Lm X)[10]? = some (.box [.im (.bool true), .im (.bool true), .ms 0 Lm i, .nils, .i (q : Nat)]) := fun X => by rw [List.getElem?_set_ne (by omega)]; exact c10
       have hnx : bools (mv.take (i + 1)) = bools (mv.take i) ++ [[.bool (S1.val.getD (1 + i) 0 == 1)]] := by
        have : mv[i]? = some (S1.val.getD (1 + i) 0 == 1) := by rw [hmv, List.getElem?_map, List.getElem?_drop, getD_some 0 (by rw [hB1.sw.len.val]; omega)]; rfl
        rw [List.take_add_one, this]
        simp
       refine Run.skip ?_
       refine End.kp [8, 11, 80, 81, 82] ?_
       refine Run.seq ?_
       refine Run.block ?_
       refine Run.seq ?_
       have fx := ai hx10 (ai hil (ai hap (ai hbl (ai wi (ai hii (ai gi fx))))))
       refine Run.go ?_
       refine End.kp [8, 11, 14, 80, 81, 82] ?_
       refine Run.region rfl fun K hK => GOps.simK 4 ?_
       refine GOps.litF (rows := [[.bool (S1.val.getD (1 + i) 0 == 1)]]) ?_ rfl rfl (by simp only [litF, fx] <;> rfl)
       refine GOps.sim ?_
       refine GOps.done (hK _ ?_); clear hK K
       refine End.blk ?_
       refine End.kp [8, 11, 80, 81, 82] ?_
       have fx := ai hx10 (ai hil (ai hap (ai hbl (ai wi (ai hii (ai gi (ai cL (ai c10 (ai c2 (ai s1m (ai s1n (ai b5 (ai hout2 (ai (@ge_iff_le Int _) (ai e1 (ai d1 (ai d0 (ai hs7 (ai hbx' (ai hbx (ai zZa (ai zTn (ai zNn (ai w3 (ai w2 (ai w1 ft))))))))))))))))))))))))))
       refine Run.go ?_
       refine End.lp ?_
       refine ⟨n - (i + 1), _, by omega, keepL [(8, .ptr 0 0 0), (11, .ptr 0 10 0), (80, .vs 0 2 1 n 0), (81, .i (n : Nat)), (82, .i (i + 1 : Nat))] ⟨rfl, rfl, rfl, rfl, rfl, trivial⟩, i + 1, _, rfl, by omega, ⟨?_, ?_, ?_, ?_, ?_⟩, rfl⟩
       ·simp only [List.length_set]; exact c1
       ·rw [get_set _ _ _ _ (by rw [List.length_set]; omega), if_neg (by omega), get_set _ _ _ _ (by omega), if_neg (by omega)]; exact c0
       ·rw [get_set _ _ _ _ (by rw [List.length_set]; omega), if_neg (by omega), get_set _ _ _ _ (by omega), if_neg (by omega)]; exact c2
       ·rw [get_set _ _ _ _ (by rw [List.length_set]; omega), if_pos rfl]; try rfl
       ·rw [get_set _ _ _ _ (by rw [List.length_set]; omega), if_neg (by omega), get_set _ _ _ _ (by omega), if_pos rfl, hnx]; try rfl
      ·have hb4 := of_decide_eq_false hb
       have hie : i = n := by omega
       subst hie
       rw [List.take_of_length_le (by omega)] at cL
       refine Run.exit rfl ?_
       refine End.kp [8, 11] ?_
       refine Run.seq ?_
       refine Run.ghost (Ghost.boxShut (j := 10) (i := 2) (r := Lm) (m := i) c10 rfl cL (by simp; omega)) ?_
       obtain ⟨l5, hl5⟩ : ∃ l5, l5 = (l4.set Lm (.row 4 1 (bools mv) (bools mv).length)).set 10 (fndB true (.im (.sl (bools mv))) q) := ⟨_, rfl⟩
       change Run _ _ _ _ _ (⟨_, (l4.set Lm (.row 4 1 (bools mv) (bools mv).length)).set 10 (fndB true (.im (.sl (bools mv))) q), up⟩ : ASt)
       rw [← hl5]
       have hl5n : 10 < l5.length := by rw [hl5]; simp only [List.length_set]; omega
       have d10 : l5[10]? = some (fndB true (.im (.sl (bools mv))) q) := by rw [hl5, get_set _ _ _ _ (by rw [List.length_set]; omega), if_pos rfl]
       have d0' : l5[0]? = some resB := by rw [hl5, get_set _ _ _ _ (by rw [List.length_set]; omega), if_neg (by omega), get_set _ _ _ _ (by omega), if_neg (by omega)]; exact c0
       have dself : ∀ X, (l5.set 0 X)[0]? = some X := fun X => List.getElem?_set_self (by omega)
       unfold fndB at d10
       have fx := ai dself (ai d0' (ai d10 (ai cL (ai c10 (ai c2 (ai s1m (ai s1n (ai b5 (ai hout2 (ai (@ge_iff_le Int _) (ai e1 (ai d1 (ai d0 (ai hs7 (ai hbx' (ai hbx (ai zZa (ai zTn (ai zNn (ai w3 (ai w2 (ai w1 ft))))))))))))))))))))))
       refine Run.go ?_
       refine End.kp [8] ?_
       refine Run.resC hQ ?_
       refine ⟨rfl, true, true, mv, [], q, rfl, hql, fun _ => ⟨rfl, rfl, hml, fun c hc => ?_⟩, fun h => by simp at h⟩
       have hck := hcs.cls c hc
       have hmd := hB1.model hh1 f2 (fun l hl => (hck.2.2 l hl).1) (hcov1 c hc)
       obtain ⟨l, h1, h2⟩ := hmd
       refine ⟨l, h1, ?_⟩
       obtain ⟨z1, z2⟩ := hck.2.2 l h1
       have hge : mv.getD (l.natAbs - 1) false = S1.mdl l.natAbs := by
        have hv1 := hB1.sw.len.val
        rw [hn1, hsn] at hv1
        rw [hmv, List.getD_eq_getElem?_getD, List.getElem?_map, List.getElem?_drop, show 1 + (l.natAbs - 1) = l.natAbs by omega, getD_some 0 (by omega)]
        show (S1.val.getD l.natAbs 0 == 1) = decide (S1.val.getD l.natAbs 0 = 1)
        rw [Bool.eq_iff_iff]
        simp
       show mv.getD (l.natAbs - 1) false = _
       rw [hge]
       exact h2
     ·have hb3 := hb
      simp at hb
  ·skip
   obtain ⟨k, hk⟩ : ∃ k, ro = some k := by
    cases ro with
    | none => simp at hs7
    | some k => exact ⟨k, rfl⟩
   have hr1 : r = (k : Int) := by rw [hr, hk]; rfl
   subst hr1
   have hBd := hso k hk
   obtain ⟨eb, heb⟩ : ∃ eb, (((S1.st.length : Nat) : Int) == 0) = eb := ⟨_, rfl⟩
   have d0 : decide ((0 : Int) ≤ (k : Int)) = true := decide_eq_true (by omega)
   have d1 : decide ((k : Int) < 0) = false := decide_eq_false (by omega)
   have e1 := heb
   have fx := ai (@ge_iff_le Int _) (ai e1 (ai d1 (ai d0 (ai hs7 (ai hbx' (ai hbx (ai zZa (ai zTn (ai zNn (ai w3 (ai w2 (ai w1 ft))))))))))))
   refine Run.go ?_
   refine End.kp [2, 3, 8, 9, 10, 11, 12, 44] ?_
   refine Run.cond _ rfl (fun hb => ?_) (fun hb => ?_)
   ·have hz : S1.st.length = 0 := by
     have h2 : eb = true := hb
     rw [h2] at heb
     have := eq_of_beq heb
     omega
    have hno : ∀ M, ¬ P M := fun M hM => by have := hBd.pos hM; omega
    have hout1 := hF1.out
    have hres1 := hF1.res
    have hsix1 := hF1.six
    have hprf1 := hF1.prf
    have hF1l := hF1.len
    have ho3' : ∀ X, (loc1.set (cs.length + limit + (2 * n + 2) + 12) X)[10]? = some (outB (cs.length + limit + (2 * n + 2) + 12) pr.length q) := fun X => by rw [List.getElem?_set_ne (by omega)]; exact hout1
    have ho4' : ∀ X Y, ((loc1.set (cs.length + limit + (2 * n + 2) + 12) X).set 10 Y)[10]? = some Y := fun X Y => List.getElem?_set_self (by rw [List.length_set]; omega)
    have hprl : (stepsR pr).length = pr.length := by simp
    have hap : (pr.length + 1) * 32 ≤ 140737488355328 := by omega
    refine Run.seq ?_
    have fx := ai hap (ai hprl (ai ho4' (ai ho3' (ai hprf1 (ai hsix1 (ai hout1 fx))))))
    refine Run.region rfl fun K hK => GOps.simK 3 ?_
    refine GOps.litF (rows := [[.bool false, .sl []]]) ?_ rfl rfl (by simp only [litF, fx] <;> rfl)
    refine GOps.sim ?_
    refine GOps.done (hK _ ?_); clear hK K
    refine End.kp [8, 11] ?_
    refine Run.seq ?_
    obtain ⟨l4, hl4⟩ : ∃ l4, l4 = (loc1.set (cs.length + limit + (2 * n + 2) + 12) (.row 135 2 (stepsR (pr ++ [[]])) 0)).set 10 (.box [.im (.bool true), .im (.bool false), .nils, .ms 0 (cs.length + limit + (2 * n + 2) + 12) (pr.length + 1), .i (q : Nat)]) := ⟨_, rfl⟩
    change Run _ _ _ _ _ (⟨_, ((loc1.set (cs.length + limit + (2 * n + 2) + 12) (.row 135 2 (stepsR pr ++ [[.bool false, .sl []]]) 0)).set 10 (.box [.im (.bool true), .im (.bool false), .nils, .ms 0 (cs.length + limit + (2 * n + 2) + 12) pr.length, .i (q : Nat)])).set 10 (.box [.im (.bool true), .im (.bool false), .nils, .ms 0 (cs.length + limit + (2 * n + 2) + 12) (pr.length + 1), .i (q : Nat)]), up⟩ : ASt)
    rw [List.set_set, show stepsR pr ++ [[.bool false, .sl []]] = stepsR (pr ++ [[]]) by unfold stepsR; rw [List.map_append]; rfl, ← hl4]
    have c10 : l4[10]? = some (.box [.im (.bool true), .im (.bool false), .nils, .ms 0 (cs.length + limit + (2 * n + 2) + 12) (pr.length + 1), .i (q : Nat)]) := by rw [hl4, get_set _ _ _ _ (by rw [List.length_set]; omega), if_pos rfl]
    have cE : l4[(cs.length + limit + (2 * n + 2) + 12)]? = some (.row 135 2 (stepsR (pr ++ [[]])) 0) := by rw [hl4, get_set _ _ _ _ (by rw [List.length_set]; omega), if_neg (by omega), get_set _ _ _ _ (by omega), if_pos rfl]
    have c0 : l4[0]? = some resB := by rw [hl4, get_set _ _ _ _ (by rw [List.length_set]; omega), if_neg (by omega), get_set _ _ _ _ (by omega), if_neg (by omega)]; exact hres1
    have hl4n : l4.length = loc1.length := by rw [hl4, List.length_set, List.length_set]
    refine Run.ghost (Ghost.boxShut (j := 10) (i := 3) (r := (cs.length + limit + (2 * n + 2) + 12)) (m := pr.length + 1) c10 rfl cE (by simp)) ?_
    obtain ⟨l5, hl5⟩ : ∃ l5, l5 = (l4.set (cs.length + limit + (2 * n + 2) + 12) (.row 135 2 (stepsR (pr ++ [[]])) (stepsR (pr ++ [[]])).length)).set 10 (.box [.im (.bool true), .im (.bool false), .nils, .im (.sl (stepsR (pr ++ [[]]))), .i (q : Nat)]) := ⟨_, rfl⟩
    change Run _ _ _ _ _ (⟨_, (l4.set (cs.length + limit + (2 * n + 2) + 12) (.row 135 2 (stepsR (pr ++ [[]])) (stepsR (pr ++ [[]])).length)).set 10 (.box [.im (.bool true), .im (.bool false), .nils, .im (.sl (stepsR (pr ++ [[]]))), .i (q : Nat)]), up⟩ : ASt)
    rw [← hl5]
    have hl5n : 10 < l5.length := by rw [hl5]; simp only [List.length_set]; omega
    have d10 : l5[10]? = some (.box [.im (.bool true), .im (.bool false), .nils, .im (.sl (stepsR (pr ++ [[]]))), .i (q : Nat)]) := by rw [hl5, get_set _ _ _ _ (by rw [List.length_set]; omega), if_pos rfl]
    have d0' : l5[0]? = some resB := by rw [hl5, get_set _ _ _ _ (by rw [List.length_set]; omega), if_neg (by omega), get_set _ _ _ _ (by omega), if_neg (by omega)]; exact c0
    have dself : ∀ X, (l5.set 0 X)[0]? = some X := fun X => List.getElem?_set_self (by omega)
    have fx := ai dself (ai d0' (ai d10 (ai hap (ai hprl (ai ho4' (ai ho3' (ai hprf1 (ai hsix1 (ai hout1 (ai (@ge_iff_le Int _) (ai e1 (ai d1 (ai d0 (ai hs7 (ai hbx' (ai hbx (ai zZa (ai zTn (ai zNn (ai w3 (ai w2 (ai w1 ft))))))))))))))))))))))
    refine Run.go ?_
    refine End.kp [8] ?_
    refine Run.resC hQ ?_
    exact ⟨rfl, true, false, [], pr ++ [[]], q, rfl, hql, fun h => by simp at h, fun _ => ⟨rfl, fun _ => hno, fun h => by simp at h⟩⟩
   ·have hb2 := hb
    have hps : 0 < S1.st.length := by
     have h2 : eb = false := hb
     rw [h2] at heb
     have := ne_of_beq_false heb
     omega
    refine Run.seq ?_
    refine Run.region rfl fun K hK => GOps.sim ?_
    refine GOps.done (hK _ ?_); clear hK K
    refine End.kp [2, 3, 8, 9, 10, 11, 12, 63] ?_
    refine Run.cond _ rfl (fun hb => ?_) (fun hb => ?_)
    ·have hb3 := hb
     simp at hb
    ·have hb3 := hb
     refine Run.seq ?_
     have fx := ai (@ge_iff_le Int _) (ai e1 (ai d1 (ai d0 (ai hs7 (ai hbx' (ai hbx (ai zZa (ai zTn (ai zNn (ai w3 (ai w2 (ai w1 ft))))))))))))
     refine Run.go ?_
     refine End.kp [2, 3, 8, 9, 10, 11, 12, 70] ?_
     refine Run.cond _ rfl (fun hb => ?_) (fun hb => ?_)
     ·have hb4 := hb
      simp at hb
     ·have hb4 := hb
      have hout1 := hF1.out
      have hres1 := hF1.res
      have hF1l := hF1.len
      have rself : ∀ X, (loc1.set 0 X)[0]? = some X := fun X => List.getElem?_set_self (by omega)
      have wq : IntKind.i64.wrap ((q : Int) + 1) = ((q + 1 : Nat) : Int) := by rw [wrap64 (by omega)]; rfl
      refine Run.seq ?_
      have fx := ai wq (ai rself (ai hres1 (ai hout1 fx)))
      refine Run.go ?_
      refine End.kp [2, 3, 8, 9, 10, 11, 12, 95] ?_
      refine Run.cond _ rfl (fun hb => ?_) (fun hb => ?_)
      ·have hq : q = limit := by have := eq_of_beq hb; omega
       refine Run.seq ?_
       refine Run.go ?_
       refine End.kp [8] ?_
       refine Run.resC hQ ?_
       exact ⟨rfl, false, false, [], [], limit, rfl, Nat.le_refl _, fun h => by simp at h, fun _ => ⟨rfl, fun h => by simp at h, fun _ => ⟨rfl, S1, B, k, hBd, by rw [hn1, hsn], by rw [← hq]; exact hIq1⟩⟩⟩
      ·have hq : q < limit := by have := ne_of_beq_false hb; omega
       refine Run.skip ?_
       refine End.blk ?_
       refine End.kp [2, 3, 8, 9, 10, 11, 12] ?_
       refine Run.seq ?_
       refine Run.go ?_
       obtain ⟨loc2, hl2⟩ : ∃ l, l = loc1.set 10 (outB (cs.length + limit + (2 * n + 2) + 12) pr.length (q + 1)) := ⟨_, rfl⟩
       change End _ _ _ _ (⟨_, loc1.set 10 (outB (cs.length + limit + (2 * n + 2) + 12) pr.length (q + 1)), up⟩ : ASt)
       rw [← hl2]
       have hF2 : RunF n (cs.length + limit) loc2 up S1 V1 pr (q + 1) := by rw [hl2]; exact hF1.count (q + 1)
       have hF2l := hF2.len
       have hck1 : S1.cl.length < cs.length + limit := by omega
       have hAll : ∀ (T : List AObj), (∀ L, T.all (AObj.under L) = true) → ∀ L, loc2.length ≤ L → (loc2 ++ T).all (AObj.under L) = true := fun T hT L hL => by rw [List.all_append, hF2.under hL, hT L]; rfl
       have hS1n : S1.n = n := by rw [hn1, hsn]
       refine End.kp [2, 3, 8, 9, 10, 11, 12] ?_
       refine Run.seq ?_
       refine Run.region rfl fun K hK => GOps.sim ?_
       refine GOps.call rfl rfl rfl rfl (by kernel_rfl) (ACalls.sim ?_)
       refine (learn_ok S1 V1 B loc2 up hF2.at' hBd.sw k hBd.con hps hBd.hst).mono fun v u hv => ?_
       obtain ⟨c, to, g, es, rfl, rfl, hL, hcn, hMc⟩ := hv
       refine ⟨_, _, rfl, GOps.sim ?_⟩
       refine GOps.done (hK _ ?_); clear hK K
       refine End.kp [2, 3, 8, 9, 10, 11, 15, 16] ?_
       refine Run.seq ?_
       refine Run.seq ?_
       refine Run.go ?_
       refine End.kp [2, 3, 8, 9, 10, 11, 15, 16, 112] ?_
       refine Run.cond _ rfl (fun hb => ?_) (fun hb => ?_)
       ·have hplain : plain = true := hb
        have fx := ai wq (ai rself (ai hres1 (ai hout1 (ai (@ge_iff_le Int _) (ai e1 (ai d1 (ai d0 (ai hs7 (ai hbx' (ai hbx (ai zZa (ai zTn (ai zNn (ai w3 (ai w2 (ai w1 ft))))))))))))))))
        refine Run.region rfl fun K hK => GOps.sim ?_
        refine GOps.call rfl rfl rfl rfl (by kernel_rfl) (ACalls.sim ?_)
        refine (refute_ok S1 V1 B (loc2 ++ [.map es, .vec 3 g (i64s c)]) up (hF2.at'.app _) hBd.sw hBd.hst).mono fun v u hv => ?_
        obtain ⟨rfl, rfl⟩ := hv
        refine ⟨_, _, rfl, GOps.sim ?_⟩
        refine GOps.done (hK _ ?_); clear hK K
        have hL0 := refuted_lesson hBd.sw hBd.con.inv hBd.hst hps
        have hM0 : ∀ M, Snd M S1 → HoldsC M S1.refuted := fun M hM => refuted_holds hBd.sw hBd.con hM hBd.hst
        have hrl := refuted_len S1
        have hst1 := hBd.sw.len.stn
        rw [show loc2 ++ [AObj.map es, .vec 3 g (i64s c), .row 3 1 (ints S1.refuted) 0] = loc2 ++ [AObj.map es, .vec 3 g (i64s c)] ++ [.row 3 1 (ints S1.refuted) 0] by simp]
        obtain ⟨tl, htl⟩ : ∃ tl, tl = [AObj.map es, .vec 3 g (i64s c)] := ⟨_, rfl⟩
        rw [← htl]
        have htu : ∀ L, tl.all (AObj.under L) = true := fun L => by
         rw [htl]
         have := unders_ims L (c.map fun x => Im.int .i64 x)
         simp only [List.all_cons, List.all_nil, AObj.under, Bool.and_true, Bool.true_and]
         exact this
        obtain ⟨cp, gv, o, hcp, htk, hLd⟩ := hF2.spot hck1 S1.refuted
        have hlt := hLd.lt
        refine End.move (rowVecM (e := [(2, .i (limit : Nat)), (3, .im (.bool plain)), (8, .ptr 0 0 0), (9, .ptr 0 5 0), (10, .ptr 0 6 0), (11, .ptr 0 10 0), (15, .vs 0 (loc2 ++ tl).length 0 S1.st.length 0), (16, .i ((S1.st.length : Int) - 1))]) (L := loc2 ++ tl) (rows := ints S1.refuted) (m := S1.st.length) (S1.refuted.map fun x => Im.int .i64 x) (by rw [List.map_map] <;> rfl) (by rw [List.length_map]; exact hrl.symm) (cRow.keep rfl rfl (cRow.keep rfl rfl (cRow.keep rfl (by simp only [PV.under, decide_eq_true_eq, List.length_append] <;> omega) (cRow.keep rfl (by simp only [PV.under, decide_eq_true_eq, List.length_append] <;> omega) (cRow.keep rfl (by simp only [PV.under, decide_eq_true_eq, List.length_append] <;> omega) (cRow.keep rfl (by simp only [PV.under, decide_eq_true_eq, List.length_append] <;> omega) (cRow.conv rfl (cRow.keep rfl rfl cRow.nil)))))))) (hAll tl htu _ (by rw [List.length_append]; omega))) ?_
        rw [List.length_append]
        refine End.move (Ghost.park (e := [(2, .i (limit : Nat)), (3, .im (.bool plain)), (8, .ptr 0 0 0), (9, .ptr 0 5 0), (10, .ptr 0 6 0), (11, .ptr 0 10 0), (15, .vs 0 cp 0 S1.st.length gv), (16, .i ((S1.st.length : Int) - 1))]) (loc := loc2) (tail := tl) (g := 0) (gv := gv) (cp := cp) (ims := S1.refuted.map fun x => Im.int .i64 x) hcp htk (fun L hL => hF2.under hL) (htu _) (cMove.keep rfl rfl (cMove.keep rfl rfl (cMove.keep rfl (by simp only [PV.under, decide_eq_true_eq, List.length_append] <;> omega) (cMove.keep rfl (by simp only [PV.under, decide_eq_true_eq, List.length_append] <;> omega) (cMove.keep rfl (by simp only [PV.under, decide_eq_true_eq, List.length_append] <;> omega) (cMove.keep rfl (by simp only [PV.under, decide_eq_true_eq, List.length_append] <;> omega) (cMove.conv rfl (cMove.keep rfl rfl cMove.nil)))))))) (by simp only [List.map_cons, List.map_nil, unders, PV.under, Bool.and_true, Bool.true_and, Bool.and_eq_true, decide_eq_true_eq]; omega)) ?_
        change End _ _ _ _ (⟨_, loc2.set cp (.vec 3 gv (i64s S1.refuted)), up⟩ : ASt)
        clear hL hcn hMc hAll
        obtain ⟨to, hto⟩ : ∃ t, t = S1.st.length - 1 := ⟨_, rfl⟩
        rw [show ((S1.st.length : Int) - 1) = (to : Int) by omega, ← hrl]
        have hpl : plain = true → S1.refuted = S1.refuted ∧ to = S1.st.length - 1 := fun _ => ⟨rfl, hto⟩
        rw [← hto] at hL0
        have hcn0 : S1.refuted.length ≤ S1.n := by omega
        clear hrl htl htu
        obtain ⟨rf, hrf⟩ : ∃ rf, rf = S1.refuted := ⟨_, rfl⟩
        rw [← hrf] at hL0 hM0 hcn0 hLd ⊢
        have hpl : plain = true → rf = S1.refuted ∧ to = S1.st.length - 1 := fun _ => ⟨hrf, hto⟩
        obtain ⟨loc3, hl3⟩ : ∃ l, l = loc2.set cp (.vec 3 gv (i64s rf)) := ⟨_, rfl⟩
        rw [← hl3]
        have hLs := hL0
        have hMs : ∀ M, P M → HoldsC M rf := fun M hM => hM0 M (hBd.snd M hM)
        have hcn := hcn0
        
        have hl3n : loc3.length = loc2.length := by rw [hl3, List.length_set]
        have hp1 := hLd.pos
        have hLd3 : Laid n (cs.length + limit) loc2 loc3 S1 rf cp gv := ⟨hl3, hLd.lt, hLd.pos, hLd.one, hLd.uni⟩
        have g3 : ∀ j, loc3[j]? = if j = cp then some (.vec 3 gv (i64s rf)) else loc2[j]? := fun j => by rw [hl3, get_set _ _ _ _ (by omega)]
        have hA3 : SAt (loc3 :: up) 0 S1 V1 := hF2.at'.sameOn (fun j hj => by simp only [look_zero]; rw [g3, if_neg (by unfold SPl at hj; omega)])
        have hc3 : fget (loc3 :: up) 0 cp = some (.vec 3 gv (i64s rf)) := by simp only [look_zero]; rw [g3, if_pos rfl]
        have ho3 : loc3[10]? = some (outB (cs.length + limit + (2 * n + 2) + 12) pr.length (q + 1)) := by rw [g3, if_neg (by omega)]; exact hF2.out
        have hr3 : loc3[(cs.length + limit + (2 * n + 2) + 12)]? = some (.row 135 2 (stepsR pr) 0) := by rw [g3, if_neg (by omega)]; exact hF2.prf
        have ho3' : ∀ X, (loc3.set (cs.length + limit + (2 * n + 2) + 12) X)[10]? = some (outB (cs.length + limit + (2 * n + 2) + 12) pr.length (q + 1)) := fun X => by rw [List.getElem?_set_ne (by omega)]; exact ho3
        have hprl : (stepsR pr).length = pr.length := by simp
        have hap : (pr.length + 1) * 32 ≤ 140737488355328 := by omega
        have hpos := hLs.pos
        have hrn : rf.length ≤ 20000 := by have := hBd.sw.len.n; omega
        obtain ⟨hbk, hhd, hsb, hbase2, hcov2, hn2, hcl2', hcl3⟩ := hBd.heed hLs hMs (by omega) (by omega)
        have hsz : (S1.back to).cl.length = S1.cl.length := by rw [hbk.cl]
        have hbn : (S1.back to).n = S1.n := hbk.n
        have l0 := hhd.lok _ (gtD_mem (d := 0) hhd.pos)
        have r0 := i64s_get rf 0 hpos
        have r0i : (0 : Int) < (rf.length : Int) := by omega
        refine End.kp [2, 3, 8, 9, 10, 11, 15, 16] ?_
        refine Run.seq ?_
        have fx := ai hap (ai hprl (ai ho3' (ai hr3 (ai ho3 (ai wq (ai rself (ai hres1 (ai hout1 (ai (@ge_iff_le Int _) (ai e1 (ai d1 (ai d0 (ai hs7 (ai hbx' (ai hbx (ai zZa (ai zTn (ai zNn (ai w3 (ai w2 (ai w1 ft)))))))))))))))))))))
        refine Run.drawA fun K hK => ?_
        refine DOps.sim1 ?_
        refine DOps.sim1 ?_
        refine DOps.sim1 ?_
        refine DOps.call (.im (.sl (ints rf))) [((0, cp), .vec 3 gv (i64s rf))] [] rfl rfl rfl rfl (by kernel_rfl) (by intro p hp; simp only [List.mem_singleton] at hp; subst hp; exact hc3) (fun u hu => CloneV_ok cp gv rf.length rf [] u (hu ((0, cp), _) (by simp)) rfl hpos (by omega)) ?_
        refine DOps.sim1 ?_
        refine DOps.litF (rows := [[.bool false, .sl (ints rf)]]) ?_ rfl rfl (by simp only [litF, fx] <;> rfl)
        refine DOps.sim1 ?_
        refine DOps.sim1 ?_
        refine DOps.sim1 ?_
        refine DOps.nil ?_ (hK _ ?_)
        ·rfl
        clear hK K
        obtain ⟨loc4, hl4⟩ : ∃ l, l = (loc3.set (cs.length + limit + (2 * n + 2) + 12) (.row 135 2 (stepsR (pr ++ [rf])) 0)).set 10 (outB (cs.length + limit + (2 * n + 2) + 12) (pr ++ [rf]).length (q + 1)) := ⟨_, rfl⟩
        change End _ _ _ _ (⟨_, (loc3.set (cs.length + limit + (2 * n + 2) + 12) (.row 135 2 (stepsR pr ++ [[.bool false, .sl (ints rf)]]) 0)).set 10 (outB (cs.length + limit + (2 * n + 2) + 12) (pr.length + 1) (q + 1)), up⟩ : ASt)
        rw [show stepsR pr ++ [[.bool false, .sl (ints rf)]] = stepsR (pr ++ [rf]) by simp, show pr.length + 1 = (pr ++ [rf]).length by simp, ← hl4]
        have g4 : ∀ j, loc4[j]? = if j = 10 then some (outB (cs.length + limit + (2 * n + 2) + 12) (pr ++ [rf]).length (q + 1)) else if j = (cs.length + limit + (2 * n + 2) + 12) then some (.row 135 2 (stepsR (pr ++ [rf])) 0) else loc3[j]? := fun j => by rw [hl4, get_set _ _ _ _ (by rw [List.length_set]; omega), get_set _ _ _ _ (by omega)]
        have hA4 : SAt (loc4 :: up) 0 S1 V1 := hA3.sameOn (fun j hj => by simp only [look_zero]; rw [g4, if_neg (by unfold SPl at hj; omega), if_neg (by unfold SPl at hj; omega)])
        refine End.kp [2, 3, 8, 9, 10, 11, 15, 16] ?_
        refine Run.seq ?_
        have fx := ai hap (ai hprl (ai ho3' (ai hr3 (ai ho3 (ai wq (ai rself (ai hres1 (ai hout1 (ai (@ge_iff_le Int _) (ai e1 (ai d1 (ai d0 (ai hs7 (ai hbx' (ai hbx (ai zZa (ai zTn (ai zNn (ai w3 (ai w2 (ai w1 ft)))))))))))))))))))))
        refine Run.region rfl fun K hK => GOps.sim ?_
        refine GOps.call rfl rfl rfl rfl (by kernel_rfl) (ACalls.sim ?_)
        refine (back_ok S1 { V1 with K := S1.cl.length } B (loc4 :: up) (hA4.ver _) hBd.sw (fun x hx => Nat.le_of_lt (hBd.hst x hx)) hBd.n2 to).mono fun v u hv => ?_
        obtain ⟨V3, rfl, hkp3⟩ := hv
        obtain ⟨loc5, rfl, hl5n, hs5⟩ := hkp3.els.cons
        have hA5 : SAt (loc5 :: up) 0 (S1.back to) { V3 with K := S1.cl.length } := hkp3.at'.ver _
        have hc5 : loc5[cp]? = some (.vec 3 gv (i64s rf)) := by rw [hs5 cp (by show ¬ SPl S1 S1.cl.length cp; unfold SPl; omega), g4, if_neg (by omega), if_neg (by omega), g3, if_pos rfl]
        have hc5' : fget (loc5 :: up) 0 cp = some (.vec 3 gv (i64s rf)) := by simp only [look_zero]; exact hc5
        have fx := ai hap (ai hprl (ai ho3' (ai hr3 (ai ho3 (ai wq (ai rself (ai hres1 (ai hout1 (ai (@ge_iff_le Int _) (ai e1 (ai d1 (ai d0 (ai hs7 (ai hbx' (ai hbx (ai zZa (ai zTn (ai zNn (ai w3 (ai w2 (ai w1 ft)))))))))))))))))))))
        refine ⟨_, _, rfl, GOps.sim ?_⟩
        refine GOps.done (hK _ ?_); clear hK K
        refine End.kp [2, 3, 8, 9, 10, 11, 15] ?_
        refine Run.seq ?_
        refine Run.go ?_
        refine End.kp [2, 3, 8, 9, 10, 11, 15, 17] ?_
        refine Run.seq ?_
        refine Run.seq ?_
        refine Run.go ?_
        refine End.kp [2, 3, 8, 9, 10, 11, 15, 17, 131] ?_
        refine Run.cond _ rfl (fun hb => ?_) (fun hb => ?_)
        ·have h1l : 1 < rf.length := by have := of_decide_eq_true hb; omega
         obtain ⟨hcp1, hgv⟩ := hLd.one h1l
         have l1 := hhd.lok _ (gtD_mem (l := rf) (i := 1) (d := 0) h1l)
         have hcpx : (S1.back to).cl.length + (2 * (S1.back to).n + 2) + 11 = cp := by rw [hsz, hbn, hS1n]; omega
         have hadd : ACalls Try.prog 78 [.ptr 0 5 0, .vs 0 cp 0 rf.length gv] (loc5 :: up) fun v u => v = .i (S1.back to).cl.length ∧ u = addU (loc5 :: up) 0 (S1.back to) { V3 with K := S1.cl.length } rf := by
          have := add_ok (S1.back to) { V3 with K := S1.cl.length } 0 (loc5 :: up) hA5 hsb.len (.inl rfl) rf (by rw [hcpx, hc5', hgv]) h1l l0 l1 (fun e => by have := hhd.dis 0 1 (by omega) (by omega) e; omega) (by omega) (fun j hj => by have := (hsb.list hj).1; omega)
          rw [hcpx] at this
          rw [hgv]
          exact this
         have fx := ai r0i (ai r0 (ai hap (ai hprl (ai ho3' (ai hr3 (ai ho3 (ai wq (ai rself (ai hres1 (ai hout1 (ai (@ge_iff_le Int _) (ai e1 (ai d1 (ai d0 (ai hs7 (ai hbx' (ai hbx (ai zZa (ai zTn (ai zNn (ai w3 (ai w2 (ai w1 ft)))))))))))))))))))))))
         refine Run.region rfl fun K hK => GOps.sim ?_
         refine GOps.call rfl rfl rfl rfl (by kernel_rfl) (ACalls.sim ?_)
         refine (hadd).mono fun v u hv => ?_
         obtain ⟨rfl, rfl⟩ := hv
         have hAd := addU_at hA5 rf (by rw [hcpx, hc5', hgv]) hsb.len.wl (atL_lt l0) (atL_lt l1)
         have hSa := hsb.add h1l (by omega) hhd.lok (by omega)
         obtain ⟨loc6, h6, hl6n, hs6⟩ := (addU_else (loc5 :: up) 0 (S1.back to) { V3 with K := S1.cl.length } rf (atL_lt l0) (atL_lt l1)).cons
         rw [h6] at hAd ⊢
         have hc6 : loc6[cp]? = some (.vec 3 gv (i64s rf)) := by rw [hs6 cp (by unfold SPl; show ¬ (_ ∨ _ ∨ (11 ≤ cp ∧ cp < S1.cl.length + (2 * (S1.back to).n + 2) + 11)); omega)]; exact hc5
         have hc6' : fget (loc6 :: up) 0 cp = some (.vec 3 gv (i64s rf)) := by simp only [look_zero]; exact hc6
         have hset := set_ok ((S1.back to).add rf) (addV { V3 with K := S1.cl.length } rf) 0 (loc6 :: up) hAd hSa.len (rf.getD 0 0) ((S1.back to).cl.length : Nat) l0
         have hA7 := setU_at hAd (rf.getD 0 0) ((S1.back to).cl.length : Nat)
         obtain ⟨loc7, h7, hl7n, hs7⟩ := (setU_else (loc6 :: up) 0 ((S1.back to).add rf) (addV { V3 with K := S1.cl.length } rf) (rf.getD 0 0) ((S1.back to).cl.length : Nat)).cons
         rw [h7] at hA7 hset
         have hhe : ((S1.back to).add rf).set (rf.getD 0 0) ((S1.back to).cl.length : Nat) = (S1.back to).heed rf := by rw [Sol.heed, if_pos h1l]
         rw [hhe] at hA7
         have hRF := hF2.round (l7 := loc7) hLd3 hl4 (by rw [hl7n, hl6n, hl5n]) (fun j hj => by
          rw [hs7 j (by unfold SPl at hj ⊢; show ¬ (_ ∨ _ ∨ (11 ≤ j ∧ j < S1.cl.length + (2 * (S1.back to).n + 2) + 11)); rw [hbn]; exact hj), hs6 j (by unfold SPl at hj ⊢; show ¬ (_ ∨ _ ∨ (11 ≤ j ∧ j < S1.cl.length + (2 * (S1.back to).n + 2) + 11)); rw [hbn]; exact hj), hs5 j hj]) hA7 hn2 hcl3 (by omega) (fun _ => by rw [← hhe]; simp [Sol.set, Sol.add]; omega)
         have fx := ai hc6' (ai hc6 (ai r0i (ai r0 (ai hap (ai hprl (ai ho3' (ai hr3 (ai ho3 (ai wq (ai rself (ai hres1 (ai hout1 (ai (@ge_iff_le Int _) (ai e1 (ai d1 (ai d0 (ai hs7 (ai hbx' (ai hbx (ai zZa (ai zTn (ai zNn (ai w3 (ai w2 (ai w1 ft)))))))))))))))))))))))))
         refine ⟨_, _, rfl, GOps.sim ?_⟩
         refine GOps.done (hK _ ?_); clear hK K
         refine End.kp [2, 3, 8, 9, 10, 11, 15, 17] ?_
         refine Run.region rfl fun K hK => GOps.sim ?_
         refine GOps.call rfl rfl rfl rfl (by kernel_rfl) (ACalls.sim ?_)
         refine (hset).mono fun v u hv => ?_
         obtain ⟨rfl, rfl⟩ := hv
         refine ⟨_, _, rfl, GOps.sim ?_⟩
         refine GOps.done (hK _ ?_); clear hK K
         refine End.blk ?_
         refine End.lp ?_
         refine ⟨(limit - (q + 1)) * (n + 2) + (n - ((S1.back to).heed rf).tr.length), _, meas hq, keepL [(2, .i (limit : Nat)), (3, .im (.bool plain)), (8, .ptr 0 0 0), (9, .ptr 0 5 0), (10, .ptr 0 6 0), (11, .ptr 0 10 0)] ⟨rfl, rfl, rfl, rfl, rfl, rfl, trivial⟩, (S1.back to).heed rf, _, B + 2, loc7, pr ++ [rf], q + 1, rfl, ⟨hRF, hbase2, by omega, by omega, by simp; omega, by omega, fun c hc => hcov2 c (hcov1 c hc), hIc S1 B k rf to q hBd hS1n hIq1 hq hLs hpl⟩, rfl⟩
        ·have h1l : ¬ 1 < rf.length := by have := of_decide_eq_false hb; omega
         have hset := set_ok (S1.back to) { V3 with K := S1.cl.length } 0 (loc5 :: up) hA5 hsb.len (rf.getD 0 0) (-1) l0
         have hA7 := setU_at hA5 (rf.getD 0 0) (-1)
         obtain ⟨loc7, h7, hl7n, hs7⟩ := (setU_else (loc5 :: up) 0 (S1.back to) { V3 with K := S1.cl.length } (rf.getD 0 0) (-1)).cons
         rw [h7] at hA7 hset
         have hhe : (S1.back to).set (rf.getD 0 0) (-1) = (S1.back to).heed rf := by rw [Sol.heed, if_neg h1l]
         rw [hhe] at hA7
         have hRF := hF2.round (l7 := loc7) hLd3 hl4 (by rw [hl7n, hl5n]) (fun j hj => by
          rw [hs7 j (by unfold SPl at hj ⊢; show ¬ (_ ∨ _ ∨ (11 ≤ j ∧ j < S1.cl.length + (2 * (S1.back to).n + 2) + 11)); rw [hbn]; exact hj), hs5 j hj]) hA7 hn2 hcl3 (by omega) (fun h => absurd h h1l)
         refine Run.skip ?_
         refine End.kp [2, 3, 8, 9, 10, 11, 15, 17] ?_
         have fx := ai hpos (ai hc5' (ai hc5 (ai r0i (ai r0 (ai hap (ai hprl (ai ho3' (ai hr3 (ai ho3 (ai wq (ai rself (ai hres1 (ai hout1 (ai (@ge_iff_le Int _) (ai e1 (ai d1 (ai d0 (ai hs7 (ai hbx' (ai hbx (ai zZa (ai zTn (ai zNn (ai w3 (ai w2 (ai w1 ft))))))))))))))))))))))))))
         refine Run.region rfl fun K hK => GOps.sim ?_
         refine GOps.call rfl rfl rfl rfl (by kernel_rfl) (ACalls.sim ?_)
         refine (hset).mono fun v u hv => ?_
         obtain ⟨rfl, rfl⟩ := hv
         refine ⟨_, _, rfl, GOps.sim ?_⟩
         refine GOps.done (hK _ ?_); clear hK K
         refine End.blk ?_
         refine End.lp ?_
         refine ⟨(limit - (q + 1)) * (n + 2) + (n - ((S1.back to).heed rf).tr.length), _, meas hq, keepL [(2, .i (limit : Nat)), (3, .im (.bool plain)), (8, .ptr 0 0 0), (9, .ptr 0 5 0), (10, .ptr 0 6 0), (11, .ptr 0 10 0)] ⟨rfl, rfl, rfl, rfl, rfl, rfl, trivial⟩, (S1.back to).heed rf, _, B + 2, loc7, pr ++ [rf], q + 1, rfl, ⟨hRF, hbase2, by omega, by omega, by simp; omega, by omega, fun c hc => hcov2 c (hcov1 c hc), hIc S1 B k rf to q hBd hS1n hIq1 hq hLs hpl⟩, rfl⟩
       ·have hplain : plain = false := hb
        obtain ⟨cp, gv, o, hcp, htk, hLd⟩ := hF2.spot hck1 c
        have hlt := hLd.lt
        rw [show loc2 ++ [AObj.map es, .vec 3 g (i64s c)] = loc2 ++ [AObj.map es] ++ [.vec 3 g (i64s c)] by simp]
        refine Run.ghost (Ghost.park (e := [(2, .i (limit : Nat)), (3, .im (.bool plain)), (8, .ptr 0 0 0), (9, .ptr 0 5 0), (10, .ptr 0 6 0), (11, .ptr 0 10 0), (15, .vs 0 cp 0 c.length gv), (16, .i (to : Nat))]) (loc := loc2) (tail := [.map es]) (g := g) (gv := gv) (cp := cp) (ims := c.map fun x => Im.int .i64 x) hcp htk (fun L hL => hF2.under hL) rfl (cMove.keep rfl rfl (cMove.keep rfl rfl (cMove.keep rfl (by simp only [PV.under, decide_eq_true_eq, List.length_append] <;> omega) (cMove.keep rfl (by simp only [PV.under, decide_eq_true_eq, List.length_append] <;> omega) (cMove.keep rfl (by simp only [PV.under, decide_eq_true_eq, List.length_append] <;> omega) (cMove.keep rfl (by simp only [PV.under, decide_eq_true_eq, List.length_append] <;> omega) (cMove.conv rfl (cMove.keep rfl rfl cMove.nil)))))))) (by simp only [List.map_cons, List.map_nil, unders, PV.under, Bool.and_true, Bool.true_and, Bool.and_eq_true, decide_eq_true_eq]; omega)) ?_
        change Run _ _ _ _ _ (⟨_, loc2.set cp (.vec 3 gv (i64s c)), up⟩ : ASt)
        clear hAll
        obtain ⟨rf, hrf⟩ : ∃ rf, rf = c := ⟨_, rfl⟩
        rw [← hrf] at hL hMc hcn hLd ⊢
        have hpl : plain = true → rf = S1.refuted ∧ to = S1.st.length - 1 := fun h => by rw [hplain] at h; simp at h
        obtain ⟨loc3, hl3⟩ : ∃ l, l = loc2.set cp (.vec 3 gv (i64s rf)) := ⟨_, rfl⟩
        rw [← hl3]
        have hLs := hL
        have hMs : ∀ M, P M → HoldsC M rf := fun M hM => hMc M (hBd.snd M hM)
        
        have hl3n : loc3.length = loc2.length := by rw [hl3, List.length_set]
        have hp1 := hLd.pos
        have hLd3 : Laid n (cs.length + limit) loc2 loc3 S1 rf cp gv := ⟨hl3, hLd.lt, hLd.pos, hLd.one, hLd.uni⟩
        have g3 : ∀ j, loc3[j]? = if j = cp then some (.vec 3 gv (i64s rf)) else loc2[j]? := fun j => by rw [hl3, get_set _ _ _ _ (by omega)]
        have hA3 : SAt (loc3 :: up) 0 S1 V1 := hF2.at'.sameOn (fun j hj => by simp only [look_zero]; rw [g3, if_neg (by unfold SPl at hj; omega)])
        have hc3 : fget (loc3 :: up) 0 cp = some (.vec 3 gv (i64s rf)) := by simp only [look_zero]; rw [g3, if_pos rfl]
        have ho3 : loc3[10]? = some (outB (cs.length + limit + (2 * n + 2) + 12) pr.length (q + 1)) := by rw [g3, if_neg (by omega)]; exact hF2.out
        have hr3 : loc3[(cs.length + limit + (2 * n + 2) + 12)]? = some (.row 135 2 (stepsR pr) 0) := by rw [g3, if_neg (by omega)]; exact hF2.prf
        have ho3' : ∀ X, (loc3.set (cs.length + limit + (2 * n + 2) + 12) X)[10]? = some (outB (cs.length + limit + (2 * n + 2) + 12) pr.length (q + 1)) := fun X => by rw [List.getElem?_set_ne (by omega)]; exact ho3
        have hprl : (stepsR pr).length = pr.length := by simp
        have hap : (pr.length + 1) * 32 ≤ 140737488355328 := by omega
        have hpos := hLs.pos
        have hrn : rf.length ≤ 20000 := by have := hBd.sw.len.n; omega
        obtain ⟨hbk, hhd, hsb, hbase2, hcov2, hn2, hcl2', hcl3⟩ := hBd.heed hLs hMs (by omega) (by omega)
        have hsz : (S1.back to).cl.length = S1.cl.length := by rw [hbk.cl]
        have hbn : (S1.back to).n = S1.n := hbk.n
        have l0 := hhd.lok _ (gtD_mem (d := 0) hhd.pos)
        have r0 := i64s_get rf 0 hpos
        have r0i : (0 : Int) < (rf.length : Int) := by omega
        refine Run.skip ?_
        refine End.kp [2, 3, 8, 9, 10, 11, 15, 16] ?_
        refine Run.seq ?_
        have fx := ai hap (ai hprl (ai ho3' (ai hr3 (ai ho3 (ai wq (ai rself (ai hres1 (ai hout1 (ai (@ge_iff_le Int _) (ai e1 (ai d1 (ai d0 (ai hs7 (ai hbx' (ai hbx (ai zZa (ai zTn (ai zNn (ai w3 (ai w2 (ai w1 ft)))))))))))))))))))))
        refine Run.drawA fun K hK => ?_
        refine DOps.sim1 ?_
        refine DOps.sim1 ?_
        refine DOps.sim1 ?_
        refine DOps.call (.im (.sl (ints rf))) [((0, cp), .vec 3 gv (i64s rf))] [] rfl rfl rfl rfl (by kernel_rfl) (by intro p hp; simp only [List.mem_singleton] at hp; subst hp; exact hc3) (fun u hu => CloneV_ok cp gv rf.length rf [] u (hu ((0, cp), _) (by simp)) rfl hpos (by omega)) ?_
        refine DOps.sim1 ?_
        refine DOps.litF (rows := [[.bool false, .sl (ints rf)]]) ?_ rfl rfl (by simp only [litF, fx] <;> rfl)
        refine DOps.sim1 ?_
        refine DOps.sim1 ?_
        refine DOps.sim1 ?_
        refine DOps.nil ?_ (hK _ ?_)
        ·rfl
        clear hK K
        obtain ⟨loc4, hl4⟩ : ∃ l, l = (loc3.set (cs.length + limit + (2 * n + 2) + 12) (.row 135 2 (stepsR (pr ++ [rf])) 0)).set 10 (outB (cs.length + limit + (2 * n + 2) + 12) (pr ++ [rf]).length (q + 1)) := ⟨_, rfl⟩
        change End _ _ _ _ (⟨_, (loc3.set (cs.length + limit + (2 * n + 2) + 12) (.row 135 2 (stepsR pr ++ [[.bool false, .sl (ints rf)]]) 0)).set 10 (outB (cs.length + limit + (2 * n + 2) + 12) (pr.length + 1) (q + 1)), up⟩ : ASt)
        rw [show stepsR pr ++ [[.bool false, .sl (ints rf)]] = stepsR (pr ++ [rf]) by simp, show pr.length + 1 = (pr ++ [rf]).length by simp, ← hl4]
        have g4 : ∀ j, loc4[j]? = if j = 10 then some (outB (cs.length + limit + (2 * n + 2) + 12) (pr ++ [rf]).length (q + 1)) else if j = (cs.length + limit + (2 * n + 2) + 12) then some (.row 135 2 (stepsR (pr ++ [rf])) 0) else loc3[j]? := fun j => by rw [hl4, get_set _ _ _ _ (by rw [List.length_set]; omega), get_set _ _ _ _ (by omega)]
        have hA4 : SAt (loc4 :: up) 0 S1 V1 := hA3.sameOn (fun j hj => by simp only [look_zero]; rw [g4, if_neg (by unfold SPl at hj; omega), if_neg (by unfold SPl at hj; omega)])
        refine End.kp [2, 3, 8, 9, 10, 11, 15, 16] ?_
        refine Run.seq ?_
        have fx := ai hap (ai hprl (ai ho3' (ai hr3 (ai ho3 (ai wq (ai rself (ai hres1 (ai hout1 (ai (@ge_iff_le Int _) (ai e1 (ai d1 (ai d0 (ai hs7 (ai hbx' (ai hbx (ai zZa (ai zTn (ai zNn (ai w3 (ai w2 (ai w1 ft)))))))))))))))))))))
        refine Run.region rfl fun K hK => GOps.sim ?_
        refine GOps.call rfl rfl rfl rfl (by kernel_rfl) (ACalls.sim ?_)
        refine (back_ok S1 { V1 with K := S1.cl.length } B (loc4 :: up) (hA4.ver _) hBd.sw (fun x hx => Nat.le_of_lt (hBd.hst x hx)) hBd.n2 to).mono fun v u hv => ?_
        obtain ⟨V3, rfl, hkp3⟩ := hv
        obtain ⟨loc5, rfl, hl5n, hs5⟩ := hkp3.els.cons
        have hA5 : SAt (loc5 :: up) 0 (S1.back to) { V3 with K := S1.cl.length } := hkp3.at'.ver _
        have hc5 : loc5[cp]? = some (.vec 3 gv (i64s rf)) := by rw [hs5 cp (by show ¬ SPl S1 S1.cl.length cp; unfold SPl; omega), g4, if_neg (by omega), if_neg (by omega), g3, if_pos rfl]
        have hc5' : fget (loc5 :: up) 0 cp = some (.vec 3 gv (i64s rf)) := by simp only [look_zero]; exact hc5
        have fx := ai hap (ai hprl (ai ho3' (ai hr3 (ai ho3 (ai wq (ai rself (ai hres1 (ai hout1 (ai (@ge_iff_le Int _) (ai e1 (ai d1 (ai d0 (ai hs7 (ai hbx' (ai hbx (ai zZa (ai zTn (ai zNn (ai w3 (ai w2 (ai w1 ft)))))))))))))))))))))
        refine ⟨_, _, rfl, GOps.sim ?_⟩
        refine GOps.done (hK _ ?_); clear hK K
        refine End.kp [2, 3, 8, 9, 10, 11, 15] ?_
        refine Run.seq ?_
        refine Run.go ?_
        refine End.kp [2, 3, 8, 9, 10, 11, 15, 17] ?_
        refine Run.seq ?_
        refine Run.seq ?_
        refine Run.go ?_
        refine End.kp [2, 3, 8, 9, 10, 11, 15, 17, 131] ?_
        refine Run.cond _ rfl (fun hb => ?_) (fun hb => ?_)
        ·have h1l : 1 < rf.length := by have := of_decide_eq_true hb; omega
         obtain ⟨hcp1, hgv⟩ := hLd.one h1l
         have l1 := hhd.lok _ (gtD_mem (l := rf) (i := 1) (d := 0) h1l)
         have hcpx : (S1.back to).cl.length + (2 * (S1.back to).n + 2) + 11 = cp := by rw [hsz, hbn, hS1n]; omega
         have hadd : ACalls Try.prog 78 [.ptr 0 5 0, .vs 0 cp 0 rf.length gv] (loc5 :: up) fun v u => v = .i (S1.back to).cl.length ∧ u = addU (loc5 :: up) 0 (S1.back to) { V3 with K := S1.cl.length } rf := by
          have := add_ok (S1.back to) { V3 with K := S1.cl.length } 0 (loc5 :: up) hA5 hsb.len (.inl rfl) rf (by rw [hcpx, hc5', hgv]) h1l l0 l1 (fun e => by have := hhd.dis 0 1 (by omega) (by omega) e; omega) (by omega) (fun j hj => by have := (hsb.list hj).1; omega)
          rw [hcpx] at this
          rw [hgv]
          exact this
         have fx := ai r0i (ai r0 (ai hap (ai hprl (ai ho3' (ai hr3 (ai ho3 (ai wq (ai rself (ai hres1 (ai hout1 (ai (@ge_iff_le Int _) (ai e1 (ai d1 (ai d0 (ai hs7 (ai hbx' (ai hbx (ai zZa (ai zTn (ai zNn (ai w3 (ai w2 (ai w1 ft)))))))))))))))))))))))
         refine Run.region rfl fun K hK => GOps.sim ?_
         refine GOps.call rfl rfl rfl rfl (by kernel_rfl) (ACalls.sim ?_)
         refine (hadd).mono fun v u hv => ?_
         obtain ⟨rfl, rfl⟩ := hv
         have hAd := addU_at hA5 rf (by rw [hcpx, hc5', hgv]) hsb.len.wl (atL_lt l0) (atL_lt l1)
         have hSa := hsb.add h1l (by omega) hhd.lok (by omega)
         obtain ⟨loc6, h6, hl6n, hs6⟩ := (addU_else (loc5 :: up) 0 (S1.back to) { V3 with K := S1.cl.length } rf (atL_lt l0) (atL_lt l1)).cons
         rw [h6] at hAd ⊢
         have hc6 : loc6[cp]? = some (.vec 3 gv (i64s rf)) := by rw [hs6 cp (by unfold SPl; show ¬ (_ ∨ _ ∨ (11 ≤ cp ∧ cp < S1.cl.length + (2 * (S1.back to).n + 2) + 11)); omega)]; exact hc5
         have hc6' : fget (loc6 :: up) 0 cp = some (.vec 3 gv (i64s rf)) := by simp only [look_zero]; exact hc6
         have hset := set_ok ((S1.back to).add rf) (addV { V3 with K := S1.cl.length } rf) 0 (loc6 :: up) hAd hSa.len (rf.getD 0 0) ((S1.back to).cl.length : Nat) l0
         have hA7 := setU_at hAd (rf.getD 0 0) ((S1.back to).cl.length : Nat)
         obtain ⟨loc7, h7, hl7n, hs7⟩ := (setU_else (loc6 :: up) 0 ((S1.back to).add rf) (addV { V3 with K := S1.cl.length } rf) (rf.getD 0 0) ((S1.back to).cl.length : Nat)).cons
         rw [h7] at hA7 hset
         have hhe : ((S1.back to).add rf).set (rf.getD 0 0) ((S1.back to).cl.length : Nat) = (S1.back to).heed rf := by rw [Sol.heed, if_pos h1l]
         rw [hhe] at hA7
         have hRF := hF2.round (l7 := loc7) hLd3 hl4 (by rw [hl7n, hl6n, hl5n]) (fun j hj => by
          rw [hs7 j (by unfold SPl at hj ⊢; show ¬ (_ ∨ _ ∨ (11 ≤ j ∧ j < S1.cl.length + (2 * (S1.back to).n + 2) + 11)); rw [hbn]; exact hj), hs6 j (by unfold SPl at hj ⊢; show ¬ (_ ∨ _ ∨ (11 ≤ j ∧ j < S1.cl.length + (2 * (S1.back to).n + 2) + 11)); rw [hbn]; exact hj), hs5 j hj]) hA7 hn2 hcl3 (by omega) (fun _ => by rw [← hhe]; simp [Sol.set, Sol.add]; omega)
         have fx := ai hc6' (ai hc6 (ai r0i (ai r0 (ai hap (ai hprl (ai ho3' (ai hr3 (ai ho3 (ai wq (ai rself (ai hres1 (ai hout1 (ai (@ge_iff_le Int _) (ai e1 (ai d1 (ai d0 (ai hs7 (ai hbx' (ai hbx (ai zZa (ai zTn (ai zNn (ai w3 (ai w2 (ai w1 ft)))))))))))))))))))))))))
         refine ⟨_, _, rfl, GOps.sim ?_⟩
         refine GOps.done (hK _ ?_); clear hK K
         refine End.kp [2, 3, 8, 9, 10, 11, 15, 17] ?_
         refine Run.region rfl fun K hK => GOps.sim ?_
         refine GOps.call rfl rfl rfl rfl (by kernel_rfl) (ACalls.sim ?_)
         refine (hset).mono fun v u hv => ?_
         obtain ⟨rfl, rfl⟩ := hv
         refine ⟨_, _, rfl, GOps.sim ?_⟩
         refine GOps.done (hK _ ?_); clear hK K
         refine End.blk ?_
         refine End.lp ?_
         refine ⟨(limit - (q + 1)) * (n + 2) + (n - ((S1.back to).heed rf).tr.length), _, meas hq, keepL [(2, .i (limit : Nat)), (3, .im (.bool plain)), (8, .ptr 0 0 0), (9, .ptr 0 5 0), (10, .ptr 0 6 0), (11, .ptr 0 10 0)] ⟨rfl, rfl, rfl, rfl, rfl, rfl, trivial⟩, (S1.back to).heed rf, _, B + 2, loc7, pr ++ [rf], q + 1, rfl, ⟨hRF, hbase2, by omega, by omega, by simp; omega, by omega, fun c hc => hcov2 c (hcov1 c hc), hIc S1 B k rf to q hBd hS1n hIq1 hq hLs hpl⟩, rfl⟩
        ·have h1l : ¬ 1 < rf.length := by have := of_decide_eq_false hb; omega
         have hset := set_ok (S1.back to) { V3 with K := S1.cl.length } 0 (loc5 :: up) hA5 hsb.len (rf.getD 0 0) (-1) l0
         have hA7 := setU_at hA5 (rf.getD 0 0) (-1)
         obtain ⟨loc7, h7, hl7n, hs7⟩ := (setU_else (loc5 :: up) 0 (S1.back to) { V3 with K := S1.cl.length } (rf.getD 0 0) (-1)).cons
         rw [h7] at hA7 hset
         have hhe : (S1.back to).set (rf.getD 0 0) (-1) = (S1.back to).heed rf := by rw [Sol.heed, if_neg h1l]
         rw [hhe] at hA7
         have hRF := hF2.round (l7 := loc7) hLd3 hl4 (by rw [hl7n, hl5n]) (fun j hj => by
          rw [hs7 j (by unfold SPl at hj ⊢; show ¬ (_ ∨ _ ∨ (11 ≤ j ∧ j < S1.cl.length + (2 * (S1.back to).n + 2) + 11)); rw [hbn]; exact hj), hs5 j hj]) hA7 hn2 hcl3 (by omega) (fun h => absurd h h1l)
         refine Run.skip ?_
         refine End.kp [2, 3, 8, 9, 10, 11, 15, 17] ?_
         have fx := ai hpos (ai hc5' (ai hc5 (ai r0i (ai r0 (ai hap (ai hprl (ai ho3' (ai hr3 (ai ho3 (ai wq (ai rself (ai hres1 (ai hout1 (ai (@ge_iff_le Int _) (ai e1 (ai d1 (ai d0 (ai hs7 (ai hbx' (ai hbx (ai zZa (ai zTn (ai zNn (ai w3 (ai w2 (ai w1 ft))))))))))))))))))))))))))
         refine Run.region rfl fun K hK => GOps.sim ?_
         refine GOps.call rfl rfl rfl rfl (by kernel_rfl) (ACalls.sim ?_)
         refine (hset).mono fun v u hv => ?_
         obtain ⟨rfl, rfl⟩ := hv
         refine ⟨_, _, rfl, GOps.sim ?_⟩
         refine GOps.done (hK _ ?_); clear hK K
         refine End.blk ?_
         refine End.lp ?_
         refine ⟨(limit - (q + 1)) * (n + 2) + (n - ((S1.back to).heed rf).tr.length), _, meas hq, keepL [(2, .i (limit : Nat)), (3, .im (.bool plain)), (8, .ptr 0 0 0), (9, .ptr 0 5 0), (10, .ptr 0 6 0), (11, .ptr 0 10 0)] ⟨rfl, rfl, rfl, rfl, rfl, rfl, trivial⟩, (S1.back to).heed rf, _, B + 2, loc7, pr ++ [rf], q + 1, rfl, ⟨hRF, hbase2, by omega, by omega, by simp; omega, by omega, fun c hc => hcov2 c (hcov1 c hc), hIc S1 B k rf to q hBd hS1n hIq1 hq hLs hpl⟩, rfl⟩

set_option maxRecDepth 100000
set_option maxHeartbeats 40000000
def FndM (n : Nat) (cs : List (List Int)) (m : List Bool) : Prop := m.length = n ∧ ∀ c ∈ cs, HoldsC (fun v => m.getD (v - 1) false) c
theorem ClsIn.ok {n : Nat} {cs : List (List Int)} (hn : n ≤ 20000) (h : ClsIn n cs) : ClsOk n cs := ⟨hn, h.len, fun c hc => ⟨by have := (h.cls c hc).2.1; omega, (h.cls c hc).2.2⟩⟩

set_option maxRecDepth 100000
set_option maxHeartbeats 40000000
def Mod (cs : List (List Int)) : (Nat → Bool) → Prop := fun M => ∀ c ∈ cs, HoldsC M c
theorem runF_ok (cs : List (List Int)) (n limit : Nat) (hn : n ≤ 20000) (hcs : ClsIn n cs) (hlim : limit ≤ 65536) (F : List Nat) (hF : 2 ^ F.length ≤ limit) (hdet : DetF (Mod cs) n cs F) (up : Frs) :
  ACalls Try.prog 46 [.im (.sl (clss cs)), .i (n : Nat), .i (limit : Nat), .im (.bool true)] up fun v u => u = up ∧ ∃ (f : Bool) (m : List Bool) (pr : List (List Int)) (q : Nat), v = .agg [.im (.bool true), .im (.bool f), .im (.sl (bools m)), .im (.sl (stepsR pr)), .i (q : Nat)] ∧ q ≤ limit ∧ (f = true → FndM n cs m) ∧ (f = false → ∀ M, ¬ Mod cs M) := by
 have hcl := hcs.len
 have hld := Ld.load (P := Mod cs) cs ⟨new_base (Mod cs) hn, rfl, rfl⟩ hcs.cls (fun M hM => hM) (by show 0 + cs.length ≤ 1000000; omega)
 refine (run_ok (Mod cs) (KeepF n F) cs n limit true hn hcs (fun M hM => hM) hlim (fun hl => ?_) (fun S S' q hE hI => hI.ext hE) (fun S B q hB hSn hh hc hI hd => hI.decide hdet hB hSn hh hc hd) (fun S B k c d q hBd hSn hI hq hL hp => hI.heed hBd hL (hp rfl).1 (hp rfl).2) up).mono fun v u hv => ?_
 ·rcases hld with ⟨ld1, ⟨B2, ld2⟩, ld3, ld4, ld5⟩ | ⟨h, _⟩
  ·exact KeepF.zero ld5 ld2.st
  ·rw [h] at hl; simp at hl
 ·obtain ⟨rfl, d, f, m, pr, q, h1, h3, h4, h5⟩ := hv
  cases f with
  | true =>
   obtain ⟨rfl, rfl, h6⟩ := h4 rfl
   exact ⟨rfl, true, m, _, q, h1, h3, fun _ => h6, fun h => by simp at h⟩
  | false =>
   obtain ⟨rfl, h6, h7⟩ := h5 rfl
   cases d with
   | true => exact ⟨rfl, false, [], pr, q, h1, h3, fun h => by simp at h, fun _ => h6 rfl⟩
   | false =>
    obtain ⟨_, S, B, k, hB, hSn, hI⟩ := h7 rfl
    have := potF_pos S F
    have := hI.pot
    omega
theorem runFL_ok (cs : List (List Int)) (n limit : Nat) (hn : n ≤ 20000) (hcs : ClsIn n cs) (hlim : limit ≤ 65536) (up : Frs) :
  ACalls Try.prog 46 [.im (.sl (clss cs)), .i (n : Nat), .i (limit : Nat), .im (.bool false)] up fun v u => u = up ∧ ∃ (d f : Bool) (m : List Bool) (pr : List (List Int)) (q : Nat), v = .agg [.im (.bool d), .im (.bool f), .im (.sl (bools m)), .im (.sl (stepsR pr)), .i (q : Nat)] ∧ q ≤ limit ∧ (d = true → f = true → FndM n cs m) ∧ (d = true → f = false → ∀ M, ¬ Mod cs M) :=
 (run_ok (Mod cs) (fun _ _ => True) cs n limit false hn hcs (fun M hM => hM) hlim (fun _ => trivial) (fun _ _ _ _ _ => trivial) (fun _ _ _ _ _ _ _ _ _ => trivial) (fun _ _ _ _ _ _ _ _ _ _ _ _ => trivial) up).mono fun v u hv => by
  obtain ⟨rfl, d, f, m, pr, q, h1, h3, h4, h5⟩ := hv
  exact ⟨rfl, d, f, m, pr, q, h1, h3, fun _ hf => (h4 hf).2.2, fun hd hf => (h5 hf).2.1 hd⟩
theorem solveF_ok (cs : List (List Int)) (n limit : Nat) (hn : n ≤ 20000) (hcs : ClsIn n cs) (hlim : limit ≤ 65536) (F : List Nat) (hF : 2 ^ F.length ≤ limit) (hdet : DetF (Mod cs) n cs F) (up : Frs) :
  ACalls Try.prog 16 [.im (.sl (clss cs)), .i (n : Nat), .i (limit : Nat)] up fun v u => u = up ∧ ∃ (f : Bool) (m : List Bool) (pr : List (List Int)) (q : Nat), v = .tup [.agg [.im (.bool true), .im (.bool f), .im (.sl (bools m)), .im (.sl (stepsR pr)), .i (q : Nat)], .i 0] ∧ (f = true → FndM n cs m) ∧ (f = false → ∀ M, ¬ Mod cs M) := by
 have d1 : decide ((limit : Int) < 0) = false := decide_eq_false (by omega)
 have d2 : decide ((65536 : Int) < (limit : Int)) = false := decide_eq_false (by omega)
 refine ACalls.code Try.func16 rfl 44 rfl (by simp) [.cell 6 46, .tmp 7] rfl fun Q hQ => ?_
 simp only [ups, PV.up, argEnv]
 have ft := ai ty_3 (ai ty_4 (ai ty_22 (ai ty_35 (ai ty_36 (ai ty_46 trivial)))))
 refine Run.seq ?_
 have fx := ai d2 (ai d1 ft)
 refine Run.go ?_
 refine End.kp [0, 1, 2, 6] ?_
 refine Run.seq ?_
 refine Run.seq ?_
 refine Run.region rfl fun K hK => GOps.sim ?_
 refine GOps.call rfl rfl rfl rfl (by kernel_rfl) (ACalls.sim ?_)
 refine (satCheck_ok n cs (hcs.ok hn) _).mono fun v u hv => ?_
 obtain ⟨rfl, rfl⟩ := hv
 refine ⟨_, _, rfl, GOps.sim ?_⟩
 refine GOps.done (hK _ ?_); clear hK K
 refine End.kp [0, 1, 2, 6, 8] ?_
 refine Run.seq ?_
 refine Run.go ?_
 refine End.kp [0, 1, 2, 6, 8, 15] ?_
 refine Run.cond _ rfl (fun hb => ?_) (fun hb => ?_)
 ·have hb2 := hb
  simp at hb
 ·have hb2 := hb
  refine Run.skip ?_
  refine End.kp [0, 1, 2, 6] ?_
  refine Run.seq ?_
  refine Run.seq ?_
  have fx := ai d2 (ai d1 ft)
  refine Run.go ?_
  refine End.kp [0, 1, 2, 6, 23] ?_
  refine Run.cond _ rfl (fun hb => ?_) (fun hb => ?_)
  ·have hb3 := hb
   simp at hb
  ·have hb3 := hb
   refine Run.skip ?_
   refine End.kp [0, 1, 2, 6] ?_
   refine Run.seq ?_
   refine Run.region rfl fun K hK => GOps.sim ?_
   refine GOps.call rfl rfl rfl rfl (by kernel_rfl) (ACalls.sim ?_)
   refine (runFL_ok cs n limit hn hcs hlim _).mono fun v u hv => ?_
   obtain ⟨rfl, d, f, m, pr, q, rfl, hq, hd1, hd2⟩ := hv
   refine ⟨_, _, rfl, GOps.sim ?_⟩
   refine GOps.done (hK _ ?_); clear hK K
   refine End.kp [0, 1, 2, 6, 9] ?_
   refine Run.seq ?_
   refine Run.seq ?_
   refine Run.go ?_
   refine End.kp [0, 1, 2, 6, 9, 31] ?_
   refine Run.cond _ rfl (fun hb => ?_) (fun hb => ?_)
   ·have hd : d = false := by simpa using hb
    refine Run.seq ?_
    have fx := ai d2 (ai d1 ft)
    refine Run.go ?_
    refine End.kp [0, 1, 2, 6, 9, 10] ?_
    refine Run.seq ?_
    refine Run.region rfl fun K hK => GOps.sim ?_
    refine GOps.call rfl rfl rfl rfl (by kernel_rfl) (ACalls.sim ?_)
    refine (runF_ok cs n limit hn hcs hlim F hF hdet _).mono fun v u hv => ?_
    obtain ⟨rfl, f2, m2, pr2, q2, rfl, hq2, hf2, hg2⟩ := hv
    have wq : IntKind.i64.wrap ((q2 : Int) + (q : Int)) = ((q2 + q : Nat) : Int) := by rw [wrap64 (by omega)]; rfl
    refine ⟨_, _, rfl, GOps.sim ?_⟩
    refine GOps.done (hK _ ?_); clear hK K
    refine End.kp [6, 9, 10] ?_
    have fx := ai wq (ai d2 (ai d1 ft))
    refine Run.go ?_
    refine End.kp [6, 9] ?_
    refine Run.seq ?_
    refine Run.go ?_
    refine End.kp [6, 7] ?_
    refine Run.resC hQ ?_
    exact ⟨rfl, f2, m2, pr2, q2 + q, rfl, hf2, hg2⟩
   ·have hd : d = true := by simpa using hb
    refine Run.skip ?_
    refine End.kp [6, 9] ?_
    refine Run.seq ?_
    have fx := ai d2 (ai d1 ft)
    refine Run.go ?_
    refine End.kp [6, 7] ?_
    refine Run.resC hQ ?_
    subst hd; exact ⟨rfl, f, m, pr, q, rfl, hd1 rfl, hd2 rfl⟩

set_option maxRecDepth 100000
set_option maxHeartbeats 40000000
abbrev prfs (ps : List (List (List Int))) : List (List Im) := ps.map fun p => [.sl (stepsR p)]
structure FindHit (g : LGraph) (out k : Nat) (tr : List (List Bool)) : Prop where
 pos : 1 ≤ tr.length
 le : tr.length ≤ k
 rows : Rows g tr
 hit : hitB g out (initG g) tr
 low : ∀ j, 1 ≤ j → j < tr.length → ¬ Reach g out j
theorem Find_ok (g : LGraph) (hg : GraphOk g) (out k limit : Nat) (ho : out < g.outs.length) (hk1 : 1 ≤ k) (hk : k ≤ 64) (hkn : k * varsN g ≤ 20000) (hlim : limit ≤ 65536) (hF : 2 ^ (g.inn.length * k) ≤ limit) (up : Frs) : ACalls Try.prog 31 [g.pv, .i (out : Nat), .i (k : Nat), .i (limit : Nat)] up fun v u => u = up ∧ ∃ (ver : Int) (tr : List (List Bool)) (ps : List (List (List Int))), v = .tup [.agg [.i ver, .im (.sl (boolss tr)), .im (.sl (prfs ps))], .i 0] ∧ ((ver = 2 ∧ ps = [] ∧ FindHit g out k tr) ∨ (ver = 3 ∧ tr = [] ∧ ps.length = k ∧ ∀ j, 1 ≤ j → j ≤ k → ¬ Reach g out j)) := by
 obtain ⟨z1, z2, z3, z4, z5⟩ := hg.small
 have d1 : decide ((out : Int) < 0) = false := decide_eq_false (by omega)
 have d2 : decide ((g.outs.length : Int) ≤ (out : Int)) = false := decide_eq_false (by omega)
 have d3 : decide ((k : Int) < 1) = false := decide_eq_false (by omega)
 have d4 : decide ((64 : Int) < (k : Int)) = false := decide_eq_false (by omega)
 have d5 : decide ((limit : Int) < 0) = false := decide_eq_false (by omega)
 have d6 : decide ((65536 : Int) < (limit : Int)) = false := decide_eq_false (by omega)
 have hnod : (1 + (g.inn.length : Int) + g.regs.length + g.ands.length) = ((varsN g : Nat) : Int) := by unfold varsN; omega
 obtain ⟨x0, x1⟩ := outL_ok hg ho
 obtain ⟨N, hN⟩ : ∃ N, N = varsN g := ⟨_, rfl⟩
 have hkn0 := hkn
 rw [← hN] at hnod hkn
 have hNs : N ≤ 20000 := by rw [hN]; unfold varsN; omega
 have wkn : IntKind.i64.wrap ((k : Int) * (N : Int)) = ((k * N : Nat) : Int) := by rw [← Int.natCast_mul, wrap64 (by omega)]
 have d7 : decide ((20000 : Int) < ((k * N : Nat) : Int)) = false := decide_eq_false (by omega)
 refine ACalls.code Try.func31 rfl 103 rfl (by simp) [.cell 8 77, .tmp 9] rfl fun Q hQ => ?_
 simp only [ups, PV.up, argEnv]
 have ft := ai ty_2 (ai ty_3 (ai ty_4 (ai ty_22 (ai ty_29 (ai ty_31 (ai ty_33 (ai ty_35 (ai ty_36 (ai ty_44 (ai ty_46 (ai ty_55 (ai ty_61 (ai ty_62 (ai ty_77 (ai ty_135 trivial)))))))))))))))
 refine Run.seq ?_
 have fx := ai zTn (ai zNn (ai (@gt_iff_lt Int _) (ai (@ge_iff_le Int _) (ai ints_len (ai wkn (ai d7 (ai d6 (ai d5 (ai d4 (ai d3 (ai d2 (ai d1 ft))))))))))))
 refine Run.go ?_
 refine End.kp [1, 2, 3, 4, 8] ?_
 refine Run.seq ?_
 refine Run.seq ?_
 refine Run.region rfl fun K hK => GOps.sim ?_
 refine GOps.call rfl rfl rfl rfl (by kernel_rfl) (ACalls.sim ?_)
 refine (Check_ok g hg _).mono fun v u hv => ?_
 obtain ⟨rfl, rfl⟩ := hv
 refine ⟨_, _, rfl, GOps.sim ?_⟩
 refine GOps.done (hK _ ?_); clear hK K
 refine End.kp [1, 2, 3, 4, 8, 10] ?_
 refine Run.seq ?_
 refine Run.go ?_
 refine End.kp [1, 2, 3, 4, 8, 10, 21] ?_
 refine Run.cond _ rfl (fun hb => ?_) (fun hb => ?_)
 ·have hb2 := hb
  simp at hb
 ·have hb2 := hb
  refine Run.skip ?_
  refine End.kp [1, 2, 3, 4, 8] ?_
  refine Run.seq ?_
  refine Run.seq ?_
  have fx := ai zTn (ai zNn (ai (@gt_iff_lt Int _) (ai (@ge_iff_le Int _) (ai ints_len (ai wkn (ai d7 (ai d6 (ai d5 (ai d4 (ai d3 (ai d2 (ai d1 ft))))))))))))
  refine Run.go ?_
  refine End.kp [1, 2, 3, 4, 8, 32] ?_
  refine Run.cond _ rfl (fun hb => ?_) (fun hb => ?_)
  ·have hb3 := hb
   simp at hb
  ·have hb3 := hb
   refine Run.skip ?_
   refine End.kp [1, 2, 3, 4, 8] ?_
   refine Run.seq ?_
   refine Run.seq ?_
   refine Run.go ?_
   refine End.kp [1, 2, 3, 4, 8, 47] ?_
   refine Run.cond _ rfl (fun hb => ?_) (fun hb => ?_)
   ·have hb4 := hb
    simp at hb
   ·have hb4 := hb
    refine Run.skip ?_
    refine End.kp [1, 2, 3, 4, 8] ?_
    refine Run.seq ?_
    refine Run.seq ?_
    refine Run.region rfl fun K hK => GOps.sim ?_
    refine GOps.call rfl rfl rfl rfl (by kernel_rfl) (ACalls.sim ?_)
    refine (GNodes_ok g hg.small _).mono fun v u hv => ?_
    obtain ⟨rfl, rfl⟩ := hv
    rw [hnod]
    refine ⟨_, _, rfl, GOps.sim ?_⟩
    refine GOps.done (hK _ ?_); clear hK K
    refine End.kp [1, 2, 3, 4, 8, 53] ?_
    refine Run.cond _ rfl (fun hb => ?_) (fun hb => ?_)
    ·have hb5 := hb
     simp at hb
    ·have hb5 := hb
     refine Run.skip ?_
     refine End.kp [1, 2, 3, 4, 8] ?_
     refine Run.seq ?_
     have fx := ai zTn (ai zNn (ai (@gt_iff_lt Int _) (ai (@ge_iff_le Int _) (ai ints_len (ai wkn (ai d7 (ai d6 (ai d5 (ai d4 (ai d3 (ai d2 (ai d1 ft))))))))))))
     refine Run.go ?_
     refine End.kp [1, 2, 3, 4, 8, 11] ?_
     refine Run.seq ?_
     refine Run.seq ?_
     refine Run.go ?_
     refine End.kp [1, 2, 3, 4, 8, 11, 12] ?_
     refine Run.block ?_
     refine Run.ghost (Ghost.thawBox (j := 2) (i := 2) 44 1 (by decide) rfl rfl) ?_
     change Run _ _ _ _ _ (⟨_, [.box [.im (.sl (strs g.inn)), .im (.sl (strs g.out)), .im (.sl (g.regs.map LReg.im)), .im (.sl (g.ands.map nd)), .im (.sl (ints g.outs))], .box [.i 0, .nils, .nils], .box [.i 3, .nils, .ms 0 3 0], .row 44 1 [] 0], up⟩ : ASt)
     refine Run.ghost (Ghost.form [(1, .i (out : Nat)), (2, .i (k : Nat)), (3, .i (limit : Nat)), (4, .ptr 0 0 0), (8, .ptr 0 1 0), (11, .ptr 0 2 0), (12, .i (0 + 1 : Nat))] 4 ⟨rfl, rfl, rfl, rfl, rfl, rfl, rfl, trivial⟩ rfl (by simp only [ASt.push, List.nil_append, List.cons_append, List.take_succ_cons, List.take_zero, List.all_cons, List.all_nil, AObj.under, unders, PV.under, Bool.and_true, Bool.and_self, Bool.true_and, Bool.and_eq_true, decide_eq_true_eq]; try omega)) ?_
     refine Run.loop (fun s st => ∃ (i : Nat) (ps : List (List (List Int))), s = k - i ∧ (i ≤ k ∧ ps.length = i ∧ ∀ j, 1 ≤ j → j ≤ i → ¬ Reach g out j) ∧ st = ⟨[(1, .i (out : Nat)), (2, .i (k : Nat)), (3, .i (limit : Nat)), (4, .ptr 0 0 0), (8, .ptr 0 1 0), (11, .ptr 0 2 0), (12, .i (i + 1 : Nat))], [.box [.im (.sl (strs g.inn)), .im (.sl (strs g.out)), .im (.sl (g.regs.map LReg.im)), .im (.sl (g.ands.map nd)), .im (.sl (ints g.outs))], .box [.i 0, .nils, .nils], .box [.i 3, .nils, .ms 0 3 i], .row 44 1 (prfs ps) 0], up⟩) k ⟨0, [], rfl, ⟨by omega, rfl, fun j h1 h2 => by omega⟩, rfl⟩ fun s st hI => ?_
     obtain ⟨i, ps, hm, ⟨hik, hpi, hno⟩, rfl⟩ := hI
     subst s
     have hpl : (prfs ps).length = i := by simp [hpi]
     have hap : (i + 1) * 24 ≤ 140737488355328 := by omega
     refine Run.seq ?_
     refine Run.seq ?_
     have fx := ai hap (ai hpl fx)
     refine Run.go ?_
     refine End.kp [1, 2, 3, 4, 8, 11, 12, 58] ?_
     refine Run.cond _ rfl (fun hb => ?_) (fun hb => ?_)
     ·have hb6 := of_decide_eq_true hb
      have hik2 : i + 1 ≤ k := by omega
      have wi : IntKind.i64.wrap (((i + 1 : Nat) : Int) + 1) = ((i + 1 + 1 : Nat) : Int) := by rw [wrap64 (by omega)]; omega
      have hin : (i + 1) * varsN g ≤ k * varsN g := Nat.mul_le_mul_right _ hik2
      have hwl := withC_len g (outL g out) false (i + 1)
      have hsz : (i + 1) * (1 + 3 * g.ands.length + 2 * g.regs.length) ≤ (i + 1) * (3 * varsN g) := Nat.mul_le_mul_left _ (by unfold varsN; omega)
      have hsz2 : (i + 1) * (3 * varsN g) = 3 * ((i + 1) * varsN g) := by rw [Nat.mul_left_comm]
      have hcin : ClsIn ((i + 1) * varsN g) (withC g (outL g out) false (i + 1)) := ⟨by omega, fun c hc => withC_in hg x0 x1 (by omega) hc⟩
      have hFi : 2 ^ (freeV g false (i + 1)).length ≤ limit := by
       rw [freeV_len, if_neg (by simp)]
       exact Nat.le_trans (Nat.pow_le_pow_right (by decide) (Nat.mul_le_mul_left _ hik2)) hF
      have hslv := solveF_ok (withC g (outL g out) false (i + 1)) ((i + 1) * varsN g) limit (by omega) hcin hlim (freeV g false (i + 1)) hFi (with_det hg)
      refine Run.skip ?_
      refine End.kp [1, 2, 3, 4, 8, 11, 12] ?_
      refine Run.seq ?_
      refine Run.block ?_
      refine Run.seq ?_
      have fx := ai wi fx
      refine Run.region rfl fun K hK => GOps.sim ?_
      refine GOps.call rfl rfl rfl rfl (by kernel_rfl) (ACalls.sim ?_)
      refine (WithinX_ok g hg out (i + 1) ho (by omega) (by omega) (by omega) false _ _).mono fun v u hv => ?_
      obtain ⟨rfl, rfl⟩ := hv
      refine ⟨_, _, rfl, GOps.sim ?_⟩
      refine GOps.done (hK _ ?_); clear hK K
      refine End.kp [1, 2, 3, 4, 8, 11, 12, 13, 14] ?_
      refine Run.seq ?_
      refine Run.ghost (Ghost.shut (t := 13) (j := 6) rfl rfl (by simp)) ?_
      simp only [eput, edel]
      have fx := ai wi (ai hap (ai hpl (ai zTn (ai zNn (ai (@gt_iff_lt Int _) (ai (@ge_iff_le Int _) (ai ints_len (ai wkn (ai d7 (ai d6 (ai d5 (ai d4 (ai d3 (ai d2 (ai d1 ft)))))))))))))))
      refine Run.region rfl fun K hK => GOps.sim ?_
      refine GOps.call rfl rfl rfl rfl (by kernel_rfl) (ACalls.sim ?_)
      refine (hslv _).mono fun v u hv => ?_
      obtain ⟨rfl, fd, m, pr, q, rfl, hf1, hf2⟩ := hv
      refine ⟨_, _, rfl, GOps.sim ?_⟩
      refine GOps.done (hK _ ?_); clear hK K
      refine End.kp [1, 2, 3, 4, 8, 11, 12, 16, 17] ?_
      refine Run.seq ?_
      refine Run.block ?_
      refine Run.seq ?_
      refine Run.go ?_
      refine End.kp [1, 2, 3, 4, 8, 11, 12, 16, 17, 76] ?_
      refine Run.cond _ rfl (fun hb => ?_) (fun hb => ?_)
      ·have hb7 := hb
       simp at hb
      ·have hb7 := hb
       refine Run.seq ?_
       have fx := ai wi (ai hap (ai hpl (ai zTn (ai zNn (ai (@gt_iff_lt Int _) (ai (@ge_iff_le Int _) (ai ints_len (ai wkn (ai d7 (ai d6 (ai d5 (ai d4 (ai d3 (ai d2 (ai d1 ft)))))))))))))))
       refine Run.go ?_
       refine End.kp [1, 2, 3, 4, 8, 11, 12, 16, 81] ?_
       refine Run.cond _ rfl (fun hb => ?_) (fun hb => ?_)
       ·have hft : fd = true := hb
        obtain ⟨hml, hmc⟩ := hf1 hft
        have hM := with_run hg ho (by omega) hmc
        refine Run.seq ?_
        refine Run.region rfl fun K hK => GOps.sim ?_
        refine GOps.call rfl rfl rfl rfl (by kernel_rfl) (ACalls.sim ?_)
        refine (Inputs_ok g hg.small (i + 1) (by omega) (by omega) m hml _).mono fun v u hv => ?_
        obtain ⟨rfl, rfl⟩ := hv
        refine ⟨_, _, rfl, GOps.sim ?_⟩
        refine GOps.done (hK _ ?_); clear hK K
        refine End.kp [8, 9] ?_
        refine Run.resC hQ ?_
        refine ⟨rfl, 2, insK g (i + 1) (fun v => m.getD (v - 1) false), [], rfl, .inl ⟨rfl, rfl, ⟨?_, ?_, (insK_rows g _ _).2, hM, fun j h1 h2 => ?_⟩⟩⟩
        ·rw [(insK_rows g _ _).1]; omega
        ·rw [(insK_rows g _ _).1]; omega
        ·rw [(insK_rows g _ _).1] at h2; exact hno j h1 (by omega)
       ·have hff : fd = false := hb
        refine Run.seq ?_
        refine Run.go ?_
        refine End.kp [1, 2, 3, 4, 8, 11, 12, 16, 90] ?_
        refine Run.cond _ rfl (fun hb => ?_) (fun hb => ?_)
        ·have hb8 := hb
         simp at hb
        ·have hb8 := hb
         refine Run.skip ?_
         refine End.blk ?_
         refine End.kp [1, 2, 3, 4, 8, 11, 12, 16] ?_
         refine Run.region rfl fun K hK => GOps.simK 4 ?_
         refine GOps.litF (rows := [[.sl (stepsR pr)]]) ?_ rfl rfl (by simp only [litF, fx] <;> rfl)
         refine GOps.sim ?_
         refine GOps.done (hK _ ?_); clear hK K
         refine End.blk ?_
         refine End.kp [1, 2, 3, 4, 8, 11, 12] ?_
         have fx := ai wi (ai hap (ai hpl (ai zTn (ai zNn (ai (@gt_iff_lt Int _) (ai (@ge_iff_le Int _) (ai ints_len (ai wkn (ai d7 (ai d6 (ai d5 (ai d4 (ai d3 (ai d2 (ai d1 ft)))))))))))))))
         refine Run.go ?_
         refine End.lp ?_
         refine ⟨k - (i + 1), _, by omega, Ghost.form [(1, .i (out : Nat)), (2, .i (k : Nat)), (3, .i (limit : Nat)), (4, .ptr 0 0 0), (8, .ptr 0 1 0), (11, .ptr 0 2 0), (12, .i (i + 1 + 1 : Nat))] 4 ⟨rfl, rfl, rfl, rfl, rfl, rfl, rfl, trivial⟩ rfl (by simp only [ASt.push, List.nil_append, List.cons_append, List.take_succ_cons, List.take_zero, List.all_cons, List.all_nil, AObj.under, unders, PV.under, Bool.and_true, Bool.and_self, Bool.true_and, Bool.and_eq_true, decide_eq_true_eq]; try omega), i + 1, ps ++ [pr], rfl, ⟨by omega, by simp [hpi], fun j h1 h2 => ?_⟩, ?_⟩
         ·by_cases e : j = i + 1
          ·subst e
           intro hr
           obtain ⟨M, hM⟩ := reach_with hg ho (by omega) hr
           exact hf2 hff M hM
          ·exact hno j h1 (by omega)
         ·unfold prfs
          rw [List.map_append]
          rfl
     ·have hb6 := of_decide_eq_false hb
      have hie : i = k := by omega
      subst hie
      refine Run.exit rfl ?_
      refine End.kp [8, 11] ?_
      refine Run.seq ?_
      refine Run.ghost (Ghost.boxShut (j := 2) (i := 2) (r := 3) (m := i) rfl rfl rfl hpl) ?_
      refine Run.go ?_
      refine End.kp [8, 9] ?_
      refine Run.resC hQ ?_
      exact ⟨rfl, 3, [], ps, rfl, .inr ⟨rfl, rfl, hpi, hno⟩⟩

end Go.Proofs.YtkjfdacjjogpcaaPi
