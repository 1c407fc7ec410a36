/- Part 5 of the proof: the texts WSE, WSM, WSO, WSF, WSH, WSG, WSK, one behind the other. Each holds for every input that it names; no condition is hidden. -/
import Derived.Test.YtkjfdacjjogpcaaM2
import Derived.Test.YtkjfdacjjogpcaaM3
import Derived.Test.YtkjfdacjjogpcaaPiVecR
import Derived.Test.YtkjfdacjjogpcaaPiRes
import Derived.Test.YtkjfdacjjogpcaaPiSim
set_option linter.unusedVariables false
set_option linter.unusedSimpArgs false
set_option linter.unusedSectionVars false
namespace Go.Proofs.YtkjfdacjjogpcaaPi
set_option maxRecDepth 100000
set_option maxHeartbeats 40000000
theorem unders_ims (L : Nat) : ∀ (m : List Im), unders L (m.map PV.im) = true
 | [] => rfl
 | x :: m => by simp only [List.map_cons, unders, PV.under, unders_ims L m, Bool.and_self]
theorem unders_append (L : Nat) : ∀ (a b : List PV), unders L (a ++ b) = (unders L a && unders L b)
 | [], b => by simp [unders]
 | x :: a, b => by simp [unders, unders_append L a b, Bool.and_assoc]
theorem is_neg (S : Sol) {x : Int} (h : x ≠ 0) : S.is (-x) = -(S.is x) := by
 unfold Sol.is
 rw [Int.natAbs_neg]
 split <;> split <;> omega
def headS (S : Sol) : Sol := { S with head := S.head + 1 }
theorem headU_kept {up : Frs} {d : Nat} {S : Sol} {V : Ver} (h : SAt up d S V) : Kept up (fset up d 5 (sbox (headS S) V)) d S V (headS S) V := by
 have o : ∀ j, j ≠ 5 → fget (fset up d 5 (sbox (headS S) V)) d j = fget up d j := fun j h1 => by rw [fget_fset, if_neg (fun e => h1 e.2)]
 exact ⟨⟨by rw [fget_fset, if_pos ⟨rfl, rfl⟩, h.box]; rfl, (o 1 (by omega)).trans h.wch, (o 2 (by omega)).trans h.val, (o 3 (by omega)).trans h.lev, (o 4 (by omega)).trans h.why, (o 7 (by omega)).trans h.clo, (o 8 (by omega)).trans h.trl, (o 9 (by omega)).trans h.sts, fun j hj => (o _ (by omega)).trans (h.wli j hj), fun j hj => (o _ (by omega)).trans (h.cli j hj)⟩,
  (Else.refl _ _ _ _).fset (by unfold SPl; omega) _, rfl, rfl, rfl, rfl, fun m hm hs => hs.fset (by omega) _⟩
structure InnI (list : List Nat) (l : Int) (gA : Nat) (S1 : Sol) (V : Ver) (u1 : Frs) (B i : Nat) (S : Sol) (kept : List Nat) (W : Ver) (u : Frs) : Prop where
 eq : Sol.inner l list S1 [] = Sol.inner l (list.drop i) S kept
 sw : ∃ B', SW S B' ∧ B' + kept.length = B + i
 kp : Kept u1 u 0 S1 V S W
 lst : S.wl.getD (atL l) [] = list
 ver : W.wv (atL l) = gA
 fal : S.is l = -1
 kl : ∀ k ∈ kept, k < S.cl.length
 hdd : S.head = S1.head
theorem app_one (l : List Nat) (k : Nat) : n64s l ++ [.im (.int .i64 (k : Int))] = n64s (l ++ [k]) := by simp
theorem n64s_all (l : List Nat) : (n64s l).all onePV = true := by simp [onePV]
theorem n64s_down (l : List Nat) (d : Nat) : downsN d (n64s l) = some (n64s l) := by
 induction l with
 | nil => rfl
 | cons x xs ih =>
  show downsN d (PV.im (Im.int .i64 (x : Int)) :: n64s xs) = _
  simp only [downsN, downN_im, ih]
  rfl
theorem n64s_part (l : List Nat) (i n : Nat) (d : Nat) (h : n = l.length - i) : (((n64s l).drop i).take n).map (PV.upN d) = n64s (l.drop i) := by
 rw [List.take_of_length_le (by simp; omega)]
 simp only [n64s, List.map_drop, List.map_map]
 refine congrArg (List.drop i) (List.map_congr_left fun x _ => ?_)
 simp [upN_im]
theorem InnI.next {list : List Nat} {l : Int} {gA : Nat} {S1 : Sol} {V : Ver} {u1 : Frs} {B i k : Nat} {S S' : Sol} {kept kept' : List Nat} {W W' : Ver} {w w' : Frs} (h : InnI list l gA S1 V u1 B i S kept W w) (hd : list.drop i = k :: list.drop (i + 1)) (hv : Sol.visit l S kept k = (S', kept', false))
  (hk : Kept w w' 0 S W S' W') {B' : Nat} (hs : SW S' B') (hB : B' + kept'.length = B + (i + 1)) (hl : S'.wl.getD (atL l) [] = list) (hg : W'.wv (atL l) = gA) (hf : S'.is l = -1) (hkk : ∀ x ∈ kept', x < S'.cl.length) (hh : S'.head = S.head := by rfl) : InnI list l gA S1 V u1 B (i + 1) S' kept' W' w' :=
 ⟨by rw [h.eq, hd, inner_ok hv], ⟨B', hs, hB⟩, h.kp.trans hk, hl, hg, hf, hkk, hh.trans h.hdd⟩
theorem putC_putC (S : Sol) (k : Nat) (c c' : List Int) : (S.putC k c).putC k c' = S.putC k c' := by simp [Sol.putC, List.set_set]
theorem swapAt_one (c : List Int) (j : Nat) (h2 : 2 ≤ j) (hj : j < c.length) : (Sol.swapAt c 1 j).getD 1 0 = c.getD j 0 := by
 unfold Sol.swapAt
 rw [getD_set _ _ _ _ _ (by simp; exact hj), if_neg (by omega), getD_set _ _ _ _ _ (by omega), if_pos rfl]
theorem push_other {wl : List (List Nat)} {i k j : Nat} (h : j ≠ i) : (Sol.push wl i k).getD j [] = wl.getD j [] := by
 simp only [Sol.push, List.getD_eq_getElem?_getD]
 rw [List.getElem?_set_ne (fun e => h e.symm)]
theorem sSpread_ok (S0 : Sol) (V0 : Ver) (B : Nat) (up : Frs) (hA0 : SAt up 0 S0 V0) (hS0 : SW S0 B) (hB : B ≤ 3000000) (hK : S0.cl.length ≤ V0.K) (f : Nat) (hf : S0.n + 1 ≤ f + S0.head) : ACalls Try.prog 72 [.ptr 0 5 0] up fun v u => ∃ V',
  v = .i (match (Sol.spread f S0).2 with | none => -1 | some k => (k : Int)) ∧ Kept up u 0 S0 V0 (Sol.spread f S0).1 V' ∧ SW (Sol.spread f S0).1 B := by
 refine ACalls.code Try.func72 rfl 177 rfl (by simp) [.tmp 2] rfl fun Q hQ => ?_
 simp only [ups, PV.up, argEnv]
 have ft := ai ty_3 (ai ty_4 (ai ty_5 (ai ty_7 (ai ty_22 (ai ty_35 (ai ty_130 (ai ty_133 (ai ty_138 trivial))))))))
 refine Run.seq ?_
 have fx := ft
 refine Run.go ?_
 refine End.kp [0] ?_
 refine Run.seq ?_
 refine Run.block ?_
 refine Run.loop (fun m st => ∃ (f' : Nat) (S : Sol) (V : Ver) (u : Frs), m = f' ∧ S0.n + 1 ≤ f' + S.head ∧ Sol.spread f' S = Sol.spread f S0 ∧ SW S B ∧ Kept up u 0 S0 V0 S V ∧ st = ⟨[(0, .ptr 1 5 0)], [], u⟩) f ⟨f, S0, V0, up, rfl, hf, rfl, hS0, Kept.refl hA0, rfl⟩ fun m st hI => ?_
 
 obtain ⟨m, S, V, u, rfl, hf', heq, hS, hK0, rfl⟩ := hI
 have hA := hK0.at'
 have hbx := hA.box
 have htr := hA.trl
 have hn := hS.len.n
 have htn := hS.len.trn
 have hhd := hS.hd
 refine Run.seq ?_
 refine Run.seq ?_
 have fx := ai htr (ai hbx ft)
 refine Run.drawA fun K hK => ?_
 refine DOps.sim ?_
 refine DOps.nil (metAll_quiet rfl) (hK _ ?_); clear hK K
 refine End.kp [0, 19] ?_
 refine Run.cond _ rfl (fun hb => ?_) (fun hb => ?_)
 ·have hb2 := of_decide_eq_true hb
  have hin : S.head < S.tr.length := by omega
  have wi := nsucc hin (by omega)
  have hgt : (i64s S.tr ++ i64s V.tx)[S.head]? = some (.im (.int .i64 (S.tr.getD S.head 0))) := by rw [List.getElem?_append_left (by simp; omega)]; exact i64s_get _ _ hin
  have hlx := hS.len.tr _ (gtD_mem (d := 0) hin)
  have hix := hS.asg _ (gtD_mem (d := 0) hin)
  have hix2 := is_neg S hlx.1
  obtain ⟨l, hl⟩ : ∃ l, l = -(S.tr.getD S.head 0) := ⟨_, rfl⟩
  have hll : LitOk S.n l := by rw [hl]; exact ⟨by have := hlx.1; omega, by have := hlx.2; omega⟩
  have wl : IntKind.i64.wrap (0 - S.tr.getD S.head 0) = l := by
   have := hlx.2
   rw [wrap64 (by omega), hl]
   omega
  have hgi : (S.head : Int) < (S.tr.length : Int) := hb2
  have hat := at_ok S.n l hll hn
  have hal := atL_lt hll
  have hfs : Sol.spread m S = (match Sol.inner l (S.wl.getD (atL l) []) (headS S) [] with
    | (S', some k) => (S', some k)
    | (S', none) => Sol.spread (m - 1) S') := by
   obtain ⟨f2, rfl⟩ : ∃ f2, m = f2 + 1 := ⟨m - 1, by have := hK0.n; omega⟩
   rw [Sol.spread, if_pos hin, ← hl]
   rfl
  have hk1 := headU_kept hA
  have hS1 : SW (headS S) B := ⟨⟨hS.len.n, hS.len.val, hS.len.lev, hS.len.why, hS.len.wl, hS.len.tri, hS.len.tr, hS.len.trn, hS.len.stn⟩, hS.cls, hS.csz, hS.wls, hS.asg, hS.nd, hS.tot, by simp only [headS]; omega⟩
  have hwg := wcells_get S V (atL l) hal
  have hlist := hS.list hal
  obtain ⟨list, hlst⟩ : ∃ list, list = S.wl.getD (atL l) [] := ⟨_, rfl⟩
  obtain ⟨gA, hgA⟩ : ∃ gA, gA = V.wv (atL l) := ⟨_, rfl⟩
  rw [← hlst] at hlist hfs hwg
  rw [← hgA] at hwg
  have hai : ((atL l : Nat) : Int) < ((2 * S.n + 2 : Nat) : Int) := by omega
  refine Run.skip ?_
  refine End.kp [0] ?_
  refine Run.block ?_
  refine Run.seq ?_
  have fx := ai zZa (ai zTn (ai zNn (ai hai (ai hwg (ai hgi (ai wl (ai hgt (ai wi (ai htr (ai hbx ft))))))))))
  refine Run.drawA fun K hK => ?_
  refine DOps.sim ?_
  refine DOps.nil (metAll_quiet rfl) (hK _ ?_); clear hK K
  refine End.kp [0, 3] ?_
  refine Run.seq ?_
  refine Run.go ?_
  have hk1b : fset u 0 5 (.box [.vs 0 7 0 S.cl.length V.c, .vs 0 1 0 (2 * S.n + 2) 0, .vs 0 2 0 (S.n + 1) 0, .vs 0 3 0 (S.n + 1) 0, .vs 0 4 0 (S.n + 1) 0, .vs 0 8 0 S.tr.length V.t, .vs 0 9 0 S.st.length V.s, .i (S.head + 1 : Nat), .i S.next]) = fset u 0 5 (sbox (headS S) V) := rfl
  rw [hk1b]
  generalize fset u 0 5 (sbox (headS S) V) = u1 at hk1
  have hA1 := hk1.at'
  have h1bx : fget u1 0 5 = some (.box [.vs 0 7 0 S.cl.length V.c, .vs 0 1 0 (2 * S.n + 2) 0, .vs 0 2 0 (S.n + 1) 0, .vs 0 3 0 (S.n + 1) 0, .vs 0 4 0 (S.n + 1) 0, .vs 0 8 0 S.tr.length V.t, .vs 0 9 0 S.st.length V.s, .i (S.head + 1 : Nat), .i S.next]) := hA1.box
  have h1wc : fget u1 0 1 = some (.vec 22 0 (wcells S V)) := hA1.wch
  refine End.kp [0, 3] ?_
  refine Run.seq ?_
  have hz0 := h1bx
  have fx := ai h1wc (ai h1bx (ai zZa (ai zTn (ai zNn (ai hai (ai hwg (ai hgi (ai wl (ai hgt (ai wi (ai htr (ai hbx ft))))))))))))
  refine Run.drawA fun K hK => ?_
  refine DOps.sim ?_
  refine DOps.call (.i (atL l : Nat)) [] [] rfl rfl rfl rfl (by kernel_rfl) (by simp [Agree]) (fun u hu => hat u) ?_
  refine DOps.sim ?_
  refine DOps.nil (metAll_quiet rfl) (hK _ ?_); clear hK K
  refine End.kp [0, 3, 4] ?_
  refine Run.seq ?_
  refine Run.go ?_
  refine End.kp [0, 3, 4, 5] ?_
  refine Run.seq ?_
  refine Run.seq ?_
  refine Run.go ?_
  refine End.kp [0, 3, 4, 5, 46, 47, 48] ?_
  refine Run.block ?_
  refine Run.ghost (Ghost.vthaw (u := 5) 3 0 rfl) ?_
  refine Run.ghost (Ghost.form [(0, .ptr 1 5 0), (3, .i l), (4, .vs 1 (atL l + 11) 0 list.length gA), (5, .vs 0 0 0 0 0), (46, .vs 1 (atL l + 11) 0 list.length gA), (47, .i list.length), (48, .i (0 : Nat))] 1 ⟨rfl, rfl, rfl, rfl, rfl, rfl, rfl, trivial⟩ rfl (by simp only [ASt.push, List.nil_append, List.cons_append, List.take_succ_cons, List.take_zero, List.all_cons, List.all_nil, AObj.under, unders_append, unders_ims, unders, PV.under, Bool.and_true, Bool.and_self])) ?_
  refine Run.loop (fun m st => ∃ (i : Nat) (Si : Sol) (kept : List Nat) (W : Ver) (w : Frs) (g : Nat), m = list.length - i ∧ i ≤ list.length ∧ InnI list l gA (headS S) V u1 B i Si kept W w ∧ st = ⟨[(0, .ptr 1 5 0), (3, .i l), (4, .vs 1 (atL l + 11) 0 list.length gA), (5, .vs 0 0 0 kept.length g), (46, .vs 1 (atL l + 11) 0 list.length gA), (47, .i list.length), (48, .i (i : Nat))], [.vec 3 g (n64s kept)], w⟩) list.length
   ⟨0, headS S, [], V, u1, 0, rfl, by omega, ⟨rfl, ⟨B, hS1, rfl⟩, Kept.refl hA1, hlst.symm, hgA.symm, by show S.is l = -1; rw [hl, hix2, hix], fun k hk => by simp at hk, rfl⟩, rfl⟩ fun m st hI => ?_
  obtain ⟨i, Si, kept, W, w, g, rfl, hi, hI, rfl⟩ := hI
  obtain ⟨B', hSi, hBi⟩ := hI.sw
  have hAi := hI.kp.at'
  have hni : Si.n = S.n := hI.kp.n
  have ibx := hAi.box
  have iwc := hAi.wch
  have ico := hAi.clo
  have ili := hAi.wli (atL l) (by rw [hni]; exact hal)
  rw [hI.lst, hI.ver] at ili
  refine Run.seq ?_
  have fx := ai ili (ai h1wc (ai h1bx (ai zZa (ai zTn (ai zNn (ai hai (ai hwg (ai hgi (ai wl (ai hgt (ai wi (ai htr (ai hbx ft)))))))))))))
  refine Run.go ?_
  refine End.kp [0, 3, 4, 5, 46, 47, 48, 49] ?_
  refine Run.seq ?_
  refine Run.cond _ rfl (fun hb => ?_) (fun hb => ?_)
  ·have hb3 := of_decide_eq_true hb
   have hil : i < list.length := by omega
   have hii : (i : Int) < (list.length : Int) := hb3
   have wii := nsucc hil (by omega)
   have hgk := n64s_get list i hil
   have hkc := hlist.2 _ (gtD_mem (d := 0) hil)
   have hdr := drop_gtD 0 hil
   have hcl : Si.cl.length = S.cl.length := hI.kp.cl
   generalize list.getD i 0 = k at hgk hkc hdr
   have hki : k < Si.cl.length := by omega
   have hcg := ccells_get Si k hki
   have hcl1 := hSi.cl hki
   have hcv := hAi.cli k hki
   generalize hc0 : Si.cl.getD k [] = c0 at hcg hcl1 hcv
   obtain ⟨q1, q2, q3⟩ := hcl1
   have hki2 : (k : Int) < (Si.cl.length : Int) := by omega
   have g0 := i64s_get c0 0 (by omega)
   have g1 := i64s_get c0 1 (by omega)
   have p0 : (0 : Int) < (c0.length : Int) := by omega
   have p1 : (1 : Int) < (c0.length : Int) := by omega
   have lc0 : (i64s c0).length = c0.length := by simp
   have n0 : 0 < c0.length := by omega
   have n1 : 1 < c0.length := by omega
   refine Run.skip ?_
   refine End.kp [0, 3, 4, 5, 46, 47, 48] ?_
   refine Run.seq ?_
   refine Run.block ?_
   refine Run.seq ?_
   have fx := ai (@fget_fset) (ai (@List.length_set.{0}) (ai n1 (ai n0 (ai lc0 (ai p1 (ai p0 (ai g1 (ai g0 (ai hki2 (ai hcv (ai hcg (ai ico (ai ibx (ai wii (ai hii (ai hgk (ai ili (ai h1wc (ai h1bx (ai zZa (ai zTn (ai zNn (ai hai (ai hwg (ai hgi (ai wl (ai hgt (ai wi (ai htr (ai hbx ft))))))))))))))))))))))))))))))
   refine Run.go ?_
   refine End.kp [0, 3, 4, 5, 6, 7, 46, 47, 48] ?_
   refine Run.seq ?_
   refine Run.go ?_
   refine End.kp [0, 3, 4, 5, 6, 7, 8, 46, 47, 48] ?_
   refine Run.seq ?_
   refine Run.seq ?_
   refine Run.go ?_
   refine End.kp [0, 3, 4, 5, 6, 7, 8, 46, 47, 48, 64] ?_
   refine Run.cond _ rfl (fun hb => ?_) (fun hb => ?_)
   ·have hb4 : c0.getD 0 0 = l := by simpa using hb
    obtain ⟨c1, hc1⟩ : ∃ c1, c1 = Sol.turn l c0 := ⟨_, rfl⟩
    have hsc := swap_cells c0 0 1
    rw [show Sol.swapAt c0 0 1 = c1 by rw [hc1]; exact (if_pos hb4).symm] at hsc
    have fx := ai (@fget_fset) (ai (@List.length_set.{0}) (ai n1 (ai n0 (ai lc0 (ai p1 (ai p0 (ai g1 (ai g0 (ai hki2 (ai hcv (ai hcg (ai ico (ai ibx (ai wii (ai hii (ai hgk (ai ili (ai h1wc (ai h1bx (ai zZa (ai zTn (ai zNn (ai hai (ai hwg (ai hgi (ai wl (ai hgt (ai wi (ai htr (ai hbx ft))))))))))))))))))))))))))))))
    refine Run.drawA fun K hK => ?_
    refine DOps.sim ?_
    refine DOps.nil ?_ (hK _ ?_)
    ·rfl
    clear hK K
    rw [hsc]
    
    have hq0 : c1.length = c0.length := by rw [hc1]; exact turn_len l c0
    have hqm : ∀ y ∈ c1, LitOk Si.n y := fun y hy => q3 y (turn_mem q1 y (by rw [← hc1]; exact hy))
    have hKi : Si.cl.length ≤ W.K := by have := hI.kp.K; have := hk1.K; have := hK0.K; have := hK0.cl; omega
    have hk2 := putC_kept hAi (c := c1) hki hKi (by rw [hq0, hc0])
    have hsw2 : SW (Si.putC k c1) B' := hSi.putC ⟨by omega, by omega, hqm⟩
    have jbx : fget (fset w 0 (k + (2 * Si.n + 2) + 11) (.vec 3 0 (i64s c1))) 0 5 = some (.box [.vs 0 7 0 Si.cl.length W.c, .vs 0 1 0 (2 * Si.n + 2) 0, .vs 0 2 0 (Si.n + 1) 0, .vs 0 3 0 (Si.n + 1) 0, .vs 0 4 0 (Si.n + 1) 0, .vs 0 8 0 Si.tr.length W.t, .vs 0 9 0 Si.st.length W.s, .i Si.head, .i Si.next]) := by rw [fget_fset, if_neg (by omega)]; exact hAi.box
    have jwc : fget (fset w 0 (k + (2 * Si.n + 2) + 11) (.vec 3 0 (i64s c1))) 0 1 = some (.vec 22 0 (wcells Si W)) := by rw [fget_fset, if_neg (by omega)]; exact hAi.wch
    have jli : fget (fset w 0 (k + (2 * Si.n + 2) + 11) (.vec 3 0 (i64s c1))) 0 (atL l + 11) = some (.vec 3 gA (n64s list)) := by rw [fget_fset, if_neg (by omega)]; exact ili
    have jcv : fget (fset w 0 (k + (2 * Si.n + 2) + 11) (.vec 3 0 (i64s c1))) 0 (k + (2 * Si.n + 2) + 11) = some (.vec 3 0 (i64s c1)) := by rw [fget_fset, if_pos ⟨rfl, rfl⟩, hcv]; rfl
    
    generalize fset w 0 (k + (2 * Si.n + 2) + 11) (.vec 3 0 (i64s c1)) = w2 at hk2 jbx jwc jli jcv
    
    have hA2 := hk2.at'
    have hy0 : LitOk Si.n (c1.getD 0 0) := hqm _ (gtD_mem (by omega))
    have f0 := i64s_get c1 0 (by omega)
    have r0 : (0 : Int) < (c0.length : Int) := p0
    refine End.kp [0, 3, 4, 5, 6, 7, 8, 46, 47, 48] ?_
    refine Run.seq ?_
    refine Run.seq ?_
    have fx := ai r0 (ai f0 (ai jcv (ai jwc (ai jbx (ai (@fget_fset) (ai (@List.length_set.{0}) (ai n1 (ai n0 (ai lc0 (ai p1 (ai p0 (ai g1 (ai g0 (ai hki2 (ai hcv (ai hcg (ai ico (ai ibx (ai wii (ai hii (ai hgk (ai ili (ai h1wc (ai h1bx (ai zZa (ai zTn (ai zNn (ai hai (ai hwg (ai hgi (ai wl (ai hgt (ai wi (ai htr (ai hbx ft)))))))))))))))))))))))))))))))))))
    refine Run.region rfl fun K hK => GOps.sim ?_
    refine GOps.call rfl rfl rfl rfl (by kernel_rfl) (ACalls.sim ?_)
    refine (is_ok (Si.putC k c1) W 1 _ (hA2.cons _) hsw2.len (c1.getD 0 0) hy0).mono fun v u hv => ?_
    obtain ⟨rfl, rfl⟩ := hv
    refine ⟨_, _, rfl, GOps.sim ?_⟩
    refine GOps.done (hK _ ?_); clear hK K
    refine End.kp [0, 3, 4, 5, 6, 7, 8, 46, 47, 48, 80] ?_
    refine Run.cond _ rfl (fun hb => ?_) (fun hb => ?_)
    ·have hb5 : Si.is (c1.getD 0 0) = 1 := eq_of_beq (show (Si.is (c1.getD 0 0) == 1) = true from hb)
     have hap : (kept.length + 1) * 8 ≤ 140737488355328 := by omega
     have htk : (n64s kept).take kept.length = n64s kept := List.take_of_length_le (by simp)
     refine Run.seq ?_
     have fx := ai htk (ai hap (ai r0 (ai f0 (ai jcv (ai jwc (ai jbx (ai (@fget_fset) (ai (@List.length_set.{0}) (ai n1 (ai n0 (ai lc0 (ai p1 (ai p0 (ai g1 (ai g0 (ai hki2 (ai hcv (ai hcg (ai ico (ai ibx (ai wii (ai hii (ai hgk (ai ili (ai h1wc (ai h1bx (ai zZa (ai zTn (ai zNn (ai hai (ai hwg (ai hgi (ai wl (ai hgt (ai wi (ai htr (ai hbx ft)))))))))))))))))))))))))))))))))))))
     refine Run.go ?_
     refine End.kp [0, 3, 4, 5, 46, 47, 48] ?_
     refine Run.exit rfl ?_
     refine End.kp [0, 3, 4, 5, 46, 47, 48] ?_
     refine Run.go ?_
     refine End.lp ?_
     have hv : Sol.visit l Si kept k = (Si.putC k c1, kept ++ [k], false) := by simp only [Sol.visit, hc0, ← hc1, if_pos hb5]
     refine ⟨list.length - (i + 1), _, by omega, Ghost.form [(0, .ptr 1 5 0), (3, .i l), (4, .vs 1 (atL l + 11) 0 list.length gA), (5, .vs 0 0 0 (kept.length + 1) (g + 1)), (46, .vs 1 (atL l + 11) 0 list.length gA), (47, .i list.length), (48, .i (i + 1 : Nat))] 1 ⟨rfl, rfl, rfl, rfl, rfl, rfl, rfl, trivial⟩ rfl (by simp only [ASt.push, List.nil_append, List.cons_append, List.take_succ_cons, List.take_zero, List.all_cons, List.all_nil, AObj.under, unders_append, unders_ims, unders, PV.under, Bool.and_true, Bool.and_self]), i + 1, Si.putC k c1, kept ++ [k], W, w2, g + 1, rfl, by omega, hI.next hdr hv hk2 hsw2 (by rw [List.length_append]; simp only [List.length_cons, List.length_nil]; omega) hI.lst hI.ver hI.fal (fun y hy => ?_), ?_⟩
     ·rw [show (Si.putC k c1).cl.length = Si.cl.length by simp [Sol.putC]]
      rcases List.mem_append.1 hy with h | h
      ·exact hI.kl y h
      ·rw [List.mem_singleton.1 h]; exact hki
     ·rw [← app_one, List.length_append]
      rfl
    ·have hb5 : ¬ (Si.is (c1.getD 0 0) = 1) := ne_of_beq_false (show (Si.is (c1.getD 0 0) == 1) = false from hb)
     refine Run.skip ?_
     refine End.kp [0, 3, 4, 5, 6, 7, 8, 46, 47, 48] ?_
     refine Run.seq ?_
     have fx := ai r0 (ai f0 (ai jcv (ai jwc (ai jbx (ai (@fget_fset) (ai (@List.length_set.{0}) (ai n1 (ai n0 (ai lc0 (ai p1 (ai p0 (ai g1 (ai g0 (ai hki2 (ai hcv (ai hcg (ai ico (ai ibx (ai wii (ai hii (ai hgk (ai ili (ai h1wc (ai h1bx (ai zZa (ai zTn (ai zNn (ai hai (ai hwg (ai hgi (ai wl (ai hgt (ai wi (ai htr (ai hbx ft)))))))))))))))))))))))))))))))))))
     refine Run.go ?_
     refine End.kp [0, 3, 4, 5, 6, 7, 8, 9, 46, 47, 48] ?_
     refine Run.seq ?_
     refine Run.block ?_
     refine Run.ghost (Ghost.form [(0, .ptr 1 5 0), (3, .i l), (4, .vs 1 (atL l + 11) 0 list.length gA), (5, .vs 0 0 0 kept.length g), (6, .i i), (7, .i k), (8, .vs 1 (k + (2 * Si.n + 2) + 11) 0 c0.length 0), (9, .i 2), (46, .vs 1 (atL l + 11) 0 list.length gA), (47, .i list.length), (48, .i i)] 1 ⟨rfl, rfl, rfl, rfl, rfl, rfl, rfl, rfl, rfl, rfl, rfl, trivial⟩ rfl (by simp only [ASt.push, List.nil_append, List.cons_append, List.take_succ_cons, List.take_zero, List.all_cons, List.all_nil, AObj.under, unders_append, unders_ims, unders, PV.under, Bool.and_true, Bool.and_self])) ?_
     refine Run.loop (fun m st => ∃ j : Nat, m = c0.length - j ∧ 2 ≤ j ∧ j ≤ c0.length ∧ Si.scan c1 2 = Si.scan c1 j ∧ st = ⟨[(0, .ptr 1 5 0), (3, .i l), (4, .vs 1 (atL l + 11) 0 list.length gA), (5, .vs 0 0 0 kept.length g), (6, .i i), (7, .i k), (8, .vs 1 (k + (2 * Si.n + 2) + 11) 0 c0.length 0), (9, .i (j : Nat)), (46, .vs 1 (atL l + 11) 0 list.length gA), (47, .i list.length), (48, .i i)], [.vec 3 g (n64s kept)], w2⟩) (c0.length - 2) ⟨2, rfl, by omega, by omega, rfl, rfl⟩ fun m st hJ => ?_
     obtain ⟨j, rfl, hj2, hjc, hsn, rfl⟩ := hJ
     refine Run.seq ?_
     refine Run.seq ?_
     rcases Bool.eq_false_or_eq_true (decide (j < c0.length)) with hs15 | hs15
     ·skip
      have hjl := of_decide_eq_true hs15
      have dj : decide ((j : Int) < (c0.length : Int)) = true := decide_eq_true (by omega)
      have djp : (j : Int) < (c0.length : Int) := by omega
      have fj := i64s_get c1 j (by omega)
      have hyj : LitOk Si.n (c1.getD j 0) := hqm _ (gtD_mem (by omega))
      have wj := nsucc hjl (by omega)
      have hs15 := hs15
      have fx := ai wj (ai fj (ai djp (ai dj (ai hs15 fx))))
      refine Run.region rfl fun K hK => GOps.sim ?_
      refine GOps.call rfl rfl rfl rfl (by kernel_rfl) (ACalls.sim ?_)
      refine (is_ok (Si.putC k c1) W 1 _ (hA2.cons _) hsw2.len (c1.getD j 0) hyj).mono fun v u hv => ?_
      obtain ⟨rfl, rfl⟩ := hv
      refine ⟨_, _, rfl, GOps.sim ?_⟩
      refine GOps.done (hK _ ?_); clear hK K
      refine End.kp [0, 3, 4, 5, 6, 7, 8, 9, 46, 47, 48, 97] ?_
      refine Run.cond _ rfl (fun hb => ?_) (fun hb => ?_)
      ·have hb6 : Si.is (c1.getD j 0) = -1 := eq_of_beq (show (Si.is (c1.getD j 0) == -1) = true from hb)
       refine Run.skip ?_
       refine End.kp [0, 3, 4, 5, 6, 7, 8, 9, 46, 47, 48] ?_
       refine Run.block ?_
       have fx := ai wj (ai fj (ai djp (ai dj (ai hs15 (ai r0 (ai f0 (ai jcv (ai jwc (ai jbx (ai (@fget_fset) (ai (@List.length_set.{0}) (ai n1 (ai n0 (ai lc0 (ai p1 (ai p0 (ai g1 (ai g0 (ai hki2 (ai hcv (ai hcg (ai ico (ai ibx (ai wii (ai hii (ai hgk (ai ili (ai h1wc (ai h1bx (ai zZa (ai zTn (ai zNn (ai hai (ai hwg (ai hgi (ai wl (ai hgt (ai wi (ai htr (ai hbx ft))))))))))))))))))))))))))))))))))))))))
       refine Run.go ?_
       refine End.blk ?_
       refine End.lp ?_
       refine ⟨c0.length - (j + 1), _, by omega, Ghost.form [(0, .ptr 1 5 0), (3, .i l), (4, .vs 1 (atL l + 11) 0 list.length gA), (5, .vs 0 0 0 kept.length g), (6, .i i), (7, .i k), (8, .vs 1 (k + (2 * Si.n + 2) + 11) 0 c0.length 0), (9, .i (j + 1 : Nat)), (46, .vs 1 (atL l + 11) 0 list.length gA), (47, .i list.length), (48, .i i)] 1 ⟨rfl, rfl, rfl, rfl, rfl, rfl, rfl, rfl, rfl, rfl, rfl, trivial⟩ rfl (by simp only [ASt.push, List.nil_append, List.cons_append, List.take_succ_cons, List.take_zero, List.all_cons, List.all_nil, AObj.under, unders_append, unders_ims, unders, PV.under, Bool.and_true, Bool.and_self]), j + 1, rfl, by omega, by omega, by rw [hsn, scan_more (by omega) hb6], rfl⟩
      ·have hb6 : ¬ (Si.is (c1.getD j 0) = -1) := ne_of_beq_false (show (Si.is (c1.getD j 0) == -1) = false from hb)
       have hst : Si.scan c1 2 = j := by rw [hsn]; exact scan_stop (fun h => hb6 h.2)
       refine Run.exit rfl ?_
       refine End.kp [0, 3, 4, 5, 6, 7, 8, 9, 46, 47, 48] ?_
       refine Run.seq ?_
       refine Run.seq ?_
       have fx := ai wj (ai fj (ai djp (ai dj (ai hs15 (ai r0 (ai f0 (ai jcv (ai jwc (ai jbx (ai (@fget_fset) (ai (@List.length_set.{0}) (ai n1 (ai n0 (ai lc0 (ai p1 (ai p0 (ai g1 (ai g0 (ai hki2 (ai hcv (ai hcg (ai ico (ai ibx (ai wii (ai hii (ai hgk (ai ili (ai h1wc (ai h1bx (ai zZa (ai zTn (ai zNn (ai hai (ai hwg (ai hgi (ai wl (ai hgt (ai wi (ai htr (ai hbx ft))))))))))))))))))))))))))))))))))))))))
       refine Run.go ?_
       refine End.kp [0, 3, 4, 5, 6, 7, 8, 9, 46, 47, 48, 103] ?_
       refine Run.cond _ rfl (fun hb => ?_) (fun hb => ?_)
       ·have hb7 := hb
        have f1 := i64s_get c1 1 (by omega)
        have hsw := swap_cells c1 1 j
        obtain ⟨c2, hc2⟩ : ∃ c2, c2 = Sol.swapAt c1 1 j := ⟨_, rfl⟩
        rw [← hc2] at hsw
        have hl2 : c2.length = c0.length := by rw [hc2, swapAt_len, hq0]
        have hqm2 : ∀ y ∈ c2, LitOk Si.n y := fun y hy => hqm y (swapAt_mem (c := c1) (i := 1) (j := j) (by omega) (by omega) y (by rw [← hc2]; exact hy))
        have hz1 : c2.getD 1 0 = c1.getD j 0 := by rw [hc2]; exact swapAt_one c1 j hj2 (by omega)
        have lc1 : (i64s c1).length = c0.length := by simp [hq0]
        refine Run.seq ?_
        have fx := ai hjl (ai lc1 (ai f1 (ai wj (ai fj (ai djp (ai dj (ai hs15 (ai r0 (ai f0 (ai jcv (ai jwc (ai jbx (ai (@fget_fset) (ai (@List.length_set.{0}) (ai n1 (ai n0 (ai lc0 (ai p1 (ai p0 (ai g1 (ai g0 (ai hki2 (ai hcv (ai hcg (ai ico (ai ibx (ai wii (ai hii (ai hgk (ai ili (ai h1wc (ai h1bx (ai zZa (ai zTn (ai zNn (ai hai (ai hwg (ai hgi (ai wl (ai hgt (ai wi (ai htr (ai hbx ft)))))))))))))))))))))))))))))))))))))))))))
        refine Run.drawA fun K hK => ?_
        refine DOps.sim ?_
        refine DOps.nil ?_ (hK _ ?_)
        ·rfl
        clear hK K
        rw [hsw]
        have kbx : fget (fset w2 0 (k + (2 * Si.n + 2) + 11) (.vec 3 0 (i64s c2))) 0 5 = some (.box [.vs 0 7 0 Si.cl.length W.c, .vs 0 1 0 (2 * Si.n + 2) 0, .vs 0 2 0 (Si.n + 1) 0, .vs 0 3 0 (Si.n + 1) 0, .vs 0 4 0 (Si.n + 1) 0, .vs 0 8 0 Si.tr.length W.t, .vs 0 9 0 Si.st.length W.s, .i Si.head, .i Si.next]) := by rw [fget_fset, if_neg (by omega)]; exact jbx
        have kwc : fget (fset w2 0 (k + (2 * Si.n + 2) + 11) (.vec 3 0 (i64s c2))) 0 1 = some (.vec 22 0 (wcells Si W)) := by rw [fget_fset, if_neg (by omega)]; exact jwc
        have kcv : fget (fset w2 0 (k + (2 * Si.n + 2) + 11) (.vec 3 0 (i64s c2))) 0 (k + (2 * Si.n + 2) + 11) = some (.vec 3 0 (i64s c2)) := by rw [fget_fset, if_pos ⟨rfl, rfl⟩, jcv]; rfl
        have hk3 : Kept w (fset w2 0 (k + (2 * Si.n + 2) + 11) (.vec 3 0 (i64s c2))) 0 Si W ((Si.putC k c1).putC k c2) W := hk2.trans (putC_kept hA2 (k := k) (c := c2) (by simp [Sol.putC]; exact hki) (by simp [Sol.putC]; exact hKi) (by rw [hl2, ← hq0]; simp [Sol.putC, hki]))
        have hcl9 : (Si.putC k c1).cl.length = Si.cl.length := by simp [Sol.putC]
        rw [putC_putC] at hk3
        have hsw3 : SW (Si.putC k c2) B' := hSi.putC ⟨by omega, by omega, hqm2⟩
        obtain ⟨z, hz⟩ : ∃ z, z = c2.getD 1 0 := ⟨_, rfl⟩
        have hlz : LitOk Si.n z := by rw [hz]; exact hqm2 _ (gtD_mem (by omega))
        have k1 := at_ok Si.n z hlz hSi.len.n
        have a1 := atL_lt hlz
        have z1 := i64s_get c2 1 (by omega)
        rw [← hz] at z1
        have hzl : atL l ≠ atL z := fun e => by
         have e2 := atL_inj (n := Si.n) (by rw [hni]; exact hll) hlz e
         have h9 := hI.fal
         rw [e2, hz, hz1] at h9
         exact hb6 h9
        obtain ⟨A1, hA1e⟩ : ∃ A1, A1 = atL z := ⟨_, rfl⟩
        rw [← hA1e] at k1 a1 hzl
        have kwl := hk3.at'.wli A1 a1
        have cg1 := wcells_get Si W A1 a1
        have i1 : ((A1 : Nat) : Int) < ((2 * Si.n + 2 : Nat) : Int) := by omega
        have lw1 : (wcells Si W).length = 2 * Si.n + 2 := by simp
        have bl := (hSi.list a1).1
        have ap1 : ((Si.wl.getD A1 []).length + 1) * 8 ≤ 140737488355328 := by have := hBi; omega
        have tk1 : (n64s (Si.wl.getD A1 [])).take (Si.wl.getD A1 []).length = n64s (Si.wl.getD A1 []) := List.take_of_length_le (by simp)
        have kwl : fget (fset w2 0 (k + (2 * Si.n + 2) + 11) (.vec 3 0 (i64s c2))) 0 (A1 + 11) = some (.vec 3 (W.wv A1) (n64s (Si.wl.getD A1 []))) := kwl
        have hk4 := hk3.trans (grewU_kept hk3.at' (i := A1) (k := k) a1 hsw3.len.wl)
        have hsw4 := SW.push hsw3 (i := A1) (k := k) a1 (by simp [Sol.putC]; exact hki)
        generalize fset w2 0 (k + (2 * Si.n + 2) + 11) (.vec 3 0 (i64s c2)) = w3 at kbx kwc kcv kwl hk3 hk4
        refine End.kp [0, 3, 4, 5, 7, 8, 46, 47, 48] ?_
        refine Run.seq ?_
        refine Run.ghost (.spares 1) ?_
        simp only [ASt.pushN, ASt.push, List.append_assoc, List.cons_append, List.nil_append]
        have fx := ai a1 (ai lw1 (ai tk1 (ai ap1 (ai cg1 (ai i1 (ai z1 (ai kwl (ai kcv (ai kwc (ai kbx (ai hjl (ai lc1 (ai f1 (ai wj (ai fj (ai djp (ai dj (ai hs15 (ai r0 (ai f0 (ai jcv (ai jwc (ai jbx (ai (@fget_fset) (ai (@List.length_set.{0}) (ai n1 (ai n0 (ai lc0 (ai p1 (ai p0 (ai g1 (ai g0 (ai hki2 (ai hcv (ai hcg (ai ico (ai ibx (ai wii (ai hii (ai hgk (ai ili (ai h1wc (ai h1bx (ai zZa (ai zTn (ai zNn (ai hai (ai hwg (ai hgi (ai wl (ai hgt (ai wi (ai htr (ai hbx ft))))))))))))))))))))))))))))))))))))))))))))))))))))))
        refine Run.drawA fun K hK => ?_
        refine DOps.sim ?_
        refine DOps.call (.i (A1 : Nat)) [] [] rfl rfl rfl rfl (by kernel_rfl) (by simp [Agree]) (fun u hu => k1 u) ?_
        refine DOps.sim ?_
        refine DOps.call (.i (A1 : Nat)) [] [] rfl rfl rfl rfl (by kernel_rfl) (by simp [Agree]) (fun u hu => k1 u) ?_
        refine DOps.sim ?_
        refine DOps.nil ?_ (hK _ ?_)
        ·rfl
        clear hK K
        refine End.kp [0, 3, 4, 5, 46, 47, 48] ?_
        refine Run.exit rfl ?_
        refine End.kp [0, 3, 4, 5, 46, 47, 48] ?_
        refine Run.go ?_
        refine End.lp ?_
        have hv : Sol.visit l Si kept k = ({ Si.putC k c2 with wl := Sol.push Si.wl A1 k }, kept, false) := by
         simp only [Sol.visit, hc0, ← hc1, if_neg hb5, hst, if_pos (show j < c1.length by omega), ← hc2, ← hz, ← hA1e]
        refine ⟨list.length - (i + 1), _, by omega, Ghost.form [(0, .ptr 1 5 0), (3, .i l), (4, .vs 1 (atL l + 11) 0 list.length gA), (5, .vs 0 0 0 kept.length g), (46, .vs 1 (atL l + 11) 0 list.length gA), (47, .i list.length), (48, .i (i + 1 : Nat))] 1 ⟨rfl, rfl, rfl, rfl, rfl, rfl, rfl, trivial⟩ rfl (by simp only [ASt.push, List.nil_append, List.cons_append, List.take_succ_cons, List.take_zero, List.all_cons, List.all_nil, AObj.under, unders_append, unders_ims, unders, PV.under, Bool.and_true, Bool.and_self]), i + 1, { Si.putC k c2 with wl := Sol.push Si.wl A1 k }, kept, bump W A1, grewU w3 0 (Si.putC k c2) W A1 k, g, rfl, by omega, hI.next hdr hv hk4 hsw4 (by omega) ?_ ?_ hI.fal (fun y hy => ?_), ?_⟩
        ·exact (push_other hzl).trans hI.lst
        ·show (if atL l = A1 then _ else _) = _
         rw [if_neg hzl]
         exact hI.ver
        ·rw [show ({ Si.putC k c2 with wl := Sol.push Si.wl A1 k } : Sol).cl.length = Si.cl.length by simp [Sol.putC]]
         exact hI.kl y hy
        ·have y4 := wcells_set Si W A1 k a1 hSi.len.wl
         rw [grewU, show wcells { Si.putC k c2 with wl := Sol.push (Si.putC k c2).wl A1 k } (bump W A1) = _ from y4.symm, ← app_one]
         rfl
       ·have hb7 := hb
        simp at hb
     ·skip
      have hjl := of_decide_eq_false hs15
      have dj : decide ((j : Int) < (c0.length : Int)) = false := decide_eq_false (by omega)
      have djp : True := trivial
      have fj : True := trivial
      have wj : True := trivial
      have fx := ai wj (ai fj (ai djp (ai dj (ai hs15 fx))))
      refine Run.region rfl fun K hK => GOps.sim ?_
      refine GOps.done (hK _ ?_); clear hK K
      refine End.kp [0, 3, 4, 5, 6, 7, 8, 9, 46, 47, 48, 97] ?_
      refine Run.cond _ rfl (fun hb => ?_) (fun hb => ?_)
      ·have hb6 := hb
       simp at hb
      ·have hb6 := hb
       refine Run.exit rfl ?_
       refine End.kp [0, 3, 4, 5, 6, 7, 8, 9, 46, 47, 48] ?_
       refine Run.seq ?_
       refine Run.seq ?_
       have fx := ai wj (ai fj (ai djp (ai dj (ai hs15 (ai r0 (ai f0 (ai jcv (ai jwc (ai jbx (ai (@fget_fset) (ai (@List.length_set.{0}) (ai n1 (ai n0 (ai lc0 (ai p1 (ai p0 (ai g1 (ai g0 (ai hki2 (ai hcv (ai hcg (ai ico (ai ibx (ai wii (ai hii (ai hgk (ai ili (ai h1wc (ai h1bx (ai zZa (ai zTn (ai zNn (ai hai (ai hwg (ai hgi (ai wl (ai hgt (ai wi (ai htr (ai hbx ft))))))))))))))))))))))))))))))))))))))))
       refine Run.go ?_
       refine End.kp [0, 3, 4, 5, 6, 7, 8, 9, 46, 47, 48, 103] ?_
       refine Run.cond _ rfl (fun hb => ?_) (fun hb => ?_)
       ·have hb7 := hb
        simp at hb
       ·have hb7 := hb
        have hst : Si.scan c1 2 = j := by rw [hsn]; exact scan_stop (fun h => by have := h.1; omega)
        have hjv : ¬ (Si.scan c1 2 < c1.length) := by omega
        have hap : (kept.length + 1) * 8 ≤ 140737488355328 := by omega
        have htk : (n64s kept).take kept.length = n64s kept := List.take_of_length_le (by simp)
        refine Run.skip ?_
        refine End.kp [0, 3, 4, 5, 6, 7, 8, 46, 47, 48] ?_
        refine Run.seq ?_
        have fx := ai htk (ai hap fx)
        refine Run.go ?_
        refine End.kp [0, 3, 4, 5, 6, 7, 8, 46, 47, 48] ?_
        refine Run.seq ?_
        refine Run.seq ?_
        refine Run.region rfl fun K hK => GOps.sim ?_
        refine GOps.call rfl rfl rfl rfl (by kernel_rfl) (ACalls.sim ?_)
        refine (is_ok (Si.putC k c1) W 1 _ (hA2.cons _) hsw2.len (c1.getD 0 0) hy0).mono fun v u hv => ?_
        obtain ⟨rfl, rfl⟩ := hv
        refine ⟨_, _, rfl, GOps.sim ?_⟩
        refine GOps.done (hK _ ?_); clear hK K
        refine End.kp [0, 3, 4, 5, 6, 7, 8, 46, 47, 48, 147] ?_
        refine Run.cond _ rfl (fun hb => ?_) (fun hb => ?_)
        ·have hb8 : Si.is (c1.getD 0 0) = -1 := eq_of_beq (show (Si.is (c1.getD 0 0) == -1) = true from hb)
         have hv : Sol.visit l Si kept k = (Si.putC k c1, kept ++ [k], true) := by simp only [Sol.visit, hc0, ← hc1, if_neg hb5, if_neg hjv, if_pos hb8]
         have aph : n64s kept ++ [PV.im ([Im.int IntKind.i64 (k : Int)].headD (Im.bool false))] = n64s (kept ++ [k]) := app_one kept k
         rw [aph]
         refine Run.ghost (Ghost.swapVec 0 0 1 (atL l + 11) (m1 := (kept ++ [k]).map fun (x : Nat) => Im.int .i64 (x : Int)) (m2 := list.map fun (x : Nat) => Im.int .i64 (x : Int)) rfl jli (fun h => absurd h.1 (by decide)) rfl (cSwap.keep (t := 0) rfl (cSwap.keep (t := 3) rfl (cSwap.two (t := 4) rfl (cSwap.one (t := 5) rfl (cSwap.keep (t := 6) rfl (cSwap.keep (t := 7) rfl cSwap.nil))))))) ?_
         have sw1 : fget (fset w2 0 (atL l + 11) (.vec 3 (gA + 1) (n64s (kept ++ [k])))) 0 (atL l + 11) = some (.vec 3 (gA + 1) (n64s (kept ++ [k]))) := by rw [fget_fset, if_pos ⟨rfl, rfl⟩, jli]; rfl
         have pr := n64s_part list (i + 1) (list.length - (i + 1)) 0 rfl
         have oa := n64s_all list
         have nd := n64s_down (list.drop (i + 1)) 1
         have nl : (n64s (list.drop (i + 1))).length = list.length - (i + 1) := by simp
         have tk9 : (n64s (kept ++ [k])).take (kept.length + 1) = n64s (kept ++ [k]) := List.take_of_length_le (by simp)
         have ap9 : (kept.length + 1 + (list.length - (i + 1))) * 8 ≤ 140737488355328 := by omega
         have sb1 : i + 1 ≤ list.length := by omega
         have cgA := wcells_get Si W (atL l) (by omega)
         have iA : ((atL l : Nat) : Int) < ((2 * Si.n + 2 : Nat) : Int) := by omega
         have aA : atL l < 2 * Si.n + 2 := by omega
         have lwA : (wcells Si W).length = 2 * Si.n + 2 := by simp
         refine Run.seq ?_
         have fx := ai lwA (ai aA (ai iA (ai cgA (ai sb1 (ai ap9 (ai tk9 (ai nl (ai nd (ai oa (ai pr (ai sw1 (ai htk (ai hap (ai wj (ai fj (ai djp (ai dj (ai hs15 (ai r0 (ai f0 (ai jcv (ai jwc (ai jbx (ai (@fget_fset) (ai (@List.length_set.{0}) (ai n1 (ai n0 (ai lc0 (ai p1 (ai p0 (ai g1 (ai g0 (ai hki2 (ai hcv (ai hcg (ai ico (ai ibx (ai wii (ai hii (ai hgk (ai ili (ai h1wc (ai h1bx (ai zZa (ai zTn (ai zNn (ai hai (ai hwg (ai hgi (ai wl (ai hgt (ai wi (ai htr (ai hbx ft))))))))))))))))))))))))))))))))))))))))))))))))))))))
         refine Run.drawA fun K hK => ?_
         refine DOps.sim ?_
         refine DOps.call (.i (atL l : Nat)) [] [] rfl rfl rfl rfl (by kernel_rfl) (by simp [Agree]) (fun u hu => hat u) ?_
         refine DOps.sim ?_
         refine DOps.nil ?_ (hK _ ?_)
         ·rfl
         clear hK K
         refine End.kp [7] ?_
         refine Run.seq ?_
         refine Run.go ?_
         refine End.kp [2] ?_
         refine Run.ret (hQ _ _ ⟨.inr rfl, _, rfl, _, rfl, ?_⟩)
         have e1 : (n64s (kept ++ [k]) ++ n64s (list.drop (i + 1))) = n64s ((kept ++ [k]) ++ list.drop (i + 1)) := by simp
         have e2 : ((kept ++ [k]) ++ list.drop (i + 1)).length = kept.length + 1 + (list.length - (i + 1)) := by simp only [List.length_append, List.length_cons, List.length_nil, List.length_drop]
         have y4 := wcells_put (Si.putC k c1) W (atL l) (gA + 2) ((kept ++ [k]) ++ list.drop (i + 1)) (by show atL l < 2 * Si.n + 2; omega) hsw2.len.wl
         rw [e2] at y4
         have hcl9 : (Si.putC k c1).cl.length = Si.cl.length := by simp [Sol.putC]
         have hfs2 : Sol.spread m S = ((Si.putC k c1).putW (atL l) ((kept ++ [k]) ++ list.drop (i + 1)), some k) := by rw [hfs, hI.eq, hdr, inner_bad hv]
         have hk5 := hK0.trans (hk1.trans (hI.kp.trans (hk2.trans (wU_kept hA2 (i := atL l) (g := gA + 2) (ks := (kept ++ [k]) ++ list.drop (i + 1)) (by show atL l < 2 * Si.n + 2; omega) hsw2.len.wl))))
         rw [wU, ← y4, ← e1] at hk5
         rw [← heq, hfs2]
         refine ⟨verW W (atL l) (gA + 2), rfl, hk5, ?_⟩
         refine hsw2.putW (by show atL l < 2 * Si.n + 2; omega) (fun k' hk' => ?_) ?_
         ·rw [hcl9, hcl]
          rcases List.mem_append.1 hk' with h | h
          ·rcases List.mem_append.1 h with h | h
           ·have := hI.kl k' h; omega
           ·rw [List.mem_singleton.1 h]; omega
          ·exact hlist.2 _ (List.mem_of_mem_drop h)
         ·rw [show (Si.putC k c1).wl.getD (atL l) [] = list from hI.lst, e2]
          omega
        ·have hb8 : ¬ (Si.is (c1.getD 0 0) = -1) := ne_of_beq_false (show (Si.is (c1.getD 0 0) == -1) = false from hb)
         have hz8 : Si.is (c1.getD 0 0) = 0 := by
          rcases is_cases hSi.len hy0 with h | h | h
          ·exact absurd h hb5
          ·exact absurd h hb8
          ·exact h
         have hv : Sol.visit l Si kept k = ((Si.putC k c1).set (c1.getD 0 0) k, kept ++ [k], false) := by simp only [Sol.visit, hc0, ← hc1, if_neg hb5, if_neg hjv, if_neg hb8]
         have hsx := hsw2.set (k : Int) hy0 (is_zero hz8)
         have hkx := setU_kept hA2 (c1.getD 0 0) (k : Int)
         have hst1 : ∀ (loc : List AObj), ACalls Try.prog 79 [.ptr 1 5 0, .i (c1.getD 0 0), .i (k : Nat)] (loc :: w2) fun v u => v = .tup [] ∧ u = loc :: setU w2 0 (Si.putC k c1) W (c1.getD 0 0) k := fun loc => set_ok (Si.putC k c1) W 1 _ (hA2.cons _) hsw2.len _ _ hy0
         refine Run.skip ?_
         refine End.kp [0, 3, 4, 5, 7, 8, 46, 47, 48] ?_
         have fx := ai htk (ai hap (ai wj (ai fj (ai djp (ai dj (ai hs15 (ai r0 (ai f0 (ai jcv (ai jwc (ai jbx (ai (@fget_fset) (ai (@List.length_set.{0}) (ai n1 (ai n0 (ai lc0 (ai p1 (ai p0 (ai g1 (ai g0 (ai hki2 (ai hcv (ai hcg (ai ico (ai ibx (ai wii (ai hii (ai hgk (ai ili (ai h1wc (ai h1bx (ai zZa (ai zTn (ai zNn (ai hai (ai hwg (ai hgi (ai wl (ai hgt (ai wi (ai htr (ai hbx ft))))))))))))))))))))))))))))))))))))))))))
         refine Run.region rfl fun K hK => GOps.sim ?_
         refine GOps.call rfl rfl rfl rfl (by kernel_rfl) (ACalls.sim ?_)
         refine (hst1 _).mono fun v u hv => ?_
         obtain ⟨rfl, rfl⟩ := hv
         refine ⟨_, _, rfl, GOps.sim ?_⟩
         refine GOps.done (hK _ ?_); clear hK K
         refine End.blk ?_
         refine End.kp [0, 3, 4, 5, 46, 47, 48] ?_
         refine Run.go ?_
         refine End.lp ?_
         refine ⟨list.length - (i + 1), _, by omega, Ghost.form [(0, .ptr 1 5 0), (3, .i l), (4, .vs 1 (atL l + 11) 0 list.length gA), (5, .vs 0 0 0 (kept.length + 1) (g + 1)), (46, .vs 1 (atL l + 11) 0 list.length gA), (47, .i list.length), (48, .i (i + 1 : Nat))] 1 ⟨rfl, rfl, rfl, rfl, rfl, rfl, rfl, trivial⟩ rfl (by simp only [ASt.push, List.nil_append, List.cons_append, List.take_succ_cons, List.take_zero, List.all_cons, List.all_nil, AObj.under, unders_append, unders_ims, unders, PV.under, Bool.and_true, Bool.and_self]), i + 1, (Si.putC k c1).set (c1.getD 0 0) k, kept ++ [k], setV W, setU w2 0 (Si.putC k c1) W (c1.getD 0 0) k, g + 1, rfl, by omega, hI.next hdr hv (hk2.trans hkx) hsx (by rw [List.length_append]; simp only [List.length_cons, List.length_nil]; omega) hI.lst hI.ver ?_ (fun y hy => ?_), ?_⟩
         ·rw [is_set_ne (S := Si.putC k c1) (by rw [hsw2.len.val]; have := hy0.2; show _ < Si.n + 1; omega) (fun e => ?_)]
          ·exact hI.fal
          ·have h9 := hI.fal
           unfold Sol.is at h9 hz8
           rw [e] at h9
           split at h9 <;> split at hz8 <;> omega
         ·rw [show ((Si.putC k c1).set (c1.getD 0 0) k).cl.length = Si.cl.length by simp [Sol.putC, Sol.set]]
          rcases List.mem_append.1 hy with h | h
          ·exact hI.kl y h
          ·rw [List.mem_singleton.1 h]; exact hki
         ·rw [← app_one, List.length_append]
          rfl
   ·have hb4 : ¬ (c0.getD 0 0 = l) := by simpa using hb
    obtain ⟨c1, hc1⟩ : ∃ c1, c1 = Sol.turn l c0 := ⟨_, rfl⟩
    
    have hq0 : c1.length = c0.length := by rw [hc1]; exact turn_len l c0
    have hqm : ∀ y ∈ c1, LitOk Si.n y := fun y hy => q3 y (turn_mem q1 y (by rw [← hc1]; exact hy))
    have hKi : Si.cl.length ≤ W.K := by have := hI.kp.K; have := hk1.K; have := hK0.K; have := hK0.cl; omega
    have hk2 := putC_kept hAi (c := c1) hki hKi (by rw [hq0, hc0])
    have hsw2 : SW (Si.putC k c1) B' := hSi.putC ⟨by omega, by omega, hqm⟩
    have jbx : fget (fset w 0 (k + (2 * Si.n + 2) + 11) (.vec 3 0 (i64s c1))) 0 5 = some (.box [.vs 0 7 0 Si.cl.length W.c, .vs 0 1 0 (2 * Si.n + 2) 0, .vs 0 2 0 (Si.n + 1) 0, .vs 0 3 0 (Si.n + 1) 0, .vs 0 4 0 (Si.n + 1) 0, .vs 0 8 0 Si.tr.length W.t, .vs 0 9 0 Si.st.length W.s, .i Si.head, .i Si.next]) := by rw [fget_fset, if_neg (by omega)]; exact hAi.box
    have jwc : fget (fset w 0 (k + (2 * Si.n + 2) + 11) (.vec 3 0 (i64s c1))) 0 1 = some (.vec 22 0 (wcells Si W)) := by rw [fget_fset, if_neg (by omega)]; exact hAi.wch
    have jli : fget (fset w 0 (k + (2 * Si.n + 2) + 11) (.vec 3 0 (i64s c1))) 0 (atL l + 11) = some (.vec 3 gA (n64s list)) := by rw [fget_fset, if_neg (by omega)]; exact ili
    have jcv : fget (fset w 0 (k + (2 * Si.n + 2) + 11) (.vec 3 0 (i64s c1))) 0 (k + (2 * Si.n + 2) + 11) = some (.vec 3 0 (i64s c1)) := by rw [fget_fset, if_pos ⟨rfl, rfl⟩, hcv]; rfl
    
    have hw2 : fset w 0 (k + (2 * Si.n + 2) + 11) (.vec 3 0 (i64s c1)) = w := by rw [hc1, Sol.turn, if_neg hb4]; exact fset_self _ _ _ _ hcv
    generalize fset w 0 (k + (2 * Si.n + 2) + 11) (.vec 3 0 (i64s c1)) = w2 at hk2 jbx jwc jli jcv hw2
    rw [← hw2]
    
    have hA2 := hk2.at'
    have hy0 : LitOk Si.n (c1.getD 0 0) := hqm _ (gtD_mem (by omega))
    have f0 := i64s_get c1 0 (by omega)
    have r0 : (0 : Int) < (c0.length : Int) := p0
    refine Run.skip ?_
    refine End.kp [0, 3, 4, 5, 6, 7, 8, 46, 47, 48] ?_
    refine Run.seq ?_
    refine Run.seq ?_
    have fx := ai r0 (ai f0 (ai jcv (ai jwc (ai jbx (ai (@fget_fset) (ai (@List.length_set.{0}) (ai n1 (ai n0 (ai lc0 (ai p1 (ai p0 (ai g1 (ai g0 (ai hki2 (ai hcv (ai hcg (ai ico (ai ibx (ai wii (ai hii (ai hgk (ai ili (ai h1wc (ai h1bx (ai zZa (ai zTn (ai zNn (ai hai (ai hwg (ai hgi (ai wl (ai hgt (ai wi (ai htr (ai hbx ft)))))))))))))))))))))))))))))))))))
    refine Run.region rfl fun K hK => GOps.sim ?_
    refine GOps.call rfl rfl rfl rfl (by kernel_rfl) (ACalls.sim ?_)
    refine (is_ok (Si.putC k c1) W 1 _ (hA2.cons _) hsw2.len (c1.getD 0 0) hy0).mono fun v u hv => ?_
    obtain ⟨rfl, rfl⟩ := hv
    refine ⟨_, _, rfl, GOps.sim ?_⟩
    refine GOps.done (hK _ ?_); clear hK K
    refine End.kp [0, 3, 4, 5, 6, 7, 8, 46, 47, 48, 80] ?_
    refine Run.cond _ rfl (fun hb => ?_) (fun hb => ?_)
    ·have hb5 : Si.is (c1.getD 0 0) = 1 := eq_of_beq (show (Si.is (c1.getD 0 0) == 1) = true from hb)
     have hap : (kept.length + 1) * 8 ≤ 140737488355328 := by omega
     have htk : (n64s kept).take kept.length = n64s kept := List.take_of_length_le (by simp)
     refine Run.seq ?_
     have fx := ai htk (ai hap (ai r0 (ai f0 (ai jcv (ai jwc (ai jbx (ai (@fget_fset) (ai (@List.length_set.{0}) (ai n1 (ai n0 (ai lc0 (ai p1 (ai p0 (ai g1 (ai g0 (ai hki2 (ai hcv (ai hcg (ai ico (ai ibx (ai wii (ai hii (ai hgk (ai ili (ai h1wc (ai h1bx (ai zZa (ai zTn (ai zNn (ai hai (ai hwg (ai hgi (ai wl (ai hgt (ai wi (ai htr (ai hbx ft)))))))))))))))))))))))))))))))))))))
     refine Run.go ?_
     refine End.kp [0, 3, 4, 5, 46, 47, 48] ?_
     refine Run.exit rfl ?_
     refine End.kp [0, 3, 4, 5, 46, 47, 48] ?_
     refine Run.go ?_
     refine End.lp ?_
     have hv : Sol.visit l Si kept k = (Si.putC k c1, kept ++ [k], false) := by simp only [Sol.visit, hc0, ← hc1, if_pos hb5]
     refine ⟨list.length - (i + 1), _, by omega, Ghost.form [(0, .ptr 1 5 0), (3, .i l), (4, .vs 1 (atL l + 11) 0 list.length gA), (5, .vs 0 0 0 (kept.length + 1) (g + 1)), (46, .vs 1 (atL l + 11) 0 list.length gA), (47, .i list.length), (48, .i (i + 1 : Nat))] 1 ⟨rfl, rfl, rfl, rfl, rfl, rfl, rfl, trivial⟩ rfl (by simp only [ASt.push, List.nil_append, List.cons_append, List.take_succ_cons, List.take_zero, List.all_cons, List.all_nil, AObj.under, unders_append, unders_ims, unders, PV.under, Bool.and_true, Bool.and_self]), i + 1, Si.putC k c1, kept ++ [k], W, w2, g + 1, rfl, by omega, hI.next hdr hv hk2 hsw2 (by rw [List.length_append]; simp only [List.length_cons, List.length_nil]; omega) hI.lst hI.ver hI.fal (fun y hy => ?_), ?_⟩
     ·rw [show (Si.putC k c1).cl.length = Si.cl.length by simp [Sol.putC]]
      rcases List.mem_append.1 hy with h | h
      ·exact hI.kl y h
      ·rw [List.mem_singleton.1 h]; exact hki
     ·rw [← app_one, List.length_append]
      rfl
    ·have hb5 : ¬ (Si.is (c1.getD 0 0) = 1) := ne_of_beq_false (show (Si.is (c1.getD 0 0) == 1) = false from hb)
     refine Run.skip ?_
     refine End.kp [0, 3, 4, 5, 6, 7, 8, 46, 47, 48] ?_
     refine Run.seq ?_
     have fx := ai r0 (ai f0 (ai jcv (ai jwc (ai jbx (ai (@fget_fset) (ai (@List.length_set.{0}) (ai n1 (ai n0 (ai lc0 (ai p1 (ai p0 (ai g1 (ai g0 (ai hki2 (ai hcv (ai hcg (ai ico (ai ibx (ai wii (ai hii (ai hgk (ai ili (ai h1wc (ai h1bx (ai zZa (ai zTn (ai zNn (ai hai (ai hwg (ai hgi (ai wl (ai hgt (ai wi (ai htr (ai hbx ft)))))))))))))))))))))))))))))))))))
     refine Run.go ?_
     refine End.kp [0, 3, 4, 5, 6, 7, 8, 9, 46, 47, 48] ?_
     refine Run.seq ?_
     refine Run.block ?_
     refine Run.ghost (Ghost.form [(0, .ptr 1 5 0), (3, .i l), (4, .vs 1 (atL l + 11) 0 list.length gA), (5, .vs 0 0 0 kept.length g), (6, .i i), (7, .i k), (8, .vs 1 (k + (2 * Si.n + 2) + 11) 0 c0.length 0), (9, .i 2), (46, .vs 1 (atL l + 11) 0 list.length gA), (47, .i list.length), (48, .i i)] 1 ⟨rfl, rfl, rfl, rfl, rfl, rfl, rfl, rfl, rfl, rfl, rfl, trivial⟩ rfl (by simp only [ASt.push, List.nil_append, List.cons_append, List.take_succ_cons, List.take_zero, List.all_cons, List.all_nil, AObj.under, unders_append, unders_ims, unders, PV.under, Bool.and_true, Bool.and_self])) ?_
     refine Run.loop (fun m st => ∃ j : Nat, m = c0.length - j ∧ 2 ≤ j ∧ j ≤ c0.length ∧ Si.scan c1 2 = Si.scan c1 j ∧ st = ⟨[(0, .ptr 1 5 0), (3, .i l), (4, .vs 1 (atL l + 11) 0 list.length gA), (5, .vs 0 0 0 kept.length g), (6, .i i), (7, .i k), (8, .vs 1 (k + (2 * Si.n + 2) + 11) 0 c0.length 0), (9, .i (j : Nat)), (46, .vs 1 (atL l + 11) 0 list.length gA), (47, .i list.length), (48, .i i)], [.vec 3 g (n64s kept)], w2⟩) (c0.length - 2) ⟨2, rfl, by omega, by omega, rfl, rfl⟩ fun m st hJ => ?_
     obtain ⟨j, rfl, hj2, hjc, hsn, rfl⟩ := hJ
     refine Run.seq ?_
     refine Run.seq ?_
     rcases Bool.eq_false_or_eq_true (decide (j < c0.length)) with hs15 | hs15
     ·skip
      have hjl := of_decide_eq_true hs15
      have dj : decide ((j : Int) < (c0.length : Int)) = true := decide_eq_true (by omega)
      have djp : (j : Int) < (c0.length : Int) := by omega
      have fj := i64s_get c1 j (by omega)
      have hyj : LitOk Si.n (c1.getD j 0) := hqm _ (gtD_mem (by omega))
      have wj := nsucc hjl (by omega)
      have hs15 := hs15
      have fx := ai wj (ai fj (ai djp (ai dj (ai hs15 fx))))
      refine Run.region rfl fun K hK => GOps.sim ?_
      refine GOps.call rfl rfl rfl rfl (by kernel_rfl) (ACalls.sim ?_)
      refine (is_ok (Si.putC k c1) W 1 _ (hA2.cons _) hsw2.len (c1.getD j 0) hyj).mono fun v u hv => ?_
      obtain ⟨rfl, rfl⟩ := hv
      refine ⟨_, _, rfl, GOps.sim ?_⟩
      refine GOps.done (hK _ ?_); clear hK K
      refine End.kp [0, 3, 4, 5, 6, 7, 8, 9, 46, 47, 48, 97] ?_
      refine Run.cond _ rfl (fun hb => ?_) (fun hb => ?_)
      ·have hb6 : Si.is (c1.getD j 0) = -1 := eq_of_beq (show (Si.is (c1.getD j 0) == -1) = true from hb)
       refine Run.skip ?_
       refine End.kp [0, 3, 4, 5, 6, 7, 8, 9, 46, 47, 48] ?_
       refine Run.block ?_
       have fx := ai wj (ai fj (ai djp (ai dj (ai hs15 (ai r0 (ai f0 (ai jcv (ai jwc (ai jbx (ai (@fget_fset) (ai (@List.length_set.{0}) (ai n1 (ai n0 (ai lc0 (ai p1 (ai p0 (ai g1 (ai g0 (ai hki2 (ai hcv (ai hcg (ai ico (ai ibx (ai wii (ai hii (ai hgk (ai ili (ai h1wc (ai h1bx (ai zZa (ai zTn (ai zNn (ai hai (ai hwg (ai hgi (ai wl (ai hgt (ai wi (ai htr (ai hbx ft))))))))))))))))))))))))))))))))))))))))
       refine Run.go ?_
       refine End.blk ?_
       refine End.lp ?_
       refine ⟨c0.length - (j + 1), _, by omega, Ghost.form [(0, .ptr 1 5 0), (3, .i l), (4, .vs 1 (atL l + 11) 0 list.length gA), (5, .vs 0 0 0 kept.length g), (6, .i i), (7, .i k), (8, .vs 1 (k + (2 * Si.n + 2) + 11) 0 c0.length 0), (9, .i (j + 1 : Nat)), (46, .vs 1 (atL l + 11) 0 list.length gA), (47, .i list.length), (48, .i i)] 1 ⟨rfl, rfl, rfl, rfl, rfl, rfl, rfl, rfl, rfl, rfl, rfl, trivial⟩ rfl (by simp only [ASt.push, List.nil_append, List.cons_append, List.take_succ_cons, List.take_zero, List.all_cons, List.all_nil, AObj.under, unders_append, unders_ims, unders, PV.under, Bool.and_true, Bool.and_self]), j + 1, rfl, by omega, by omega, by rw [hsn, scan_more (by omega) hb6], rfl⟩
      ·have hb6 : ¬ (Si.is (c1.getD j 0) = -1) := ne_of_beq_false (show (Si.is (c1.getD j 0) == -1) = false from hb)
       have hst : Si.scan c1 2 = j := by rw [hsn]; exact scan_stop (fun h => hb6 h.2)
       refine Run.exit rfl ?_
       refine End.kp [0, 3, 4, 5, 6, 7, 8, 9, 46, 47, 48] ?_
       refine Run.seq ?_
       refine Run.seq ?_
       have fx := ai wj (ai fj (ai djp (ai dj (ai hs15 (ai r0 (ai f0 (ai jcv (ai jwc (ai jbx (ai (@fget_fset) (ai (@List.length_set.{0}) (ai n1 (ai n0 (ai lc0 (ai p1 (ai p0 (ai g1 (ai g0 (ai hki2 (ai hcv (ai hcg (ai ico (ai ibx (ai wii (ai hii (ai hgk (ai ili (ai h1wc (ai h1bx (ai zZa (ai zTn (ai zNn (ai hai (ai hwg (ai hgi (ai wl (ai hgt (ai wi (ai htr (ai hbx ft))))))))))))))))))))))))))))))))))))))))
       refine Run.go ?_
       refine End.kp [0, 3, 4, 5, 6, 7, 8, 9, 46, 47, 48, 103] ?_
       refine Run.cond _ rfl (fun hb => ?_) (fun hb => ?_)
       ·have hb7 := hb
        have f1 := i64s_get c1 1 (by omega)
        have hsw := swap_cells c1 1 j
        obtain ⟨c2, hc2⟩ : ∃ c2, c2 = Sol.swapAt c1 1 j := ⟨_, rfl⟩
        rw [← hc2] at hsw
        have hl2 : c2.length = c0.length := by rw [hc2, swapAt_len, hq0]
        have hqm2 : ∀ y ∈ c2, LitOk Si.n y := fun y hy => hqm y (swapAt_mem (c := c1) (i := 1) (j := j) (by omega) (by omega) y (by rw [← hc2]; exact hy))
        have hz1 : c2.getD 1 0 = c1.getD j 0 := by rw [hc2]; exact swapAt_one c1 j hj2 (by omega)
        have lc1 : (i64s c1).length = c0.length := by simp [hq0]
        refine Run.seq ?_
        have fx := ai hjl (ai lc1 (ai f1 (ai wj (ai fj (ai djp (ai dj (ai hs15 (ai r0 (ai f0 (ai jcv (ai jwc (ai jbx (ai (@fget_fset) (ai (@List.length_set.{0}) (ai n1 (ai n0 (ai lc0 (ai p1 (ai p0 (ai g1 (ai g0 (ai hki2 (ai hcv (ai hcg (ai ico (ai ibx (ai wii (ai hii (ai hgk (ai ili (ai h1wc (ai h1bx (ai zZa (ai zTn (ai zNn (ai hai (ai hwg (ai hgi (ai wl (ai hgt (ai wi (ai htr (ai hbx ft)))))))))))))))))))))))))))))))))))))))))))
        refine Run.drawA fun K hK => ?_
        refine DOps.sim ?_
        refine DOps.nil ?_ (hK _ ?_)
        ·rfl
        clear hK K
        rw [hsw]
        have kbx : fget (fset w2 0 (k + (2 * Si.n + 2) + 11) (.vec 3 0 (i64s c2))) 0 5 = some (.box [.vs 0 7 0 Si.cl.length W.c, .vs 0 1 0 (2 * Si.n + 2) 0, .vs 0 2 0 (Si.n + 1) 0, .vs 0 3 0 (Si.n + 1) 0, .vs 0 4 0 (Si.n + 1) 0, .vs 0 8 0 Si.tr.length W.t, .vs 0 9 0 Si.st.length W.s, .i Si.head, .i Si.next]) := by rw [fget_fset, if_neg (by omega)]; exact jbx
        have kwc : fget (fset w2 0 (k + (2 * Si.n + 2) + 11) (.vec 3 0 (i64s c2))) 0 1 = some (.vec 22 0 (wcells Si W)) := by rw [fget_fset, if_neg (by omega)]; exact jwc
        have kcv : fget (fset w2 0 (k + (2 * Si.n + 2) + 11) (.vec 3 0 (i64s c2))) 0 (k + (2 * Si.n + 2) + 11) = some (.vec 3 0 (i64s c2)) := by rw [fget_fset, if_pos ⟨rfl, rfl⟩, jcv]; rfl
        have hk3 : Kept w (fset w2 0 (k + (2 * Si.n + 2) + 11) (.vec 3 0 (i64s c2))) 0 Si W ((Si.putC k c1).putC k c2) W := hk2.trans (putC_kept hA2 (k := k) (c := c2) (by simp [Sol.putC]; exact hki) (by simp [Sol.putC]; exact hKi) (by rw [hl2, ← hq0]; simp [Sol.putC, hki]))
        have hcl9 : (Si.putC k c1).cl.length = Si.cl.length := by simp [Sol.putC]
        rw [putC_putC] at hk3
        have hsw3 : SW (Si.putC k c2) B' := hSi.putC ⟨by omega, by omega, hqm2⟩
        obtain ⟨z, hz⟩ : ∃ z, z = c2.getD 1 0 := ⟨_, rfl⟩
        have hlz : LitOk Si.n z := by rw [hz]; exact hqm2 _ (gtD_mem (by omega))
        have k1 := at_ok Si.n z hlz hSi.len.n
        have a1 := atL_lt hlz
        have z1 := i64s_get c2 1 (by omega)
        rw [← hz] at z1
        have hzl : atL l ≠ atL z := fun e => by
         have e2 := atL_inj (n := Si.n) (by rw [hni]; exact hll) hlz e
         have h9 := hI.fal
         rw [e2, hz, hz1] at h9
         exact hb6 h9
        obtain ⟨A1, hA1e⟩ : ∃ A1, A1 = atL z := ⟨_, rfl⟩
        rw [← hA1e] at k1 a1 hzl
        have kwl := hk3.at'.wli A1 a1
        have cg1 := wcells_get Si W A1 a1
        have i1 : ((A1 : Nat) : Int) < ((2 * Si.n + 2 : Nat) : Int) := by omega
        have lw1 : (wcells Si W).length = 2 * Si.n + 2 := by simp
        have bl := (hSi.list a1).1
        have ap1 : ((Si.wl.getD A1 []).length + 1) * 8 ≤ 140737488355328 := by have := hBi; omega
        have tk1 : (n64s (Si.wl.getD A1 [])).take (Si.wl.getD A1 []).length = n64s (Si.wl.getD A1 []) := List.take_of_length_le (by simp)
        have kwl : fget (fset w2 0 (k + (2 * Si.n + 2) + 11) (.vec 3 0 (i64s c2))) 0 (A1 + 11) = some (.vec 3 (W.wv A1) (n64s (Si.wl.getD A1 []))) := kwl
        have hk4 := hk3.trans (grewU_kept hk3.at' (i := A1) (k := k) a1 hsw3.len.wl)
        have hsw4 := SW.push hsw3 (i := A1) (k := k) a1 (by simp [Sol.putC]; exact hki)
        generalize fset w2 0 (k + (2 * Si.n + 2) + 11) (.vec 3 0 (i64s c2)) = w3 at kbx kwc kcv kwl hk3 hk4
        refine End.kp [0, 3, 4, 5, 7, 8, 46, 47, 48] ?_
        refine Run.seq ?_
        refine Run.ghost (.spares 1) ?_
        simp only [ASt.pushN, ASt.push, List.append_assoc, List.cons_append, List.nil_append]
        have fx := ai a1 (ai lw1 (ai tk1 (ai ap1 (ai cg1 (ai i1 (ai z1 (ai kwl (ai kcv (ai kwc (ai kbx (ai hjl (ai lc1 (ai f1 (ai wj (ai fj (ai djp (ai dj (ai hs15 (ai r0 (ai f0 (ai jcv (ai jwc (ai jbx (ai (@fget_fset) (ai (@List.length_set.{0}) (ai n1 (ai n0 (ai lc0 (ai p1 (ai p0 (ai g1 (ai g0 (ai hki2 (ai hcv (ai hcg (ai ico (ai ibx (ai wii (ai hii (ai hgk (ai ili (ai h1wc (ai h1bx (ai zZa (ai zTn (ai zNn (ai hai (ai hwg (ai hgi (ai wl (ai hgt (ai wi (ai htr (ai hbx ft))))))))))))))))))))))))))))))))))))))))))))))))))))))
        refine Run.drawA fun K hK => ?_
        refine DOps.sim ?_
        refine DOps.call (.i (A1 : Nat)) [] [] rfl rfl rfl rfl (by kernel_rfl) (by simp [Agree]) (fun u hu => k1 u) ?_
        refine DOps.sim ?_
        refine DOps.call (.i (A1 : Nat)) [] [] rfl rfl rfl rfl (by kernel_rfl) (by simp [Agree]) (fun u hu => k1 u) ?_
        refine DOps.sim ?_
        refine DOps.nil ?_ (hK _ ?_)
        ·rfl
        clear hK K
        refine End.kp [0, 3, 4, 5, 46, 47, 48] ?_
        refine Run.exit rfl ?_
        refine End.kp [0, 3, 4, 5, 46, 47, 48] ?_
        refine Run.go ?_
        refine End.lp ?_
        have hv : Sol.visit l Si kept k = ({ Si.putC k c2 with wl := Sol.push Si.wl A1 k }, kept, false) := by
         simp only [Sol.visit, hc0, ← hc1, if_neg hb5, hst, if_pos (show j < c1.length by omega), ← hc2, ← hz, ← hA1e]
        refine ⟨list.length - (i + 1), _, by omega, Ghost.form [(0, .ptr 1 5 0), (3, .i l), (4, .vs 1 (atL l + 11) 0 list.length gA), (5, .vs 0 0 0 kept.length g), (46, .vs 1 (atL l + 11) 0 list.length gA), (47, .i list.length), (48, .i (i + 1 : Nat))] 1 ⟨rfl, rfl, rfl, rfl, rfl, rfl, rfl, trivial⟩ rfl (by simp only [ASt.push, List.nil_append, List.cons_append, List.take_succ_cons, List.take_zero, List.all_cons, List.all_nil, AObj.under, unders_append, unders_ims, unders, PV.under, Bool.and_true, Bool.and_self]), i + 1, { Si.putC k c2 with wl := Sol.push Si.wl A1 k }, kept, bump W A1, grewU w3 0 (Si.putC k c2) W A1 k, g, rfl, by omega, hI.next hdr hv hk4 hsw4 (by omega) ?_ ?_ hI.fal (fun y hy => ?_), ?_⟩
        ·exact (push_other hzl).trans hI.lst
        ·show (if atL l = A1 then _ else _) = _
         rw [if_neg hzl]
         exact hI.ver
        ·rw [show ({ Si.putC k c2 with wl := Sol.push Si.wl A1 k } : Sol).cl.length = Si.cl.length by simp [Sol.putC]]
         exact hI.kl y hy
        ·have y4 := wcells_set Si W A1 k a1 hSi.len.wl
         rw [grewU, show wcells { Si.putC k c2 with wl := Sol.push (Si.putC k c2).wl A1 k } (bump W A1) = _ from y4.symm, ← app_one]
         rfl
       ·have hb7 := hb
        simp at hb
     ·skip
      have hjl := of_decide_eq_false hs15
      have dj : decide ((j : Int) < (c0.length : Int)) = false := decide_eq_false (by omega)
      have djp : True := trivial
      have fj : True := trivial
      have wj : True := trivial
      have fx := ai wj (ai fj (ai djp (ai dj (ai hs15 fx))))
      refine Run.region rfl fun K hK => GOps.sim ?_
      refine GOps.done (hK _ ?_); clear hK K
      refine End.kp [0, 3, 4, 5, 6, 7, 8, 9, 46, 47, 48, 97] ?_
      refine Run.cond _ rfl (fun hb => ?_) (fun hb => ?_)
      ·have hb6 := hb
       simp at hb
      ·have hb6 := hb
       refine Run.exit rfl ?_
       refine End.kp [0, 3, 4, 5, 6, 7, 8, 9, 46, 47, 48] ?_
       refine Run.seq ?_
       refine Run.seq ?_
       have fx := ai wj (ai fj (ai djp (ai dj (ai hs15 (ai r0 (ai f0 (ai jcv (ai jwc (ai jbx (ai (@fget_fset) (ai (@List.length_set.{0}) (ai n1 (ai n0 (ai lc0 (ai p1 (ai p0 (ai g1 (ai g0 (ai hki2 (ai hcv (ai hcg (ai ico (ai ibx (ai wii (ai hii (ai hgk (ai ili (ai h1wc (ai h1bx (ai zZa (ai zTn (ai zNn (ai hai (ai hwg (ai hgi (ai wl (ai hgt (ai wi (ai htr (ai hbx ft))))))))))))))))))))))))))))))))))))))))
       refine Run.go ?_
       refine End.kp [0, 3, 4, 5, 6, 7, 8, 9, 46, 47, 48, 103] ?_
       refine Run.cond _ rfl (fun hb => ?_) (fun hb => ?_)
       ·have hb7 := hb
        simp at hb
       ·have hb7 := hb
        have hst : Si.scan c1 2 = j := by rw [hsn]; exact scan_stop (fun h => by have := h.1; omega)
        have hjv : ¬ (Si.scan c1 2 < c1.length) := by omega
        have hap : (kept.length + 1) * 8 ≤ 140737488355328 := by omega
        have htk : (n64s kept).take kept.length = n64s kept := List.take_of_length_le (by simp)
        refine Run.skip ?_
        refine End.kp [0, 3, 4, 5, 6, 7, 8, 46, 47, 48] ?_
        refine Run.seq ?_
        have fx := ai htk (ai hap fx)
        refine Run.go ?_
        refine End.kp [0, 3, 4, 5, 6, 7, 8, 46, 47, 48] ?_
        refine Run.seq ?_
        refine Run.seq ?_
        refine Run.region rfl fun K hK => GOps.sim ?_
        refine GOps.call rfl rfl rfl rfl (by kernel_rfl) (ACalls.sim ?_)
        refine (is_ok (Si.putC k c1) W 1 _ (hA2.cons _) hsw2.len (c1.getD 0 0) hy0).mono fun v u hv => ?_
        obtain ⟨rfl, rfl⟩ := hv
        refine ⟨_, _, rfl, GOps.sim ?_⟩
        refine GOps.done (hK _ ?_); clear hK K
        refine End.kp [0, 3, 4, 5, 6, 7, 8, 46, 47, 48, 147] ?_
        refine Run.cond _ rfl (fun hb => ?_) (fun hb => ?_)
        ·have hb8 : Si.is (c1.getD 0 0) = -1 := eq_of_beq (show (Si.is (c1.getD 0 0) == -1) = true from hb)
         have hv : Sol.visit l Si kept k = (Si.putC k c1, kept ++ [k], true) := by simp only [Sol.visit, hc0, ← hc1, if_neg hb5, if_neg hjv, if_pos hb8]
         have aph : n64s kept ++ [PV.im ([Im.int IntKind.i64 (k : Int)].headD (Im.bool false))] = n64s (kept ++ [k]) := app_one kept k
         rw [aph]
         refine Run.ghost (Ghost.swapVec 0 0 1 (atL l + 11) (m1 := (kept ++ [k]).map fun (x : Nat) => Im.int .i64 (x : Int)) (m2 := list.map fun (x : Nat) => Im.int .i64 (x : Int)) rfl jli (fun h => absurd h.1 (by decide)) rfl (cSwap.keep (t := 0) rfl (cSwap.keep (t := 3) rfl (cSwap.two (t := 4) rfl (cSwap.one (t := 5) rfl (cSwap.keep (t := 6) rfl (cSwap.keep (t := 7) rfl cSwap.nil))))))) ?_
         have sw1 : fget (fset w2 0 (atL l + 11) (.vec 3 (gA + 1) (n64s (kept ++ [k])))) 0 (atL l + 11) = some (.vec 3 (gA + 1) (n64s (kept ++ [k]))) := by rw [fget_fset, if_pos ⟨rfl, rfl⟩, jli]; rfl
         have pr := n64s_part list (i + 1) (list.length - (i + 1)) 0 rfl
         have oa := n64s_all list
         have nd := n64s_down (list.drop (i + 1)) 1
         have nl : (n64s (list.drop (i + 1))).length = list.length - (i + 1) := by simp
         have tk9 : (n64s (kept ++ [k])).take (kept.length + 1) = n64s (kept ++ [k]) := List.take_of_length_le (by simp)
         have ap9 : (kept.length + 1 + (list.length - (i + 1))) * 8 ≤ 140737488355328 := by omega
         have sb1 : i + 1 ≤ list.length := by omega
         have cgA := wcells_get Si W (atL l) (by omega)
         have iA : ((atL l : Nat) : Int) < ((2 * Si.n + 2 : Nat) : Int) := by omega
         have aA : atL l < 2 * Si.n + 2 := by omega
         have lwA : (wcells Si W).length = 2 * Si.n + 2 := by simp
         refine Run.seq ?_
         have fx := ai lwA (ai aA (ai iA (ai cgA (ai sb1 (ai ap9 (ai tk9 (ai nl (ai nd (ai oa (ai pr (ai sw1 (ai htk (ai hap (ai wj (ai fj (ai djp (ai dj (ai hs15 (ai r0 (ai f0 (ai jcv (ai jwc (ai jbx (ai (@fget_fset) (ai (@List.length_set.{0}) (ai n1 (ai n0 (ai lc0 (ai p1 (ai p0 (ai g1 (ai g0 (ai hki2 (ai hcv (ai hcg (ai ico (ai ibx (ai wii (ai hii (ai hgk (ai ili (ai h1wc (ai h1bx (ai zZa (ai zTn (ai zNn (ai hai (ai hwg (ai hgi (ai wl (ai hgt (ai wi (ai htr (ai hbx ft))))))))))))))))))))))))))))))))))))))))))))))))))))))
         refine Run.drawA fun K hK => ?_
         refine DOps.sim ?_
         refine DOps.call (.i (atL l : Nat)) [] [] rfl rfl rfl rfl (by kernel_rfl) (by simp [Agree]) (fun u hu => hat u) ?_
         refine DOps.sim ?_
         refine DOps.nil ?_ (hK _ ?_)
         ·rfl
         clear hK K
         refine End.kp [7] ?_
         refine Run.seq ?_
         refine Run.go ?_
         refine End.kp [2] ?_
         refine Run.ret (hQ _ _ ⟨.inr rfl, _, rfl, _, rfl, ?_⟩)
         have e1 : (n64s (kept ++ [k]) ++ n64s (list.drop (i + 1))) = n64s ((kept ++ [k]) ++ list.drop (i + 1)) := by simp
         have e2 : ((kept ++ [k]) ++ list.drop (i + 1)).length = kept.length + 1 + (list.length - (i + 1)) := by simp only [List.length_append, List.length_cons, List.length_nil, List.length_drop]
         have y4 := wcells_put (Si.putC k c1) W (atL l) (gA + 2) ((kept ++ [k]) ++ list.drop (i + 1)) (by show atL l < 2 * Si.n + 2; omega) hsw2.len.wl
         rw [e2] at y4
         have hcl9 : (Si.putC k c1).cl.length = Si.cl.length := by simp [Sol.putC]
         have hfs2 : Sol.spread m S = ((Si.putC k c1).putW (atL l) ((kept ++ [k]) ++ list.drop (i + 1)), some k) := by rw [hfs, hI.eq, hdr, inner_bad hv]
         have hk5 := hK0.trans (hk1.trans (hI.kp.trans (hk2.trans (wU_kept hA2 (i := atL l) (g := gA + 2) (ks := (kept ++ [k]) ++ list.drop (i + 1)) (by show atL l < 2 * Si.n + 2; omega) hsw2.len.wl))))
         rw [wU, ← y4, ← e1] at hk5
         rw [← heq, hfs2]
         refine ⟨verW W (atL l) (gA + 2), rfl, hk5, ?_⟩
         refine hsw2.putW (by show atL l < 2 * Si.n + 2; omega) (fun k' hk' => ?_) ?_
         ·rw [hcl9, hcl]
          rcases List.mem_append.1 hk' with h | h
          ·rcases List.mem_append.1 h with h | h
           ·have := hI.kl k' h; omega
           ·rw [List.mem_singleton.1 h]; omega
          ·exact hlist.2 _ (List.mem_of_mem_drop h)
         ·rw [show (Si.putC k c1).wl.getD (atL l) [] = list from hI.lst, e2]
          omega
        ·have hb8 : ¬ (Si.is (c1.getD 0 0) = -1) := ne_of_beq_false (show (Si.is (c1.getD 0 0) == -1) = false from hb)
         have hz8 : Si.is (c1.getD 0 0) = 0 := by
          rcases is_cases hSi.len hy0 with h | h | h
          ·exact absurd h hb5
          ·exact absurd h hb8
          ·exact h
         have hv : Sol.visit l Si kept k = ((Si.putC k c1).set (c1.getD 0 0) k, kept ++ [k], false) := by simp only [Sol.visit, hc0, ← hc1, if_neg hb5, if_neg hjv, if_neg hb8]
         have hsx := hsw2.set (k : Int) hy0 (is_zero hz8)
         have hkx := setU_kept hA2 (c1.getD 0 0) (k : Int)
         have hst1 : ∀ (loc : List AObj), ACalls Try.prog 79 [.ptr 1 5 0, .i (c1.getD 0 0), .i (k : Nat)] (loc :: w2) fun v u => v = .tup [] ∧ u = loc :: setU w2 0 (Si.putC k c1) W (c1.getD 0 0) k := fun loc => set_ok (Si.putC k c1) W 1 _ (hA2.cons _) hsw2.len _ _ hy0
         refine Run.skip ?_
         refine End.kp [0, 3, 4, 5, 7, 8, 46, 47, 48] ?_
         have fx := ai htk (ai hap (ai wj (ai fj (ai djp (ai dj (ai hs15 (ai r0 (ai f0 (ai jcv (ai jwc (ai jbx (ai (@fget_fset) (ai (@List.length_set.{0}) (ai n1 (ai n0 (ai lc0 (ai p1 (ai p0 (ai g1 (ai g0 (ai hki2 (ai hcv (ai hcg (ai ico (ai ibx (ai wii (ai hii (ai hgk (ai ili (ai h1wc (ai h1bx (ai zZa (ai zTn (ai zNn (ai hai (ai hwg (ai hgi (ai wl (ai hgt (ai wi (ai htr (ai hbx ft))))))))))))))))))))))))))))))))))))))))))
         refine Run.region rfl fun K hK => GOps.sim ?_
         refine GOps.call rfl rfl rfl rfl (by kernel_rfl) (ACalls.sim ?_)
         refine (hst1 _).mono fun v u hv => ?_
         obtain ⟨rfl, rfl⟩ := hv
         refine ⟨_, _, rfl, GOps.sim ?_⟩
         refine GOps.done (hK _ ?_); clear hK K
         refine End.blk ?_
         refine End.kp [0, 3, 4, 5, 46, 47, 48] ?_
         refine Run.go ?_
         refine End.lp ?_
         refine ⟨list.length - (i + 1), _, by omega, Ghost.form [(0, .ptr 1 5 0), (3, .i l), (4, .vs 1 (atL l + 11) 0 list.length gA), (5, .vs 0 0 0 (kept.length + 1) (g + 1)), (46, .vs 1 (atL l + 11) 0 list.length gA), (47, .i list.length), (48, .i (i + 1 : Nat))] 1 ⟨rfl, rfl, rfl, rfl, rfl, rfl, rfl, trivial⟩ rfl (by simp only [ASt.push, List.nil_append, List.cons_append, List.take_succ_cons, List.take_zero, List.all_cons, List.all_nil, AObj.under, unders_append, unders_ims, unders, PV.under, Bool.and_true, Bool.and_self]), i + 1, (Si.putC k c1).set (c1.getD 0 0) k, kept ++ [k], setV W, setU w2 0 (Si.putC k c1) W (c1.getD 0 0) k, g + 1, rfl, by omega, hI.next hdr hv (hk2.trans hkx) hsx (by rw [List.length_append]; simp only [List.length_cons, List.length_nil]; omega) hI.lst hI.ver ?_ (fun y hy => ?_), ?_⟩
         ·rw [is_set_ne (S := Si.putC k c1) (by rw [hsw2.len.val]; have := hy0.2; show _ < Si.n + 1; omega) (fun e => ?_)]
          ·exact hI.fal
          ·have h9 := hI.fal
           unfold Sol.is at h9 hz8
           rw [e] at h9
           split at h9 <;> split at hz8 <;> omega
         ·rw [show ((Si.putC k c1).set (c1.getD 0 0) k).cl.length = Si.cl.length by simp [Sol.putC, Sol.set]]
          rcases List.mem_append.1 hy with h | h
          ·exact hI.kl y h
          ·rw [List.mem_singleton.1 h]; exact hki
         ·rw [← app_one, List.length_append]
          rfl
  ·have hb3 := of_decide_eq_false hb
   have hil : i = list.length := by omega
   have hv0 : Sol.inner l list (headS S) [] = (Si.putW (atL l) kept, none) := by rw [hI.eq, hil, List.drop_length]; rfl
   rw [hv0] at hfs
   refine Run.ghost (Ghost.swapVec 0 0 1 (atL l + 11) (m1 := kept.map fun (x : Nat) => Im.int .i64 (x : Int)) (m2 := list.map fun (x : Nat) => Im.int .i64 (x : Int)) rfl ili (fun h => absurd h.1 (by decide)) rfl (cSwap.keep (t := 0) rfl (cSwap.keep (t := 3) rfl (cSwap.one (t := 5) rfl cSwap.nil)))) ?_
   have cgA := wcells_get Si W (atL l) (by omega)
   have iA : ((atL l : Nat) : Int) < ((2 * Si.n + 2 : Nat) : Int) := by omega
   have aA : atL l < 2 * Si.n + 2 := by omega
   have lwA : (wcells Si W).length = 2 * Si.n + 2 := by simp
   refine Run.exit rfl ?_
   refine End.kp [0, 3, 5] ?_
   have fx := ai lwA (ai aA (ai iA (ai cgA (ai iwc (ai ibx (ai (@fget_fset) (ai ili (ai h1wc (ai h1bx (ai zZa (ai zTn (ai zNn (ai hai (ai hwg (ai hgi (ai wl (ai hgt (ai wi (ai htr (ai hbx ft))))))))))))))))))))
   refine Run.drawA fun K hK => ?_
   refine DOps.sim ?_
   refine DOps.call (.i (atL l : Nat)) [] [] rfl rfl rfl rfl (by kernel_rfl) (by simp [Agree]) (fun u hu => hat u) ?_
   refine DOps.sim ?_
   refine DOps.nil ?_ (hK _ ?_)
   ·rfl
   clear hK K
   refine End.blk ?_
   refine End.lp ?_
   have y4 := wcells_put Si W (atL l) (gA + 1) kept (by omega) hSi.len.wl
   have hk5 := hK0.trans (hk1.trans (hI.kp.trans (wU_kept hAi (i := atL l) (g := gA + 1) (ks := kept) (by omega) hSi.len.wl)))
   rw [wU, ← y4] at hk5
   have hhh : Si.head = S.head + 1 := hI.hdd
   refine ⟨m - 1, _, by have := hK0.n; omega, Ghost.form [(0, .ptr 1 5 0)] 0 ⟨rfl, trivial⟩ rfl (by simp only [ASt.push, List.nil_append, List.cons_append, List.take_succ_cons, List.take_zero, List.all_cons, List.all_nil, AObj.under, unders_append, unders_ims, unders, PV.under, Bool.and_true, Bool.and_self]), m - 1, Si.putW (atL l) kept, verW W (atL l) (gA + 1), _, rfl, by show S0.n + 1 ≤ m - 1 + Si.head; omega, by rw [← heq, hfs], ?_, hk5, rfl⟩
   refine hSi.putW (by omega) hI.kl ?_
   rw [hI.lst]
   omega
 ·have hb2 := of_decide_eq_false hb
  have hin : ¬ (S.head < S.tr.length) := by omega
  have hfs : Sol.spread m S = (S, none) := by
   cases m with
   | zero => rfl
   | succ f2 => rw [Sol.spread, if_neg hin]
  rw [hfs] at heq
  refine Run.exit rfl ?_
  refine End.kp [] ?_
  refine Run.seq ?_
  have fx := ai htr (ai hbx ft)
  refine Run.go ?_
  refine End.kp [2] ?_
  refine Run.ret (hQ _ _ ⟨.inr rfl, _, rfl, _, rfl, ?_⟩)
  exact ⟨V, by rw [← heq]; exact ⟨rfl, hK0, hS⟩⟩

set_option maxRecDepth 100000
set_option maxHeartbeats 40000000
def entV (l : List Int) : List (List Im × Im) := l.map fun i => ([.int .i64 i], .bool true)
theorem sameV_ne (s x : Int) (h : x ≠ s) : sameIm Try.prog 3 (.int .i64 s) (.int .i64 x) = some false := by
 simp only [sameIm, ty_3, Option.isSome_some, if_true]
 simpa using fun e : s = x => h e.symm
theorem sameV_eq (s : Int) : sameIm Try.prog 3 (.int .i64 s) (.int .i64 s) = some true := by
 simp only [sameIm, ty_3, Option.isSome_some, if_true]
 simp
theorem findV_none (s : Int) : ∀ (l : List Int) (i : Nat), s ∉ l → findIm Try.prog 3 (.int .i64 s) (entV l) i = some none
 | [], i, _ => rfl
 | x :: xs, i, h => by
  simp only [List.mem_cons, not_or] at h
  simp only [entV, List.map_cons, findIm, sameV_ne s x (fun e => h.1 e.symm)]
  exact findV_none s xs (i + 1) h.2
theorem findV_some (s : Int) : ∀ (l : List Int) (i : Nat), s ∈ l → ∃ k, findIm Try.prog 3 (.int .i64 s) (entV l) i = some (some (k, .bool true))
 | [], i, h => by simp at h
 | x :: xs, i, h => by
  by_cases e : x = s
  ·subst e
   exact ⟨i, by simp only [entV, List.map_cons, findIm, sameV_eq]⟩
  ·rcases List.mem_cons.1 h with h | h
   ·exact absurd h.symm e
   ·obtain ⟨k, h1⟩ := findV_some s xs (i + 1) h
    refine ⟨k, ?_⟩
    simp only [entV, List.map_cons, findIm, sameV_ne s x e]
    simpa only [entV] using h1
theorem mgs_ims (m : Nat) : ∀ l : List Im, mgs m (l.map PV.im) = l.map PV.im
 | [] => rfl
 | x :: xs => by simp only [List.map_cons, mgs, PV.mg, mgs_ims m xs]
theorem entV_snoc (l : List Int) (x : Int) : entV l ++ [([.int .i64 x], .bool true)] = entV (l ++ [x]) := by simp [entV]
theorem DOps.lookI {P : Program} {n : Nat} {st : ASt} {deps : List (List Nat)} {K : ASt → Prop} {gs : List GO} {acc : List Met} {dst : Option Nat} {gd : Option (Nat × Bool)} {t kt e : TypeId} {m k : Operand} {ok : Bool} {z : Im} {d j : Nat} (kk : Im) (es : List (List Im × Im)) (r : Option (Nat × Im)) (y : PV)
  (hf : findIm P kt kk es 0 = some r) (hrd : fget st.fr d j = some (.map es)) (hy : hitPV z ok r = y) (hk : DOps P n deps gs (acc ++ [⟨[(d, j)], [], [], []⟩]) (st.put dst y) K)
  (hg : guardA st.env gd = some true := by rfl) (hd : okDst n dst = true := by rfl) (hm : evalPV st m = some (.map d j) := by rfl) (hkk : evalPV st k = some (.im kk) := by rfl) (hmt : mapT P t = some (kt, e) := by (simp only [fx] <;> with_reducible rfl)) (hko : keyOk P kt kk = true := by (simp only [keyOk, fx] <;> rfl)) (hz : zeroOne P e = some z := by (simp only [fx] <;> with_reducible rfl)) :
  DOps P n deps (⟨dst, .lookup t m k ok, gd⟩ :: gs) acc st K := by
 subst hy
 refine DOps.opX (hitPV z ok r) [((d, j), .map es)] [] hg hd (fun p hp => by simp at hp; subst hp; exact hrd) (fun s hs ha => ?_) hk
 have h1 := hs.ev (x := m) (by simp [opndsO]) hm
 have h2 := hs.ev (x := k) (by simp [opndsO]) hkk
 have h3 : look s.fr d j = some (.map es) := ha ((d, j), .map es) (by simp)
 refine stepX_ok ?_
 simp only [stepX, stepV, h1, h2, lookupV, imPV, hmt, h3, hz, hko, hf, if_true, Option.map_some]
 cases r with
 | none => rfl
 | some p => rfl
theorem learn_ok (S : Sol) (V : Ver) (B : Nat) (f : List AObj) (rest : Frs) (hA : SAt (f :: rest) 0 S V) (hS : SW S B) (k0 : Nat) (hC : Confl S k0) (hp : 0 < S.st.length) (hst : ∀ x ∈ S.st, x < S.tr.length) : ACalls Try.prog 74 [.ptr 0 5 0, .i (k0 : Nat)] (f :: rest) fun v u =>
  ∃ (c : List Int) (to g : Nat) (es : List (List Im × Im)), v = .tup [.vs 0 (f.length + 1) 0 c.length g, .i (to : Nat)] ∧ u = (f ++ [.map es, .vec 3 g (i64s c)]) :: rest ∧ Lesson S c to ∧ c.length ≤ S.n ∧ ∀ M, Snd M S → HoldsC M c := by
 obtain ⟨up, hup⟩ : ∃ up, up = f :: rest := ⟨_, rfl⟩
 rw [← hup] at hA
 have hbx := hA.box
 have htr := hA.trl
 have hco := hA.clo
 have hlv := hA.lev
 have hwy := hA.why
 have hcl := hA.cli
 have hn := hS.len.n
 have htn := hS.len.trn
 have hsn := hS.len.stn
 have ht0 : 0 < S.tr.length := by have := hst _ (gtD_mem (l := S.st) (i := 0) (d := 0) hp); omega
 have w1 : IntKind.i64.wrap ((S.tr.length : Int) - 1) = ((S.tr.length - 1 : Nat) : Int) := by rw [wrap64 (by omega)]; omega
 rw [hup] at hbx htr hco hlv hwy hcl
 refine ACalls.codeX Try.func74 rfl 173 rfl (by simp) [.tmp 4, .tmp 5] rfl fun Q hQ => ?_
 simp only [ups, PV.up, argEnv]
 have ft := ai ty_3 (ai ty_4 (ai ty_5 (ai ty_6 (ai ty_22 (ai ty_35 (ai ty_130 (ai ty_133 (ai ty_167 trivial))))))))
 refine Run.seq ?_
 have fx := ai zTn (ai zNn (ai zZa (ai w1 (ai hwy (ai hlv (ai hco (ai htr (ai hbx ft))))))))
 refine Run.go ?_
 refine End.kp [0, 1] ?_
 refine Run.seq ?_
 refine Run.go ?_
 refine End.kp [0, 1, 6] ?_
 refine Run.seq ?_
 refine Run.go ?_
 refine End.kp [0, 1, 6, 7] ?_
 refine Run.seq ?_
 refine Run.region rfl fun K hK => GOps.litVec rfl (by simp only [litW, fx] <;> rfl) ?_
 refine GOps.sim ?_
 refine GOps.done (hK _ ?_); clear hK K
 refine End.kp [0, 1, 6, 7, 8] ?_
 refine Run.seq ?_
 have fx := ai zTn (ai zNn (ai zZa (ai w1 (ai hwy (ai hlv (ai hco (ai htr (ai hbx ft))))))))
 refine Run.drawA fun K hK => ?_
 refine DOps.sim ?_
 refine DOps.nil ?_ (hK _ ?_)
 ·rfl
 clear hK K
 refine End.kp [0, 1, 6, 7, 8, 9, 10] ?_
 refine Run.seq ?_
 refine Run.go ?_
 refine End.kp [0, 1, 6, 7, 8, 9, 10, 11] ?_
 refine Run.seq ?_
 refine Run.block ?_
 refine Run.ghost (Ghost.form [(0, .ptr 1 5 0), (1, .i (k0 : Nat)), (6, .i (S.st.length : Nat)), (7, .map 0 0), (8, .vs 0 1 0 1 0), (9, .i (0 : Nat)), (10, .i (S.tr.length - 1 : Nat)), (11, .i 0)] 2 ⟨rfl, rfl, rfl, rfl, rfl, rfl, rfl, rfl, trivial⟩ rfl (by simp only [ASt.push, List.nil_append, List.cons_append, List.take_succ_cons, List.take_zero, List.all_cons, List.all_nil, AObj.under, i64s_set, unders_append, unders_ims, unders, PV.under, Bool.and_true, Bool.and_self])) ?_
 refine Run.loop (fun m st => ∃ (i k : Nat) (skip : Int) (seen out : List Int) (P : List Nat) (g : Nat), m = i ∧ k < S.cl.length ∧ Gth S i skip (S.cla k) 0 seen out P ∧ st = ⟨[(0, .ptr 1 5 0), (1, .i (k : Nat)), (6, .i (S.st.length : Nat)), (7, .map 0 0), (8, .vs 0 1 0 out.length g), (9, .i (P.length : Nat)), (10, .i (i : Nat)), (11, .i skip)], [.map (entV seen), .vec 3 g (i64s out)], f :: rest⟩) (S.tr.length - 1) ⟨S.tr.length - 1, k0, 0, [], [0], [], 0, rfl, hC.kl, hC.start hS hp ht0, rfl⟩ fun m st hI => ?_
 obtain ⟨i, k, skip, seen, out, P, g, hmi, hk, hG, rfl⟩ := hI
 subst m
 have gk := ccells_get S k hk
 have hki : (k : Int) < (S.cl.length : Int) := by omega
 have hck := hcl k hk
 obtain ⟨hc2, hc3, hLok⟩ := hS.cl (k := k) hk
 change Gth S i skip (S.cl.getD k []) 0 seen out P at hG
 generalize S.cl.getD k [] = c at hG gk hck hc2 hc3 hLok
 refine Run.block ?_
 refine Run.seq ?_
 refine Run.seq ?_
 have fx := ai hk (ai hki (ai gk (ai zTn (ai zNn (ai zZa (ai w1 (ai hwy (ai hlv (ai hco (ai htr (ai hbx ft)))))))))))
 refine Run.go ?_
 refine End.kp [0, 6, 7, 8, 9, 10, 11, 38, 39, 40] ?_
 refine Run.block ?_
 refine Run.ghost (Ghost.form [(0, .ptr 1 5 0), (6, .i (S.st.length : Nat)), (7, .map 0 0), (8, .vs 0 1 0 out.length g), (9, .i (P.length : Nat)), (10, .i (i : Nat)), (11, .i skip), (38, .vs 1 (k + (2 * S.n + 2) + 11) 0 c.length 0), (39, .i c.length), (40, .i (0 : Nat))] 2 ⟨rfl, rfl, rfl, rfl, rfl, rfl, rfl, rfl, rfl, rfl, trivial⟩ rfl (by simp only [ASt.push, List.nil_append, List.cons_append, List.take_succ_cons, List.take_zero, List.all_cons, List.all_nil, AObj.under, i64s_set, unders_append, unders_ims, unders, PV.under, Bool.and_true, Bool.and_self])) ?_
 refine Run.loop (fun m st => ∃ (q : Nat) (seen out : List Int) (P : List Nat) (g : Nat), m = c.length - q ∧ q ≤ c.length ∧ Gth S i skip c q seen out P ∧ st = ⟨[(0, .ptr 1 5 0), (6, .i (S.st.length : Nat)), (7, .map 0 0), (8, .vs 0 1 0 out.length g), (9, .i (P.length : Nat)), (10, .i (i : Nat)), (11, .i skip), (38, .vs 1 (k + (2 * S.n + 2) + 11) 0 c.length 0), (39, .i c.length), (40, .i (q : Nat))], [.map (entV seen), .vec 3 g (i64s out)], f :: rest⟩) c.length ⟨0, seen, out, P, g, rfl, by omega, hG, rfl⟩ fun m st hJ => ?_
 clear hG
 obtain ⟨q, seen, out, P, g, rfl, hq, hG, rfl⟩ := hJ
 refine Run.seq ?_
 have fx := ai hck (ai hk (ai hki (ai gk (ai zTn (ai zNn (ai zZa (ai w1 (ai hwy (ai hlv (ai hco (ai htr (ai hbx ft))))))))))))
 refine Run.go ?_
 refine End.kp [0, 6, 7, 8, 9, 10, 11, 38, 39, 40, 41] ?_
 refine Run.seq ?_
 refine Run.cond _ rfl (fun hb => ?_) (fun hb => ?_)
 ·have hb2 := of_decide_eq_true hb
  have hql : q < c.length := by omega
  have gq := i64s_get c q hql
  have hqi : (q : Int) < (c.length : Int) := by omega
  have wq := nsucc hql (by omega)
  obtain ⟨l, hl⟩ : ∃ l, l = c.getD q 0 := ⟨_, rfl⟩
  have hlm : l ∈ c := by rw [hl]; exact gtD_mem hql
  have hsk := Gth.skip hS hC.inv hp hG hql
  have hnw := Gth.now hS hC.inv hG hql
  have hot := Gth.out hS hC.inv hG hql
  rw [← hl] at gq hsk hnw hot
  obtain ⟨ol, pl⟩ := hG.li.len hS
  
  have hlo := hLok l hlm
  obtain ⟨l0, l1⟩ := hlo
  have wn : IntKind.i64.wrap (0 - l) = -l := by rw [wrap64 (by omega)]; omega
  have hmx : (if l < -l then -l else l) = (l.natAbs : Int) := by split <;> omega
  have q1 : ((l.natAbs : Nat) : Int) < ((S.n + 1 : Nat) : Int) := by omega
  have glv := n64s_get S.lev l.natAbs (by rw [hS.len.lev]; omega)
  
  have wp : IntKind.i64.wrap ((P.length : Int) + 1) = ((P.length + 1 : Nat) : Int) := by rw [wrap64 (by omega)]; rfl
  have hap : (out.length + 1) * 8 ≤ 140737488355328 := by omega
  have tko : (i64s out).take out.length = i64s out := List.take_of_length_le (by simp)
  refine Run.skip ?_
  refine End.kp [0, 6, 7, 8, 9, 10, 11, 38, 39, 40] ?_
  refine Run.seq ?_
  refine Run.block ?_
  refine Run.seq ?_
  have fx := ai tko (ai hap (ai wp (ai glv (ai q1 (ai hmx (ai wn (ai wq (ai hqi (ai gq (ai hck (ai hk (ai hki (ai gk (ai zTn (ai zNn (ai zZa (ai w1 (ai hwy (ai hlv (ai hco (ai htr (ai hbx ft))))))))))))))))))))))
  refine Run.go ?_
  refine End.kp [0, 6, 7, 8, 9, 10, 11, 13, 38, 39, 40] ?_
  refine Run.seq ?_
  refine Run.go ?_
  refine End.kp [0, 6, 7, 8, 9, 10, 11, 13, 14, 38, 39, 40] ?_
  refine Run.seq ?_
  refine Run.seq ?_
  rcases Bool.eq_false_or_eq_true ((l == skip)) with hs10 | hs10
  ·skip
   have hsk2 := hsk (.inl (eq_of_beq hs10))
   have hf1 := True.intro
   have fx := ai hf1 (ai hs10 (ai tko (ai hap (ai wp (ai glv (ai q1 (ai hmx (ai wn (ai wq (ai hqi (ai gq (ai hck (ai hk (ai hki (ai gk (ai zTn (ai zNn (ai zZa (ai w1 (ai hwy (ai hlv (ai hco (ai htr (ai hbx ft))))))))))))))))))))))))
   refine Run.go ?_
   refine End.kp [0, 6, 7, 8, 9, 10, 11, 13, 14, 38, 39, 40, 65] ?_
   refine Run.cond _ rfl (fun hb => ?_) (fun hb => ?_)
   ·have hb3 := hb
    refine Run.exit rfl ?_
    refine End.kp [0, 6, 7, 8, 9, 10, 11, 38, 39, 40] ?_
    refine Run.go ?_
    refine End.lp ?_
    refine ⟨c.length - (q + 1), _, by omega, Ghost.form [(0, .ptr 1 5 0), (6, .i (S.st.length : Nat)), (7, .map 0 0), (8, .vs 0 1 0 out.length g), (9, .i (P.length : Nat)), (10, .i (i : Nat)), (11, .i skip), (38, .vs 1 (k + (2 * S.n + 2) + 11) 0 c.length 0), (39, .i c.length), (40, .i (q + 1 : Nat))] 2 ⟨rfl, rfl, rfl, rfl, rfl, rfl, rfl, rfl, rfl, rfl, trivial⟩ rfl (by simp only [ASt.push, List.nil_append, List.cons_append, List.take_succ_cons, List.take_zero, List.all_cons, List.all_nil, AObj.under, i64s_set, unders_append, unders_ims, unders, PV.under, Bool.and_true, Bool.and_self]), q + 1, seen, out, P, g, rfl, by omega, hsk2, rfl⟩
   ·have hb3 := hb
    simp at hb
  ·skip
   have hne : l ≠ skip := ne_of_beq_false hs10
   rcases Bool.eq_false_or_eq_true (decide (((l.natAbs : Nat) : Int) ∈ seen)) with hs10b | hs10b
   ·skip
    have hm := of_decide_eq_true hs10b
    have hsk2 := hsk (.inr (.inl hm))
    obtain ⟨kx, hf1⟩ := findV_some _ seen 0 hm
    have fx := ai hf1 (ai hs10b (ai hs10 fx))
    refine Run.go ?_
    refine End.kp [0, 6, 7, 8, 9, 10, 11, 13, 14, 38, 39, 40, 65] ?_
    refine Run.cond _ rfl (fun hb => ?_) (fun hb => ?_)
    ·have hb3 := hb
     refine Run.exit rfl ?_
     refine End.kp [0, 6, 7, 8, 9, 10, 11, 38, 39, 40] ?_
     refine Run.go ?_
     refine End.lp ?_
     refine ⟨c.length - (q + 1), _, by omega, Ghost.form [(0, .ptr 1 5 0), (6, .i (S.st.length : Nat)), (7, .map 0 0), (8, .vs 0 1 0 out.length g), (9, .i (P.length : Nat)), (10, .i (i : Nat)), (11, .i skip), (38, .vs 1 (k + (2 * S.n + 2) + 11) 0 c.length 0), (39, .i c.length), (40, .i (q + 1 : Nat))] 2 ⟨rfl, rfl, rfl, rfl, rfl, rfl, rfl, rfl, rfl, rfl, trivial⟩ rfl (by simp only [ASt.push, List.nil_append, List.cons_append, List.take_succ_cons, List.take_zero, List.all_cons, List.all_nil, AObj.under, i64s_set, unders_append, unders_ims, unders, PV.under, Bool.and_true, Bool.and_self]), q + 1, seen, out, P, g, rfl, by omega, hsk2, rfl⟩
    ·have hb3 := hb
     simp at hb
   ·skip
    have hm := of_decide_eq_false hs10b
    have hf1 := findV_none _ seen 0 hm
    have fx := ai hf1 (ai hs10b (ai hs10 fx))
    refine Run.go ?_
    refine End.kp [0, 6, 7, 8, 9, 10, 11, 13, 14, 38, 39, 40, 65] ?_
    refine Run.cond _ rfl (fun hb => ?_) (fun hb => ?_)
    ·have hl0 : S.lvl l = 0 := by have := eq_of_beq hb; unfold Sol.lvl; omega
     refine Run.exit rfl ?_
     refine End.kp [0, 6, 7, 8, 9, 10, 11, 38, 39, 40] ?_
     refine Run.go ?_
     refine End.lp ?_
     refine ⟨c.length - (q + 1), _, by omega, Ghost.form [(0, .ptr 1 5 0), (6, .i (S.st.length : Nat)), (7, .map 0 0), (8, .vs 0 1 0 out.length g), (9, .i (P.length : Nat)), (10, .i (i : Nat)), (11, .i skip), (38, .vs 1 (k + (2 * S.n + 2) + 11) 0 c.length 0), (39, .i c.length), (40, .i (q + 1 : Nat))] 2 ⟨rfl, rfl, rfl, rfl, rfl, rfl, rfl, rfl, rfl, rfl, trivial⟩ rfl (by simp only [ASt.push, List.nil_append, List.cons_append, List.take_succ_cons, List.take_zero, List.all_cons, List.all_nil, AObj.under, i64s_set, unders_append, unders_ims, unders, PV.under, Bool.and_true, Bool.and_self]), q + 1, seen, out, P, g, rfl, by omega, hsk (.inr (.inr hl0)), rfl⟩
    ·have hl0 : S.lvl l ≠ 0 := by have := ne_of_beq_false hb; unfold Sol.lvl; omega
     refine Run.skip ?_
     refine End.kp [0, 6, 7, 8, 9, 10, 11, 13, 14, 38, 39, 40] ?_
     refine Run.seq ?_
     refine Run.go ?_
     refine End.kp [0, 6, 7, 8, 9, 10, 11, 13, 14, 38, 39, 40] ?_
     refine Run.seq ?_
     refine Run.go ?_
     refine End.kp [0, 6, 7, 8, 9, 10, 11, 13, 38, 39, 40, 76] ?_
     refine Run.cond _ rfl (fun hb => ?_) (fun hb => ?_)
     ·have hlw : S.lvl l = S.st.length := by have := eq_of_beq hb; unfold Sol.lvl; omega
      refine Run.go ?_
      refine End.blk ?_
      refine End.kp [0, 6, 7, 8, 9, 10, 11, 38, 39, 40] ?_
      refine Run.go ?_
      refine End.lp ?_
      refine ⟨c.length - (q + 1), _, by omega, Ghost.form [(0, .ptr 1 5 0), (6, .i (S.st.length : Nat)), (7, .map 0 0), (8, .vs 0 1 0 out.length g), (9, .i (P.length + 1 : Nat)), (10, .i (i : Nat)), (11, .i skip), (38, .vs 1 (k + (2 * S.n + 2) + 11) 0 c.length 0), (39, .i c.length), (40, .i (q + 1 : Nat))] 2 ⟨rfl, rfl, rfl, rfl, rfl, rfl, rfl, rfl, rfl, rfl, trivial⟩ rfl (by simp only [ASt.push, List.nil_append, List.cons_append, List.take_succ_cons, List.take_zero, List.all_cons, List.all_nil, AObj.under, i64s_set, unders_append, unders_ims, unders, PV.under, Bool.and_true, Bool.and_self]), q + 1, seen ++ [((l.natAbs : Nat) : Int)], out, P ++ [l.natAbs], g, rfl, by omega, hnw hne hm hlw, ?_⟩
      rw [← entV_snoc, List.length_append]
      rfl
     ·have hlw : S.lvl l ≠ S.st.length := by have := ne_of_beq_false hb; unfold Sol.lvl; omega
      refine Run.go ?_
      refine End.blk ?_
      refine End.kp [0, 6, 7, 8, 9, 10, 11, 38, 39, 40] ?_
      refine Run.go ?_
      refine End.lp ?_
      refine ⟨c.length - (q + 1), _, by omega, Ghost.form [(0, .ptr 1 5 0), (6, .i (S.st.length : Nat)), (7, .map 0 0), (8, .vs 0 1 0 (out.length + 1) (g + 1)), (9, .i (P.length : Nat)), (10, .i (i : Nat)), (11, .i skip), (38, .vs 1 (k + (2 * S.n + 2) + 11) 0 c.length 0), (39, .i c.length), (40, .i (q + 1 : Nat))] 2 ⟨rfl, rfl, rfl, rfl, rfl, rfl, rfl, rfl, rfl, rfl, trivial⟩ rfl (by simp only [ASt.push, List.nil_append, List.cons_append, List.take_succ_cons, List.take_zero, List.all_cons, List.all_nil, AObj.under, i64s_set, unders_append, unders_ims, unders, PV.under, Bool.and_true, Bool.and_self]), q + 1, seen ++ [((l.natAbs : Nat) : Int)], out ++ [l], P, g + 1, rfl, by omega, hot hne hm hl0 hlw, ?_⟩
      have y1 : i64s (out ++ [l]) = i64s out ++ [PV.im (.int .i64 l)] := by simp
      rw [← entV_snoc, List.length_append, y1]
      rfl
 ·have hb2 := of_decide_eq_false hb
  have hqe : q = c.length := by omega
  subst hqe
  have hD := hG.dwn
  refine Run.exit rfl ?_
  refine End.kp [0, 6, 7, 8, 9, 10] ?_
  refine Run.seq ?_
  refine Run.block ?_
  refine Run.ghost (Ghost.form [(0, .ptr 1 5 0), (6, .i (S.st.length : Nat)), (7, .map 0 0), (8, .vs 0 1 0 out.length g), (9, .i (P.length : Nat)), (10, .i (i : Nat))] 2 ⟨rfl, rfl, rfl, rfl, rfl, rfl, trivial⟩ rfl (by simp only [ASt.push, List.nil_append, List.cons_append, List.take_succ_cons, List.take_zero, List.all_cons, List.all_nil, AObj.under, i64s_set, unders_append, unders_ims, unders, PV.under, Bool.and_true, Bool.and_self])) ?_
  refine Run.loop (fun m st => ∃ j : Nat, m = j ∧ j ≤ i ∧ Dwn S j seen out P ∧ st = ⟨[(0, .ptr 1 5 0), (6, .i (S.st.length : Nat)), (7, .map 0 0), (8, .vs 0 1 0 out.length g), (9, .i (P.length : Nat)), (10, .i (j : Nat))], [.map (entV seen), .vec 3 g (i64s out)], f :: rest⟩) i ⟨i, rfl, Nat.le_refl _, hD, rfl⟩ fun m2 st hJ => ?_
  clear hD
  obtain ⟨j, hmj, hji, hD, rfl⟩ := hJ
  subst m2
  have hjl := hD.li.il
  have gj : (i64s S.tr ++ i64s V.tx)[j]? = some (.im (.int .i64 (S.lit j))) := by rw [List.getElem?_append_left (by simp; omega)]; exact i64s_get _ _ hjl
  have hjj : (j : Int) < (S.tr.length : Int) := by omega
  have hLj := slit_ok hS hjl
  have hat := hD.at
  have hstp := hD.step
  have hlst := Dwn.last hS hC.inv hD
  have hnxt := Dwn.next hS hC.inv hp hD
  obtain ⟨ol, pl⟩ := hD.li.len hS
  have hpos := hD.li.pos
  have hne0 := hD.ne
  obtain ⟨l, hl⟩ : ∃ l, l = S.lit j := ⟨_, rfl⟩
  rw [← hl] at gj hLj hat hstp hlst hnxt
  obtain ⟨l0, l1⟩ := hLj
  have wn : IntKind.i64.wrap (0 - l) = -l := by rw [wrap64 (by omega)]; omega
  have hmx : (if l < -l then -l else l) = (l.natAbs : Int) := by split <;> omega
  have wj : IntKind.i64.wrap ((j : Int) - 1) = (j : Int) - 1 := wrap64 (by omega)
  have hP0 : 1 ≤ P.length := Nat.one_le_iff_ne_zero.2 (fun e => hne0 (List.eq_nil_of_length_eq_zero e))
  have wp : IntKind.i64.wrap ((P.length : Int) - 1) = ((P.length - 1 : Nat) : Int) := by rw [wrap64 (by omega)]; omega
  have q1 : ((l.natAbs : Nat) : Int) < ((S.n + 1 : Nat) : Int) := by omega
  have gwy := i64s_get S.why l.natAbs (by rw [hS.len.why]; omega)
  have o0 : (0 : Int) < (out.length : Int) := by omega
  have oln : (i64s out).length = out.length := by simp
  refine Run.seq ?_
  refine Run.seq ?_
  rcases Bool.eq_false_or_eq_true (decide (((l.natAbs : Nat) : Int) ∈ seen)) with hs16 | hs16
  ·skip
   have hm := of_decide_eq_true hs16
   obtain ⟨kx, hf1⟩ := findV_some _ seen 0 hm
   have fx := ai hs16 (ai oln (ai hpos (ai o0 (ai gwy (ai q1 (ai wp (ai wj (ai hmx (ai wn (ai hjl (ai hjj (ai gj (ai hck (ai hk (ai hki (ai gk (ai zTn (ai zNn (ai zZa (ai w1 (ai hwy (ai hlv (ai hco (ai htr (ai hbx ft)))))))))))))))))))))))))
   refine Run.drawA fun K hK => ?_
   refine DOps.sim ?_
   refine DOps.lookI (d := 0) (j := 0) (.int .i64 (l.natAbs : Nat)) (entV seen) (some (kx, .bool true)) (.im (.bool true)) hf1 rfl rfl ?_
   refine DOps.sim ?_
   refine DOps.nil ?_ (hK _ ?_)
   ·rfl
   clear hK K
   refine End.kp [0, 6, 7, 8, 9, 10, 102] ?_
   refine Run.cond _ rfl (fun hb => ?_) (fun hb => ?_)
   ·have hb3 := hb
    simp at hb
   ·have hb3 := hb
    refine Run.exit rfl ?_
    refine End.kp [0, 6, 7, 8, 9, 10] ?_
    refine Run.seq ?_
    have fx := ai hs16 (ai oln (ai hpos (ai o0 (ai gwy (ai q1 (ai wp (ai wj (ai hmx (ai wn (ai hjl (ai hjj (ai gj (ai hck (ai hk (ai hki (ai gk (ai zTn (ai zNn (ai zZa (ai w1 (ai hwy (ai hlv (ai hco (ai htr (ai hbx ft)))))))))))))))))))))))))
    refine Run.go ?_
    refine End.kp [0, 6, 7, 8, 9, 10, 15] ?_
    refine Run.seq ?_
    refine Run.go ?_
    refine End.kp [0, 6, 7, 8, 9, 10, 15] ?_
    refine Run.seq ?_
    refine Run.seq ?_
    refine Run.go ?_
    refine End.kp [0, 6, 7, 8, 9, 10, 15] ?_
    refine Run.seq ?_
    refine Run.go ?_
    refine End.kp [0, 6, 7, 8, 9, 10, 15, 117] ?_
    refine Run.cond _ rfl (fun hb => ?_) (fun hb => ?_)
    ·have hP1 : P.length = 1 := by have := eq_of_beq hb; omega
     have hGd := hlst hm hP1
     refine Run.seq ?_
     refine Run.go ?_
     refine End.kp [0, 8] ?_
     refine Run.exit rfl ?_
     refine End.kp [0, 8] ?_
     refine Run.seq ?_
     refine Run.go ?_
     refine End.kp [0, 8, 16] ?_
     refine Run.seq ?_
     refine Run.seq ?_
     refine Run.go ?_
     refine End.kp [0, 8, 16, 17] ?_
     refine Run.block ?_
     refine Run.ghost (Ghost.form [(0, .ptr 1 5 0), (8, .vs 0 1 0 out.length g), (16, .i (0 : Nat)), (17, .i (1 : Nat))] 2 ⟨rfl, rfl, rfl, rfl, trivial⟩ rfl (by simp only [ASt.push, List.nil_append, List.cons_append, List.take_succ_cons, List.take_zero, List.all_cons, List.all_nil, AObj.under, i64s_set, unders_append, unders_ims, unders, PV.under, Bool.and_true, Bool.and_self])) ?_
     refine Run.loop (fun m st => ∃ (p to : Nat) (o : List Int), m = o.length - p ∧ Pck S p o to ∧ st = ⟨[(0, .ptr 1 5 0), (8, .vs 0 1 0 o.length g), (16, .i (to : Nat)), (17, .i (p : Nat))], [.map (entV seen), .vec 3 g (i64s o)], f :: rest⟩) (out.length - 1) ⟨1, 0, out.set 0 (-l), by rw [List.length_set], hGd.pck, by rw [List.length_set, ← i64s_set]; rfl⟩ fun m3 st hJ => ?_
     obtain ⟨p, to, o, hmp, hPk, rfl⟩ := hJ
     subst m3
     refine Run.seq ?_
     refine Run.seq ?_
     refine Run.go ?_
     refine End.kp [0, 8, 16, 17, 136] ?_
     refine Run.cond _ rfl (fun hb => ?_) (fun hb => ?_)
     ·have hb4 := of_decide_eq_true hb
      have hpl : p < o.length := by omega
      have gp := i64s_get o p hpl
      have hpp : (p : Int) < (o.length : Int) := by omega
      have hp1 := hPk.j1
      have ho1 : 1 < o.length := by omega
      have gp1 := i64s_get o 1 ho1
      have ho11 : (1 : Int) < (o.length : Int) := by omega
      have olen := hPk.good.len hS
      have wp2 := nsucc hpl (by omega)
      obtain ⟨x, hx⟩ : ∃ x, x = o.getD p 0 := ⟨_, rfl⟩
      have hxk : LitOk S.n x := by
       obtain ⟨ii, h1, h2⟩ := hPk.good.on x (by rw [hx]; exact gtD_mem hpl)
       have := slit_ok hS h1
       rw [h2] at this
       exact ⟨by have := this.1; omega, by have := this.2; rwa [Int.natAbs_neg] at this⟩
      have hmo := hPk.more hpl
      have hsm := hPk.same hpl
      have hsw := swap_cells o 1 p
      rw [← hx] at gp hmo hsm hsw
      obtain ⟨x0, x1⟩ := hxk
      have wnx : IntKind.i64.wrap (0 - x) = -x := by rw [wrap64 (by omega)]; omega
      have hmxx : (if x < -x then -x else x) = (x.natAbs : Int) := by split <;> omega
      have qx : ((x.natAbs : Nat) : Int) < ((S.n + 1 : Nat) : Int) := by omega
      have glx := n64s_get S.lev x.natAbs (by rw [hS.len.lev]; omega)
      have olx : (i64s o).length = o.length := by simp
      refine Run.skip ?_
      refine End.kp [0, 8, 16, 17] ?_
      refine Run.seq ?_
      refine Run.block ?_
      refine Run.seq ?_
      have fx := ai (@List.length_set.{0}) (ai olx (ai glx (ai qx (ai hmxx (ai wnx (ai wp2 (ai ho1 (ai ho11 (ai gp1 (ai hpl (ai hpp (ai gp (ai hs16 (ai oln (ai hpos (ai o0 (ai gwy (ai q1 (ai wp (ai wj (ai hmx (ai wn (ai hjl (ai hjj (ai gj (ai hck (ai hk (ai hki (ai gk (ai zTn (ai zNn (ai zZa (ai w1 (ai hwy (ai hlv (ai hco (ai htr (ai hbx ft))))))))))))))))))))))))))))))))))))))
      refine Run.drawA fun K hK => ?_
      refine DOps.sim ?_
      refine DOps.nil ?_ (hK _ ?_)
      ·rfl
      clear hK K
      refine End.kp [0, 8, 16, 17, 18] ?_
      refine Run.seq ?_
      refine Run.go ?_
      refine End.kp [0, 8, 16, 17, 18, 157] ?_
      refine Run.cond _ rfl (fun hb => ?_) (fun hb => ?_)
      ·have hgt : to < S.lvl x := by have := of_decide_eq_true hb; unfold Sol.lvl; omega
       refine Run.seq ?_
       have fx := ai (@List.length_set.{0}) (ai olx (ai glx (ai qx (ai hmxx (ai wnx (ai wp2 (ai ho1 (ai ho11 (ai gp1 (ai hpl (ai hpp (ai gp (ai hs16 (ai oln (ai hpos (ai o0 (ai gwy (ai q1 (ai wp (ai wj (ai hmx (ai wn (ai hjl (ai hjj (ai gj (ai hck (ai hk (ai hki (ai gk (ai zTn (ai zNn (ai zZa (ai w1 (ai hwy (ai hlv (ai hco (ai htr (ai hbx ft))))))))))))))))))))))))))))))))))))))
       refine Run.go ?_
       refine End.kp [0, 8, 16, 17] ?_
       refine Run.drawA fun K hK => ?_
       refine DOps.sim ?_
       refine DOps.nil ?_ (hK _ ?_)
       ·rfl
       clear hK K
       refine End.blk ?_
       refine End.kp [0, 8, 16, 17] ?_
       refine Run.go ?_
       refine End.lp ?_
       refine ⟨o.length - (p + 1), _, by omega, Ghost.form [(0, .ptr 1 5 0), (8, .vs 0 1 0 o.length g), (16, .i (S.lev.getD x.natAbs 0 : Nat)), (17, .i (p + 1 : Nat))] 2 ⟨rfl, rfl, rfl, rfl, trivial⟩ rfl (by simp only [ASt.push, List.nil_append, List.cons_append, List.take_succ_cons, List.take_zero, List.all_cons, List.all_nil, AObj.under, i64s_set, unders_append, unders_ims, unders, PV.under, Bool.and_true, Bool.and_self]), p + 1, S.lvl x, Sol.swapAt o 1 p, by rw [swapAt_len], hmo hgt, ?_⟩
       rw [swapAt_len, ← hsw]
       rfl
      ·have hgt : S.lvl x ≤ to := by have := of_decide_eq_false hb; unfold Sol.lvl; omega
       refine Run.skip ?_
       refine End.blk ?_
       refine End.kp [0, 8, 16, 17] ?_
       have fx := ai (@List.length_set.{0}) (ai olx (ai glx (ai qx (ai hmxx (ai wnx (ai wp2 (ai ho1 (ai ho11 (ai gp1 (ai hpl (ai hpp (ai gp (ai hs16 (ai oln (ai hpos (ai o0 (ai gwy (ai q1 (ai wp (ai wj (ai hmx (ai wn (ai hjl (ai hjj (ai gj (ai hck (ai hk (ai hki (ai gk (ai zTn (ai zNn (ai zZa (ai w1 (ai hwy (ai hlv (ai hco (ai htr (ai hbx ft))))))))))))))))))))))))))))))))))))))
       refine Run.go ?_
       refine End.lp ?_
       refine ⟨o.length - (p + 1), _, by omega, Ghost.form [(0, .ptr 1 5 0), (8, .vs 0 1 0 o.length g), (16, .i (to : Nat)), (17, .i (p + 1 : Nat))] 2 ⟨rfl, rfl, rfl, rfl, trivial⟩ rfl (by simp only [ASt.push, List.nil_append, List.cons_append, List.take_succ_cons, List.take_zero, List.all_cons, List.all_nil, AObj.under, i64s_set, unders_append, unders_ims, unders, PV.under, Bool.and_true, Bool.and_self]), p + 1, to, o, rfl, hsm hgt, rfl⟩
     ·have hb4 := of_decide_eq_false hb
      have hpe : p = o.length := by have := hPk.jl; omega
      rw [hpe] at hPk
      refine Run.exit rfl ?_
      refine End.kp [8, 16] ?_
      refine Run.seq ?_
      have fx := ai hs16 (ai oln (ai hpos (ai o0 (ai gwy (ai q1 (ai wp (ai wj (ai hmx (ai wn (ai hjl (ai hjj (ai gj (ai hck (ai hk (ai hki (ai gk (ai zTn (ai zNn (ai zZa (ai w1 (ai hwy (ai hlv (ai hco (ai htr (ai hbx ft)))))))))))))))))))))))))
      refine Run.go ?_
      refine End.kp [4, 5] ?_
      refine Run.ret (hQ _ _ ⟨.inr rfl, _, rfl, _, _, rfl, ?_⟩)
      refine ⟨o, to, g, entV seen, rfl, ?_, hPk.lesson hp, hPk.good.len hS, hPk.good.snd⟩
      show (f ++ [AObj.map (entV seen), AObj.vec 3 g (mgs f.length (i64s o))]) :: rest = _
      rw [mgs_ims]
    ·have hP2 : P.length ≠ 1 := fun e => by have := ne_of_beq_false hb; omega
     obtain ⟨k2, hk2, hkl2, hj1, hG2⟩ := hnxt hm hP2
     have hme := (hat hm).2
     have gw2 : (i64s S.why)[l.natAbs]? = some (.im (.int .i64 (k2 : Nat))) := by rw [gwy]; unfold Sol.wy at hk2; rw [hk2]
     clear gwy
     have gwy := gw2
     refine Run.skip ?_
     refine End.kp [0, 6, 7, 8, 9, 10, 15] ?_
     have fx := ai hs16 (ai oln (ai hpos (ai o0 (ai gwy (ai q1 (ai wp (ai wj (ai hmx (ai wn (ai hjl (ai hjj (ai gj (ai hck (ai hk (ai hki (ai gk (ai zTn (ai zNn (ai zZa (ai w1 (ai hwy (ai hlv (ai hco (ai htr (ai hbx ft)))))))))))))))))))))))))
     refine Run.go ?_
     refine End.blk ?_
     refine End.lp ?_
     refine ⟨j - 1, _, by omega, Ghost.form [(0, .ptr 1 5 0), (1, .i (k2 : Nat)), (6, .i (S.st.length : Nat)), (7, .map 0 0), (8, .vs 0 1 0 out.length g), (9, .i (P.length - 1 : Nat)), (10, .i ((j : Int) - 1)), (11, .i l)] 2 ⟨rfl, rfl, rfl, rfl, rfl, rfl, rfl, rfl, trivial⟩ rfl (by simp only [ASt.push, List.nil_append, List.cons_append, List.take_succ_cons, List.take_zero, List.all_cons, List.all_nil, AObj.under, i64s_set, unders_append, unders_ims, unders, PV.under, Bool.and_true, Bool.and_self]), j - 1, k2, l, seen, out, P.erase l.natAbs, g, rfl, hkl2, hG2, ?_⟩
     rw [erase_len hme, show ((j : Int) - 1) = ((j - 1 : Nat) : Int) by omega]
     rfl
  ·skip
   have hm := of_decide_eq_false hs16
   have hf1 := findV_none _ seen 0 hm
   have fx := ai hs16 (ai oln (ai hpos (ai o0 (ai gwy (ai q1 (ai wp (ai wj (ai hmx (ai wn (ai hjl (ai hjj (ai gj (ai hck (ai hk (ai hki (ai gk (ai zTn (ai zNn (ai zZa (ai w1 (ai hwy (ai hlv (ai hco (ai htr (ai hbx ft)))))))))))))))))))))))))
   refine Run.drawA fun K hK => ?_
   refine DOps.sim ?_
   refine DOps.lookI (d := 0) (j := 0) (.int .i64 (l.natAbs : Nat)) (entV seen) none (.im (.bool false)) hf1 rfl rfl ?_
   refine DOps.sim ?_
   refine DOps.nil ?_ (hK _ ?_)
   ·rfl
   clear hK K
   refine End.kp [0, 6, 7, 8, 9, 10, 102] ?_
   refine Run.cond _ rfl (fun hb => ?_) (fun hb => ?_)
   ·have hb3 := hb
    refine Run.skip ?_
    refine End.kp [0, 6, 7, 8, 9, 10] ?_
    refine Run.block ?_
    have fx := ai hs16 (ai oln (ai hpos (ai o0 (ai gwy (ai q1 (ai wp (ai wj (ai hmx (ai wn (ai hjl (ai hjj (ai gj (ai hck (ai hk (ai hki (ai gk (ai zTn (ai zNn (ai zZa (ai w1 (ai hwy (ai hlv (ai hco (ai htr (ai hbx ft)))))))))))))))))))))))))
    refine Run.go ?_
    refine End.blk ?_
    refine End.lp ?_
    obtain ⟨hj1, hD2⟩ := hstp hm
    refine ⟨j - 1, _, by omega, Ghost.form [(0, .ptr 1 5 0), (6, .i (S.st.length : Nat)), (7, .map 0 0), (8, .vs 0 1 0 out.length g), (9, .i (P.length : Nat)), (10, .i ((j : Int) - 1))] 2 ⟨rfl, rfl, rfl, rfl, rfl, rfl, trivial⟩ rfl (by simp only [ASt.push, List.nil_append, List.cons_append, List.take_succ_cons, List.take_zero, List.all_cons, List.all_nil, AObj.under, i64s_set, unders_append, unders_ims, unders, PV.under, Bool.and_true, Bool.and_self]), j - 1, rfl, by omega, hD2, ?_⟩
    rw [show ((j : Int) - 1) = ((j - 1 : Nat) : Int) by omega]
    rfl
   ·have hb3 := hb
    simp at hb

set_option maxRecDepth 100000
set_option maxHeartbeats 40000000
theorem i64s_part (l : List Int) (n d : Nat) (h : n = l.length) : ((i64s l).take n).map (PV.upN d) = i64s l := by
 rw [List.take_of_length_le (by simp; omega)]
 simp only [i64s, List.map_map]
 refine List.map_congr_left fun x _ => ?_
 simp [upN_im]
theorem i64s_down (l : List Int) (d : Nat) : downsN d (i64s l) = some (i64s l) := by
 induction l with
 | nil => rfl
 | cons x xs ih =>
  show downsN d (PV.im (Im.int .i64 x) :: i64s xs) = _
  simp only [downsN, downN_im, ih]
  rfl
theorem i64s_all (l : List Int) : (i64s l).all onePV = true := by simp [onePV]
theorem CloneV_ok (p g n : Nat) (c : List Int) (rest : List PV) (up : Frs) (hc : fget up 0 p = some (.vec 3 g (i64s c))) (hn : n = c.length) (h0 : 0 < c.length) (hl : c.length ≤ 1000000) : ACalls Try.prog 76 [.vs 0 p 0 n g] up fun v u => v = .im (.sl (ints c)) ∧ u = up := by
 have hpt := i64s_part c n 1 hn
 have hdn := i64s_down c 0
 have hal := i64s_all c
 have hln : (i64s c).length = n := by rw [hn]; simp
 have hap : (0 + n) * 8 ≤ 140737488355328 := by omega
 have hap2 : n * 8 ≤ 140737488355328 := by omega
 refine ACalls.code Try.func76 rfl 8 rfl (by simp) [.tmp 2] rfl fun Q hQ => ?_
 simp only [ups, PV.up, argEnv]
 have ft := ai ty_3 (ai ty_4 (ai ty_22 trivial))
 refine Run.seq ?_
 have fx := ai (@List.drop_zero.{0}) (ai (@List.take_nil.{0}) (ai (@List.nil_append.{0}) (ai zZa (ai hap2 (ai hap (ai hln (ai hal (ai hdn (ai hpt (ai hc ft))))))))))
 refine Run.go ?_
 refine End.kp [0] ?_
 refine Run.seq ?_
 refine Run.seq ?_
 refine Run.region rfl fun K hK => GOps.simK 1 ?_
 refine GOps.nilVs (o := 0) (m := n) (g := g) (d := 1) (j := p) (ty := 3) (cs := i64s c) (by exact hc) (by omega) ?_
 refine GOps.sim ?_
 refine GOps.done (hK _ ?_); clear hK K
 refine End.kp [0, 4] ?_
 refine Run.cond _ rfl (fun hb => ?_) (fun hb => ?_)
 ·have hb2 := hb
  simp at hb
 ·have hb2 := hb
  refine Run.skip ?_
  refine End.kp [0] ?_
  refine Run.seq ?_
  have fx := ai (@List.drop_zero.{0}) (ai (@List.take_nil.{0}) (ai (@List.nil_append.{0}) (ai zZa (ai hap2 (ai hap (ai hln (ai hal (ai hdn (ai hpt (ai hc ft))))))))))
  refine Run.region rfl fun K hK => GOps.litVec rfl (by simp only [litW, fx] <;> rfl) ?_
  refine GOps.sim ?_
  refine GOps.done (hK _ ?_); clear hK K
  refine End.move (Ghost.vecRow (e := [(2, .ms 0 0 n)]) (L := []) (g := 1) (c.map fun x => Im.int .i64 x) (List.ne_nil_of_length_pos (by rw [List.length_map]; exact h0)) (by rw [List.length_map]; exact hn) (cVec.conv rfl cVec.nil) rfl) ?_
  refine End.move (Ghost.shut (t := 2) (j := 0) (m := n) (rows := (c.map fun x => Im.int .i64 x).map fun x => [x]) rfl rfl (by rw [List.length_map, List.length_map]; exact hn.symm)) ?_
  rw [List.map_map]
  refine End.kp [2] ?_
  refine Run.ret (hQ _ _ ⟨.inr rfl, _, rfl, _, rfl, ?_⟩)
  exact ⟨rfl, rfl⟩
theorem CloneD_cons (x : Int) (xs : List Int) (hl : xs.length ≤ 1000000) (f : List AObj) (rest : Frs) : ACalls Try.prog 76 [.im (.sl (ints (x :: xs)))] (f :: rest) fun v u => v = .vs 0 (f.length + 0) 0 (xs.length + 1) 1 ∧ u = (f ++ [.vec 3 1 (i64s (x :: xs))]) :: rest := by
 have hap : (0 + (xs.length + 1)) * 8 ≤ 140737488355328 := by omega
 have hap2 : (xs.length + 1) * 8 ≤ 140737488355328 := by omega
 have hall : (ints xs).all (fun r => r.length == 1) = true := by simp
 have hrc : (ints xs).map rowCell = i64s xs := by simp only [i64s, List.map_map]; rfl
 have hdn := i64s_down xs 0
 have hal := i64s_all xs
 have hln : (i64s xs).length = xs.length := by simp
 refine ACalls.codeX Try.func76 rfl 8 rfl (by simp) [.tmp 2] rfl fun Q hQ => ?_
 simp only [ups, PV.up, argEnv]
 have ft := ai ty_3 (ai ty_4 (ai ty_22 trivial))
 refine Run.seq ?_
 have fx := ai (@List.drop_zero.{0}) (ai (@List.take_nil.{0}) (ai (@List.nil_append.{0}) (ai zZa (ai (@List.length_map.{0, 0}) (ai (@List.map_cons.{0, 0}) (ai hln (ai hal (ai hdn (ai hrc (ai hall (ai hap2 (ai hap ft))))))))))))
 refine Run.go ?_
 refine End.kp [0] ?_
 refine Run.seq ?_
 refine Run.seq ?_
 refine Run.go ?_
 refine End.kp [0, 4] ?_
 refine Run.cond _ rfl (fun hb => ?_) (fun hb => ?_)
 ·have hb2 := hb
  simp at hb
 ·have hb2 := hb
  refine Run.skip ?_
  refine End.kp [0] ?_
  refine Run.seq ?_
  refine Run.region rfl fun K hK => GOps.litVec rfl (by simp only [litW, fx] <;> rfl) ?_
  refine GOps.sim ?_
  refine GOps.done (hK _ ?_); clear hK K
  refine End.kp [2] ?_
  refine Run.ret (hQ _ _ ⟨.inr rfl, _, rfl, _, _, rfl, ?_⟩)
  refine ⟨rfl, ?_⟩
  show (f ++ [AObj.vec 3 1 (mgs f.length (i64s (x :: xs)))]) :: rest = _
  rw [mgs_ims]

set_option maxRecDepth 100000
set_option maxHeartbeats 40000000
structure KeptD (up u : Frs) (d : Nat) (S : Sol) (V : Ver) (S' : Sol) (V' : Ver) : Prop where
 at' : SAt u d S' V'
 els : Else up u d S V.K
 K : V'.K = V.K
 n : S'.n = S.n
 cl : S'.cl.length = S.cl.length
 spare : ∀ m, S.cl.length ≤ m → Spare up d S V.K m → Spare u d S V.K m
theorem Kept.toD {up u : Frs} {d : Nat} {S S' : Sol} {V V' : Ver} (h : Kept up u d S V S' V') : KeptD up u d S V S' V' := ⟨h.at', h.els, h.K, h.n, h.cl, h.spare⟩
theorem KeptD.trans {up u v : Frs} {d : Nat} {S S1 S2 : Sol} {V V1 V2 : Ver} (h : KeptD up u d S V S1 V1) (k : KeptD u v d S1 V1 S2 V2) : KeptD up v d S V S2 V2 :=
 ⟨k.at', h.els.trans h.n (h.K ▸ k.els), k.K.trans h.K, k.n.trans h.n, k.cl.trans h.cl, fun m hm hs => by
  have h1 := h.spare m hm hs
  have h2 := k.spare m (by rw [h.cl]; exact hm) (by intro q a b; rw [h.n]; exact h1 q a (by rw [← h.K]; exact b))
  intro q a b
  have := h2 q a (by rw [h.K]; exact b)
  rwa [h.n] at this⟩
theorem nextU_kept {up : Frs} {d : Nat} {S : Sol} {V : Ver} (h : SAt up d S V) (p : Nat) : Kept up (fset up d 5 (sbox (S.nextTo p) V)) d S V (S.nextTo p) V := by
 have o : ∀ j, j ≠ 5 → fget (fset up d 5 (sbox (S.nextTo p) V)) d j = fget up d j := fun j h1 => by rw [fget_fset, if_neg (fun e => h1 e.2)]
 exact ⟨⟨by rw [fget_fset, if_pos ⟨rfl, rfl⟩, h.box]; rfl, (o 1 (by omega)).trans h.wch, (o 2 (by omega)).trans h.val, (o 3 (by omega)).trans h.lev, (o 4 (by omega)).trans h.why, (o 7 (by omega)).trans h.clo, (o 8 (by omega)).trans h.trl, (o 9 (by omega)).trans h.sts, fun j hj => (o _ (by omega)).trans (h.wli j hj), fun j hj => (o _ (by omega)).trans (h.cli j hj)⟩,
  (Else.refl _ _ _ _).fset (by unfold SPl; omega) _, rfl, rfl, rfl, rfl, fun m hm hs => hs.fset (by omega) _⟩
def startV (V : Ver) : Ver := { V with s := V.s + 1, sx := [] }
def startU (up : Frs) (d : Nat) (S : Sol) (V : Ver) : Frs :=
 fset (fset up d 9 (.vec 3 (V.s + 1) (n64s (S.st ++ [S.tr.length])))) d 5 (sbox (S.start S.next) (startV V))
theorem startU_kept {up : Frs} {d : Nat} {S : Sol} {V : Ver} (h : SAt up d S V) : KeptD up (startU up d S V) d S V (S.start S.next) (startV V) := by
 have e : ∀ j, fget (startU up d S V) d j = if j = 5 then some (sbox (S.start S.next) (startV V)) else if j = 9 then some (.vec 3 (V.s + 1) (n64s (S.st ++ [S.tr.length]))) else fget up d j := fun j => by
  simp only [startU, fget_fset, true_and, h.box, h.sts, Nat.reduceEqDiff, if_false, Option.map_some]
 have o : ∀ j, j ≠ 5 → j ≠ 9 → fget (startU up d S V) d j = fget up d j := fun j h1 h2 => by rw [e, if_neg h1, if_neg h2]
 refine ⟨⟨by rw [e, if_pos rfl], (o 1 (by omega) (by omega)).trans h.wch, (o 2 (by omega) (by omega)).trans h.val, (o 3 (by omega) (by omega)).trans h.lev, (o 4 (by omega) (by omega)).trans h.why, (o 7 (by omega) (by omega)).trans h.clo, (o 8 (by omega) (by omega)).trans h.trl, ?_, fun j hj => (o _ (by omega) (by omega)).trans (h.wli j hj), fun j hj => (o _ (by omega) (by omega)).trans (h.cli j hj)⟩,
  (((Else.refl up d S V.K).fset (by unfold SPl; omega) _).fset (by unfold SPl; omega) _), rfl, rfl, rfl, fun m hm hs => Spare.fset (S := S) (Spare.fset (S := S) hs (by omega) _) (by omega) _⟩
 rw [e, if_neg (by omega), if_pos rfl, startV, Sol.start]
 simp
theorem take_st (S : Sol) (V : Ver) : (n64s S.st ++ n64s V.sx).take S.st.length = n64s S.st := by rw [List.take_left' (by simp)]
theorem decide_ok (S : Sol) (V : Ver) (B : Nat) (up : Frs) (hA : SAt up 0 S V) (hS : SW S B) (h1 : 1 ≤ S.next) (h2 : S.next ≤ S.n + 1) (hst : S.st.length ≤ S.tr.length) : ACalls Try.prog 73 [.ptr 0 5 0] up fun v u => ∃ V',
  v = .im (.bool S.decide.2) ∧ KeptD up u 0 S V S.decide.1 V' := by
 refine ACalls.code Try.func73 rfl 64 rfl (by simp) [.tmp 2] rfl fun Q hQ => ?_
 simp only [ups, PV.up, argEnv]
 have ft := ai ty_2 (ai ty_3 (ai ty_4 (ai ty_5 (ai ty_6 (ai ty_8 (ai ty_22 (ai ty_130 (ai ty_131 (ai ty_133 (ai ty_138 trivial))))))))))
 refine Run.seq ?_
 have fx := ai zTn (ai zNn (ai zZa ft))
 refine Run.go ?_
 refine End.kp [0] ?_
 refine Run.seq ?_
 refine Run.block ?_
 refine Run.ghost (Ghost.fm [(0, .ptr 1 5 0)] 0) ?_
 refine Run.loop (fun m st => ∃ (i : Nat) (u : Frs), m = S.n + 1 - i ∧ S.next ≤ i ∧ i ≤ S.n + 1 ∧ Sol.skip S.val S.next = Sol.skip S.val i ∧ Kept up u 0 S V (S.nextTo i) V ∧ st = ⟨[(0, .ptr 1 5 0)], [], u⟩) (S.n + 1 - S.next) ⟨S.next, up, rfl, by omega, h2, rfl, Kept.refl hA, rfl⟩ fun m st hI => ?_
 obtain ⟨i, u, rfl, hi1, hi2, hsk, hK, rfl⟩ := hI
 have hA1 := hK.at'
 have ubx : fget u 0 5 = some (.box [.vs 0 7 0 S.cl.length V.c, .vs 0 1 0 (2 * S.n + 2) 0, .vs 0 2 0 (S.n + 1) 0, .vs 0 3 0 (S.n + 1) 0, .vs 0 4 0 (S.n + 1) 0, .vs 0 8 0 S.tr.length V.t, .vs 0 9 0 S.st.length V.s, .i S.head, .i (i : Nat)]) := hA1.box
 have uvl : fget u 0 2 = some (.vec 138 0 (i8s S.val)) := hA1.val
 have ust : fget u 0 9 = some (.vec 3 V.s (n64s S.st ++ n64s V.sx)) := hA1.sts
 have lv := hS.len.val
 have hn := hS.len.n
 have i0 : (0 : Int) ≤ (i : Int) := by omega
 refine Run.seq ?_
 refine Run.seq ?_
 rcases Bool.eq_false_or_eq_true (decide (i < S.n + 1)) with hs1 | hs1
 ·skip
  have hil := of_decide_eq_true hs1
  have di : decide ((i : Int) < ((S.n + 1 : Nat) : Int)) = true := decide_eq_true (by omega)
  have dip : (i : Int) < ((S.n + 1 : Nat) : Int) := by omega
  have gi := i8s_get S.val i (by omega)
  have wi := nsucc hil (by omega)
  have fx := ai wi (ai gi (ai dip (ai di (ai hs1 (ai uvl (ai ubx (ai zTn (ai zNn (ai zZa ft)))))))))
  refine Run.drawA fun K hK => ?_
  refine DOps.sim ?_
  refine DOps.nil (metAll_quiet rfl) (hK _ ?_); clear hK K
  refine End.kp [0, 25] ?_
  refine Run.cond _ rfl (fun hb => ?_) (fun hb => ?_)
  ·have hb3 : S.val.getD i 0 ≠ 0 := by simpa using hb
   have hk5 := hK.trans (nextU_kept hA1 (i + 1))
   refine Run.skip ?_
   refine End.kp [0] ?_
   refine Run.block ?_
   have fx := ai wi (ai gi (ai dip (ai di (ai hs1 (ai uvl (ai ubx (ai zTn (ai zNn (ai zZa ft)))))))))
   refine Run.go ?_
   refine End.blk ?_
   refine End.lp ?_
   refine ⟨S.n + 1 - (i + 1), _, by omega, Ghost.fm [(0, .ptr 1 5 0)] 0, i + 1, fset u 0 5 (sbox (S.nextTo (i + 1)) V), rfl, by omega, by omega, by rw [hsk, skip_more (by omega) hb3], hk5, rfl⟩
  ·have hb3 : S.val.getD i 0 = 0 := by simpa using hb
   refine Run.exit rfl ?_
   refine End.kp [0] ?_
   refine Run.seq ?_
   refine Run.seq ?_
   have fx := ai wi (ai gi (ai dip (ai di (ai hs1 (ai uvl (ai ubx (ai zTn (ai zNn (ai zZa ft)))))))))
   refine Run.drawA fun K hK => ?_
   refine DOps.sim ?_
   refine DOps.nil (metAll_quiet rfl) (hK _ ?_); clear hK K
   refine End.kp [0, 42] ?_
   refine Run.cond _ rfl (fun hb => ?_) (fun hb => ?_)
   ·have hb4 := hb
    have := of_decide_eq_true hb; omega
   ·have hb4 := hb
    have hst0 : Sol.skip S.val S.next = i := by rw [hsk]; exact skip_stop (fun h => h.2 hb3)
    have hfl := free_len hS (p := i) (by omega) (by omega) hb3
    have tks := take_st S V
    have ap : (S.st.length + 1) * 8 ≤ 140737488355328 := by have := hS.len.stn; omega
    have wn : IntKind.i64.wrap (0 - (i : Int)) = -(i : Int) := by rw [wrap64 (by omega)]; omega
    refine Run.skip ?_
    refine End.kp [0] ?_
    refine Run.seq ?_
    refine Run.ghost (.spares 1) ?_
    simp only [ASt.pushN, ASt.push, List.append_assoc, List.cons_append, List.nil_append]
    have fx := ai wn (ai ap (ai tks (ai ust (ai (@fget_fset) (ai wi (ai gi (ai dip (ai di (ai hs1 (ai uvl (ai ubx (ai zTn (ai zNn (ai zZa ft))))))))))))))
    refine Run.drawA fun K hK => ?_
    refine DOps.sim ?_
    refine DOps.nil ?_ (hK _ ?_)
    ·rfl
    clear hK K
    have yl : (S.start i).st.length = S.st.length + 1 := by simp [Sol.start]
    have y2 : n64s (S.st ++ [S.tr.length]) = n64s S.st ++ [PV.im (Im.int .i64 (S.tr.length : Nat))] := by simp
    have hk2 : KeptD up (startU u 0 (S.nextTo i) V) 0 S V (S.start i) (startV V) := hK.toD.trans (startU_kept hA1)
    have hu : fset (fset u 0 9 (AObj.vec 3 (V.s + 1) (n64s S.st ++ [PV.im ([Im.int IntKind.i64 (S.tr.length : Nat)].headD (Im.bool false))]))) 0 5 (.box [.vs 0 7 0 S.cl.length V.c, .vs 0 1 0 (2 * S.n + 2) 0, .vs 0 2 0 (S.n + 1) 0, .vs 0 3 0 (S.n + 1) 0, .vs 0 4 0 (S.n + 1) 0, .vs 0 8 0 S.tr.length V.t, .vs 0 9 0 (S.st.length + 1) (V.s + 1), .i S.head, .i (i : Nat)]) = startU u 0 (S.nextTo i) V := by
     show _ = fset (fset u 0 9 (.vec 3 (V.s + 1) (n64s (S.st ++ [S.tr.length])))) 0 5 (sbox (S.start i) (startV V))
     unfold sbox
     rw [y2, yl]
     rfl
    rw [hu]
    generalize startU u 0 (S.nextTo i) V = u2 at hk2
    have vbx : fget u2 0 5 = some (.box [.vs 0 7 0 S.cl.length V.c, .vs 0 1 0 (2 * S.n + 2) 0, .vs 0 2 0 (S.n + 1) 0, .vs 0 3 0 (S.n + 1) 0, .vs 0 4 0 (S.n + 1) 0, .vs 0 8 0 S.tr.length V.t, .vs 0 9 0 (S.st.length + 1) (V.s + 1), .i S.head, .i (i : Nat)]) := by have := hk2.at'.box; unfold sbox at this; rw [yl] at this; exact this
    have hlit : LitOk S.n (-(i : Int)) := ⟨by omega, by omega⟩
    have hset : ∀ (loc : List AObj), ACalls Try.prog 79 [.ptr 1 5 0, .i (-(i : Int)), .i (-1)] (loc :: u2) fun v u => v = .tup [] ∧ u = loc :: setU u2 0 (S.start i) (startV V) (-(i : Int)) (-1) := fun loc => set_ok (S.start i) (startV V) 1 _ (hk2.at'.cons _) (hS.start (p := i) (by omega)).len _ _ hlit
    have hd : S.decide = ((S.start i).set (-(i : Int)) (-1), true) := by rw [Sol.decide, hst0, if_neg (by omega)]
    refine End.kp [0] ?_
    refine Run.seq ?_
    have fx := ai vbx (ai wn (ai ap (ai tks (ai ust (ai (@fget_fset) (ai wi (ai gi (ai dip (ai di (ai hs1 (ai uvl (ai ubx (ai zTn (ai zNn (ai zZa ft)))))))))))))))
    refine Run.region rfl fun K hK => GOps.sim ?_
    refine GOps.call rfl rfl rfl rfl (by kernel_rfl) (ACalls.sim ?_)
    refine (hset _).mono fun v u hv => ?_
    obtain ⟨rfl, rfl⟩ := hv
    refine ⟨_, _, rfl, GOps.sim ?_⟩
    refine GOps.done (hK _ ?_); clear hK K
    refine End.kp [] ?_
    refine Run.seq ?_
    refine Run.go ?_
    refine End.kp [2] ?_
    refine Run.ret (hQ _ _ ⟨.inr rfl, _, rfl, _, rfl, ?_⟩)
    rw [hd]; exact ⟨setV (startV V), rfl, hk2.trans (setU_kept hk2.at' _ _).toD⟩
 ·skip
  have hil := of_decide_eq_false hs1
  have di : decide ((i : Int) < ((S.n + 1 : Nat) : Int)) = false := decide_eq_false (by omega)
  have dip : True := trivial
  have gi : True := trivial
  have wi : True := trivial
  have fx := ai wi (ai gi (ai dip (ai di (ai hs1 (ai uvl (ai ubx (ai zTn (ai zNn (ai zZa ft)))))))))
  refine Run.drawA fun K hK => ?_
  refine DOps.sim ?_
  refine DOps.nil (metAll_quiet rfl) (hK _ ?_); clear hK K
  refine End.kp [0, 25] ?_
  refine Run.cond _ rfl (fun hb => ?_) (fun hb => ?_)
  ·have hb3 := hb
   simp at hb
  ·have hb3 := hb
   refine Run.exit rfl ?_
   refine End.kp [0] ?_
   refine Run.seq ?_
   refine Run.seq ?_
   have fx := ai wi (ai gi (ai dip (ai di (ai hs1 (ai uvl (ai ubx (ai zTn (ai zNn (ai zZa ft)))))))))
   refine Run.drawA fun K hK => ?_
   refine DOps.sim ?_
   refine DOps.nil (metAll_quiet rfl) (hK _ ?_); clear hK K
   refine End.kp [0, 42] ?_
   refine Run.cond _ rfl (fun hb => ?_) (fun hb => ?_)
   ·have hb4 := of_decide_eq_true hb
    have hst0 : Sol.skip S.val S.next = i := by rw [hsk]; exact skip_stop (fun h => by omega)
    have hd : S.decide = (S.nextTo i, false) := by rw [Sol.decide, hst0, if_pos (by omega), show i = S.n + 1 by omega]
    refine Run.seq ?_
    have fx := ai wi (ai gi (ai dip (ai di (ai hs1 (ai uvl (ai ubx (ai zTn (ai zNn (ai zZa ft)))))))))
    refine Run.go ?_
    refine End.kp [2] ?_
    refine Run.ret (hQ _ _ ⟨.inr rfl, _, rfl, _, rfl, ?_⟩)
    rw [hd]; exact ⟨V, rfl, hK.toD⟩
   ·have hb4 := hb
    have := of_decide_eq_false hb; omega

set_option maxRecDepth 100000
set_option maxHeartbeats 40000000
theorem refute_ok (S : Sol) (V : Ver) (B : Nat) (f : List AObj) (rest : Frs) (hA : SAt (f :: rest) 0 S V) (hS : SW S B) (hst : ∀ x ∈ S.st, x < S.tr.length) : ACalls Try.prog 75 [.ptr 0 5 0] (f :: rest) fun v u =>
  v = .tup [.ms 0 (f.length + 0) S.st.length, .i ((S.st.length : Int) - 1)] ∧ u = (f ++ [.row 3 1 (ints S.refuted) 0]) :: rest := by
 obtain ⟨up, hup⟩ : ∃ up, up = f :: rest := ⟨_, rfl⟩
 rw [← hup] at hA
 have hbx := hA.box
 have htr := hA.trl
 have hts := hA.sts
 have hn := hS.len.n
 have htn := hS.len.trn
 have hsn := hS.len.stn
 have w1 : IntKind.i64.wrap ((S.st.length : Int) - 1) = (S.st.length : Int) - 1 := wrap64 (by omega)
 rw [hup] at hbx htr hts
 refine ACalls.codeX Try.func75 rfl 40 rfl (by simp) [.tmp 2, .tmp 3] rfl fun Q hQ => ?_
 simp only [ups, PV.up, argEnv]
 have ft := ai ty_3 (ai ty_4 (ai ty_5 (ai ty_6 (ai ty_22 (ai ty_130 (ai ty_133 trivial))))))
 refine Run.seq ?_
 have fx := ai zTn (ai zNn (ai zZa (ai w1 (ai hts (ai htr (ai hbx ft))))))
 refine Run.go ?_
 refine End.kp [0] ?_
 refine Run.seq ?_
 refine Run.go ?_
 refine End.kp [0, 4] ?_
 refine Run.seq ?_
 refine Run.seq ?_
 refine Run.go ?_
 refine End.kp [0, 4, 5] ?_
 refine Run.block ?_
 refine Run.ghost (Ghost.thaw (u := 4) 3 1 (by decide) rfl) ?_
 refine Run.ghost (Ghost.fm [(0, .ptr 1 5 0), (4, .ms 0 0 (0)), (5, .i ((S.st.length : Int) - 1))] 1) ?_
 refine Run.loop (fun k st => ∃ (m : Nat) (e : Int), e = (S.st.length : Int) - 1 - (m : Nat) ∧ k = S.st.length - m ∧ m ≤ S.st.length ∧ st = ⟨[(0, .ptr 1 5 0), (4, .ms 0 0 (m)), (5, .i (e))], [.row 3 1 (ints (S.refuted.take m)) 0], f :: rest⟩) S.st.length ⟨0, (S.st.length : Int) - 1, by omega, rfl, by omega, rfl⟩ fun k st hI => ?_
 obtain ⟨m, e, he, rfl, hm, rfl⟩ := hI
 refine Run.seq ?_
 refine Run.seq ?_
 refine Run.go ?_
 refine End.kp [0, 4, 5, 13] ?_
 refine Run.cond _ rfl (fun hb => ?_) (fun hb => ?_)
 ·have hb2 := of_decide_eq_true hb
  have hml : m < S.st.length := by omega
  obtain ⟨d, hd⟩ : ∃ d, d = S.st.length - 1 - m := ⟨_, rfl⟩
  have hdi : e = (d : Nat) := by omega
  have hdl : d < S.st.length := by omega
  have gd : (n64s S.st ++ n64s V.sx)[d]? = some (.im (.int .i64 ((S.st.getD d 0 : Nat) : Int))) := by rw [List.getElem?_append_left (by simp; omega)]; exact n64s_get _ _ hdl
  have htl := hst _ (gtD_mem (d := 0) hdl)
  have hnx := refuted_next S m hml
  rw [← hd, Sol.dec] at hnx
  generalize S.st.getD d 0 = t at gd htl hnx
  have gt : (i64s S.tr ++ i64s V.tx)[t]? = some (.im (.int .i64 (S.tr.getD t 0))) := by rw [List.getElem?_append_left (by simp; omega)]; exact i64s_get _ _ htl
  have hlx := hS.len.tr _ (gtD_mem (d := 0) htl)
  generalize S.tr.getD t 0 = x at gt hlx hnx
  have wn : IntKind.i64.wrap (0 - x) = -x := by have := hlx.2; rw [wrap64 (by omega)]; omega
  have d1 : (d : Int) < (S.st.length : Int) := by omega
  have t1 : (t : Int) < (S.tr.length : Int) := by omega
  have wd : IntKind.i64.wrap ((d : Int) - 1) = (d : Int) - 1 := wrap64 (by omega)
  have hap : (m + 1) * 8 ≤ 140737488355328 := by omega
  have htk : (ints (S.refuted.take m)).length = m := by simp only [List.length_map, List.length_take, refuted_len]; omega
  subst hdi
  refine Run.skip ?_
  refine End.kp [0, 4, 5] ?_
  refine Run.seq ?_
  refine Run.block ?_
  refine Run.ghost (.spares 1) ?_
  simp only [ASt.pushN, ASt.push, List.append_assoc, List.cons_append, List.nil_append]
  have fx := ai htl (ai hdl (ai htk (ai hap (ai wd (ai t1 (ai d1 (ai wn (ai gt (ai gd (ai zTn (ai zNn (ai zZa (ai w1 (ai hts (ai htr (ai hbx ft))))))))))))))))
  refine Run.drawA fun K hK => ?_
  refine DOps.sim ?_
  refine DOps.nil ?_ (hK _ ?_)
  ·rfl
  clear hK K
  refine End.blk ?_
  refine End.kp [0, 4, 5] ?_
  refine Run.go ?_
  refine End.lp ?_
  have y : ints (S.refuted.take (m + 1)) = ints (S.refuted.take m) ++ [[Im.int IntKind.i64 (-x)]] := by rw [hnx]; simp
  refine ⟨S.st.length - (m + 1), _, by omega, Ghost.fm [(0, .ptr 1 5 0), (4, .ms 0 0 (m + 1)), (5, .i ((d : Int) - 1))] 1, m + 1, (d : Int) - 1, by omega, rfl, by omega, by rw [y]; rfl⟩
 ·have hb2 := of_decide_eq_false hb
  have hml : m = S.st.length := by omega
  subst hml
  rw [List.take_of_length_le (by rw [refuted_len]; omega)]
  refine Run.exit rfl ?_
  refine End.kp [0, 4] ?_
  refine Run.seq ?_
  refine Run.drawA fun K hK => ?_
  refine DOps.sim ?_
  refine DOps.nil (metAll_quiet rfl) (hK _ ?_); clear hK K
  refine End.kp [2, 3] ?_
  refine Run.ret (hQ _ _ ⟨.inr rfl, _, rfl, _, _, rfl, ?_⟩)
  exact ⟨rfl, rfl⟩

set_option maxRecDepth 100000
set_option maxHeartbeats 40000000
def undoU (up : Frs) (d : Nat) (S : Sol) (V : Ver) (v : List Int) (p : Nat) : Frs := fset (fset up d 2 (.vec 138 0 (i8s v))) d 5 (sbox { S with val := v, next := p } V)
theorem undoU_kept {up : Frs} {d : Nat} {S : Sol} {V : Ver} (h : SAt up d S V) (v : List Int) (p : Nat) : Kept up (undoU up d S V v p) d S V { S with val := v, next := p } V := by
 have e : ∀ j, fget (undoU up d S V v p) d j = if j = 5 then some (sbox { S with val := v, next := p } V) else if j = 2 then some (.vec 138 0 (i8s v)) else fget up d j := fun j => by
  simp only [undoU, fget_fset, true_and, h.box, h.val, Nat.reduceEqDiff, if_false, Option.map_some]
 have o : ∀ j, j ≠ 5 → j ≠ 2 → fget (undoU up d S V v p) d j = fget up d j := fun j h1 h2 => by rw [e, if_neg h1, if_neg h2]
 exact ⟨⟨by rw [e, if_pos rfl], (o 1 (by omega) (by omega)).trans h.wch, by rw [e, if_neg (by omega), if_pos rfl], (o 3 (by omega) (by omega)).trans h.lev, (o 4 (by omega) (by omega)).trans h.why, (o 7 (by omega) (by omega)).trans h.clo, (o 8 (by omega) (by omega)).trans h.trl, (o 9 (by omega) (by omega)).trans h.sts, fun j hj => (o _ (by omega) (by omega)).trans (h.wli j hj), fun j hj => (o _ (by omega) (by omega)).trans (h.cli j hj)⟩,
  (((Else.refl up d S V.K).fset (by unfold SPl; omega) _).fset (by unfold SPl; omega) _), rfl, rfl, rfl, rfl, fun m hm hs => Spare.fset (S := S) (Spare.fset (S := S) hs (by omega) _) (by omega) _⟩
def cutV (S : Sol) (V : Ver) (t d : Nat) : Ver := { V with tx := S.tr.drop t ++ V.tx, sx := S.st.drop d ++ V.sx }
theorem cutU_kept {up : Frs} {d : Nat} {S : Sol} {V : Ver} (h : SAt up d S V) (t k : Nat) : KeptD up (fset up d 5 (sbox (S.cut t k) (cutV S V t k))) d S V (S.cut t k) (cutV S V t k) := by
 have o : ∀ j, j ≠ 5 → fget (fset up d 5 (sbox (S.cut t k) (cutV S V t k))) d j = fget up d j := fun j h1 => by rw [fget_fset, if_neg (fun e => h1 e.2)]
 refine ⟨⟨by rw [fget_fset, if_pos ⟨rfl, rfl⟩, h.box]; rfl, (o 1 (by omega)).trans h.wch, (o 2 (by omega)).trans h.val, (o 3 (by omega)).trans h.lev, (o 4 (by omega)).trans h.why, (o 7 (by omega)).trans h.clo, (o 8 (by omega)).trans ?_, (o 9 (by omega)).trans ?_, fun j hj => (o _ (by omega)).trans (h.wli j hj), fun j hj => (o _ (by omega)).trans (h.cli j hj)⟩,
  (Else.refl _ _ _ _).fset (by unfold SPl; omega) _, rfl, rfl, rfl, fun m hm hs => hs.fset (by omega) _⟩
 ·rw [h.trl]
  have : i64s S.tr = i64s (S.tr.take t) ++ i64s (S.tr.drop t) := by rw [← List.map_append, ← List.map_append, List.take_append_drop]
  rw [this, List.append_assoc]
  show _ = some (AObj.vec _ _ (i64s (S.tr.take t) ++ i64s (S.tr.drop t ++ V.tx)))
  rw [show i64s (S.tr.drop t ++ V.tx) = i64s (S.tr.drop t) ++ i64s V.tx by simp]
  rfl
 ·rw [h.sts]
  have : n64s S.st = n64s (S.st.take k) ++ n64s (S.st.drop k) := by rw [← List.map_append, ← List.map_append, List.take_append_drop]
  rw [this, List.append_assoc]
  show _ = some (AObj.vec _ _ (n64s (S.st.take k) ++ n64s (S.st.drop k ++ V.sx)))
  rw [show n64s (S.st.drop k ++ V.sx) = n64s (S.st.drop k) ++ n64s V.sx by simp]
  rfl
theorem back_ok (S : Sol) (V : Ver) (B : Nat) (up : Frs) (hA : SAt up 0 S V) (hS : SW S B) (hst : ∀ x ∈ S.st, x ≤ S.tr.length) (h1 : S.next ≤ S.n + 1) (d : Nat) : ACalls Try.prog 77 [.ptr 0 5 0, .i (d : Nat)] up fun v u => ∃ V',
  v = .tup [] ∧ KeptD up u 0 S V (S.back d) V' := by
 have hbx := hA.box
 have htr := hA.trl
 have hts := hA.sts
 have hn := hS.len.n
 have htn := hS.len.trn
 have hsn := hS.len.stn
 refine ACalls.code Try.func77 rfl 83 rfl (by simp) [] rfl fun Q hQ => ?_
 simp only [ups, PV.up, argEnv]
 have ft := ai ty_2 (ai ty_3 (ai ty_4 (ai ty_5 (ai ty_6 (ai ty_7 (ai ty_8 (ai ty_22 (ai ty_130 (ai ty_131 (ai ty_133 (ai ty_138 trivial)))))))))))
 refine Run.seq ?_
 refine Run.seq ?_
 have fx := ai zTn (ai zNn (ai zZa (ai hts (ai htr (ai hbx ft)))))
 refine Run.go ?_
 refine End.kp [0, 1, 13] ?_
 refine Run.cond _ rfl (fun hb => ?_) (fun hb => ?_)
 ·have hb2 := of_decide_eq_true hb
  refine Run.ret (hQ _ _ ⟨.inr rfl, _, rfl, _, rfl, ?_⟩)
  exact ⟨V, rfl, by rw [Sol.back, if_neg (by omega)]; exact (Kept.refl hA).toD⟩
 ·have hb2 := of_decide_eq_false hb
  have hds : d < S.st.length := by omega
  have gd : (n64s S.st ++ n64s V.sx)[d]? = some (.im (.int .i64 ((S.st.getD d 0 : Nat) : Int))) := by rw [List.getElem?_append_left (by simp; omega)]; exact n64s_get _ _ hds
  have htl := hst _ (gtD_mem (d := 0) hds)
  have hbk := back_eq hds
  obtain ⟨t, ht⟩ : ∃ t, t = S.st.getD d 0 := ⟨_, rfl⟩
  rw [← ht] at gd htl hbk
  have hdi : (d : Int) < (S.st.length : Int) := by omega
  have htz : ((t : Nat) : Int) ≤ (S.tr.length : Int) := by omega
  refine Run.skip ?_
  refine End.kp [0, 1] ?_
  refine Run.seq ?_
  refine Run.seq ?_
  have fx := ai htz (ai hdi (ai htl (ai gd (ai zTn (ai zNn (ai zZa (ai hts (ai htr (ai hbx ft)))))))))
  refine Run.drawA fun K hK => ?_
  refine DOps.sim ?_
  refine DOps.nil (metAll_quiet rfl) (hK _ ?_); clear hK K
  refine End.kp [0, 1, 25, 26, 27] ?_
  refine Run.block ?_
  refine Run.ghost (Ghost.fm [(0, .ptr 1 5 0), (1, .i (d : Nat)), (25, .vs 1 8 t (S.tr.length - t) V.t), (26, .i (S.tr.length - t : Nat)), (27, .i 0)] 0) ?_
  refine Run.loop (fun m st => ∃ (i : Nat) (u : Frs), m = S.tr.length - t - i ∧ i ≤ S.tr.length - t ∧ Kept up u 0 S V (S.undo ((S.tr.drop t).take i)) V ∧ st = ⟨[(0, .ptr 1 5 0), (1, .i (d : Nat)), (25, .vs 1 8 t (S.tr.length - t) V.t), (26, .i (S.tr.length - t : Nat)), (27, .i (i : Nat))], [], u⟩) (S.tr.length - t) ⟨0, up, rfl, by omega, Kept.refl hA, rfl⟩ fun m st hI => ?_
  obtain ⟨i, u, rfl, hi1, hK, rfl⟩ := hI
  have hA1 := hK.at'
  have utr : fget u 0 8 = some (.vec 3 V.t (i64s S.tr ++ i64s V.tx)) := hA1.trl
  refine Run.seq ?_
  have fx := ai utr (ai htz (ai hdi (ai htl (ai gd (ai zTn (ai zNn (ai zZa (ai hts (ai htr (ai hbx ft))))))))))
  refine Run.go ?_
  refine End.kp [0, 1, 25, 26, 27, 28] ?_
  refine Run.seq ?_
  refine Run.cond _ rfl (fun hb => ?_) (fun hb => ?_)
  ·have hb3 := of_decide_eq_true hb
   have hil : i < S.tr.length - t := by omega
   have gx : (i64s S.tr ++ i64s V.tx)[t + i]? = some (.im (.int .i64 (S.tr.getD (t + i) 0))) := by rw [List.getElem?_append_left (by simp; omega)]; exact i64s_get _ _ (by omega)
   have hlx := hS.len.tr _ (gtD_mem (l := S.tr) (i := t + i) (d := 0) (by omega))
   have hnx := take_next S.tr t i (by omega)
   obtain ⟨l, hl⟩ : ∃ l, l = S.tr.getD (t + i) 0 := ⟨_, rfl⟩
   rw [← hl] at gx hlx hnx
   obtain ⟨h0, h2⟩ := hlx
   have wn : IntKind.i64.wrap (0 - l) = -l := by rw [wrap64 (by omega)]; omega
   have hmx : (if l < -l then -l else l) = (l.natAbs : Int) := by split <;> omega
   have wi := nsucc hil (by omega)
   have uvl : fget u 0 2 = some (.vec 138 0 (i8s (Sol.zero S.val ((S.tr.drop t).take i)))) := hA1.val
   have ubx : fget u 0 5 = some (.box [.vs 0 7 0 S.cl.length V.c, .vs 0 1 0 (2 * S.n + 2) 0, .vs 0 2 0 (S.n + 1) 0, .vs 0 3 0 (S.n + 1) 0, .vs 0 4 0 (S.n + 1) 0, .vs 0 8 0 S.tr.length V.t, .vs 0 9 0 S.st.length V.s, .i S.head, .i (Sol.low S.next ((S.tr.drop t).take i) : Nat)]) := hA1.box
   have e8 : (i8s (Sol.zero S.val ((S.tr.drop t).take i))).length = S.n + 1 := by simp only [i8s, List.length_map, zero_len]; exact hS.len.val
   have hz := zero_snoc S.val ((S.tr.drop t).take i) l
   have hw := low_snoc S.next ((S.tr.drop t).take i) l
   rw [← hnx] at hz hw
   generalize hvi : Sol.zero S.val ((S.tr.drop t).take i) = vi at uvl e8 hz
   generalize hpi : Sol.low S.next ((S.tr.drop t).take i) = pi at ubx hw
   have q1 : ((l.natAbs : Nat) : Int) < ((S.n + 1 : Nat) : Int) := by omega
   have c1 : l.natAbs < S.n + 1 := by omega
   have hii : (i : Int) < ((S.tr.length - t : Nat) : Int) := by omega
   refine Run.skip ?_
   refine End.kp [0, 1, 25, 26, 27] ?_
   refine Run.seq ?_
   refine Run.block ?_
   refine Run.seq ?_
   have fx := ai hil (ai hii (ai c1 (ai q1 (ai e8 (ai ubx (ai uvl (ai wi (ai hmx (ai wn (ai gx (ai (@fget_fset) (ai utr (ai htz (ai hdi (ai htl (ai gd (ai zTn (ai zNn (ai zZa (ai hts (ai htr (ai hbx ft))))))))))))))))))))))
   refine Run.go ?_
   refine End.kp [0, 1, 5, 25, 26, 27] ?_
   refine Run.seq ?_
   refine Run.go ?_
   refine End.kp [0, 1, 6, 25, 26, 27] ?_
   refine Run.seq ?_
   refine Run.go ?_
   refine End.kp [0, 1, 6, 25, 26, 27] ?_
   refine Run.go ?_
   refine End.blk ?_
   refine End.kp [0, 1, 25, 26, 27] ?_
   refine Run.go ?_
   refine End.lp ?_
   have hk5 := hK.trans (undoU_kept hA1 (vi.set l.natAbs 0) (min pi l.natAbs))
   have hS2 : { S.undo ((S.tr.drop t).take i) with val := vi.set l.natAbs 0, next := min pi l.natAbs } = S.undo ((S.tr.drop t).take (i + 1)) := by rw [Sol.undo, Sol.undo, hz, hw]
   have y1 : (i8s vi).set l.natAbs (PV.im (.int .i8 0)) = i8s (vi.set l.natAbs 0) := i8s_set _ _ _
   have y2 : (if ((l.natAbs : Nat) : Int) < ((pi : Nat) : Int) then ((l.natAbs : Nat) : Int) else ((pi : Nat) : Int)) = ((min pi l.natAbs : Nat) : Int) := by split <;> omega
   unfold undoU sbox at hk5
   rw [← y1, ← y2] at hk5
   refine ⟨S.tr.length - t - (i + 1), _, by omega, Ghost.fm [(0, .ptr 1 5 0), (1, .i (d : Nat)), (25, .vs 1 8 t (S.tr.length - t) V.t), (26, .i (S.tr.length - t : Nat)), (27, .i (i + 1 : Nat))] 0, i + 1, _, rfl, by omega, by rw [← hS2]; exact hk5, rfl⟩
  ·have hb3 := of_decide_eq_false hb
   have hii : i = S.tr.length - t := by omega
   have hfull : (S.tr.drop t).take i = S.tr.drop t := List.take_of_length_le (by simp; omega)
   rw [hfull] at hK
   have hA1 := hK.at'
   have ust : fget u 0 9 = some (.vec 3 V.s (n64s S.st ++ n64s V.sx)) := hA1.sts
   obtain ⟨p, hp⟩ : ∃ p, p = Sol.low S.next (S.tr.drop t) := ⟨_, rfl⟩
   have ubx : fget u 0 5 = some (.box [.vs 0 7 0 S.cl.length V.c, .vs 0 1 0 (2 * S.n + 2) 0, .vs 0 2 0 (S.n + 1) 0, .vs 0 3 0 (S.n + 1) 0, .vs 0 4 0 (S.n + 1) 0, .vs 0 8 0 S.tr.length V.t, .vs 0 9 0 S.st.length V.s, .i S.head, .i (p : Nat)]) := by rw [hp]; exact hA1.box
   have hdl : d ≤ S.st.length := by omega
   refine Run.exit rfl ?_
   refine End.kp [0, 1] ?_
   refine Run.seq ?_
   have fx := ai hdl (ai ubx (ai ust (ai (@fget_fset) (ai utr (ai htz (ai hdi (ai htl (ai gd (ai zTn (ai zNn (ai zZa (ai hts (ai htr (ai hbx ft))))))))))))))
   refine Run.drawA fun K hK => ?_
   refine DOps.sim ?_
   refine DOps.nil ?_ (hK _ ?_)
   ·rfl
   clear hK K
   refine End.kp [0, 1] ?_
   refine Run.seq ?_
   refine Run.go ?_
   refine End.kp [0] ?_
   refine Run.go ?_
   refine End.all (hQ _ _ ⟨.inl rfl, _, rfl, _, rfl, ?_⟩)
   have hk := cutU_kept hA1 t d
   have xt : ((S.undo (S.tr.drop t)).cut t d).tr.length = t := by simp only [Sol.cut, Sol.undo, List.length_take]; omega
   have xs : ((S.undo (S.tr.drop t)).cut t d).st.length = d := by simp only [Sol.cut, Sol.undo, List.length_take]; omega
   unfold sbox at hk
   rw [xt, xs] at hk
   subst hp
   rw [hbk]
   exact ⟨cutV (S.undo (S.tr.drop t)) V t d, rfl, hK.toD.trans hk⟩

set_option maxRecDepth 100000
set_option maxHeartbeats 40000000
set_option maxRecDepth 10000
theorem ba_some (b : ByteArray) (n i : Nat) (h : b.size = n) (hi : i < n) : ∃ y, b[i]? = some y := ⟨b[i]'(by omega), getElem?_pos b i (by omega)⟩
theorem len8_get (x : Nat) (h : x ≤ 12) : ∃ y, ({ data := (([0, 1, 2, 2, 3, 3, 3, 3, 4, 4, 4, 4, 4, 4, 4, 4, 5, 5, 5, 5, 5, 5, 5, 5, 5, 5, 5, 5, 5, 5, 5, 5, 6, 6, 6, 6, 6, 6, 6, 6, 6, 6, 6, 6, 6, 6, 6, 6, 6, 6, 6, 6, 6, 6, 6, 6, 6, 6, 6, 6, 6, 6, 6, 6].append [7, 7, 7, 7, 7, 7, 7, 7, 7, 7, 7, 7, 7, 7, 7, 7, 7, 7, 7, 7, 7, 7, 7, 7, 7, 7, 7, 7, 7, 7, 7, 7, 7, 7, 7, 7, 7, 7, 7, 7, 7, 7, 7, 7, 7, 7, 7, 7, 7, 7, 7, 7, 7, 7, 7, 7, 7, 7, 7, 7, 7, 7, 7, 7]).append ([8, 8, 8, 8, 8, 8, 8, 8, 8, 8, 8, 8, 8, 8, 8, 8, 8, 8, 8, 8, 8, 8, 8, 8, 8, 8, 8, 8, 8, 8, 8, 8, 8, 8, 8, 8, 8, 8, 8, 8, 8, 8, 8, 8, 8, 8, 8, 8, 8, 8, 8, 8, 8, 8, 8, 8, 8, 8, 8, 8, 8, 8, 8, 8].append [8, 8, 8, 8, 8, 8, 8, 8, 8, 8, 8, 8, 8, 8, 8, 8, 8, 8, 8, 8, 8, 8, 8, 8, 8, 8, 8, 8, 8, 8, 8, 8, 8, 8, 8, 8, 8, 8, 8, 8, 8, 8, 8, 8, 8, 8, 8, 8, 8, 8, 8, 8, 8, 8, 8, 8, 8, 8, 8, 8, 8, 8, 8, 8])).toArray } : ByteArray)[x]? = some y := ba_some _ 256 x rfl (by omega)
theorem len64_ok (x : Nat) (h : x ≤ 12) (up : Frs) : ACalls Try.prog 121 [.im (.int .u64 (x : Nat))] up fun v u => ∃ k : Int, v = .i k ∧ u = up := by
 have d0 : decide ((4294967296 : Int) ≤ (x : Int)) = false := decide_eq_false (by omega)
 have d1 : decide ((65536 : Int) ≤ (x : Int)) = false := decide_eq_false (by omega)
 have d2 : decide ((256 : Int) ≤ (x : Int)) = false := decide_eq_false (by omega)
 have w8 : IntKind.u8.wrap (x : Int) = (x : Int) := by simp [IntKind.wrap, IntKind.signed, IntKind.bits]; omega
 obtain ⟨y, hy⟩ := len8_get x h
 refine ACalls.code Try.func121 rfl 25 rfl (by simp) [.tmp 2] rfl fun Q hQ => ?_
 simp only [ups, PV.up, argEnv]
 have ft := ai ty_3 (ai ty_4 (ai ty_5 (ai ty_9 (ai ty_99 (ai ty_177 trivial)))))
 refine Run.seq ?_
 have fx := ai zTn (ai zNn (ai hy (ai w8 (ai d2 (ai d1 (ai d0 ft))))))
 refine Run.go ?_
 refine End.kp [0, 2] ?_
 refine Run.seq ?_
 refine Run.seq ?_
 refine Run.go ?_
 refine End.kp [0, 2, 4] ?_
 refine Run.cond _ rfl (fun hb => ?_) (fun hb => ?_)
 ·have hb1 := hb
  simp at hb
 ·have hb1 := hb
  refine Run.skip ?_
  refine End.kp [0, 2] ?_
  refine Run.seq ?_
  refine Run.seq ?_
  refine Run.go ?_
  refine End.kp [0, 2, 8] ?_
  refine Run.cond _ rfl (fun hb => ?_) (fun hb => ?_)
  ·have hb1 := hb
   simp at hb
  ·have hb1 := hb
   refine Run.skip ?_
   refine End.kp [0, 2] ?_
   refine Run.seq ?_
   refine Run.seq ?_
   refine Run.go ?_
   refine End.kp [0, 2, 14] ?_
   refine Run.cond _ rfl (fun hb => ?_) (fun hb => ?_)
   ·have hb1 := hb
    simp at hb
   ·have hb1 := hb
    refine Run.skip ?_
    refine End.kp [0, 2] ?_
    refine Run.seq ?_
    refine Run.go ?_
    refine End.kp [2] ?_
    refine Run.ret (hQ _ _ ⟨.inr rfl, _, rfl, _, rfl, ?_⟩)
    exact ⟨_, rfl, rfl⟩
theorem lenU_ok (x : Nat) (h : x ≤ 12) (up : Frs) : ACalls Try.prog 107 [.im (.int .u64 (x : Nat))] up fun v u => ∃ k : Int, v = .i k ∧ u = up := by
 refine ACalls.code Try.func107 rfl 8 rfl (by simp) [.tmp 2] rfl fun Q hQ => ?_
 simp only [ups, PV.up, argEnv]
 have ft := ai ty_3 (ai ty_99 (ai ty_177 (ai ty_188 trivial)))
 refine Run.seq ?_
 have fx := ft
 refine Run.go ?_
 refine End.kp [0] ?_
 refine Run.seq ?_
 refine Run.cond _ rfl (fun hb => ?_) (fun hb => ?_)
 ·have hb1 := hb
  simp at hb
 ·have hb1 := hb
  refine Run.skip ?_
  refine End.kp [0] ?_
  refine Run.seq ?_
  refine Run.region rfl fun K hK => GOps.sim ?_
  refine GOps.call rfl rfl rfl rfl (by kernel_rfl) (ACalls.sim ?_)
  refine (len64_ok x h _).mono fun v u hv => ?_
  obtain ⟨k, rfl, rfl⟩ := hv
  refine ⟨_, _, rfl, GOps.sim ?_⟩
  refine GOps.done (hK _ ?_); clear hK K
  refine End.kp [2] ?_
  refine Run.ret (hQ _ _ ⟨.inr rfl, _, rfl, _, rfl, ?_⟩)
  exact ⟨_, rfl, rfl⟩
theorem pdq_ok (p g n : Nat) (k : Int) (c : List Int) (up : Frs) (hc : fget up 1 p = some (.vec 3 g (i64s c))) (hn : n = c.length) (hl : n ≤ 12) : ACalls Try.prog 108 [.vs 1 p 0 n g, .i 0, .i (n : Nat), .i k] up fun v u => v = .tup [] ∧ u = fset up 1 p (.vec 3 g (i64s (sorts (n - 1) c 1))) := by
 have wn : IntKind.i64.wrap ((n : Int) - 0) = (n : Int) := by rw [wrap64 (by omega)]; omega
 have dn : decide ((n : Int) ≤ 12) = true := decide_eq_true (by omega)
 refine ACalls.code Try.func108 rfl 134 rfl (by simp) [] rfl fun Q hQ => ?_
 simp only [ups, PV.up, argEnv]
 have ft := ai ty_3 (ai ty_4 (ai ty_22 (ai ty_180 trivial)))
 refine Run.seq ?_
 have fx := ai dn (ai wn ft)
 refine Run.go ?_
 refine End.kp [0, 1, 2, 3, 8] ?_
 refine Run.seq ?_
 refine Run.go ?_
 refine End.kp [0, 1, 2, 3, 8, 9] ?_
 refine Run.block ?_
 refine Run.ghost (Ghost.fm [(0, .vs 2 p 0 n g), (1, .i 0), (2, .i (n : Nat)), (3, .i k), (8, .im (.bool true)), (9, .im (.bool true))] 0) ?_
 refine Run.loop (fun m st => st = ⟨[(0, .vs 2 p 0 n g), (1, .i 0), (2, .i (n : Nat)), (3, .i k), (8, .im (.bool true)), (9, .im (.bool true))], [], up⟩) 0 rfl fun m st hI => ?_
 subst hI
 refine Run.block ?_
 refine Run.seq ?_
 refine Run.go ?_
 refine End.kp [0, 1, 2, 3, 8, 9, 10] ?_
 refine Run.seq ?_
 refine Run.seq ?_
 refine Run.go ?_
 refine End.kp [0, 1, 2, 3, 8, 9, 10, 23] ?_
 refine Run.cond _ rfl (fun hb => ?_) (fun hb => ?_)
 ·have hb1 := hb
  refine Run.seq ?_
  refine Run.region rfl fun K hK => GOps.sim ?_
  refine GOps.call rfl rfl rfl rfl (by kernel_rfl) (ACalls.sim ?_)
  refine (insSort_ok p g n c _ hc hn hl).mono fun v u hv => ?_
  obtain ⟨rfl, rfl⟩ := hv
  refine ⟨_, _, rfl, GOps.sim ?_⟩
  refine GOps.done (hK _ ?_); clear hK K
  refine End.kp [] ?_
  refine Run.ret (hQ _ _ ⟨.inr rfl, _, rfl, _, rfl, ?_⟩)
  exact ⟨rfl, rfl⟩
 ·have hb1 := hb
  simp at hb
theorem sortV_ok (p g n : Nat) (c : List Int) (up : Frs) (hc : fget up 0 p = some (.vec 3 g (i64s c))) (hn : n = c.length) (hl : n ≤ 12) : ACalls Try.prog 103 [.vs 0 p 0 n g] up fun v u => v = .tup [] ∧ u = fset up 0 p (.vec 3 g (i64s (sorts (n - 1) c 1))) := by
 have wn : IntKind.u64.wrap (n : Int) = (n : Int) := by simp [IntKind.wrap, IntKind.signed, IntKind.bits]; omega
 refine ACalls.code Try.func103 rfl 11 rfl (by simp) [] rfl fun Q hQ => ?_
 simp only [ups, PV.up, argEnv]
 have ft := ai ty_3 (ai ty_22 (ai ty_177 trivial))
 refine Run.seq ?_
 have fx := ai wn ft
 refine Run.go ?_
 refine End.kp [0, 2] ?_
 refine Run.region rfl fun K hK => GOps.sim ?_
 refine GOps.call rfl rfl rfl rfl (by kernel_rfl) (ACalls.sim ?_)
 refine (lenU_ok n hl _).mono fun v u hv => ?_
 obtain ⟨k, rfl, rfl⟩ := hv
 refine ⟨_, _, rfl, GOps.sim ?_⟩
 refine GOps.call rfl rfl rfl rfl (by kernel_rfl) (ACalls.sim ?_)
 refine (pdq_ok p g n k c _ hc hn hl).mono fun v u hv => ?_
 obtain ⟨rfl, rfl⟩ := hv
 refine ⟨_, _, rfl, GOps.sim ?_⟩
 refine GOps.done (hK _ ?_); clear hK K
 refine End.all (hQ _ _ ⟨.inl rfl, _, rfl, _, rfl, ?_⟩)
 exact ⟨rfl, rfl⟩

end Go.Proofs.YtkjfdacjjogpcaaPi
