/- Part 3 of the proof: the texts WSE, WSM, WSO, WSI, one behind the other. Each holds for every input that it names; no condition is hidden. -/
import Derived.Test.YtdgpmopcmacicaaM2
import Derived.Test.YtdgpmopcmacicaaPiVecR
import Derived.Test.YtdgpmopcmacicaaPiRes
import Derived.Test.YtdgpmopcmacicaaPiSim
/- The walk of spread. -/
set_option linter.unusedVariables false
set_option linter.unusedSimpArgs false
set_option maxRecDepth 100000
namespace Go.Proofs.YtdgpmopcmacicaaPi
set_option maxHeartbeats 40000000
theorem unders_ims (L : Nat) : ∀ (m : List Im), unders L (m.map PV.im) = true
  | [] => rfl
  | x :: m => by simp only [List.map_cons, unders, PV.under, unders_ims L m, Bool.and_self]
theorem unders_append (L : Nat) : ∀ (a b : List PV), unders L (a ++ b) = (unders L a && unders L b)
  | [], b => by simp [unders]
  | x :: a, b => by simp [unders, unders_append L a b, Bool.and_assoc]
theorem is_neg (S : Sol) {x : Int} (h : x ≠ 0) : S.is (-x) = -(S.is x) := by
  unfold Sol.is
  rw [Int.natAbs_neg]
  split <;> split <;> omega
def headS (S : Sol) : Sol := { S with head := S.head + 1 }
theorem headU_kept {up : Frs} {d : Nat} {S : Sol} {V : Ver} (h : SAt up d S V) : Kept up (fset up d 5 (sbox (headS S) V)) d S V (headS S) V := by
  have o : ∀ j, j ≠ 5 → fget (fset up d 5 (sbox (headS S) V)) d j = fget up d j := fun j h1 => by rw [fget_fset, if_neg (fun e => h1 e.2)]
  exact ⟨⟨by rw [fget_fset, if_pos ⟨rfl, rfl⟩, h.box]; rfl, (o 1 (by omega)).trans h.wch, (o 2 (by omega)).trans h.val, (o 3 (by omega)).trans h.lev, (o 4 (by omega)).trans h.why, (o 7 (by omega)).trans h.clo, (o 8 (by omega)).trans h.trl, (o 9 (by omega)).trans h.sts, fun j hj => (o _ (by omega)).trans (h.wli j hj), fun j hj => (o _ (by omega)).trans (h.cli j hj)⟩,
    (Else.refl _ _ _ _).fset (by unfold SPl; omega) _, rfl, rfl, rfl, rfl, fun m hm hs => hs.fset (by omega) _⟩
/-- The rounds over a watch list. -/
structure InnI (list : List Nat) (l : Int) (gA : Nat) (S1 : Sol) (V : Ver) (u1 : Frs) (B i : Nat) (S : Sol) (kept : List Nat) (W : Ver) (u : Frs) : Prop where
  eq : Sol.inner l list S1 [] = Sol.inner l (list.drop i) S kept
  sw : ∃ B', SW S B' ∧ B' + kept.length = B + i
  kp : Kept u1 u 0 S1 V S W
  lst : S.wl.getD (atL l) [] = list
  ver : W.wv (atL l) = gA
  fal : S.is l = -1
  kl : ∀ k ∈ kept, k < S.cl.length
  hdd : S.head = S1.head
theorem app_one (l : List Nat) (k : Nat) : n64s l ++ [.im (.int .i64 (k : Int))] = n64s (l ++ [k]) := by simp
theorem n64s_all (l : List Nat) : (n64s l).all onePV = true := by simp [onePV]
theorem n64s_down (l : List Nat) (d : Nat) : downsN d (n64s l) = some (n64s l) := by
  induction l with
  | nil => rfl
  | cons x xs ih =>
    show downsN d (PV.im (Im.int .i64 (x : Int)) :: n64s xs) = _
    simp only [downsN, downN_im, ih]
    rfl
theorem n64s_part (l : List Nat) (i n : Nat) (d : Nat) (h : n = l.length - i) : (((n64s l).drop i).take n).map (PV.upN d) = n64s (l.drop i) := by
  rw [List.take_of_length_le (by simp; omega)]
  simp only [n64s, List.map_drop, List.map_map]
  refine congrArg (List.drop i) (List.map_congr_left fun x _ => ?_)
  simp [upN_im]
theorem InnI.next {list : List Nat} {l : Int} {gA : Nat} {S1 : Sol} {V : Ver} {u1 : Frs} {B i k : Nat} {S S' : Sol} {kept kept' : List Nat} {W W' : Ver} {w w' : Frs} (h : InnI list l gA S1 V u1 B i S kept W w) (hd : list.drop i = k :: list.drop (i + 1)) (hv : Sol.visit l S kept k = (S', kept', false))
    (hk : Kept w w' 0 S W S' W') {B' : Nat} (hs : SW S' B') (hB : B' + kept'.length = B + (i + 1)) (hl : S'.wl.getD (atL l) [] = list) (hg : W'.wv (atL l) = gA) (hf : S'.is l = -1) (hkk : ∀ x ∈ kept', x < S'.cl.length) (hh : S'.head = S.head := by rfl) : InnI list l gA S1 V u1 B (i + 1) S' kept' W' w' :=
  ⟨by rw [h.eq, hd, inner_ok hv], ⟨B', hs, hB⟩, h.kp.trans hk, hl, hg, hf, hkk, hh.trans h.hdd⟩
theorem putC_putC (S : Sol) (k : Nat) (c c' : List Int) : (S.putC k c).putC k c' = S.putC k c' := by simp [Sol.putC, List.set_set]
theorem swapAt_one (c : List Int) (j : Nat) (h2 : 2 ≤ j) (hj : j < c.length) : (Sol.swapAt c 1 j).getD 1 0 = c.getD j 0 := by
  unfold Sol.swapAt
  rw [getD_set _ _ _ _ _ (by simp; exact hj), if_neg (by omega), getD_set _ _ _ _ _ (by omega), if_pos rfl]
theorem push_other {wl : List (List Nat)} {i k j : Nat} (h : j ≠ i) : (Sol.push wl i k).getD j [] = wl.getD j [] := by
  simp only [Sol.push, List.getD_eq_getElem?_getD]
  rw [List.getElem?_set_ne (fun e => h e.symm)]
theorem sSpread_ok (S0 : Sol) (V0 : Ver) (B : Nat) (up : Frs) (hA0 : SAt up 0 S0 V0) (hS0 : SW S0 B) (hB : B ≤ 3000000) (hK : S0.cl.length ≤ V0.K) (f : Nat) (hf : S0.n + 1 ≤ f + S0.head) : ACalls Try.prog 141 [.ptr 0 5 0] up fun v u => ∃ V',
    v = .i (match (Sol.spread f S0).2 with | none => -1 | some k => (k : Int)) ∧ Kept up u 0 S0 V0 (Sol.spread f S0).1 V' ∧ SW (Sol.spread f S0).1 B := by
  refine ACalls.code Try.func141 rfl 177 rfl (by simp) [.tmp 2] rfl fun Q hQ => ?_
  simp only [ups, PV.up, argEnv]
  have ft := And.intro ty_3 (And.intro ty_4 (And.intro ty_5 (And.intro ty_7 (And.intro ty_22 (And.intro ty_81 (And.intro ty_216 (And.intro ty_219 (And.intro ty_221 trivial))))))))
  refine Run.seq ?_
  have fx := ft
  refine Run.go ?_
  refine End.kp [0] ?_
  refine Run.seq ?_
  refine Run.block ?_
  refine Run.loop (fun m st => ∃ (f' : Nat) (S : Sol) (V : Ver) (u : Frs), m = f' ∧ S0.n + 1 ≤ f' + S.head ∧ Sol.spread f' S = Sol.spread f S0 ∧ SW S B ∧ Kept up u 0 S0 V0 S V ∧ st = ⟨[(0, .ptr 1 5 0)], [], u⟩) f ⟨f, S0, V0, up, rfl, hf, rfl, hS0, Kept.refl hA0, rfl⟩ fun m st hI => ?_
  
  obtain ⟨m, S, V, u, rfl, hf', heq, hS, hK0, rfl⟩ := hI
  have hA := hK0.at'
  have hbx := hA.box
  have htr := hA.trl
  have hn := hS.len.n
  have htn := hS.len.trn
  have hhd := hS.hd
  refine Run.seq ?_
  refine Run.seq ?_
  have fx := And.intro htr (And.intro hbx ft)
  refine Run.drawA fun K hK => ?_
  refine DOps.sim ?_
  refine DOps.nil (metAll_quiet rfl) (hK _ ?_); clear hK K
  refine End.kp [0, 19] ?_
  refine Run.cond _ rfl (fun hb => ?_) (fun hb => ?_)
  · have hb2 := of_decide_eq_true hb
    have hin : S.head < S.tr.length := by omega
    have wi := nsucc hin (by omega)
    have hgt : (i64s S.tr ++ i64s V.tx)[S.head]? = some (.im (.int .i64 (S.tr.getD S.head 0))) := by rw [List.getElem?_append_left (by simp; omega)]; exact i64s_get _ _ hin
    have hlx := hS.len.tr _ (getD_mem (d := 0) hin)
    have hix := hS.asg _ (getD_mem (d := 0) hin)
    have hix2 := is_neg S hlx.1
    obtain ⟨l, hl⟩ : ∃ l, l = -(S.tr.getD S.head 0) := ⟨_, rfl⟩
    have hll : LitOk S.n l := by rw [hl]; exact ⟨by have := hlx.1; omega, by have := hlx.2; omega⟩
    have wl : IntKind.i64.wrap (0 - S.tr.getD S.head 0) = l := by
      have := hlx.2
      rw [wrap64 (by omega), hl]
      omega
    have hgi : (S.head : Int) < (S.tr.length : Int) := hb2
    have hat := at_ok S.n l hll hn
    have hal := atL_lt hll
    have hfs : Sol.spread m S = (match Sol.inner l (S.wl.getD (atL l) []) (headS S) [] with
        | (S', some k) => (S', some k)
        | (S', none) => Sol.spread (m - 1) S') := by
      obtain ⟨f2, rfl⟩ : ∃ f2, m = f2 + 1 := ⟨m - 1, by have := hK0.n; omega⟩
      rw [Sol.spread, if_pos hin, ← hl]
      rfl
    have hk1 := headU_kept hA
    have hS1 : SW (headS S) B := ⟨⟨hS.len.n, hS.len.val, hS.len.lev, hS.len.why, hS.len.wl, hS.len.tri, hS.len.tr, hS.len.trn, hS.len.stn⟩, hS.cls, hS.csz, hS.wls, hS.asg, hS.nd, hS.tot, by simp only [headS]; omega⟩
    have hwg := wcells_get S V (atL l) hal
    have hlist := hS.list hal
    obtain ⟨list, hlst⟩ : ∃ list, list = S.wl.getD (atL l) [] := ⟨_, rfl⟩
    obtain ⟨gA, hgA⟩ : ∃ gA, gA = V.wv (atL l) := ⟨_, rfl⟩
    rw [← hlst] at hlist hfs hwg
    rw [← hgA] at hwg
    have hai : ((atL l : Nat) : Int) < ((2 * S.n + 2 : Nat) : Int) := by omega
    refine Run.skip ?_
    refine End.kp [0] ?_
    refine Run.block ?_
    refine Run.seq ?_
    have fx := And.intro (@Nat.zero_add) (And.intro (@Int.toNat_natCast) (And.intro (@Int.natCast_nonneg) (And.intro hai (And.intro hwg (And.intro hgi (And.intro wl (And.intro hgt (And.intro wi (And.intro htr (And.intro hbx ft))))))))))
    refine Run.drawA fun K hK => ?_
    refine DOps.sim ?_
    refine DOps.nil (metAll_quiet rfl) (hK _ ?_); clear hK K
    refine End.kp [0, 3] ?_
    refine Run.seq ?_
    refine Run.go ?_
    have hk1b : fset u 0 5 (.box [.vs 0 7 0 S.cl.length V.c, .vs 0 1 0 (2 * S.n + 2) 0, .vs 0 2 0 (S.n + 1) 0, .vs 0 3 0 (S.n + 1) 0, .vs 0 4 0 (S.n + 1) 0, .vs 0 8 0 S.tr.length V.t, .vs 0 9 0 S.st.length V.s, .i (S.head + 1 : Nat), .i S.next]) = fset u 0 5 (sbox (headS S) V) := rfl
    rw [hk1b]
    generalize fset u 0 5 (sbox (headS S) V) = u1 at hk1
    have hA1 := hk1.at'
    have h1bx : fget u1 0 5 = some (.box [.vs 0 7 0 S.cl.length V.c, .vs 0 1 0 (2 * S.n + 2) 0, .vs 0 2 0 (S.n + 1) 0, .vs 0 3 0 (S.n + 1) 0, .vs 0 4 0 (S.n + 1) 0, .vs 0 8 0 S.tr.length V.t, .vs 0 9 0 S.st.length V.s, .i (S.head + 1 : Nat), .i S.next]) := hA1.box
    have h1wc : fget u1 0 1 = some (.vec 22 0 (wcells S V)) := hA1.wch
    refine End.kp [0, 3] ?_
    refine Run.seq ?_
    have hz0 := h1bx
    have fx := And.intro h1wc (And.intro h1bx (And.intro (@Nat.zero_add) (And.intro (@Int.toNat_natCast) (And.intro (@Int.natCast_nonneg) (And.intro hai (And.intro hwg (And.intro hgi (And.intro wl (And.intro hgt (And.intro wi (And.intro htr (And.intro hbx ft))))))))))))
    refine Run.drawA fun K hK => ?_
    refine DOps.sim ?_
    refine DOps.call (.i (atL l : Nat)) [] [] rfl rfl rfl rfl (by kernel_rfl) (by simp [Agree]) (fun u hu => hat u) ?_
    refine DOps.sim ?_
    refine DOps.nil (metAll_quiet rfl) (hK _ ?_); clear hK K
    refine End.kp [0, 3, 4] ?_
    refine Run.seq ?_
    refine Run.go ?_
    refine End.kp [0, 3, 4, 5] ?_
    refine Run.seq ?_
    refine Run.seq ?_
    refine Run.go ?_
    refine End.kp [0, 3, 4, 5, 46, 47, 48] ?_
    refine Run.block ?_
    refine Run.ghost (Ghost.vthaw (u := 5) 3 0 rfl) ?_
    refine Run.ghost (Ghost.form [(0, .ptr 1 5 0), (3, .i l), (4, .vs 1 (atL l + 11) 0 list.length gA), (5, .vs 0 0 0 0 0), (46, .vs 1 (atL l + 11) 0 list.length gA), (47, .i list.length), (48, .i (0 : Nat))] 1 ⟨rfl, rfl, rfl, rfl, rfl, rfl, rfl, trivial⟩ rfl (by simp only [ASt.push, List.nil_append, List.cons_append, List.take_succ_cons, List.take_zero, List.all_cons, List.all_nil, AObj.under, unders_append, unders_ims, unders, PV.under, Bool.and_true, Bool.and_self])) ?_
    refine Run.loop (fun m st => ∃ (i : Nat) (Si : Sol) (kept : List Nat) (W : Ver) (w : Frs) (g : Nat), m = list.length - i ∧ i ≤ list.length ∧ InnI list l gA (headS S) V u1 B i Si kept W w ∧ st = ⟨[(0, .ptr 1 5 0), (3, .i l), (4, .vs 1 (atL l + 11) 0 list.length gA), (5, .vs 0 0 0 kept.length g), (46, .vs 1 (atL l + 11) 0 list.length gA), (47, .i list.length), (48, .i (i : Nat))], [.vec 3 g (n64s kept)], w⟩) list.length
      ⟨0, headS S, [], V, u1, 0, rfl, by omega, ⟨rfl, ⟨B, hS1, rfl⟩, Kept.refl hA1, hlst.symm, hgA.symm, by show S.is l = -1; rw [hl, hix2, hix], fun k hk => by simp at hk, rfl⟩, rfl⟩ fun m st hI => ?_
    obtain ⟨i, Si, kept, W, w, g, rfl, hi, hI, rfl⟩ := hI
    obtain ⟨B', hSi, hBi⟩ := hI.sw
    have hAi := hI.kp.at'
    have hni : Si.n = S.n := hI.kp.n
    have ibx := hAi.box
    have iwc := hAi.wch
    have ico := hAi.clo
    have ili := hAi.wli (atL l) (by rw [hni]; exact hal)
    rw [hI.lst, hI.ver] at ili
    refine Run.seq ?_
    have fx := And.intro ili (And.intro h1wc (And.intro h1bx (And.intro (@Nat.zero_add) (And.intro (@Int.toNat_natCast) (And.intro (@Int.natCast_nonneg) (And.intro hai (And.intro hwg (And.intro hgi (And.intro wl (And.intro hgt (And.intro wi (And.intro htr (And.intro hbx ft)))))))))))))
    refine Run.go ?_
    refine End.kp [0, 3, 4, 5, 46, 47, 48, 49] ?_
    refine Run.seq ?_
    refine Run.cond _ rfl (fun hb => ?_) (fun hb => ?_)
    · have hb3 := of_decide_eq_true hb
      have hil : i < list.length := by omega
      have hii : (i : Int) < (list.length : Int) := hb3
      have wii := nsucc hil (by omega)
      have hgk := n64s_get list i hil
      have hkc := hlist.2 _ (getD_mem (d := 0) hil)
      have hdr := drop_gtD 0 hil
      have hcl : Si.cl.length = S.cl.length := hI.kp.cl
      generalize list.getD i 0 = k at hgk hkc hdr
      have hki : k < Si.cl.length := by omega
      have hcg := ccells_get Si k hki
      have hcl1 := hSi.cl hki
      have hcv := hAi.cli k hki
      generalize hc0 : Si.cl.getD k [] = c0 at hcg hcl1 hcv
      obtain ⟨q1, q2, q3⟩ := hcl1
      have hki2 : (k : Int) < (Si.cl.length : Int) := by omega
      have g0 := i64s_get c0 0 (by omega)
      have g1 := i64s_get c0 1 (by omega)
      have p0 : (0 : Int) < (c0.length : Int) := by omega
      have p1 : (1 : Int) < (c0.length : Int) := by omega
      have lc0 : (i64s c0).length = c0.length := by simp
      have n0 : 0 < c0.length := by omega
      have n1 : 1 < c0.length := by omega
      refine Run.skip ?_
      refine End.kp [0, 3, 4, 5, 46, 47, 48] ?_
      refine Run.seq ?_
      refine Run.block ?_
      refine Run.seq ?_
      have fx := And.intro (@fget_fset) (And.intro (@List.length_set.{0}) (And.intro n1 (And.intro n0 (And.intro lc0 (And.intro p1 (And.intro p0 (And.intro g1 (And.intro g0 (And.intro hki2 (And.intro hcv (And.intro hcg (And.intro ico (And.intro ibx (And.intro wii (And.intro hii (And.intro hgk (And.intro ili (And.intro h1wc (And.intro h1bx (And.intro (@Nat.zero_add) (And.intro (@Int.toNat_natCast) (And.intro (@Int.natCast_nonneg) (And.intro hai (And.intro hwg (And.intro hgi (And.intro wl (And.intro hgt (And.intro wi (And.intro htr (And.intro hbx ft))))))))))))))))))))))))))))))
      refine Run.go ?_
      refine End.kp [0, 3, 4, 5, 6, 7, 46, 47, 48] ?_
      refine Run.seq ?_
      refine Run.go ?_
      refine End.kp [0, 3, 4, 5, 6, 7, 8, 46, 47, 48] ?_
      refine Run.seq ?_
      refine Run.seq ?_
      refine Run.go ?_
      refine End.kp [0, 3, 4, 5, 6, 7, 8, 46, 47, 48, 64] ?_
      refine Run.cond _ rfl (fun hb => ?_) (fun hb => ?_)
      · have hb4 : c0.getD 0 0 = l := by simpa using hb
        obtain ⟨c1, hc1⟩ : ∃ c1, c1 = Sol.turn l c0 := ⟨_, rfl⟩
        have hsc := swap_cells c0 0 1
        rw [show Sol.swapAt c0 0 1 = c1 by rw [hc1]; exact (if_pos hb4).symm] at hsc
        have fx := And.intro (@fget_fset) (And.intro (@List.length_set.{0}) (And.intro n1 (And.intro n0 (And.intro lc0 (And.intro p1 (And.intro p0 (And.intro g1 (And.intro g0 (And.intro hki2 (And.intro hcv (And.intro hcg (And.intro ico (And.intro ibx (And.intro wii (And.intro hii (And.intro hgk (And.intro ili (And.intro h1wc (And.intro h1bx (And.intro (@Nat.zero_add) (And.intro (@Int.toNat_natCast) (And.intro (@Int.natCast_nonneg) (And.intro hai (And.intro hwg (And.intro hgi (And.intro wl (And.intro hgt (And.intro wi (And.intro htr (And.intro hbx ft))))))))))))))))))))))))))))))
        refine Run.drawA fun K hK => ?_
        refine DOps.sim ?_
        refine DOps.nil ?_ (hK _ ?_)
        · rfl
        clear hK K
        rw [hsc]
        
        have hq0 : c1.length = c0.length := by rw [hc1]; exact turn_len l c0
        have hqm : ∀ y ∈ c1, LitOk Si.n y := fun y hy => q3 y (turn_mem q1 y (by rw [← hc1]; exact hy))
        have hKi : Si.cl.length ≤ W.K := by have := hI.kp.K; have := hk1.K; have := hK0.K; have := hK0.cl; omega
        have hk2 := putC_kept hAi (c := c1) hki hKi (by rw [hq0, hc0])
        have hsw2 : SW (Si.putC k c1) B' := hSi.putC ⟨by omega, by omega, hqm⟩
        have jbx : fget (fset w 0 (k + (2 * Si.n + 2) + 11) (.vec 3 0 (i64s c1))) 0 5 = some (.box [.vs 0 7 0 Si.cl.length W.c, .vs 0 1 0 (2 * Si.n + 2) 0, .vs 0 2 0 (Si.n + 1) 0, .vs 0 3 0 (Si.n + 1) 0, .vs 0 4 0 (Si.n + 1) 0, .vs 0 8 0 Si.tr.length W.t, .vs 0 9 0 Si.st.length W.s, .i Si.head, .i Si.next]) := by rw [fget_fset, if_neg (by omega)]; exact hAi.box
        have jwc : fget (fset w 0 (k + (2 * Si.n + 2) + 11) (.vec 3 0 (i64s c1))) 0 1 = some (.vec 22 0 (wcells Si W)) := by rw [fget_fset, if_neg (by omega)]; exact hAi.wch
        have jli : fget (fset w 0 (k + (2 * Si.n + 2) + 11) (.vec 3 0 (i64s c1))) 0 (atL l + 11) = some (.vec 3 gA (n64s list)) := by rw [fget_fset, if_neg (by omega)]; exact ili
        have jcv : fget (fset w 0 (k + (2 * Si.n + 2) + 11) (.vec 3 0 (i64s c1))) 0 (k + (2 * Si.n + 2) + 11) = some (.vec 3 0 (i64s c1)) := by rw [fget_fset, if_pos ⟨rfl, rfl⟩, hcv]; rfl
        
        generalize fset w 0 (k + (2 * Si.n + 2) + 11) (.vec 3 0 (i64s c1)) = w2 at hk2 jbx jwc jli jcv
        
        have hA2 := hk2.at'
        have hy0 : LitOk Si.n (c1.getD 0 0) := hqm _ (getD_mem (by omega))
        have f0 := i64s_get c1 0 (by omega)
        have r0 : (0 : Int) < (c0.length : Int) := p0
        refine End.kp [0, 3, 4, 5, 6, 7, 8, 46, 47, 48] ?_
        refine Run.seq ?_
        refine Run.seq ?_
        have fx := And.intro r0 (And.intro f0 (And.intro jcv (And.intro jwc (And.intro jbx (And.intro (@fget_fset) (And.intro (@List.length_set.{0}) (And.intro n1 (And.intro n0 (And.intro lc0 (And.intro p1 (And.intro p0 (And.intro g1 (And.intro g0 (And.intro hki2 (And.intro hcv (And.intro hcg (And.intro ico (And.intro ibx (And.intro wii (And.intro hii (And.intro hgk (And.intro ili (And.intro h1wc (And.intro h1bx (And.intro (@Nat.zero_add) (And.intro (@Int.toNat_natCast) (And.intro (@Int.natCast_nonneg) (And.intro hai (And.intro hwg (And.intro hgi (And.intro wl (And.intro hgt (And.intro wi (And.intro htr (And.intro hbx ft)))))))))))))))))))))))))))))))))))
        refine Run.region rfl fun K hK => GOps.sim ?_
        refine GOps.call rfl rfl rfl rfl (by kernel_rfl) (ACalls.sim ?_)
        refine (is_ok (Si.putC k c1) W 1 _ (hA2.cons _) hsw2.len (c1.getD 0 0) hy0).mono fun v u hv => ?_
        obtain ⟨rfl, rfl⟩ := hv
        refine ⟨_, _, rfl, GOps.sim ?_⟩
        refine GOps.done (hK _ ?_); clear hK K
        refine End.kp [0, 3, 4, 5, 6, 7, 8, 46, 47, 48, 80] ?_
        refine Run.cond _ rfl (fun hb => ?_) (fun hb => ?_)
        · have hb5 : Si.is (c1.getD 0 0) = 1 := eq_of_beq (show (Si.is (c1.getD 0 0) == 1) = true from hb)
          have hap : (kept.length + 1) * 8 ≤ 140737488355328 := by omega
          have htk : (n64s kept).take kept.length = n64s kept := List.take_of_length_le (by simp)
          refine Run.seq ?_
          have fx := And.intro htk (And.intro hap (And.intro r0 (And.intro f0 (And.intro jcv (And.intro jwc (And.intro jbx (And.intro (@fget_fset) (And.intro (@List.length_set.{0}) (And.intro n1 (And.intro n0 (And.intro lc0 (And.intro p1 (And.intro p0 (And.intro g1 (And.intro g0 (And.intro hki2 (And.intro hcv (And.intro hcg (And.intro ico (And.intro ibx (And.intro wii (And.intro hii (And.intro hgk (And.intro ili (And.intro h1wc (And.intro h1bx (And.intro (@Nat.zero_add) (And.intro (@Int.toNat_natCast) (And.intro (@Int.natCast_nonneg) (And.intro hai (And.intro hwg (And.intro hgi (And.intro wl (And.intro hgt (And.intro wi (And.intro htr (And.intro hbx ft)))))))))))))))))))))))))))))))))))))
          refine Run.go ?_
          refine End.kp [0, 3, 4, 5, 46, 47, 48] ?_
          refine Run.exit rfl ?_
          refine End.kp [0, 3, 4, 5, 46, 47, 48] ?_
          refine Run.go ?_
          refine End.lp ?_
          have hv : Sol.visit l Si kept k = (Si.putC k c1, kept ++ [k], false) := by simp only [Sol.visit, hc0, ← hc1, if_pos hb5]
          refine ⟨list.length - (i + 1), _, by omega, Ghost.form [(0, .ptr 1 5 0), (3, .i l), (4, .vs 1 (atL l + 11) 0 list.length gA), (5, .vs 0 0 0 (kept.length + 1) (g + 1)), (46, .vs 1 (atL l + 11) 0 list.length gA), (47, .i list.length), (48, .i (i + 1 : Nat))] 1 ⟨rfl, rfl, rfl, rfl, rfl, rfl, rfl, trivial⟩ rfl (by simp only [ASt.push, List.nil_append, List.cons_append, List.take_succ_cons, List.take_zero, List.all_cons, List.all_nil, AObj.under, unders_append, unders_ims, unders, PV.under, Bool.and_true, Bool.and_self]), i + 1, Si.putC k c1, kept ++ [k], W, w2, g + 1, rfl, by omega, hI.next hdr hv hk2 hsw2 (by rw [List.length_append]; simp only [List.length_cons, List.length_nil]; omega) hI.lst hI.ver hI.fal (fun y hy => ?_), ?_⟩
          · rw [show (Si.putC k c1).cl.length = Si.cl.length by simp [Sol.putC]]
            rcases List.mem_append.1 hy with h | h
            · exact hI.kl y h
            · rw [List.mem_singleton.1 h]; exact hki
          · rw [← app_one, List.length_append]
            rfl
        · have hb5 : ¬ (Si.is (c1.getD 0 0) = 1) := ne_of_beq_false (show (Si.is (c1.getD 0 0) == 1) = false from hb)
          refine Run.skip ?_
          refine End.kp [0, 3, 4, 5, 6, 7, 8, 46, 47, 48] ?_
          refine Run.seq ?_
          have fx := And.intro r0 (And.intro f0 (And.intro jcv (And.intro jwc (And.intro jbx (And.intro (@fget_fset) (And.intro (@List.length_set.{0}) (And.intro n1 (And.intro n0 (And.intro lc0 (And.intro p1 (And.intro p0 (And.intro g1 (And.intro g0 (And.intro hki2 (And.intro hcv (And.intro hcg (And.intro ico (And.intro ibx (And.intro wii (And.intro hii (And.intro hgk (And.intro ili (And.intro h1wc (And.intro h1bx (And.intro (@Nat.zero_add) (And.intro (@Int.toNat_natCast) (And.intro (@Int.natCast_nonneg) (And.intro hai (And.intro hwg (And.intro hgi (And.intro wl (And.intro hgt (And.intro wi (And.intro htr (And.intro hbx ft)))))))))))))))))))))))))))))))))))
          refine Run.go ?_
          refine End.kp [0, 3, 4, 5, 6, 7, 8, 9, 46, 47, 48] ?_
          refine Run.seq ?_
          refine Run.block ?_
          refine Run.ghost (Ghost.form [(0, .ptr 1 5 0), (3, .i l), (4, .vs 1 (atL l + 11) 0 list.length gA), (5, .vs 0 0 0 kept.length g), (6, .i i), (7, .i k), (8, .vs 1 (k + (2 * Si.n + 2) + 11) 0 c0.length 0), (9, .i 2), (46, .vs 1 (atL l + 11) 0 list.length gA), (47, .i list.length), (48, .i i)] 1 ⟨rfl, rfl, rfl, rfl, rfl, rfl, rfl, rfl, rfl, rfl, rfl, trivial⟩ rfl (by simp only [ASt.push, List.nil_append, List.cons_append, List.take_succ_cons, List.take_zero, List.all_cons, List.all_nil, AObj.under, unders_append, unders_ims, unders, PV.under, Bool.and_true, Bool.and_self])) ?_
          refine Run.loop (fun m st => ∃ j : Nat, m = c0.length - j ∧ 2 ≤ j ∧ j ≤ c0.length ∧ Si.scan c1 2 = Si.scan c1 j ∧ st = ⟨[(0, .ptr 1 5 0), (3, .i l), (4, .vs 1 (atL l + 11) 0 list.length gA), (5, .vs 0 0 0 kept.length g), (6, .i i), (7, .i k), (8, .vs 1 (k + (2 * Si.n + 2) + 11) 0 c0.length 0), (9, .i (j : Nat)), (46, .vs 1 (atL l + 11) 0 list.length gA), (47, .i list.length), (48, .i i)], [.vec 3 g (n64s kept)], w2⟩) (c0.length - 2) ⟨2, rfl, by omega, by omega, rfl, rfl⟩ fun m st hJ => ?_
          obtain ⟨j, rfl, hj2, hjc, hsn, rfl⟩ := hJ
          refine Run.seq ?_
          refine Run.seq ?_
          rcases Bool.eq_false_or_eq_true (decide (j < c0.length)) with hs15 | hs15
          · skip
            have hjl := of_decide_eq_true hs15
            have dj : decide ((j : Int) < (c0.length : Int)) = true := decide_eq_true (by omega)
            have djp : (j : Int) < (c0.length : Int) := by omega
            have fj := i64s_get c1 j (by omega)
            have hyj : LitOk Si.n (c1.getD j 0) := hqm _ (getD_mem (by omega))
            have wj := nsucc hjl (by omega)
            have hs15 := hs15
            have fx := And.intro wj (And.intro fj (And.intro djp (And.intro dj (And.intro hs15 (And.intro r0 (And.intro f0 (And.intro jcv (And.intro jwc (And.intro jbx (And.intro (@fget_fset) (And.intro (@List.length_set.{0}) (And.intro n1 (And.intro n0 (And.intro lc0 (And.intro p1 (And.intro p0 (And.intro g1 (And.intro g0 (And.intro hki2 (And.intro hcv (And.intro hcg (And.intro ico (And.intro ibx (And.intro wii (And.intro hii (And.intro hgk (And.intro ili (And.intro h1wc (And.intro h1bx (And.intro (@Nat.zero_add) (And.intro (@Int.toNat_natCast) (And.intro (@Int.natCast_nonneg) (And.intro hai (And.intro hwg (And.intro hgi (And.intro wl (And.intro hgt (And.intro wi (And.intro htr (And.intro hbx ft))))))))))))))))))))))))))))))))))))))))
            refine Run.region rfl fun K hK => GOps.sim ?_
            refine GOps.call rfl rfl rfl rfl (by kernel_rfl) (ACalls.sim ?_)
            refine (is_ok (Si.putC k c1) W 1 _ (hA2.cons _) hsw2.len (c1.getD j 0) hyj).mono fun v u hv => ?_
            obtain ⟨rfl, rfl⟩ := hv
            refine ⟨_, _, rfl, GOps.sim ?_⟩
            refine GOps.done (hK _ ?_); clear hK K
            refine End.kp [0, 3, 4, 5, 6, 7, 8, 9, 46, 47, 48, 97] ?_
            refine Run.cond _ rfl (fun hb => ?_) (fun hb => ?_)
            · have hb6 : Si.is (c1.getD j 0) = -1 := eq_of_beq (show (Si.is (c1.getD j 0) == -1) = true from hb)
              refine Run.skip ?_
              refine End.kp [0, 3, 4, 5, 6, 7, 8, 9, 46, 47, 48] ?_
              refine Run.block ?_
              have fx := And.intro wj (And.intro fj (And.intro djp (And.intro dj (And.intro hs15 (And.intro r0 (And.intro f0 (And.intro jcv (And.intro jwc (And.intro jbx (And.intro (@fget_fset) (And.intro (@List.length_set.{0}) (And.intro n1 (And.intro n0 (And.intro lc0 (And.intro p1 (And.intro p0 (And.intro g1 (And.intro g0 (And.intro hki2 (And.intro hcv (And.intro hcg (And.intro ico (And.intro ibx (And.intro wii (And.intro hii (And.intro hgk (And.intro ili (And.intro h1wc (And.intro h1bx (And.intro (@Nat.zero_add) (And.intro (@Int.toNat_natCast) (And.intro (@Int.natCast_nonneg) (And.intro hai (And.intro hwg (And.intro hgi (And.intro wl (And.intro hgt (And.intro wi (And.intro htr (And.intro hbx ft))))))))))))))))))))))))))))))))))))))))
              refine Run.go ?_
              refine End.blk ?_
              refine End.lp ?_
              refine ⟨c0.length - (j + 1), _, by omega, Ghost.form [(0, .ptr 1 5 0), (3, .i l), (4, .vs 1 (atL l + 11) 0 list.length gA), (5, .vs 0 0 0 kept.length g), (6, .i i), (7, .i k), (8, .vs 1 (k + (2 * Si.n + 2) + 11) 0 c0.length 0), (9, .i (j + 1 : Nat)), (46, .vs 1 (atL l + 11) 0 list.length gA), (47, .i list.length), (48, .i i)] 1 ⟨rfl, rfl, rfl, rfl, rfl, rfl, rfl, rfl, rfl, rfl, rfl, trivial⟩ rfl (by simp only [ASt.push, List.nil_append, List.cons_append, List.take_succ_cons, List.take_zero, List.all_cons, List.all_nil, AObj.under, unders_append, unders_ims, unders, PV.under, Bool.and_true, Bool.and_self]), j + 1, rfl, by omega, by omega, by rw [hsn, scan_more (by omega) hb6], rfl⟩
            · have hb6 : ¬ (Si.is (c1.getD j 0) = -1) := ne_of_beq_false (show (Si.is (c1.getD j 0) == -1) = false from hb)
              have hst : Si.scan c1 2 = j := by rw [hsn]; exact scan_stop (fun h => hb6 h.2)
              refine Run.exit rfl ?_
              refine End.kp [0, 3, 4, 5, 6, 7, 8, 9, 46, 47, 48] ?_
              refine Run.seq ?_
              refine Run.seq ?_
              have fx := And.intro wj (And.intro fj (And.intro djp (And.intro dj (And.intro hs15 (And.intro r0 (And.intro f0 (And.intro jcv (And.intro jwc (And.intro jbx (And.intro (@fget_fset) (And.intro (@List.length_set.{0}) (And.intro n1 (And.intro n0 (And.intro lc0 (And.intro p1 (And.intro p0 (And.intro g1 (And.intro g0 (And.intro hki2 (And.intro hcv (And.intro hcg (And.intro ico (And.intro ibx (And.intro wii (And.intro hii (And.intro hgk (And.intro ili (And.intro h1wc (And.intro h1bx (And.intro (@Nat.zero_add) (And.intro (@Int.toNat_natCast) (And.intro (@Int.natCast_nonneg) (And.intro hai (And.intro hwg (And.intro hgi (And.intro wl (And.intro hgt (And.intro wi (And.intro htr (And.intro hbx ft))))))))))))))))))))))))))))))))))))))))
              refine Run.go ?_
              refine End.kp [0, 3, 4, 5, 6, 7, 8, 9, 46, 47, 48, 103] ?_
              refine Run.cond _ rfl (fun hb => ?_) (fun hb => ?_)
              · have hb7 := hb
                have f1 := i64s_get c1 1 (by omega)
                have hsw := swap_cells c1 1 j
                obtain ⟨c2, hc2⟩ : ∃ c2, c2 = Sol.swapAt c1 1 j := ⟨_, rfl⟩
                rw [← hc2] at hsw
                have hl2 : c2.length = c0.length := by rw [hc2, swapAt_len, hq0]
                have hqm2 : ∀ y ∈ c2, LitOk Si.n y := fun y hy => hqm y (swapAt_mem (c := c1) (i := 1) (j := j) (by omega) (by omega) y (by rw [← hc2]; exact hy))
                have hz1 : c2.getD 1 0 = c1.getD j 0 := by rw [hc2]; exact swapAt_one c1 j hj2 (by omega)
                have lc1 : (i64s c1).length = c0.length := by simp [hq0]
                refine Run.seq ?_
                have fx := And.intro hjl (And.intro lc1 (And.intro f1 (And.intro wj (And.intro fj (And.intro djp (And.intro dj (And.intro hs15 (And.intro r0 (And.intro f0 (And.intro jcv (And.intro jwc (And.intro jbx (And.intro (@fget_fset) (And.intro (@List.length_set.{0}) (And.intro n1 (And.intro n0 (And.intro lc0 (And.intro p1 (And.intro p0 (And.intro g1 (And.intro g0 (And.intro hki2 (And.intro hcv (And.intro hcg (And.intro ico (And.intro ibx (And.intro wii (And.intro hii (And.intro hgk (And.intro ili (And.intro h1wc (And.intro h1bx (And.intro (@Nat.zero_add) (And.intro (@Int.toNat_natCast) (And.intro (@Int.natCast_nonneg) (And.intro hai (And.intro hwg (And.intro hgi (And.intro wl (And.intro hgt (And.intro wi (And.intro htr (And.intro hbx ft)))))))))))))))))))))))))))))))))))))))))))
                refine Run.drawA fun K hK => ?_
                refine DOps.sim ?_
                refine DOps.nil ?_ (hK _ ?_)
                · rfl
                clear hK K
                rw [hsw]
                have kbx : fget (fset w2 0 (k + (2 * Si.n + 2) + 11) (.vec 3 0 (i64s c2))) 0 5 = some (.box [.vs 0 7 0 Si.cl.length W.c, .vs 0 1 0 (2 * Si.n + 2) 0, .vs 0 2 0 (Si.n + 1) 0, .vs 0 3 0 (Si.n + 1) 0, .vs 0 4 0 (Si.n + 1) 0, .vs 0 8 0 Si.tr.length W.t, .vs 0 9 0 Si.st.length W.s, .i Si.head, .i Si.next]) := by rw [fget_fset, if_neg (by omega)]; exact jbx
                have kwc : fget (fset w2 0 (k + (2 * Si.n + 2) + 11) (.vec 3 0 (i64s c2))) 0 1 = some (.vec 22 0 (wcells Si W)) := by rw [fget_fset, if_neg (by omega)]; exact jwc
                have kcv : fget (fset w2 0 (k + (2 * Si.n + 2) + 11) (.vec 3 0 (i64s c2))) 0 (k + (2 * Si.n + 2) + 11) = some (.vec 3 0 (i64s c2)) := by rw [fget_fset, if_pos ⟨rfl, rfl⟩, jcv]; rfl
                have hk3 : Kept w (fset w2 0 (k + (2 * Si.n + 2) + 11) (.vec 3 0 (i64s c2))) 0 Si W ((Si.putC k c1).putC k c2) W := hk2.trans (putC_kept hA2 (k := k) (c := c2) (by simp [Sol.putC]; exact hki) (by simp [Sol.putC]; exact hKi) (by rw [hl2, ← hq0]; simp [Sol.putC, hki]))
                have hcl9 : (Si.putC k c1).cl.length = Si.cl.length := by simp [Sol.putC]
                rw [putC_putC] at hk3
                have hsw3 : SW (Si.putC k c2) B' := hSi.putC ⟨by omega, by omega, hqm2⟩
                obtain ⟨z, hz⟩ : ∃ z, z = c2.getD 1 0 := ⟨_, rfl⟩
                have hlz : LitOk Si.n z := by rw [hz]; exact hqm2 _ (getD_mem (by omega))
                have k1 := at_ok Si.n z hlz hSi.len.n
                have a1 := atL_lt hlz
                have z1 := i64s_get c2 1 (by omega)
                rw [← hz] at z1
                have hzl : atL l ≠ atL z := fun e => by
                  have e2 := atL_inj (n := Si.n) (by rw [hni]; exact hll) hlz e
                  have h9 := hI.fal
                  rw [e2, hz, hz1] at h9
                  exact hb6 h9
                obtain ⟨A1, hA1e⟩ : ∃ A1, A1 = atL z := ⟨_, rfl⟩
                rw [← hA1e] at k1 a1 hzl
                have kwl := hk3.at'.wli A1 a1
                have cg1 := wcells_get Si W A1 a1
                have i1 : ((A1 : Nat) : Int) < ((2 * Si.n + 2 : Nat) : Int) := by omega
                have lw1 : (wcells Si W).length = 2 * Si.n + 2 := by simp
                have bl := (hSi.list a1).1
                have ap1 : ((Si.wl.getD A1 []).length + 1) * 8 ≤ 140737488355328 := by have := hBi; omega
                have tk1 : (n64s (Si.wl.getD A1 [])).take (Si.wl.getD A1 []).length = n64s (Si.wl.getD A1 []) := List.take_of_length_le (by simp)
                have kwl : fget (fset w2 0 (k + (2 * Si.n + 2) + 11) (.vec 3 0 (i64s c2))) 0 (A1 + 11) = some (.vec 3 (W.wv A1) (n64s (Si.wl.getD A1 []))) := kwl
                have hk4 := hk3.trans (grewU_kept hk3.at' (i := A1) (k := k) a1 hsw3.len.wl)
                have hsw4 := SW.push hsw3 (i := A1) (k := k) a1 (by simp [Sol.putC]; exact hki)
                generalize fset w2 0 (k + (2 * Si.n + 2) + 11) (.vec 3 0 (i64s c2)) = w3 at kbx kwc kcv kwl hk3 hk4
                refine End.kp [0, 3, 4, 5, 7, 8, 46, 47, 48] ?_
                refine Run.seq ?_
                refine Run.ghost (.spares 1) ?_
                simp only [ASt.pushN, ASt.push, List.append_assoc, List.cons_append, List.nil_append]
                have fx := And.intro a1 (And.intro lw1 (And.intro tk1 (And.intro ap1 (And.intro cg1 (And.intro i1 (And.intro z1 (And.intro kwl (And.intro kcv (And.intro kwc (And.intro kbx (And.intro hjl (And.intro lc1 (And.intro f1 (And.intro wj (And.intro fj (And.intro djp (And.intro dj (And.intro hs15 (And.intro r0 (And.intro f0 (And.intro jcv (And.intro jwc (And.intro jbx (And.intro (@fget_fset) (And.intro (@List.length_set.{0}) (And.intro n1 (And.intro n0 (And.intro lc0 (And.intro p1 (And.intro p0 (And.intro g1 (And.intro g0 (And.intro hki2 (And.intro hcv (And.intro hcg (And.intro ico (And.intro ibx (And.intro wii (And.intro hii (And.intro hgk (And.intro ili (And.intro h1wc (And.intro h1bx (And.intro (@Nat.zero_add) (And.intro (@Int.toNat_natCast) (And.intro (@Int.natCast_nonneg) (And.intro hai (And.intro hwg (And.intro hgi (And.intro wl (And.intro hgt (And.intro wi (And.intro htr (And.intro hbx ft))))))))))))))))))))))))))))))))))))))))))))))))))))))
                refine Run.drawA fun K hK => ?_
                refine DOps.sim ?_
                refine DOps.call (.i (A1 : Nat)) [] [] rfl rfl rfl rfl (by kernel_rfl) (by simp [Agree]) (fun u hu => k1 u) ?_
                refine DOps.sim ?_
                refine DOps.call (.i (A1 : Nat)) [] [] rfl rfl rfl rfl (by kernel_rfl) (by simp [Agree]) (fun u hu => k1 u) ?_
                refine DOps.sim ?_
                refine DOps.nil ?_ (hK _ ?_)
                · rfl
                clear hK K
                refine End.kp [0, 3, 4, 5, 46, 47, 48] ?_
                refine Run.exit rfl ?_
                refine End.kp [0, 3, 4, 5, 46, 47, 48] ?_
                refine Run.go ?_
                refine End.lp ?_
                have hv : Sol.visit l Si kept k = ({ Si.putC k c2 with wl := Sol.push Si.wl A1 k }, kept, false) := by
                  simp only [Sol.visit, hc0, ← hc1, if_neg hb5, hst, if_pos (show j < c1.length by omega), ← hc2, ← hz, ← hA1e]
                refine ⟨list.length - (i + 1), _, by omega, Ghost.form [(0, .ptr 1 5 0), (3, .i l), (4, .vs 1 (atL l + 11) 0 list.length gA), (5, .vs 0 0 0 kept.length g), (46, .vs 1 (atL l + 11) 0 list.length gA), (47, .i list.length), (48, .i (i + 1 : Nat))] 1 ⟨rfl, rfl, rfl, rfl, rfl, rfl, rfl, trivial⟩ rfl (by simp only [ASt.push, List.nil_append, List.cons_append, List.take_succ_cons, List.take_zero, List.all_cons, List.all_nil, AObj.under, unders_append, unders_ims, unders, PV.under, Bool.and_true, Bool.and_self]), i + 1, { Si.putC k c2 with wl := Sol.push Si.wl A1 k }, kept, bump W A1, grewU w3 0 (Si.putC k c2) W A1 k, g, rfl, by omega, hI.next hdr hv hk4 hsw4 (by omega) ?_ ?_ hI.fal (fun y hy => ?_), ?_⟩
                · exact (push_other hzl).trans hI.lst
                · show (if atL l = A1 then _ else _) = _
                  rw [if_neg hzl]
                  exact hI.ver
                · rw [show ({ Si.putC k c2 with wl := Sol.push Si.wl A1 k } : Sol).cl.length = Si.cl.length by simp [Sol.putC]]
                  exact hI.kl y hy
                · have y4 := wcells_set Si W A1 k a1 hSi.len.wl
                  rw [grewU, show wcells { Si.putC k c2 with wl := Sol.push (Si.putC k c2).wl A1 k } (bump W A1) = _ from y4.symm, ← app_one]
                  rfl
              · have hb7 := hb
                simp at hb
          · skip
            have hjl := of_decide_eq_false hs15
            have dj : decide ((j : Int) < (c0.length : Int)) = false := decide_eq_false (by omega)
            have djp : True := trivial
            have fj : True := trivial
            have wj : True := trivial
            have fx := And.intro wj (And.intro fj (And.intro djp (And.intro dj (And.intro hs15 (And.intro r0 (And.intro f0 (And.intro jcv (And.intro jwc (And.intro jbx (And.intro (@fget_fset) (And.intro (@List.length_set.{0}) (And.intro n1 (And.intro n0 (And.intro lc0 (And.intro p1 (And.intro p0 (And.intro g1 (And.intro g0 (And.intro hki2 (And.intro hcv (And.intro hcg (And.intro ico (And.intro ibx (And.intro wii (And.intro hii (And.intro hgk (And.intro ili (And.intro h1wc (And.intro h1bx (And.intro (@Nat.zero_add) (And.intro (@Int.toNat_natCast) (And.intro (@Int.natCast_nonneg) (And.intro hai (And.intro hwg (And.intro hgi (And.intro wl (And.intro hgt (And.intro wi (And.intro htr (And.intro hbx ft))))))))))))))))))))))))))))))))))))))))
            refine Run.region rfl fun K hK => GOps.sim ?_
            refine GOps.done (hK _ ?_); clear hK K
            refine End.kp [0, 3, 4, 5, 6, 7, 8, 9, 46, 47, 48, 97] ?_
            refine Run.cond _ rfl (fun hb => ?_) (fun hb => ?_)
            · have hb6 := hb
              simp at hb
            · have hb6 := hb
              refine Run.exit rfl ?_
              refine End.kp [0, 3, 4, 5, 6, 7, 8, 9, 46, 47, 48] ?_
              refine Run.seq ?_
              refine Run.seq ?_
              have fx := And.intro wj (And.intro fj (And.intro djp (And.intro dj (And.intro hs15 (And.intro r0 (And.intro f0 (And.intro jcv (And.intro jwc (And.intro jbx (And.intro (@fget_fset) (And.intro (@List.length_set.{0}) (And.intro n1 (And.intro n0 (And.intro lc0 (And.intro p1 (And.intro p0 (And.intro g1 (And.intro g0 (And.intro hki2 (And.intro hcv (And.intro hcg (And.intro ico (And.intro ibx (And.intro wii (And.intro hii (And.intro hgk (And.intro ili (And.intro h1wc (And.intro h1bx (And.intro (@Nat.zero_add) (And.intro (@Int.toNat_natCast) (And.intro (@Int.natCast_nonneg) (And.intro hai (And.intro hwg (And.intro hgi (And.intro wl (And.intro hgt (And.intro wi (And.intro htr (And.intro hbx ft))))))))))))))))))))))))))))))))))))))))
              refine Run.go ?_
              refine End.kp [0, 3, 4, 5, 6, 7, 8, 9, 46, 47, 48, 103] ?_
              refine Run.cond _ rfl (fun hb => ?_) (fun hb => ?_)
              · have hb7 := hb
                simp at hb
              · have hb7 := hb
                have hst : Si.scan c1 2 = j := by rw [hsn]; exact scan_stop (fun h => by have := h.1; omega)
                have hjv : ¬ (Si.scan c1 2 < c1.length) := by omega
                have hap : (kept.length + 1) * 8 ≤ 140737488355328 := by omega
                have htk : (n64s kept).take kept.length = n64s kept := List.take_of_length_le (by simp)
                refine Run.skip ?_
                refine End.kp [0, 3, 4, 5, 6, 7, 8, 46, 47, 48] ?_
                refine Run.seq ?_
                have fx := And.intro htk (And.intro hap (And.intro wj (And.intro fj (And.intro djp (And.intro dj (And.intro hs15 (And.intro r0 (And.intro f0 (And.intro jcv (And.intro jwc (And.intro jbx (And.intro (@fget_fset) (And.intro (@List.length_set.{0}) (And.intro n1 (And.intro n0 (And.intro lc0 (And.intro p1 (And.intro p0 (And.intro g1 (And.intro g0 (And.intro hki2 (And.intro hcv (And.intro hcg (And.intro ico (And.intro ibx (And.intro wii (And.intro hii (And.intro hgk (And.intro ili (And.intro h1wc (And.intro h1bx (And.intro (@Nat.zero_add) (And.intro (@Int.toNat_natCast) (And.intro (@Int.natCast_nonneg) (And.intro hai (And.intro hwg (And.intro hgi (And.intro wl (And.intro hgt (And.intro wi (And.intro htr (And.intro hbx ft))))))))))))))))))))))))))))))))))))))))))
                refine Run.go ?_
                refine End.kp [0, 3, 4, 5, 6, 7, 8, 46, 47, 48] ?_
                refine Run.seq ?_
                refine Run.seq ?_
                refine Run.region rfl fun K hK => GOps.sim ?_
                refine GOps.call rfl rfl rfl rfl (by kernel_rfl) (ACalls.sim ?_)
                refine (is_ok (Si.putC k c1) W 1 _ (hA2.cons _) hsw2.len (c1.getD 0 0) hy0).mono fun v u hv => ?_
                obtain ⟨rfl, rfl⟩ := hv
                refine ⟨_, _, rfl, GOps.sim ?_⟩
                refine GOps.done (hK _ ?_); clear hK K
                refine End.kp [0, 3, 4, 5, 6, 7, 8, 46, 47, 48, 147] ?_
                refine Run.cond _ rfl (fun hb => ?_) (fun hb => ?_)
                · have hb8 : Si.is (c1.getD 0 0) = -1 := eq_of_beq (show (Si.is (c1.getD 0 0) == -1) = true from hb)
                  have hv : Sol.visit l Si kept k = (Si.putC k c1, kept ++ [k], true) := by simp only [Sol.visit, hc0, ← hc1, if_neg hb5, if_neg hjv, if_pos hb8]
                  have aph : n64s kept ++ [PV.im ([Im.int IntKind.i64 (k : Int)].headD (Im.bool false))] = n64s (kept ++ [k]) := app_one kept k
                  rw [aph]
                  refine Run.ghost (Ghost.swapVec 0 0 1 (atL l + 11) (m1 := (kept ++ [k]).map fun (x : Nat) => Im.int .i64 (x : Int)) (m2 := list.map fun (x : Nat) => Im.int .i64 (x : Int)) rfl jli (fun h => absurd h.1 (by decide)) rfl (cSwap.keep (t := 0) rfl (cSwap.keep (t := 3) rfl (cSwap.two (t := 4) rfl (cSwap.one (t := 5) rfl (cSwap.keep (t := 6) rfl (cSwap.keep (t := 7) rfl cSwap.nil))))))) ?_
                  have sw1 : fget (fset w2 0 (atL l + 11) (.vec 3 (gA + 1) (n64s (kept ++ [k])))) 0 (atL l + 11) = some (.vec 3 (gA + 1) (n64s (kept ++ [k]))) := by rw [fget_fset, if_pos ⟨rfl, rfl⟩, jli]; rfl
                  have pr := n64s_part list (i + 1) (list.length - (i + 1)) 0 rfl
                  have oa := n64s_all list
                  have nd := n64s_down (list.drop (i + 1)) 1
                  have nl : (n64s (list.drop (i + 1))).length = list.length - (i + 1) := by simp
                  have tk9 : (n64s (kept ++ [k])).take (kept.length + 1) = n64s (kept ++ [k]) := List.take_of_length_le (by simp)
                  have ap9 : (kept.length + 1 + (list.length - (i + 1))) * 8 ≤ 140737488355328 := by omega
                  have sb1 : i + 1 ≤ list.length := by omega
                  have cgA := wcells_get Si W (atL l) (by omega)
                  have iA : ((atL l : Nat) : Int) < ((2 * Si.n + 2 : Nat) : Int) := by omega
                  have aA : atL l < 2 * Si.n + 2 := by omega
                  have lwA : (wcells Si W).length = 2 * Si.n + 2 := by simp
                  refine Run.seq ?_
                  have fx := And.intro lwA (And.intro aA (And.intro iA (And.intro cgA (And.intro sb1 (And.intro ap9 (And.intro tk9 (And.intro nl (And.intro nd (And.intro oa (And.intro pr (And.intro sw1 (And.intro htk (And.intro hap (And.intro wj (And.intro fj (And.intro djp (And.intro dj (And.intro hs15 (And.intro r0 (And.intro f0 (And.intro jcv (And.intro jwc (And.intro jbx (And.intro (@fget_fset) (And.intro (@List.length_set.{0}) (And.intro n1 (And.intro n0 (And.intro lc0 (And.intro p1 (And.intro p0 (And.intro g1 (And.intro g0 (And.intro hki2 (And.intro hcv (And.intro hcg (And.intro ico (And.intro ibx (And.intro wii (And.intro hii (And.intro hgk (And.intro ili (And.intro h1wc (And.intro h1bx (And.intro (@Nat.zero_add) (And.intro (@Int.toNat_natCast) (And.intro (@Int.natCast_nonneg) (And.intro hai (And.intro hwg (And.intro hgi (And.intro wl (And.intro hgt (And.intro wi (And.intro htr (And.intro hbx ft))))))))))))))))))))))))))))))))))))))))))))))))))))))
                  refine Run.drawA fun K hK => ?_
                  refine DOps.sim ?_
                  refine DOps.call (.i (atL l : Nat)) [] [] rfl rfl rfl rfl (by kernel_rfl) (by simp [Agree]) (fun u hu => hat u) ?_
                  refine DOps.sim ?_
                  refine DOps.nil ?_ (hK _ ?_)
                  · rfl
                  clear hK K
                  refine End.kp [7] ?_
                  refine Run.seq ?_
                  refine Run.go ?_
                  refine End.kp [2] ?_
                  refine Run.ret (hQ _ _ ⟨.inr rfl, _, rfl, _, rfl, ?_⟩)
                  have e1 : (n64s (kept ++ [k]) ++ n64s (list.drop (i + 1))) = n64s ((kept ++ [k]) ++ list.drop (i + 1)) := by simp
                  have e2 : ((kept ++ [k]) ++ list.drop (i + 1)).length = kept.length + 1 + (list.length - (i + 1)) := by simp only [List.length_append, List.length_cons, List.length_nil, List.length_drop]
                  have y4 := wcells_put (Si.putC k c1) W (atL l) (gA + 2) ((kept ++ [k]) ++ list.drop (i + 1)) (by show atL l < 2 * Si.n + 2; omega) hsw2.len.wl
                  rw [e2] at y4
                  have hcl9 : (Si.putC k c1).cl.length = Si.cl.length := by simp [Sol.putC]
                  have hfs2 : Sol.spread m S = ((Si.putC k c1).putW (atL l) ((kept ++ [k]) ++ list.drop (i + 1)), some k) := by rw [hfs, hI.eq, hdr, inner_bad hv]
                  have hk5 := hK0.trans (hk1.trans (hI.kp.trans (hk2.trans (wU_kept hA2 (i := atL l) (g := gA + 2) (ks := (kept ++ [k]) ++ list.drop (i + 1)) (by show atL l < 2 * Si.n + 2; omega) hsw2.len.wl))))
                  rw [wU, ← y4, ← e1] at hk5
                  rw [← heq, hfs2]
                  refine ⟨verW W (atL l) (gA + 2), rfl, hk5, ?_⟩
                  refine hsw2.putW (by show atL l < 2 * Si.n + 2; omega) (fun k' hk' => ?_) ?_
                  · rw [hcl9, hcl]
                    rcases List.mem_append.1 hk' with h | h
                    · rcases List.mem_append.1 h with h | h
                      · have := hI.kl k' h; omega
                      · rw [List.mem_singleton.1 h]; omega
                    · exact hlist.2 _ (List.mem_of_mem_drop h)
                  · rw [show (Si.putC k c1).wl.getD (atL l) [] = list from hI.lst, e2]
                    omega
                · have hb8 : ¬ (Si.is (c1.getD 0 0) = -1) := ne_of_beq_false (show (Si.is (c1.getD 0 0) == -1) = false from hb)
                  have hz8 : Si.is (c1.getD 0 0) = 0 := by
                    rcases is_cases hSi.len hy0 with h | h | h
                    · exact absurd h hb5
                    · exact absurd h hb8
                    · exact h
                  have hv : Sol.visit l Si kept k = ((Si.putC k c1).set (c1.getD 0 0) k, kept ++ [k], false) := by simp only [Sol.visit, hc0, ← hc1, if_neg hb5, if_neg hjv, if_neg hb8]
                  have hsx := hsw2.set (k : Int) hy0 (is_zero hz8)
                  have hkx := setU_kept hA2 (c1.getD 0 0) (k : Int)
                  have hst1 : ∀ (loc : List AObj), ACalls Try.prog 148 [.ptr 1 5 0, .i (c1.getD 0 0), .i (k : Nat)] (loc :: w2) fun v u => v = .tup [] ∧ u = loc :: setU w2 0 (Si.putC k c1) W (c1.getD 0 0) k := fun loc => set_ok (Si.putC k c1) W 1 _ (hA2.cons _) hsw2.len _ _ hy0
                  refine Run.skip ?_
                  refine End.kp [0, 3, 4, 5, 7, 8, 46, 47, 48] ?_
                  have fx := And.intro htk (And.intro hap (And.intro wj (And.intro fj (And.intro djp (And.intro dj (And.intro hs15 (And.intro r0 (And.intro f0 (And.intro jcv (And.intro jwc (And.intro jbx (And.intro (@fget_fset) (And.intro (@List.length_set.{0}) (And.intro n1 (And.intro n0 (And.intro lc0 (And.intro p1 (And.intro p0 (And.intro g1 (And.intro g0 (And.intro hki2 (And.intro hcv (And.intro hcg (And.intro ico (And.intro ibx (And.intro wii (And.intro hii (And.intro hgk (And.intro ili (And.intro h1wc (And.intro h1bx (And.intro (@Nat.zero_add) (And.intro (@Int.toNat_natCast) (And.intro (@Int.natCast_nonneg) (And.intro hai (And.intro hwg (And.intro hgi (And.intro wl (And.intro hgt (And.intro wi (And.intro htr (And.intro hbx ft))))))))))))))))))))))))))))))))))))))))))
                  refine Run.region rfl fun K hK => GOps.sim ?_
                  refine GOps.call rfl rfl rfl rfl (by kernel_rfl) (ACalls.sim ?_)
                  refine (hst1 _).mono fun v u hv => ?_
                  obtain ⟨rfl, rfl⟩ := hv
                  refine ⟨_, _, rfl, GOps.sim ?_⟩
                  refine GOps.done (hK _ ?_); clear hK K
                  refine End.blk ?_
                  refine End.kp [0, 3, 4, 5, 46, 47, 48] ?_
                  refine Run.go ?_
                  refine End.lp ?_
                  refine ⟨list.length - (i + 1), _, by omega, Ghost.form [(0, .ptr 1 5 0), (3, .i l), (4, .vs 1 (atL l + 11) 0 list.length gA), (5, .vs 0 0 0 (kept.length + 1) (g + 1)), (46, .vs 1 (atL l + 11) 0 list.length gA), (47, .i list.length), (48, .i (i + 1 : Nat))] 1 ⟨rfl, rfl, rfl, rfl, rfl, rfl, rfl, trivial⟩ rfl (by simp only [ASt.push, List.nil_append, List.cons_append, List.take_succ_cons, List.take_zero, List.all_cons, List.all_nil, AObj.under, unders_append, unders_ims, unders, PV.under, Bool.and_true, Bool.and_self]), i + 1, (Si.putC k c1).set (c1.getD 0 0) k, kept ++ [k], setV W, setU w2 0 (Si.putC k c1) W (c1.getD 0 0) k, g + 1, rfl, by omega, hI.next hdr hv (hk2.trans hkx) hsx (by rw [List.length_append]; simp only [List.length_cons, List.length_nil]; omega) hI.lst hI.ver ?_ (fun y hy => ?_), ?_⟩
                  · rw [is_set_ne (S := Si.putC k c1) (by rw [hsw2.len.val]; have := hy0.2; show _ < Si.n + 1; omega) (fun e => ?_)]
                    · exact hI.fal
                    · have h9 := hI.fal
                      unfold Sol.is at h9 hz8
                      rw [e] at h9
                      split at h9 <;> split at hz8 <;> omega
                  · rw [show ((Si.putC k c1).set (c1.getD 0 0) k).cl.length = Si.cl.length by simp [Sol.putC, Sol.set]]
                    rcases List.mem_append.1 hy with h | h
                    · exact hI.kl y h
                    · rw [List.mem_singleton.1 h]; exact hki
                  · rw [← app_one, List.length_append]
                    rfl
      · have hb4 : ¬ (c0.getD 0 0 = l) := by simpa using hb
        obtain ⟨c1, hc1⟩ : ∃ c1, c1 = Sol.turn l c0 := ⟨_, rfl⟩
        
        have hq0 : c1.length = c0.length := by rw [hc1]; exact turn_len l c0
        have hqm : ∀ y ∈ c1, LitOk Si.n y := fun y hy => q3 y (turn_mem q1 y (by rw [← hc1]; exact hy))
        have hKi : Si.cl.length ≤ W.K := by have := hI.kp.K; have := hk1.K; have := hK0.K; have := hK0.cl; omega
        have hk2 := putC_kept hAi (c := c1) hki hKi (by rw [hq0, hc0])
        have hsw2 : SW (Si.putC k c1) B' := hSi.putC ⟨by omega, by omega, hqm⟩
        have jbx : fget (fset w 0 (k + (2 * Si.n + 2) + 11) (.vec 3 0 (i64s c1))) 0 5 = some (.box [.vs 0 7 0 Si.cl.length W.c, .vs 0 1 0 (2 * Si.n + 2) 0, .vs 0 2 0 (Si.n + 1) 0, .vs 0 3 0 (Si.n + 1) 0, .vs 0 4 0 (Si.n + 1) 0, .vs 0 8 0 Si.tr.length W.t, .vs 0 9 0 Si.st.length W.s, .i Si.head, .i Si.next]) := by rw [fget_fset, if_neg (by omega)]; exact hAi.box
        have jwc : fget (fset w 0 (k + (2 * Si.n + 2) + 11) (.vec 3 0 (i64s c1))) 0 1 = some (.vec 22 0 (wcells Si W)) := by rw [fget_fset, if_neg (by omega)]; exact hAi.wch
        have jli : fget (fset w 0 (k + (2 * Si.n + 2) + 11) (.vec 3 0 (i64s c1))) 0 (atL l + 11) = some (.vec 3 gA (n64s list)) := by rw [fget_fset, if_neg (by omega)]; exact ili
        have jcv : fget (fset w 0 (k + (2 * Si.n + 2) + 11) (.vec 3 0 (i64s c1))) 0 (k + (2 * Si.n + 2) + 11) = some (.vec 3 0 (i64s c1)) := by rw [fget_fset, if_pos ⟨rfl, rfl⟩, hcv]; rfl
        
        have hw2 : fset w 0 (k + (2 * Si.n + 2) + 11) (.vec 3 0 (i64s c1)) = w := by rw [hc1, Sol.turn, if_neg hb4]; exact fset_self _ _ _ _ hcv
        generalize fset w 0 (k + (2 * Si.n + 2) + 11) (.vec 3 0 (i64s c1)) = w2 at hk2 jbx jwc jli jcv hw2
        rw [← hw2]
        
        have hA2 := hk2.at'
        have hy0 : LitOk Si.n (c1.getD 0 0) := hqm _ (getD_mem (by omega))
        have f0 := i64s_get c1 0 (by omega)
        have r0 : (0 : Int) < (c0.length : Int) := p0
        refine Run.skip ?_
        refine End.kp [0, 3, 4, 5, 6, 7, 8, 46, 47, 48] ?_
        refine Run.seq ?_
        refine Run.seq ?_
        have fx := And.intro r0 (And.intro f0 (And.intro jcv (And.intro jwc (And.intro jbx (And.intro (@fget_fset) (And.intro (@List.length_set.{0}) (And.intro n1 (And.intro n0 (And.intro lc0 (And.intro p1 (And.intro p0 (And.intro g1 (And.intro g0 (And.intro hki2 (And.intro hcv (And.intro hcg (And.intro ico (And.intro ibx (And.intro wii (And.intro hii (And.intro hgk (And.intro ili (And.intro h1wc (And.intro h1bx (And.intro (@Nat.zero_add) (And.intro (@Int.toNat_natCast) (And.intro (@Int.natCast_nonneg) (And.intro hai (And.intro hwg (And.intro hgi (And.intro wl (And.intro hgt (And.intro wi (And.intro htr (And.intro hbx ft)))))))))))))))))))))))))))))))))))
        refine Run.region rfl fun K hK => GOps.sim ?_
        refine GOps.call rfl rfl rfl rfl (by kernel_rfl) (ACalls.sim ?_)
        refine (is_ok (Si.putC k c1) W 1 _ (hA2.cons _) hsw2.len (c1.getD 0 0) hy0).mono fun v u hv => ?_
        obtain ⟨rfl, rfl⟩ := hv
        refine ⟨_, _, rfl, GOps.sim ?_⟩
        refine GOps.done (hK _ ?_); clear hK K
        refine End.kp [0, 3, 4, 5, 6, 7, 8, 46, 47, 48, 80] ?_
        refine Run.cond _ rfl (fun hb => ?_) (fun hb => ?_)
        · have hb5 : Si.is (c1.getD 0 0) = 1 := eq_of_beq (show (Si.is (c1.getD 0 0) == 1) = true from hb)
          have hap : (kept.length + 1) * 8 ≤ 140737488355328 := by omega
          have htk : (n64s kept).take kept.length = n64s kept := List.take_of_length_le (by simp)
          refine Run.seq ?_
          have fx := And.intro htk (And.intro hap (And.intro r0 (And.intro f0 (And.intro jcv (And.intro jwc (And.intro jbx (And.intro (@fget_fset) (And.intro (@List.length_set.{0}) (And.intro n1 (And.intro n0 (And.intro lc0 (And.intro p1 (And.intro p0 (And.intro g1 (And.intro g0 (And.intro hki2 (And.intro hcv (And.intro hcg (And.intro ico (And.intro ibx (And.intro wii (And.intro hii (And.intro hgk (And.intro ili (And.intro h1wc (And.intro h1bx (And.intro (@Nat.zero_add) (And.intro (@Int.toNat_natCast) (And.intro (@Int.natCast_nonneg) (And.intro hai (And.intro hwg (And.intro hgi (And.intro wl (And.intro hgt (And.intro wi (And.intro htr (And.intro hbx ft)))))))))))))))))))))))))))))))))))))
          refine Run.go ?_
          refine End.kp [0, 3, 4, 5, 46, 47, 48] ?_
          refine Run.exit rfl ?_
          refine End.kp [0, 3, 4, 5, 46, 47, 48] ?_
          refine Run.go ?_
          refine End.lp ?_
          have hv : Sol.visit l Si kept k = (Si.putC k c1, kept ++ [k], false) := by simp only [Sol.visit, hc0, ← hc1, if_pos hb5]
          refine ⟨list.length - (i + 1), _, by omega, Ghost.form [(0, .ptr 1 5 0), (3, .i l), (4, .vs 1 (atL l + 11) 0 list.length gA), (5, .vs 0 0 0 (kept.length + 1) (g + 1)), (46, .vs 1 (atL l + 11) 0 list.length gA), (47, .i list.length), (48, .i (i + 1 : Nat))] 1 ⟨rfl, rfl, rfl, rfl, rfl, rfl, rfl, trivial⟩ rfl (by simp only [ASt.push, List.nil_append, List.cons_append, List.take_succ_cons, List.take_zero, List.all_cons, List.all_nil, AObj.under, unders_append, unders_ims, unders, PV.under, Bool.and_true, Bool.and_self]), i + 1, Si.putC k c1, kept ++ [k], W, w2, g + 1, rfl, by omega, hI.next hdr hv hk2 hsw2 (by rw [List.length_append]; simp only [List.length_cons, List.length_nil]; omega) hI.lst hI.ver hI.fal (fun y hy => ?_), ?_⟩
          · rw [show (Si.putC k c1).cl.length = Si.cl.length by simp [Sol.putC]]
            rcases List.mem_append.1 hy with h | h
            · exact hI.kl y h
            · rw [List.mem_singleton.1 h]; exact hki
          · rw [← app_one, List.length_append]
            rfl
        · have hb5 : ¬ (Si.is (c1.getD 0 0) = 1) := ne_of_beq_false (show (Si.is (c1.getD 0 0) == 1) = false from hb)
          refine Run.skip ?_
          refine End.kp [0, 3, 4, 5, 6, 7, 8, 46, 47, 48] ?_
          refine Run.seq ?_
          have fx := And.intro r0 (And.intro f0 (And.intro jcv (And.intro jwc (And.intro jbx (And.intro (@fget_fset) (And.intro (@List.length_set.{0}) (And.intro n1 (And.intro n0 (And.intro lc0 (And.intro p1 (And.intro p0 (And.intro g1 (And.intro g0 (And.intro hki2 (And.intro hcv (And.intro hcg (And.intro ico (And.intro ibx (And.intro wii (And.intro hii (And.intro hgk (And.intro ili (And.intro h1wc (And.intro h1bx (And.intro (@Nat.zero_add) (And.intro (@Int.toNat_natCast) (And.intro (@Int.natCast_nonneg) (And.intro hai (And.intro hwg (And.intro hgi (And.intro wl (And.intro hgt (And.intro wi (And.intro htr (And.intro hbx ft)))))))))))))))))))))))))))))))))))
          refine Run.go ?_
          refine End.kp [0, 3, 4, 5, 6, 7, 8, 9, 46, 47, 48] ?_
          refine Run.seq ?_
          refine Run.block ?_
          refine Run.ghost (Ghost.form [(0, .ptr 1 5 0), (3, .i l), (4, .vs 1 (atL l + 11) 0 list.length gA), (5, .vs 0 0 0 kept.length g), (6, .i i), (7, .i k), (8, .vs 1 (k + (2 * Si.n + 2) + 11) 0 c0.length 0), (9, .i 2), (46, .vs 1 (atL l + 11) 0 list.length gA), (47, .i list.length), (48, .i i)] 1 ⟨rfl, rfl, rfl, rfl, rfl, rfl, rfl, rfl, rfl, rfl, rfl, trivial⟩ rfl (by simp only [ASt.push, List.nil_append, List.cons_append, List.take_succ_cons, List.take_zero, List.all_cons, List.all_nil, AObj.under, unders_append, unders_ims, unders, PV.under, Bool.and_true, Bool.and_self])) ?_
          refine Run.loop (fun m st => ∃ j : Nat, m = c0.length - j ∧ 2 ≤ j ∧ j ≤ c0.length ∧ Si.scan c1 2 = Si.scan c1 j ∧ st = ⟨[(0, .ptr 1 5 0), (3, .i l), (4, .vs 1 (atL l + 11) 0 list.length gA), (5, .vs 0 0 0 kept.length g), (6, .i i), (7, .i k), (8, .vs 1 (k + (2 * Si.n + 2) + 11) 0 c0.length 0), (9, .i (j : Nat)), (46, .vs 1 (atL l + 11) 0 list.length gA), (47, .i list.length), (48, .i i)], [.vec 3 g (n64s kept)], w2⟩) (c0.length - 2) ⟨2, rfl, by omega, by omega, rfl, rfl⟩ fun m st hJ => ?_
          obtain ⟨j, rfl, hj2, hjc, hsn, rfl⟩ := hJ
          refine Run.seq ?_
          refine Run.seq ?_
          rcases Bool.eq_false_or_eq_true (decide (j < c0.length)) with hs15 | hs15
          · skip
            have hjl := of_decide_eq_true hs15
            have dj : decide ((j : Int) < (c0.length : Int)) = true := decide_eq_true (by omega)
            have djp : (j : Int) < (c0.length : Int) := by omega
            have fj := i64s_get c1 j (by omega)
            have hyj : LitOk Si.n (c1.getD j 0) := hqm _ (getD_mem (by omega))
            have wj := nsucc hjl (by omega)
            have hs15 := hs15
            have fx := And.intro wj (And.intro fj (And.intro djp (And.intro dj (And.intro hs15 (And.intro r0 (And.intro f0 (And.intro jcv (And.intro jwc (And.intro jbx (And.intro (@fget_fset) (And.intro (@List.length_set.{0}) (And.intro n1 (And.intro n0 (And.intro lc0 (And.intro p1 (And.intro p0 (And.intro g1 (And.intro g0 (And.intro hki2 (And.intro hcv (And.intro hcg (And.intro ico (And.intro ibx (And.intro wii (And.intro hii (And.intro hgk (And.intro ili (And.intro h1wc (And.intro h1bx (And.intro (@Nat.zero_add) (And.intro (@Int.toNat_natCast) (And.intro (@Int.natCast_nonneg) (And.intro hai (And.intro hwg (And.intro hgi (And.intro wl (And.intro hgt (And.intro wi (And.intro htr (And.intro hbx ft))))))))))))))))))))))))))))))))))))))))
            refine Run.region rfl fun K hK => GOps.sim ?_
            refine GOps.call rfl rfl rfl rfl (by kernel_rfl) (ACalls.sim ?_)
            refine (is_ok (Si.putC k c1) W 1 _ (hA2.cons _) hsw2.len (c1.getD j 0) hyj).mono fun v u hv => ?_
            obtain ⟨rfl, rfl⟩ := hv
            refine ⟨_, _, rfl, GOps.sim ?_⟩
            refine GOps.done (hK _ ?_); clear hK K
            refine End.kp [0, 3, 4, 5, 6, 7, 8, 9, 46, 47, 48, 97] ?_
            refine Run.cond _ rfl (fun hb => ?_) (fun hb => ?_)
            · have hb6 : Si.is (c1.getD j 0) = -1 := eq_of_beq (show (Si.is (c1.getD j 0) == -1) = true from hb)
              refine Run.skip ?_
              refine End.kp [0, 3, 4, 5, 6, 7, 8, 9, 46, 47, 48] ?_
              refine Run.block ?_
              have fx := And.intro wj (And.intro fj (And.intro djp (And.intro dj (And.intro hs15 (And.intro r0 (And.intro f0 (And.intro jcv (And.intro jwc (And.intro jbx (And.intro (@fget_fset) (And.intro (@List.length_set.{0}) (And.intro n1 (And.intro n0 (And.intro lc0 (And.intro p1 (And.intro p0 (And.intro g1 (And.intro g0 (And.intro hki2 (And.intro hcv (And.intro hcg (And.intro ico (And.intro ibx (And.intro wii (And.intro hii (And.intro hgk (And.intro ili (And.intro h1wc (And.intro h1bx (And.intro (@Nat.zero_add) (And.intro (@Int.toNat_natCast) (And.intro (@Int.natCast_nonneg) (And.intro hai (And.intro hwg (And.intro hgi (And.intro wl (And.intro hgt (And.intro wi (And.intro htr (And.intro hbx ft))))))))))))))))))))))))))))))))))))))))
              refine Run.go ?_
              refine End.blk ?_
              refine End.lp ?_
              refine ⟨c0.length - (j + 1), _, by omega, Ghost.form [(0, .ptr 1 5 0), (3, .i l), (4, .vs 1 (atL l + 11) 0 list.length gA), (5, .vs 0 0 0 kept.length g), (6, .i i), (7, .i k), (8, .vs 1 (k + (2 * Si.n + 2) + 11) 0 c0.length 0), (9, .i (j + 1 : Nat)), (46, .vs 1 (atL l + 11) 0 list.length gA), (47, .i list.length), (48, .i i)] 1 ⟨rfl, rfl, rfl, rfl, rfl, rfl, rfl, rfl, rfl, rfl, rfl, trivial⟩ rfl (by simp only [ASt.push, List.nil_append, List.cons_append, List.take_succ_cons, List.take_zero, List.all_cons, List.all_nil, AObj.under, unders_append, unders_ims, unders, PV.under, Bool.and_true, Bool.and_self]), j + 1, rfl, by omega, by omega, by rw [hsn, scan_more (by omega) hb6], rfl⟩
            · have hb6 : ¬ (Si.is (c1.getD j 0) = -1) := ne_of_beq_false (show (Si.is (c1.getD j 0) == -1) = false from hb)
              have hst : Si.scan c1 2 = j := by rw [hsn]; exact scan_stop (fun h => hb6 h.2)
              refine Run.exit rfl ?_
              refine End.kp [0, 3, 4, 5, 6, 7, 8, 9, 46, 47, 48] ?_
              refine Run.seq ?_
              refine Run.seq ?_
              have fx := And.intro wj (And.intro fj (And.intro djp (And.intro dj (And.intro hs15 (And.intro r0 (And.intro f0 (And.intro jcv (And.intro jwc (And.intro jbx (And.intro (@fget_fset) (And.intro (@List.length_set.{0}) (And.intro n1 (And.intro n0 (And.intro lc0 (And.intro p1 (And.intro p0 (And.intro g1 (And.intro g0 (And.intro hki2 (And.intro hcv (And.intro hcg (And.intro ico (And.intro ibx (And.intro wii (And.intro hii (And.intro hgk (And.intro ili (And.intro h1wc (And.intro h1bx (And.intro (@Nat.zero_add) (And.intro (@Int.toNat_natCast) (And.intro (@Int.natCast_nonneg) (And.intro hai (And.intro hwg (And.intro hgi (And.intro wl (And.intro hgt (And.intro wi (And.intro htr (And.intro hbx ft))))))))))))))))))))))))))))))))))))))))
              refine Run.go ?_
              refine End.kp [0, 3, 4, 5, 6, 7, 8, 9, 46, 47, 48, 103] ?_
              refine Run.cond _ rfl (fun hb => ?_) (fun hb => ?_)
              · have hb7 := hb
                have f1 := i64s_get c1 1 (by omega)
                have hsw := swap_cells c1 1 j
                obtain ⟨c2, hc2⟩ : ∃ c2, c2 = Sol.swapAt c1 1 j := ⟨_, rfl⟩
                rw [← hc2] at hsw
                have hl2 : c2.length = c0.length := by rw [hc2, swapAt_len, hq0]
                have hqm2 : ∀ y ∈ c2, LitOk Si.n y := fun y hy => hqm y (swapAt_mem (c := c1) (i := 1) (j := j) (by omega) (by omega) y (by rw [← hc2]; exact hy))
                have hz1 : c2.getD 1 0 = c1.getD j 0 := by rw [hc2]; exact swapAt_one c1 j hj2 (by omega)
                have lc1 : (i64s c1).length = c0.length := by simp [hq0]
                refine Run.seq ?_
                have fx := And.intro hjl (And.intro lc1 (And.intro f1 (And.intro wj (And.intro fj (And.intro djp (And.intro dj (And.intro hs15 (And.intro r0 (And.intro f0 (And.intro jcv (And.intro jwc (And.intro jbx (And.intro (@fget_fset) (And.intro (@List.length_set.{0}) (And.intro n1 (And.intro n0 (And.intro lc0 (And.intro p1 (And.intro p0 (And.intro g1 (And.intro g0 (And.intro hki2 (And.intro hcv (And.intro hcg (And.intro ico (And.intro ibx (And.intro wii (And.intro hii (And.intro hgk (And.intro ili (And.intro h1wc (And.intro h1bx (And.intro (@Nat.zero_add) (And.intro (@Int.toNat_natCast) (And.intro (@Int.natCast_nonneg) (And.intro hai (And.intro hwg (And.intro hgi (And.intro wl (And.intro hgt (And.intro wi (And.intro htr (And.intro hbx ft)))))))))))))))))))))))))))))))))))))))))))
                refine Run.drawA fun K hK => ?_
                refine DOps.sim ?_
                refine DOps.nil ?_ (hK _ ?_)
                · rfl
                clear hK K
                rw [hsw]
                have kbx : fget (fset w2 0 (k + (2 * Si.n + 2) + 11) (.vec 3 0 (i64s c2))) 0 5 = some (.box [.vs 0 7 0 Si.cl.length W.c, .vs 0 1 0 (2 * Si.n + 2) 0, .vs 0 2 0 (Si.n + 1) 0, .vs 0 3 0 (Si.n + 1) 0, .vs 0 4 0 (Si.n + 1) 0, .vs 0 8 0 Si.tr.length W.t, .vs 0 9 0 Si.st.length W.s, .i Si.head, .i Si.next]) := by rw [fget_fset, if_neg (by omega)]; exact jbx
                have kwc : fget (fset w2 0 (k + (2 * Si.n + 2) + 11) (.vec 3 0 (i64s c2))) 0 1 = some (.vec 22 0 (wcells Si W)) := by rw [fget_fset, if_neg (by omega)]; exact jwc
                have kcv : fget (fset w2 0 (k + (2 * Si.n + 2) + 11) (.vec 3 0 (i64s c2))) 0 (k + (2 * Si.n + 2) + 11) = some (.vec 3 0 (i64s c2)) := by rw [fget_fset, if_pos ⟨rfl, rfl⟩, jcv]; rfl
                have hk3 : Kept w (fset w2 0 (k + (2 * Si.n + 2) + 11) (.vec 3 0 (i64s c2))) 0 Si W ((Si.putC k c1).putC k c2) W := hk2.trans (putC_kept hA2 (k := k) (c := c2) (by simp [Sol.putC]; exact hki) (by simp [Sol.putC]; exact hKi) (by rw [hl2, ← hq0]; simp [Sol.putC, hki]))
                have hcl9 : (Si.putC k c1).cl.length = Si.cl.length := by simp [Sol.putC]
                rw [putC_putC] at hk3
                have hsw3 : SW (Si.putC k c2) B' := hSi.putC ⟨by omega, by omega, hqm2⟩
                obtain ⟨z, hz⟩ : ∃ z, z = c2.getD 1 0 := ⟨_, rfl⟩
                have hlz : LitOk Si.n z := by rw [hz]; exact hqm2 _ (getD_mem (by omega))
                have k1 := at_ok Si.n z hlz hSi.len.n
                have a1 := atL_lt hlz
                have z1 := i64s_get c2 1 (by omega)
                rw [← hz] at z1
                have hzl : atL l ≠ atL z := fun e => by
                  have e2 := atL_inj (n := Si.n) (by rw [hni]; exact hll) hlz e
                  have h9 := hI.fal
                  rw [e2, hz, hz1] at h9
                  exact hb6 h9
                obtain ⟨A1, hA1e⟩ : ∃ A1, A1 = atL z := ⟨_, rfl⟩
                rw [← hA1e] at k1 a1 hzl
                have kwl := hk3.at'.wli A1 a1
                have cg1 := wcells_get Si W A1 a1
                have i1 : ((A1 : Nat) : Int) < ((2 * Si.n + 2 : Nat) : Int) := by omega
                have lw1 : (wcells Si W).length = 2 * Si.n + 2 := by simp
                have bl := (hSi.list a1).1
                have ap1 : ((Si.wl.getD A1 []).length + 1) * 8 ≤ 140737488355328 := by have := hBi; omega
                have tk1 : (n64s (Si.wl.getD A1 [])).take (Si.wl.getD A1 []).length = n64s (Si.wl.getD A1 []) := List.take_of_length_le (by simp)
                have kwl : fget (fset w2 0 (k + (2 * Si.n + 2) + 11) (.vec 3 0 (i64s c2))) 0 (A1 + 11) = some (.vec 3 (W.wv A1) (n64s (Si.wl.getD A1 []))) := kwl
                have hk4 := hk3.trans (grewU_kept hk3.at' (i := A1) (k := k) a1 hsw3.len.wl)
                have hsw4 := SW.push hsw3 (i := A1) (k := k) a1 (by simp [Sol.putC]; exact hki)
                generalize fset w2 0 (k + (2 * Si.n + 2) + 11) (.vec 3 0 (i64s c2)) = w3 at kbx kwc kcv kwl hk3 hk4
                refine End.kp [0, 3, 4, 5, 7, 8, 46, 47, 48] ?_
                refine Run.seq ?_
                refine Run.ghost (.spares 1) ?_
                simp only [ASt.pushN, ASt.push, List.append_assoc, List.cons_append, List.nil_append]
                have fx := And.intro a1 (And.intro lw1 (And.intro tk1 (And.intro ap1 (And.intro cg1 (And.intro i1 (And.intro z1 (And.intro kwl (And.intro kcv (And.intro kwc (And.intro kbx (And.intro hjl (And.intro lc1 (And.intro f1 (And.intro wj (And.intro fj (And.intro djp (And.intro dj (And.intro hs15 (And.intro r0 (And.intro f0 (And.intro jcv (And.intro jwc (And.intro jbx (And.intro (@fget_fset) (And.intro (@List.length_set.{0}) (And.intro n1 (And.intro n0 (And.intro lc0 (And.intro p1 (And.intro p0 (And.intro g1 (And.intro g0 (And.intro hki2 (And.intro hcv (And.intro hcg (And.intro ico (And.intro ibx (And.intro wii (And.intro hii (And.intro hgk (And.intro ili (And.intro h1wc (And.intro h1bx (And.intro (@Nat.zero_add) (And.intro (@Int.toNat_natCast) (And.intro (@Int.natCast_nonneg) (And.intro hai (And.intro hwg (And.intro hgi (And.intro wl (And.intro hgt (And.intro wi (And.intro htr (And.intro hbx ft))))))))))))))))))))))))))))))))))))))))))))))))))))))
                refine Run.drawA fun K hK => ?_
                refine DOps.sim ?_
                refine DOps.call (.i (A1 : Nat)) [] [] rfl rfl rfl rfl (by kernel_rfl) (by simp [Agree]) (fun u hu => k1 u) ?_
                refine DOps.sim ?_
                refine DOps.call (.i (A1 : Nat)) [] [] rfl rfl rfl rfl (by kernel_rfl) (by simp [Agree]) (fun u hu => k1 u) ?_
                refine DOps.sim ?_
                refine DOps.nil ?_ (hK _ ?_)
                · rfl
                clear hK K
                refine End.kp [0, 3, 4, 5, 46, 47, 48] ?_
                refine Run.exit rfl ?_
                refine End.kp [0, 3, 4, 5, 46, 47, 48] ?_
                refine Run.go ?_
                refine End.lp ?_
                have hv : Sol.visit l Si kept k = ({ Si.putC k c2 with wl := Sol.push Si.wl A1 k }, kept, false) := by
                  simp only [Sol.visit, hc0, ← hc1, if_neg hb5, hst, if_pos (show j < c1.length by omega), ← hc2, ← hz, ← hA1e]
                refine ⟨list.length - (i + 1), _, by omega, Ghost.form [(0, .ptr 1 5 0), (3, .i l), (4, .vs 1 (atL l + 11) 0 list.length gA), (5, .vs 0 0 0 kept.length g), (46, .vs 1 (atL l + 11) 0 list.length gA), (47, .i list.length), (48, .i (i + 1 : Nat))] 1 ⟨rfl, rfl, rfl, rfl, rfl, rfl, rfl, trivial⟩ rfl (by simp only [ASt.push, List.nil_append, List.cons_append, List.take_succ_cons, List.take_zero, List.all_cons, List.all_nil, AObj.under, unders_append, unders_ims, unders, PV.under, Bool.and_true, Bool.and_self]), i + 1, { Si.putC k c2 with wl := Sol.push Si.wl A1 k }, kept, bump W A1, grewU w3 0 (Si.putC k c2) W A1 k, g, rfl, by omega, hI.next hdr hv hk4 hsw4 (by omega) ?_ ?_ hI.fal (fun y hy => ?_), ?_⟩
                · exact (push_other hzl).trans hI.lst
                · show (if atL l = A1 then _ else _) = _
                  rw [if_neg hzl]
                  exact hI.ver
                · rw [show ({ Si.putC k c2 with wl := Sol.push Si.wl A1 k } : Sol).cl.length = Si.cl.length by simp [Sol.putC]]
                  exact hI.kl y hy
                · have y4 := wcells_set Si W A1 k a1 hSi.len.wl
                  rw [grewU, show wcells { Si.putC k c2 with wl := Sol.push (Si.putC k c2).wl A1 k } (bump W A1) = _ from y4.symm, ← app_one]
                  rfl
              · have hb7 := hb
                simp at hb
          · skip
            have hjl := of_decide_eq_false hs15
            have dj : decide ((j : Int) < (c0.length : Int)) = false := decide_eq_false (by omega)
            have djp : True := trivial
            have fj : True := trivial
            have wj : True := trivial
            have fx := And.intro wj (And.intro fj (And.intro djp (And.intro dj (And.intro hs15 (And.intro r0 (And.intro f0 (And.intro jcv (And.intro jwc (And.intro jbx (And.intro (@fget_fset) (And.intro (@List.length_set.{0}) (And.intro n1 (And.intro n0 (And.intro lc0 (And.intro p1 (And.intro p0 (And.intro g1 (And.intro g0 (And.intro hki2 (And.intro hcv (And.intro hcg (And.intro ico (And.intro ibx (And.intro wii (And.intro hii (And.intro hgk (And.intro ili (And.intro h1wc (And.intro h1bx (And.intro (@Nat.zero_add) (And.intro (@Int.toNat_natCast) (And.intro (@Int.natCast_nonneg) (And.intro hai (And.intro hwg (And.intro hgi (And.intro wl (And.intro hgt (And.intro wi (And.intro htr (And.intro hbx ft))))))))))))))))))))))))))))))))))))))))
            refine Run.region rfl fun K hK => GOps.sim ?_
            refine GOps.done (hK _ ?_); clear hK K
            refine End.kp [0, 3, 4, 5, 6, 7, 8, 9, 46, 47, 48, 97] ?_
            refine Run.cond _ rfl (fun hb => ?_) (fun hb => ?_)
            · have hb6 := hb
              simp at hb
            · have hb6 := hb
              refine Run.exit rfl ?_
              refine End.kp [0, 3, 4, 5, 6, 7, 8, 9, 46, 47, 48] ?_
              refine Run.seq ?_
              refine Run.seq ?_
              have fx := And.intro wj (And.intro fj (And.intro djp (And.intro dj (And.intro hs15 (And.intro r0 (And.intro f0 (And.intro jcv (And.intro jwc (And.intro jbx (And.intro (@fget_fset) (And.intro (@List.length_set.{0}) (And.intro n1 (And.intro n0 (And.intro lc0 (And.intro p1 (And.intro p0 (And.intro g1 (And.intro g0 (And.intro hki2 (And.intro hcv (And.intro hcg (And.intro ico (And.intro ibx (And.intro wii (And.intro hii (And.intro hgk (And.intro ili (And.intro h1wc (And.intro h1bx (And.intro (@Nat.zero_add) (And.intro (@Int.toNat_natCast) (And.intro (@Int.natCast_nonneg) (And.intro hai (And.intro hwg (And.intro hgi (And.intro wl (And.intro hgt (And.intro wi (And.intro htr (And.intro hbx ft))))))))))))))))))))))))))))))))))))))))
              refine Run.go ?_
              refine End.kp [0, 3, 4, 5, 6, 7, 8, 9, 46, 47, 48, 103] ?_
              refine Run.cond _ rfl (fun hb => ?_) (fun hb => ?_)
              · have hb7 := hb
                simp at hb
              · have hb7 := hb
                have hst : Si.scan c1 2 = j := by rw [hsn]; exact scan_stop (fun h => by have := h.1; omega)
                have hjv : ¬ (Si.scan c1 2 < c1.length) := by omega
                have hap : (kept.length + 1) * 8 ≤ 140737488355328 := by omega
                have htk : (n64s kept).take kept.length = n64s kept := List.take_of_length_le (by simp)
                refine Run.skip ?_
                refine End.kp [0, 3, 4, 5, 6, 7, 8, 46, 47, 48] ?_
                refine Run.seq ?_
                have fx := And.intro htk (And.intro hap (And.intro wj (And.intro fj (And.intro djp (And.intro dj (And.intro hs15 (And.intro r0 (And.intro f0 (And.intro jcv (And.intro jwc (And.intro jbx (And.intro (@fget_fset) (And.intro (@List.length_set.{0}) (And.intro n1 (And.intro n0 (And.intro lc0 (And.intro p1 (And.intro p0 (And.intro g1 (And.intro g0 (And.intro hki2 (And.intro hcv (And.intro hcg (And.intro ico (And.intro ibx (And.intro wii (And.intro hii (And.intro hgk (And.intro ili (And.intro h1wc (And.intro h1bx (And.intro (@Nat.zero_add) (And.intro (@Int.toNat_natCast) (And.intro (@Int.natCast_nonneg) (And.intro hai (And.intro hwg (And.intro hgi (And.intro wl (And.intro hgt (And.intro wi (And.intro htr (And.intro hbx ft))))))))))))))))))))))))))))))))))))))))))
                refine Run.go ?_
                refine End.kp [0, 3, 4, 5, 6, 7, 8, 46, 47, 48] ?_
                refine Run.seq ?_
                refine Run.seq ?_
                refine Run.region rfl fun K hK => GOps.sim ?_
                refine GOps.call rfl rfl rfl rfl (by kernel_rfl) (ACalls.sim ?_)
                refine (is_ok (Si.putC k c1) W 1 _ (hA2.cons _) hsw2.len (c1.getD 0 0) hy0).mono fun v u hv => ?_
                obtain ⟨rfl, rfl⟩ := hv
                refine ⟨_, _, rfl, GOps.sim ?_⟩
                refine GOps.done (hK _ ?_); clear hK K
                refine End.kp [0, 3, 4, 5, 6, 7, 8, 46, 47, 48, 147] ?_
                refine Run.cond _ rfl (fun hb => ?_) (fun hb => ?_)
                · have hb8 : Si.is (c1.getD 0 0) = -1 := eq_of_beq (show (Si.is (c1.getD 0 0) == -1) = true from hb)
                  have hv : Sol.visit l Si kept k = (Si.putC k c1, kept ++ [k], true) := by simp only [Sol.visit, hc0, ← hc1, if_neg hb5, if_neg hjv, if_pos hb8]
                  have aph : n64s kept ++ [PV.im ([Im.int IntKind.i64 (k : Int)].headD (Im.bool false))] = n64s (kept ++ [k]) := app_one kept k
                  rw [aph]
                  refine Run.ghost (Ghost.swapVec 0 0 1 (atL l + 11) (m1 := (kept ++ [k]).map fun (x : Nat) => Im.int .i64 (x : Int)) (m2 := list.map fun (x : Nat) => Im.int .i64 (x : Int)) rfl jli (fun h => absurd h.1 (by decide)) rfl (cSwap.keep (t := 0) rfl (cSwap.keep (t := 3) rfl (cSwap.two (t := 4) rfl (cSwap.one (t := 5) rfl (cSwap.keep (t := 6) rfl (cSwap.keep (t := 7) rfl cSwap.nil))))))) ?_
                  have sw1 : fget (fset w2 0 (atL l + 11) (.vec 3 (gA + 1) (n64s (kept ++ [k])))) 0 (atL l + 11) = some (.vec 3 (gA + 1) (n64s (kept ++ [k]))) := by rw [fget_fset, if_pos ⟨rfl, rfl⟩, jli]; rfl
                  have pr := n64s_part list (i + 1) (list.length - (i + 1)) 0 rfl
                  have oa := n64s_all list
                  have nd := n64s_down (list.drop (i + 1)) 1
                  have nl : (n64s (list.drop (i + 1))).length = list.length - (i + 1) := by simp
                  have tk9 : (n64s (kept ++ [k])).take (kept.length + 1) = n64s (kept ++ [k]) := List.take_of_length_le (by simp)
                  have ap9 : (kept.length + 1 + (list.length - (i + 1))) * 8 ≤ 140737488355328 := by omega
                  have sb1 : i + 1 ≤ list.length := by omega
                  have cgA := wcells_get Si W (atL l) (by omega)
                  have iA : ((atL l : Nat) : Int) < ((2 * Si.n + 2 : Nat) : Int) := by omega
                  have aA : atL l < 2 * Si.n + 2 := by omega
                  have lwA : (wcells Si W).length = 2 * Si.n + 2 := by simp
                  refine Run.seq ?_
                  have fx := And.intro lwA (And.intro aA (And.intro iA (And.intro cgA (And.intro sb1 (And.intro ap9 (And.intro tk9 (And.intro nl (And.intro nd (And.intro oa (And.intro pr (And.intro sw1 (And.intro htk (And.intro hap (And.intro wj (And.intro fj (And.intro djp (And.intro dj (And.intro hs15 (And.intro r0 (And.intro f0 (And.intro jcv (And.intro jwc (And.intro jbx (And.intro (@fget_fset) (And.intro (@List.length_set.{0}) (And.intro n1 (And.intro n0 (And.intro lc0 (And.intro p1 (And.intro p0 (And.intro g1 (And.intro g0 (And.intro hki2 (And.intro hcv (And.intro hcg (And.intro ico (And.intro ibx (And.intro wii (And.intro hii (And.intro hgk (And.intro ili (And.intro h1wc (And.intro h1bx (And.intro (@Nat.zero_add) (And.intro (@Int.toNat_natCast) (And.intro (@Int.natCast_nonneg) (And.intro hai (And.intro hwg (And.intro hgi (And.intro wl (And.intro hgt (And.intro wi (And.intro htr (And.intro hbx ft))))))))))))))))))))))))))))))))))))))))))))))))))))))
                  refine Run.drawA fun K hK => ?_
                  refine DOps.sim ?_
                  refine DOps.call (.i (atL l : Nat)) [] [] rfl rfl rfl rfl (by kernel_rfl) (by simp [Agree]) (fun u hu => hat u) ?_
                  refine DOps.sim ?_
                  refine DOps.nil ?_ (hK _ ?_)
                  · rfl
                  clear hK K
                  refine End.kp [7] ?_
                  refine Run.seq ?_
                  refine Run.go ?_
                  refine End.kp [2] ?_
                  refine Run.ret (hQ _ _ ⟨.inr rfl, _, rfl, _, rfl, ?_⟩)
                  have e1 : (n64s (kept ++ [k]) ++ n64s (list.drop (i + 1))) = n64s ((kept ++ [k]) ++ list.drop (i + 1)) := by simp
                  have e2 : ((kept ++ [k]) ++ list.drop (i + 1)).length = kept.length + 1 + (list.length - (i + 1)) := by simp only [List.length_append, List.length_cons, List.length_nil, List.length_drop]
                  have y4 := wcells_put (Si.putC k c1) W (atL l) (gA + 2) ((kept ++ [k]) ++ list.drop (i + 1)) (by show atL l < 2 * Si.n + 2; omega) hsw2.len.wl
                  rw [e2] at y4
                  have hcl9 : (Si.putC k c1).cl.length = Si.cl.length := by simp [Sol.putC]
                  have hfs2 : Sol.spread m S = ((Si.putC k c1).putW (atL l) ((kept ++ [k]) ++ list.drop (i + 1)), some k) := by rw [hfs, hI.eq, hdr, inner_bad hv]
                  have hk5 := hK0.trans (hk1.trans (hI.kp.trans (hk2.trans (wU_kept hA2 (i := atL l) (g := gA + 2) (ks := (kept ++ [k]) ++ list.drop (i + 1)) (by show atL l < 2 * Si.n + 2; omega) hsw2.len.wl))))
                  rw [wU, ← y4, ← e1] at hk5
                  rw [← heq, hfs2]
                  refine ⟨verW W (atL l) (gA + 2), rfl, hk5, ?_⟩
                  refine hsw2.putW (by show atL l < 2 * Si.n + 2; omega) (fun k' hk' => ?_) ?_
                  · rw [hcl9, hcl]
                    rcases List.mem_append.1 hk' with h | h
                    · rcases List.mem_append.1 h with h | h
                      · have := hI.kl k' h; omega
                      · rw [List.mem_singleton.1 h]; omega
                    · exact hlist.2 _ (List.mem_of_mem_drop h)
                  · rw [show (Si.putC k c1).wl.getD (atL l) [] = list from hI.lst, e2]
                    omega
                · have hb8 : ¬ (Si.is (c1.getD 0 0) = -1) := ne_of_beq_false (show (Si.is (c1.getD 0 0) == -1) = false from hb)
                  have hz8 : Si.is (c1.getD 0 0) = 0 := by
                    rcases is_cases hSi.len hy0 with h | h | h
                    · exact absurd h hb5
                    · exact absurd h hb8
                    · exact h
                  have hv : Sol.visit l Si kept k = ((Si.putC k c1).set (c1.getD 0 0) k, kept ++ [k], false) := by simp only [Sol.visit, hc0, ← hc1, if_neg hb5, if_neg hjv, if_neg hb8]
                  have hsx := hsw2.set (k : Int) hy0 (is_zero hz8)
                  have hkx := setU_kept hA2 (c1.getD 0 0) (k : Int)
                  have hst1 : ∀ (loc : List AObj), ACalls Try.prog 148 [.ptr 1 5 0, .i (c1.getD 0 0), .i (k : Nat)] (loc :: w2) fun v u => v = .tup [] ∧ u = loc :: setU w2 0 (Si.putC k c1) W (c1.getD 0 0) k := fun loc => set_ok (Si.putC k c1) W 1 _ (hA2.cons _) hsw2.len _ _ hy0
                  refine Run.skip ?_
                  refine End.kp [0, 3, 4, 5, 7, 8, 46, 47, 48] ?_
                  have fx := And.intro htk (And.intro hap (And.intro wj (And.intro fj (And.intro djp (And.intro dj (And.intro hs15 (And.intro r0 (And.intro f0 (And.intro jcv (And.intro jwc (And.intro jbx (And.intro (@fget_fset) (And.intro (@List.length_set.{0}) (And.intro n1 (And.intro n0 (And.intro lc0 (And.intro p1 (And.intro p0 (And.intro g1 (And.intro g0 (And.intro hki2 (And.intro hcv (And.intro hcg (And.intro ico (And.intro ibx (And.intro wii (And.intro hii (And.intro hgk (And.intro ili (And.intro h1wc (And.intro h1bx (And.intro (@Nat.zero_add) (And.intro (@Int.toNat_natCast) (And.intro (@Int.natCast_nonneg) (And.intro hai (And.intro hwg (And.intro hgi (And.intro wl (And.intro hgt (And.intro wi (And.intro htr (And.intro hbx ft))))))))))))))))))))))))))))))))))))))))))
                  refine Run.region rfl fun K hK => GOps.sim ?_
                  refine GOps.call rfl rfl rfl rfl (by kernel_rfl) (ACalls.sim ?_)
                  refine (hst1 _).mono fun v u hv => ?_
                  obtain ⟨rfl, rfl⟩ := hv
                  refine ⟨_, _, rfl, GOps.sim ?_⟩
                  refine GOps.done (hK _ ?_); clear hK K
                  refine End.blk ?_
                  refine End.kp [0, 3, 4, 5, 46, 47, 48] ?_
                  refine Run.go ?_
                  refine End.lp ?_
                  refine ⟨list.length - (i + 1), _, by omega, Ghost.form [(0, .ptr 1 5 0), (3, .i l), (4, .vs 1 (atL l + 11) 0 list.length gA), (5, .vs 0 0 0 (kept.length + 1) (g + 1)), (46, .vs 1 (atL l + 11) 0 list.length gA), (47, .i list.length), (48, .i (i + 1 : Nat))] 1 ⟨rfl, rfl, rfl, rfl, rfl, rfl, rfl, trivial⟩ rfl (by simp only [ASt.push, List.nil_append, List.cons_append, List.take_succ_cons, List.take_zero, List.all_cons, List.all_nil, AObj.under, unders_append, unders_ims, unders, PV.under, Bool.and_true, Bool.and_self]), i + 1, (Si.putC k c1).set (c1.getD 0 0) k, kept ++ [k], setV W, setU w2 0 (Si.putC k c1) W (c1.getD 0 0) k, g + 1, rfl, by omega, hI.next hdr hv (hk2.trans hkx) hsx (by rw [List.length_append]; simp only [List.length_cons, List.length_nil]; omega) hI.lst hI.ver ?_ (fun y hy => ?_), ?_⟩
                  · rw [is_set_ne (S := Si.putC k c1) (by rw [hsw2.len.val]; have := hy0.2; show _ < Si.n + 1; omega) (fun e => ?_)]
                    · exact hI.fal
                    · have h9 := hI.fal
                      unfold Sol.is at h9 hz8
                      rw [e] at h9
                      split at h9 <;> split at hz8 <;> omega
                  · rw [show ((Si.putC k c1).set (c1.getD 0 0) k).cl.length = Si.cl.length by simp [Sol.putC, Sol.set]]
                    rcases List.mem_append.1 hy with h | h
                    · exact hI.kl y h
                    · rw [List.mem_singleton.1 h]; exact hki
                  · rw [← app_one, List.length_append]
                    rfl
    · have hb3 := of_decide_eq_false hb
      have hil : i = list.length := by omega
      have hv0 : Sol.inner l list (headS S) [] = (Si.putW (atL l) kept, none) := by rw [hI.eq, hil, List.drop_length]; rfl
      rw [hv0] at hfs
      refine Run.ghost (Ghost.swapVec 0 0 1 (atL l + 11) (m1 := kept.map fun (x : Nat) => Im.int .i64 (x : Int)) (m2 := list.map fun (x : Nat) => Im.int .i64 (x : Int)) rfl ili (fun h => absurd h.1 (by decide)) rfl (cSwap.keep (t := 0) rfl (cSwap.keep (t := 3) rfl (cSwap.one (t := 5) rfl cSwap.nil)))) ?_
      have cgA := wcells_get Si W (atL l) (by omega)
      have iA : ((atL l : Nat) : Int) < ((2 * Si.n + 2 : Nat) : Int) := by omega
      have aA : atL l < 2 * Si.n + 2 := by omega
      have lwA : (wcells Si W).length = 2 * Si.n + 2 := by simp
      refine Run.exit rfl ?_
      refine End.kp [0, 3, 5] ?_
      have fx := And.intro lwA (And.intro aA (And.intro iA (And.intro cgA (And.intro iwc (And.intro ibx (And.intro (@fget_fset) (And.intro ili (And.intro h1wc (And.intro h1bx (And.intro (@Nat.zero_add) (And.intro (@Int.toNat_natCast) (And.intro (@Int.natCast_nonneg) (And.intro hai (And.intro hwg (And.intro hgi (And.intro wl (And.intro hgt (And.intro wi (And.intro htr (And.intro hbx ft))))))))))))))))))))
      refine Run.drawA fun K hK => ?_
      refine DOps.sim ?_
      refine DOps.call (.i (atL l : Nat)) [] [] rfl rfl rfl rfl (by kernel_rfl) (by simp [Agree]) (fun u hu => hat u) ?_
      refine DOps.sim ?_
      refine DOps.nil ?_ (hK _ ?_)
      · rfl
      clear hK K
      refine End.blk ?_
      refine End.lp ?_
      have y4 := wcells_put Si W (atL l) (gA + 1) kept (by omega) hSi.len.wl
      have hk5 := hK0.trans (hk1.trans (hI.kp.trans (wU_kept hAi (i := atL l) (g := gA + 1) (ks := kept) (by omega) hSi.len.wl)))
      rw [wU, ← y4] at hk5
      have hhh : Si.head = S.head + 1 := hI.hdd
      refine ⟨m - 1, _, by have := hK0.n; omega, Ghost.form [(0, .ptr 1 5 0)] 0 ⟨rfl, trivial⟩ rfl (by simp only [ASt.push, List.nil_append, List.cons_append, List.take_succ_cons, List.take_zero, List.all_cons, List.all_nil, AObj.under, unders_append, unders_ims, unders, PV.under, Bool.and_true, Bool.and_self]), m - 1, Si.putW (atL l) kept, verW W (atL l) (gA + 1), _, rfl, by show S0.n + 1 ≤ m - 1 + Si.head; omega, by rw [← heq, hfs], ?_, hk5, rfl⟩
      refine hSi.putW (by omega) hI.kl ?_
      rw [hI.lst]
      omega
  · have hb2 := of_decide_eq_false hb
    have hin : ¬ (S.head < S.tr.length) := by omega
    have hfs : Sol.spread m S = (S, none) := by
      cases m with
      | zero => rfl
      | succ f2 => rw [Sol.spread, if_neg hin]
    rw [hfs] at heq
    refine Run.exit rfl ?_
    refine End.kp [] ?_
    refine Run.seq ?_
    have fx := And.intro htr (And.intro hbx ft)
    refine Run.go ?_
    refine End.kp [2] ?_
    refine Run.ret (hQ _ _ ⟨.inr rfl, _, rfl, _, rfl, ?_⟩)
    exact ⟨V, by rw [← heq]; exact ⟨rfl, hK0, hS⟩⟩
end Go.Proofs.YtdgpmopcmacicaaPi

/- The walk of learn. -/
set_option linter.unusedVariables false
set_option linter.unusedSimpArgs false
set_option maxRecDepth 100000
namespace Go.Proofs.YtdgpmopcmacicaaPi
set_option maxHeartbeats 40000000
/-- The map of the variables that were seen. -/
def entV (l : List Int) : List (List Im × Im) := l.map fun i => ([.int .i64 i], .bool true)
theorem sameV_ne (s x : Int) (h : x ≠ s) : sameIm Try.prog 3 (.int .i64 s) (.int .i64 x) = some false := by
  simp only [sameIm, ty_3, Option.isSome_some, if_true]
  simpa using fun e : s = x => h e.symm
theorem sameV_eq (s : Int) : sameIm Try.prog 3 (.int .i64 s) (.int .i64 s) = some true := by
  simp only [sameIm, ty_3, Option.isSome_some, if_true]
  simp
theorem findV_none (s : Int) : ∀ (l : List Int) (i : Nat), s ∉ l → findIm Try.prog 3 (.int .i64 s) (entV l) i = some none
  | [], i, _ => rfl
  | x :: xs, i, h => by
    simp only [List.mem_cons, not_or] at h
    simp only [entV, List.map_cons, findIm, sameV_ne s x (fun e => h.1 e.symm)]
    exact findV_none s xs (i + 1) h.2
theorem findV_some (s : Int) : ∀ (l : List Int) (i : Nat), s ∈ l → ∃ k, findIm Try.prog 3 (.int .i64 s) (entV l) i = some (some (k, .bool true))
  | [], i, h => by simp at h
  | x :: xs, i, h => by
    by_cases e : x = s
    · subst e
      exact ⟨i, by simp only [entV, List.map_cons, findIm, sameV_eq]⟩
    · rcases List.mem_cons.1 h with h | h
      · exact absurd h.symm e
      · obtain ⟨k, h1⟩ := findV_some s xs (i + 1) h
        refine ⟨k, ?_⟩
        simp only [entV, List.map_cons, findIm, sameV_ne s x e]
        simpa only [entV] using h1
theorem mgs_ims (m : Nat) : ∀ l : List Im, mgs m (l.map PV.im) = l.map PV.im
  | [] => rfl
  | x :: xs => by simp only [List.map_cons, mgs, PV.mg, mgs_ims m xs]
theorem entV_snoc (l : List Int) (x : Int) : entV l ++ [([.int .i64 x], .bool true)] = entV (l ++ [x]) := by simp [entV]
theorem DOps.lookI {P : Program} {n : Nat} {st : ASt} {deps : List (List Nat)} {K : ASt → Prop} {gs : List GO} {acc : List Met} {dst : Option Nat} {gd : Option (Nat × Bool)} {t kt e : TypeId} {m k : Operand} {ok : Bool} {z : Im} {d j : Nat} (kk : Im) (es : List (List Im × Im)) (r : Option (Nat × Im)) (y : PV)
    (hf : findIm P kt kk es 0 = some r) (hrd : fget st.fr d j = some (.map es)) (hy : hitPV z ok r = y) (hk : DOps P n deps gs (acc ++ [⟨[(d, j)], [], [], []⟩]) (st.put dst y) K)
    (hg : guardA st.env gd = some true := by rfl) (hd : okDst n dst = true := by rfl) (hm : evalPV st m = some (.map d j) := by rfl) (hkk : evalPV st k = some (.im kk) := by rfl) (hmt : mapT P t = some (kt, e) := by (simp only [fx] <;> with_reducible rfl)) (hko : keyOk P kt kk = true := by (simp only [keyOk, fx] <;> rfl)) (hz : zeroOne P e = some z := by (simp only [fx] <;> with_reducible rfl)) :
    DOps P n deps (⟨dst, .lookup t m k ok, gd⟩ :: gs) acc st K := by
  subst hy
  refine DOps.opX (hitPV z ok r) [((d, j), .map es)] [] hg hd (fun p hp => by simp at hp; subst hp; exact hrd) (fun s hs ha => ?_) hk
  have h1 := hs.ev (x := m) (by simp [opndsO]) hm
  have h2 := hs.ev (x := k) (by simp [opndsO]) hkk
  have h3 : look s.fr d j = some (.map es) := ha ((d, j), .map es) (by simp)
  refine stepX_ok ?_
  simp only [stepX, stepV, h1, h2, lookupV, imPV, hmt, h3, hz, hko, hf, if_true, Option.map_some]
  cases r with
  | none => rfl
  | some p => rfl
theorem learn_ok (S : Sol) (V : Ver) (B : Nat) (f : List AObj) (rest : Frs) (hA : SAt (f :: rest) 0 S V) (hS : SW S B) (k0 : Nat) (hC : Confl S k0) (hp : 0 < S.st.length) (hst : ∀ x ∈ S.st, x < S.tr.length) : ACalls Try.prog 143 [.ptr 0 5 0, .i (k0 : Nat)] (f :: rest) fun v u =>
    ∃ (c : List Int) (to g : Nat) (es : List (List Im × Im)), v = .tup [.vs 0 (f.length + 1) 0 c.length g, .i (to : Nat)] ∧ u = (f ++ [.map es, .vec 3 g (i64s c)]) :: rest ∧ Lesson S c to ∧ c.length ≤ S.n ∧ ∀ M, Snd M S → HoldsC M c := by
  obtain ⟨up, hup⟩ : ∃ up, up = f :: rest := ⟨_, rfl⟩
  rw [← hup] at hA
  have hbx := hA.box
  have htr := hA.trl
  have hco := hA.clo
  have hlv := hA.lev
  have hwy := hA.why
  have hcl := hA.cli
  have hn := hS.len.n
  have htn := hS.len.trn
  have hsn := hS.len.stn
  have ht0 : 0 < S.tr.length := by have := hst _ (getD_mem (l := S.st) (i := 0) (d := 0) hp); omega
  have w1 : IntKind.i64.wrap ((S.tr.length : Int) - 1) = ((S.tr.length - 1 : Nat) : Int) := by rw [wrap64 (by omega)]; omega
  rw [hup] at hbx htr hco hlv hwy hcl
  refine ACalls.codeX Try.func143 rfl 173 rfl (by simp) [.tmp 4, .tmp 5] rfl fun Q hQ => ?_
  simp only [ups, PV.up, argEnv]
  have ft := And.intro ty_3 (And.intro ty_4 (And.intro ty_5 (And.intro ty_6 (And.intro ty_22 (And.intro ty_81 (And.intro ty_122 (And.intro ty_216 (And.intro ty_219 trivial))))))))
  refine Run.seq ?_
  have fx := And.intro (@Int.toNat_natCast) (And.intro (@Int.natCast_nonneg) (And.intro (@Nat.zero_add) (And.intro w1 (And.intro hwy (And.intro hlv (And.intro hco (And.intro htr (And.intro hbx ft))))))))
  refine Run.go ?_
  refine End.kp [0, 1] ?_
  refine Run.seq ?_
  refine Run.go ?_
  refine End.kp [0, 1, 6] ?_
  refine Run.seq ?_
  refine Run.go ?_
  refine End.kp [0, 1, 6, 7] ?_
  refine Run.seq ?_
  refine Run.region rfl fun K hK => GOps.litVec rfl (by simp only [litW, fx] <;> rfl) ?_
  refine GOps.sim ?_
  refine GOps.done (hK _ ?_); clear hK K
  refine End.kp [0, 1, 6, 7, 8] ?_
  refine Run.seq ?_
  have fx := And.intro (@Int.toNat_natCast) (And.intro (@Int.natCast_nonneg) (And.intro (@Nat.zero_add) (And.intro w1 (And.intro hwy (And.intro hlv (And.intro hco (And.intro htr (And.intro hbx ft))))))))
  refine Run.drawA fun K hK => ?_
  refine DOps.sim ?_
  refine DOps.nil ?_ (hK _ ?_)
  · rfl
  clear hK K
  refine End.kp [0, 1, 6, 7, 8, 9, 10] ?_
  refine Run.seq ?_
  refine Run.go ?_
  refine End.kp [0, 1, 6, 7, 8, 9, 10, 11] ?_
  refine Run.seq ?_
  refine Run.block ?_
  refine Run.ghost (Ghost.form [(0, .ptr 1 5 0), (1, .i (k0 : Nat)), (6, .i (S.st.length : Nat)), (7, .map 0 0), (8, .vs 0 1 0 1 0), (9, .i (0 : Nat)), (10, .i (S.tr.length - 1 : Nat)), (11, .i 0)] 2 ⟨rfl, rfl, rfl, rfl, rfl, rfl, rfl, rfl, trivial⟩ rfl (by simp only [ASt.push, List.nil_append, List.cons_append, List.take_succ_cons, List.take_zero, List.all_cons, List.all_nil, AObj.under, i64s_set, unders_append, unders_ims, unders, PV.under, Bool.and_true, Bool.and_self])) ?_
  refine Run.loop (fun m st => ∃ (i k : Nat) (skip : Int) (seen out : List Int) (P : List Nat) (g : Nat), m = i ∧ k < S.cl.length ∧ Gth S i skip (S.cla k) 0 seen out P ∧ st = ⟨[(0, .ptr 1 5 0), (1, .i (k : Nat)), (6, .i (S.st.length : Nat)), (7, .map 0 0), (8, .vs 0 1 0 out.length g), (9, .i (P.length : Nat)), (10, .i (i : Nat)), (11, .i skip)], [.map (entV seen), .vec 3 g (i64s out)], f :: rest⟩) (S.tr.length - 1) ⟨S.tr.length - 1, k0, 0, [], [0], [], 0, rfl, hC.kl, hC.start hS hp ht0, rfl⟩ fun m st hI => ?_
  obtain ⟨i, k, skip, seen, out, P, g, hmi, hk, hG, rfl⟩ := hI
  subst m
  have gk := ccells_get S k hk
  have hki : (k : Int) < (S.cl.length : Int) := by omega
  have hck := hcl k hk
  obtain ⟨hc2, hc3, hLok⟩ := hS.cl (k := k) hk
  change Gth S i skip (S.cl.getD k []) 0 seen out P at hG
  generalize S.cl.getD k [] = c at hG gk hck hc2 hc3 hLok
  refine Run.block ?_
  refine Run.seq ?_
  refine Run.seq ?_
  have fx := And.intro hk (And.intro hki (And.intro gk (And.intro (@Int.toNat_natCast) (And.intro (@Int.natCast_nonneg) (And.intro (@Nat.zero_add) (And.intro w1 (And.intro hwy (And.intro hlv (And.intro hco (And.intro htr (And.intro hbx ft)))))))))))
  refine Run.go ?_
  refine End.kp [0, 6, 7, 8, 9, 10, 11, 38, 39, 40] ?_
  refine Run.block ?_
  refine Run.ghost (Ghost.form [(0, .ptr 1 5 0), (6, .i (S.st.length : Nat)), (7, .map 0 0), (8, .vs 0 1 0 out.length g), (9, .i (P.length : Nat)), (10, .i (i : Nat)), (11, .i skip), (38, .vs 1 (k + (2 * S.n + 2) + 11) 0 c.length 0), (39, .i c.length), (40, .i (0 : Nat))] 2 ⟨rfl, rfl, rfl, rfl, rfl, rfl, rfl, rfl, rfl, rfl, trivial⟩ rfl (by simp only [ASt.push, List.nil_append, List.cons_append, List.take_succ_cons, List.take_zero, List.all_cons, List.all_nil, AObj.under, i64s_set, unders_append, unders_ims, unders, PV.under, Bool.and_true, Bool.and_self])) ?_
  refine Run.loop (fun m st => ∃ (q : Nat) (seen out : List Int) (P : List Nat) (g : Nat), m = c.length - q ∧ q ≤ c.length ∧ Gth S i skip c q seen out P ∧ st = ⟨[(0, .ptr 1 5 0), (6, .i (S.st.length : Nat)), (7, .map 0 0), (8, .vs 0 1 0 out.length g), (9, .i (P.length : Nat)), (10, .i (i : Nat)), (11, .i skip), (38, .vs 1 (k + (2 * S.n + 2) + 11) 0 c.length 0), (39, .i c.length), (40, .i (q : Nat))], [.map (entV seen), .vec 3 g (i64s out)], f :: rest⟩) c.length ⟨0, seen, out, P, g, rfl, by omega, hG, rfl⟩ fun m st hJ => ?_
  clear hG
  obtain ⟨q, seen, out, P, g, rfl, hq, hG, rfl⟩ := hJ
  refine Run.seq ?_
  have fx := And.intro hck (And.intro hk (And.intro hki (And.intro gk (And.intro (@Int.toNat_natCast) (And.intro (@Int.natCast_nonneg) (And.intro (@Nat.zero_add) (And.intro w1 (And.intro hwy (And.intro hlv (And.intro hco (And.intro htr (And.intro hbx ft))))))))))))
  refine Run.go ?_
  refine End.kp [0, 6, 7, 8, 9, 10, 11, 38, 39, 40, 41] ?_
  refine Run.seq ?_
  refine Run.cond _ rfl (fun hb => ?_) (fun hb => ?_)
  · have hb2 := of_decide_eq_true hb
    have hql : q < c.length := by omega
    have gq := i64s_get c q hql
    have hqi : (q : Int) < (c.length : Int) := by omega
    have wq := nsucc hql (by omega)
    obtain ⟨l, hl⟩ : ∃ l, l = c.getD q 0 := ⟨_, rfl⟩
    have hlm : l ∈ c := by rw [hl]; exact getD_mem hql
    have hsk := Gth.skip hS hC.inv hp hG hql
    have hnw := Gth.now hS hC.inv hG hql
    have hot := Gth.out hS hC.inv hG hql
    rw [← hl] at gq hsk hnw hot
    obtain ⟨ol, pl⟩ := hG.li.len hS
    
    have hlo := hLok l hlm
    obtain ⟨l0, l1⟩ := hlo
    have wn : IntKind.i64.wrap (0 - l) = -l := by rw [wrap64 (by omega)]; omega
    have hmx : (if l < -l then -l else l) = (l.natAbs : Int) := by split <;> omega
    have q1 : ((l.natAbs : Nat) : Int) < ((S.n + 1 : Nat) : Int) := by omega
    have glv := n64s_get S.lev l.natAbs (by rw [hS.len.lev]; omega)
    
    have wp : IntKind.i64.wrap ((P.length : Int) + 1) = ((P.length + 1 : Nat) : Int) := by rw [wrap64 (by omega)]; rfl
    have hap : (out.length + 1) * 8 ≤ 140737488355328 := by omega
    have tko : (i64s out).take out.length = i64s out := List.take_of_length_le (by simp)
    refine Run.skip ?_
    refine End.kp [0, 6, 7, 8, 9, 10, 11, 38, 39, 40] ?_
    refine Run.seq ?_
    refine Run.block ?_
    refine Run.seq ?_
    have fx := And.intro tko (And.intro hap (And.intro wp (And.intro glv (And.intro q1 (And.intro hmx (And.intro wn (And.intro wq (And.intro hqi (And.intro gq (And.intro hck (And.intro hk (And.intro hki (And.intro gk (And.intro (@Int.toNat_natCast) (And.intro (@Int.natCast_nonneg) (And.intro (@Nat.zero_add) (And.intro w1 (And.intro hwy (And.intro hlv (And.intro hco (And.intro htr (And.intro hbx ft))))))))))))))))))))))
    refine Run.go ?_
    refine End.kp [0, 6, 7, 8, 9, 10, 11, 13, 38, 39, 40] ?_
    refine Run.seq ?_
    refine Run.go ?_
    refine End.kp [0, 6, 7, 8, 9, 10, 11, 13, 14, 38, 39, 40] ?_
    refine Run.seq ?_
    refine Run.seq ?_
    rcases Bool.eq_false_or_eq_true ((l == skip)) with hs10 | hs10
    · skip
      have hsk2 := hsk (.inl (eq_of_beq hs10))
      have hf1 := True.intro
      have fx := And.intro hf1 (And.intro hs10 (And.intro tko (And.intro hap (And.intro wp (And.intro glv (And.intro q1 (And.intro hmx (And.intro wn (And.intro wq (And.intro hqi (And.intro gq (And.intro hck (And.intro hk (And.intro hki (And.intro gk (And.intro (@Int.toNat_natCast) (And.intro (@Int.natCast_nonneg) (And.intro (@Nat.zero_add) (And.intro w1 (And.intro hwy (And.intro hlv (And.intro hco (And.intro htr (And.intro hbx ft))))))))))))))))))))))))
      refine Run.go ?_
      refine End.kp [0, 6, 7, 8, 9, 10, 11, 13, 14, 38, 39, 40, 65] ?_
      refine Run.cond _ rfl (fun hb => ?_) (fun hb => ?_)
      · have hb3 := hb
        refine Run.exit rfl ?_
        refine End.kp [0, 6, 7, 8, 9, 10, 11, 38, 39, 40] ?_
        have fx := And.intro hf1 (And.intro hs10 (And.intro tko (And.intro hap (And.intro wp (And.intro glv (And.intro q1 (And.intro hmx (And.intro wn (And.intro wq (And.intro hqi (And.intro gq (And.intro hck (And.intro hk (And.intro hki (And.intro gk (And.intro (@Int.toNat_natCast) (And.intro (@Int.natCast_nonneg) (And.intro (@Nat.zero_add) (And.intro w1 (And.intro hwy (And.intro hlv (And.intro hco (And.intro htr (And.intro hbx ft))))))))))))))))))))))))
        refine Run.go ?_
        refine End.lp ?_
        refine ⟨c.length - (q + 1), _, by omega, Ghost.form [(0, .ptr 1 5 0), (6, .i (S.st.length : Nat)), (7, .map 0 0), (8, .vs 0 1 0 out.length g), (9, .i (P.length : Nat)), (10, .i (i : Nat)), (11, .i skip), (38, .vs 1 (k + (2 * S.n + 2) + 11) 0 c.length 0), (39, .i c.length), (40, .i (q + 1 : Nat))] 2 ⟨rfl, rfl, rfl, rfl, rfl, rfl, rfl, rfl, rfl, rfl, trivial⟩ rfl (by simp only [ASt.push, List.nil_append, List.cons_append, List.take_succ_cons, List.take_zero, List.all_cons, List.all_nil, AObj.under, i64s_set, unders_append, unders_ims, unders, PV.under, Bool.and_true, Bool.and_self]), q + 1, seen, out, P, g, rfl, by omega, hsk2, rfl⟩
      · have hb3 := hb
        simp at hb
    · skip
      have hne : l ≠ skip := ne_of_beq_false hs10
      rcases Bool.eq_false_or_eq_true (decide (((l.natAbs : Nat) : Int) ∈ seen)) with hs10b | hs10b
      · skip
        have hm := of_decide_eq_true hs10b
        have hsk2 := hsk (.inr (.inl hm))
        obtain ⟨kx, hf1⟩ := findV_some _ seen 0 hm
        have fx := And.intro hf1 (And.intro hs10b (And.intro hs10 (And.intro tko (And.intro hap (And.intro wp (And.intro glv (And.intro q1 (And.intro hmx (And.intro wn (And.intro wq (And.intro hqi (And.intro gq (And.intro hck (And.intro hk (And.intro hki (And.intro gk (And.intro (@Int.toNat_natCast) (And.intro (@Int.natCast_nonneg) (And.intro (@Nat.zero_add) (And.intro w1 (And.intro hwy (And.intro hlv (And.intro hco (And.intro htr (And.intro hbx ft)))))))))))))))))))))))))
        refine Run.go ?_
        refine End.kp [0, 6, 7, 8, 9, 10, 11, 13, 14, 38, 39, 40, 65] ?_
        refine Run.cond _ rfl (fun hb => ?_) (fun hb => ?_)
        · have hb3 := hb
          refine Run.exit rfl ?_
          refine End.kp [0, 6, 7, 8, 9, 10, 11, 38, 39, 40] ?_
          have fx := And.intro hf1 (And.intro hs10b (And.intro hs10 (And.intro tko (And.intro hap (And.intro wp (And.intro glv (And.intro q1 (And.intro hmx (And.intro wn (And.intro wq (And.intro hqi (And.intro gq (And.intro hck (And.intro hk (And.intro hki (And.intro gk (And.intro (@Int.toNat_natCast) (And.intro (@Int.natCast_nonneg) (And.intro (@Nat.zero_add) (And.intro w1 (And.intro hwy (And.intro hlv (And.intro hco (And.intro htr (And.intro hbx ft)))))))))))))))))))))))))
          refine Run.go ?_
          refine End.lp ?_
          refine ⟨c.length - (q + 1), _, by omega, Ghost.form [(0, .ptr 1 5 0), (6, .i (S.st.length : Nat)), (7, .map 0 0), (8, .vs 0 1 0 out.length g), (9, .i (P.length : Nat)), (10, .i (i : Nat)), (11, .i skip), (38, .vs 1 (k + (2 * S.n + 2) + 11) 0 c.length 0), (39, .i c.length), (40, .i (q + 1 : Nat))] 2 ⟨rfl, rfl, rfl, rfl, rfl, rfl, rfl, rfl, rfl, rfl, trivial⟩ rfl (by simp only [ASt.push, List.nil_append, List.cons_append, List.take_succ_cons, List.take_zero, List.all_cons, List.all_nil, AObj.under, i64s_set, unders_append, unders_ims, unders, PV.under, Bool.and_true, Bool.and_self]), q + 1, seen, out, P, g, rfl, by omega, hsk2, rfl⟩
        · have hb3 := hb
          simp at hb
      · skip
        have hm := of_decide_eq_false hs10b
        have hf1 := findV_none _ seen 0 hm
        have fx := And.intro hf1 (And.intro hs10b (And.intro hs10 (And.intro tko (And.intro hap (And.intro wp (And.intro glv (And.intro q1 (And.intro hmx (And.intro wn (And.intro wq (And.intro hqi (And.intro gq (And.intro hck (And.intro hk (And.intro hki (And.intro gk (And.intro (@Int.toNat_natCast) (And.intro (@Int.natCast_nonneg) (And.intro (@Nat.zero_add) (And.intro w1 (And.intro hwy (And.intro hlv (And.intro hco (And.intro htr (And.intro hbx ft)))))))))))))))))))))))))
        refine Run.go ?_
        refine End.kp [0, 6, 7, 8, 9, 10, 11, 13, 14, 38, 39, 40, 65] ?_
        refine Run.cond _ rfl (fun hb => ?_) (fun hb => ?_)
        · have hl0 : S.lvl l = 0 := by have := eq_of_beq hb; unfold Sol.lvl; omega
          refine Run.exit rfl ?_
          refine End.kp [0, 6, 7, 8, 9, 10, 11, 38, 39, 40] ?_
          have fx := And.intro hf1 (And.intro hs10b (And.intro hs10 (And.intro tko (And.intro hap (And.intro wp (And.intro glv (And.intro q1 (And.intro hmx (And.intro wn (And.intro wq (And.intro hqi (And.intro gq (And.intro hck (And.intro hk (And.intro hki (And.intro gk (And.intro (@Int.toNat_natCast) (And.intro (@Int.natCast_nonneg) (And.intro (@Nat.zero_add) (And.intro w1 (And.intro hwy (And.intro hlv (And.intro hco (And.intro htr (And.intro hbx ft)))))))))))))))))))))))))
          refine Run.go ?_
          refine End.lp ?_
          refine ⟨c.length - (q + 1), _, by omega, Ghost.form [(0, .ptr 1 5 0), (6, .i (S.st.length : Nat)), (7, .map 0 0), (8, .vs 0 1 0 out.length g), (9, .i (P.length : Nat)), (10, .i (i : Nat)), (11, .i skip), (38, .vs 1 (k + (2 * S.n + 2) + 11) 0 c.length 0), (39, .i c.length), (40, .i (q + 1 : Nat))] 2 ⟨rfl, rfl, rfl, rfl, rfl, rfl, rfl, rfl, rfl, rfl, trivial⟩ rfl (by simp only [ASt.push, List.nil_append, List.cons_append, List.take_succ_cons, List.take_zero, List.all_cons, List.all_nil, AObj.under, i64s_set, unders_append, unders_ims, unders, PV.under, Bool.and_true, Bool.and_self]), q + 1, seen, out, P, g, rfl, by omega, hsk (.inr (.inr hl0)), rfl⟩
        · have hl0 : S.lvl l ≠ 0 := by have := ne_of_beq_false hb; unfold Sol.lvl; omega
          refine Run.skip ?_
          refine End.kp [0, 6, 7, 8, 9, 10, 11, 13, 14, 38, 39, 40] ?_
          refine Run.seq ?_
          have fx := And.intro hf1 (And.intro hs10b (And.intro hs10 (And.intro tko (And.intro hap (And.intro wp (And.intro glv (And.intro q1 (And.intro hmx (And.intro wn (And.intro wq (And.intro hqi (And.intro gq (And.intro hck (And.intro hk (And.intro hki (And.intro gk (And.intro (@Int.toNat_natCast) (And.intro (@Int.natCast_nonneg) (And.intro (@Nat.zero_add) (And.intro w1 (And.intro hwy (And.intro hlv (And.intro hco (And.intro htr (And.intro hbx ft)))))))))))))))))))))))))
          refine Run.go ?_
          refine End.kp [0, 6, 7, 8, 9, 10, 11, 13, 14, 38, 39, 40] ?_
          refine Run.seq ?_
          refine Run.go ?_
          refine End.kp [0, 6, 7, 8, 9, 10, 11, 13, 38, 39, 40, 76] ?_
          refine Run.cond _ rfl (fun hb => ?_) (fun hb => ?_)
          · have hlw : S.lvl l = S.st.length := by have := eq_of_beq hb; unfold Sol.lvl; omega
            have fx := And.intro hf1 (And.intro hs10b (And.intro hs10 (And.intro tko (And.intro hap (And.intro wp (And.intro glv (And.intro q1 (And.intro hmx (And.intro wn (And.intro wq (And.intro hqi (And.intro gq (And.intro hck (And.intro hk (And.intro hki (And.intro gk (And.intro (@Int.toNat_natCast) (And.intro (@Int.natCast_nonneg) (And.intro (@Nat.zero_add) (And.intro w1 (And.intro hwy (And.intro hlv (And.intro hco (And.intro htr (And.intro hbx ft)))))))))))))))))))))))))
            refine Run.go ?_
            refine End.blk ?_
            refine End.kp [0, 6, 7, 8, 9, 10, 11, 38, 39, 40] ?_
            refine Run.go ?_
            refine End.lp ?_
            refine ⟨c.length - (q + 1), _, by omega, Ghost.form [(0, .ptr 1 5 0), (6, .i (S.st.length : Nat)), (7, .map 0 0), (8, .vs 0 1 0 out.length g), (9, .i (P.length + 1 : Nat)), (10, .i (i : Nat)), (11, .i skip), (38, .vs 1 (k + (2 * S.n + 2) + 11) 0 c.length 0), (39, .i c.length), (40, .i (q + 1 : Nat))] 2 ⟨rfl, rfl, rfl, rfl, rfl, rfl, rfl, rfl, rfl, rfl, trivial⟩ rfl (by simp only [ASt.push, List.nil_append, List.cons_append, List.take_succ_cons, List.take_zero, List.all_cons, List.all_nil, AObj.under, i64s_set, unders_append, unders_ims, unders, PV.under, Bool.and_true, Bool.and_self]), q + 1, seen ++ [((l.natAbs : Nat) : Int)], out, P ++ [l.natAbs], g, rfl, by omega, hnw hne hm hlw, ?_⟩
            rw [← entV_snoc, List.length_append]
            rfl
          · have hlw : S.lvl l ≠ S.st.length := by have := ne_of_beq_false hb; unfold Sol.lvl; omega
            have fx := And.intro hf1 (And.intro hs10b (And.intro hs10 (And.intro tko (And.intro hap (And.intro wp (And.intro glv (And.intro q1 (And.intro hmx (And.intro wn (And.intro wq (And.intro hqi (And.intro gq (And.intro hck (And.intro hk (And.intro hki (And.intro gk (And.intro (@Int.toNat_natCast) (And.intro (@Int.natCast_nonneg) (And.intro (@Nat.zero_add) (And.intro w1 (And.intro hwy (And.intro hlv (And.intro hco (And.intro htr (And.intro hbx ft)))))))))))))))))))))))))
            refine Run.go ?_
            refine End.blk ?_
            refine End.kp [0, 6, 7, 8, 9, 10, 11, 38, 39, 40] ?_
            refine Run.go ?_
            refine End.lp ?_
            refine ⟨c.length - (q + 1), _, by omega, Ghost.form [(0, .ptr 1 5 0), (6, .i (S.st.length : Nat)), (7, .map 0 0), (8, .vs 0 1 0 (out.length + 1) (g + 1)), (9, .i (P.length : Nat)), (10, .i (i : Nat)), (11, .i skip), (38, .vs 1 (k + (2 * S.n + 2) + 11) 0 c.length 0), (39, .i c.length), (40, .i (q + 1 : Nat))] 2 ⟨rfl, rfl, rfl, rfl, rfl, rfl, rfl, rfl, rfl, rfl, trivial⟩ rfl (by simp only [ASt.push, List.nil_append, List.cons_append, List.take_succ_cons, List.take_zero, List.all_cons, List.all_nil, AObj.under, i64s_set, unders_append, unders_ims, unders, PV.under, Bool.and_true, Bool.and_self]), q + 1, seen ++ [((l.natAbs : Nat) : Int)], out ++ [l], P, g + 1, rfl, by omega, hot hne hm hl0 hlw, ?_⟩
            have y1 : i64s (out ++ [l]) = i64s out ++ [PV.im (.int .i64 l)] := by simp
            rw [← entV_snoc, List.length_append, y1]
            rfl
  · have hb2 := of_decide_eq_false hb
    have hqe : q = c.length := by omega
    subst hqe
    have hD := hG.dwn
    refine Run.exit rfl ?_
    refine End.kp [0, 6, 7, 8, 9, 10] ?_
    refine Run.seq ?_
    refine Run.block ?_
    refine Run.ghost (Ghost.form [(0, .ptr 1 5 0), (6, .i (S.st.length : Nat)), (7, .map 0 0), (8, .vs 0 1 0 out.length g), (9, .i (P.length : Nat)), (10, .i (i : Nat))] 2 ⟨rfl, rfl, rfl, rfl, rfl, rfl, trivial⟩ rfl (by simp only [ASt.push, List.nil_append, List.cons_append, List.take_succ_cons, List.take_zero, List.all_cons, List.all_nil, AObj.under, i64s_set, unders_append, unders_ims, unders, PV.under, Bool.and_true, Bool.and_self])) ?_
    refine Run.loop (fun m st => ∃ j : Nat, m = j ∧ j ≤ i ∧ Dwn S j seen out P ∧ st = ⟨[(0, .ptr 1 5 0), (6, .i (S.st.length : Nat)), (7, .map 0 0), (8, .vs 0 1 0 out.length g), (9, .i (P.length : Nat)), (10, .i (j : Nat))], [.map (entV seen), .vec 3 g (i64s out)], f :: rest⟩) i ⟨i, rfl, Nat.le_refl _, hD, rfl⟩ fun m2 st hJ => ?_
    clear hD
    obtain ⟨j, hmj, hji, hD, rfl⟩ := hJ
    subst m2
    have hjl := hD.li.il
    have gj : (i64s S.tr ++ i64s V.tx)[j]? = some (.im (.int .i64 (S.lit j))) := by rw [List.getElem?_append_left (by simp; omega)]; exact i64s_get _ _ hjl
    have hjj : (j : Int) < (S.tr.length : Int) := by omega
    have hLj := lit_ok hS hjl
    have hat := hD.at
    have hstp := hD.step
    have hlst := Dwn.last hS hC.inv hD
    have hnxt := Dwn.next hS hC.inv hp hD
    obtain ⟨ol, pl⟩ := hD.li.len hS
    have hpos := hD.li.pos
    have hne0 := hD.ne
    obtain ⟨l, hl⟩ : ∃ l, l = S.lit j := ⟨_, rfl⟩
    rw [← hl] at gj hLj hat hstp hlst hnxt
    obtain ⟨l0, l1⟩ := hLj
    have wn : IntKind.i64.wrap (0 - l) = -l := by rw [wrap64 (by omega)]; omega
    have hmx : (if l < -l then -l else l) = (l.natAbs : Int) := by split <;> omega
    have wj : IntKind.i64.wrap ((j : Int) - 1) = (j : Int) - 1 := wrap64 (by omega)
    have hP0 : 1 ≤ P.length := Nat.one_le_iff_ne_zero.2 (fun e => hne0 (List.eq_nil_of_length_eq_zero e))
    have wp : IntKind.i64.wrap ((P.length : Int) - 1) = ((P.length - 1 : Nat) : Int) := by rw [wrap64 (by omega)]; omega
    have q1 : ((l.natAbs : Nat) : Int) < ((S.n + 1 : Nat) : Int) := by omega
    have gwy := i64s_get S.why l.natAbs (by rw [hS.len.why]; omega)
    have o0 : (0 : Int) < (out.length : Int) := by omega
    have oln : (i64s out).length = out.length := by simp
    refine Run.seq ?_
    refine Run.seq ?_
    rcases Bool.eq_false_or_eq_true (decide (((l.natAbs : Nat) : Int) ∈ seen)) with hs16 | hs16
    · skip
      have hm := of_decide_eq_true hs16
      obtain ⟨kx, hf1⟩ := findV_some _ seen 0 hm
      have fx := And.intro hs16 (And.intro oln (And.intro hpos (And.intro o0 (And.intro gwy (And.intro q1 (And.intro wp (And.intro wj (And.intro hmx (And.intro wn (And.intro hjl (And.intro hjj (And.intro gj (And.intro hck (And.intro hk (And.intro hki (And.intro gk (And.intro (@Int.toNat_natCast) (And.intro (@Int.natCast_nonneg) (And.intro (@Nat.zero_add) (And.intro w1 (And.intro hwy (And.intro hlv (And.intro hco (And.intro htr (And.intro hbx ft)))))))))))))))))))))))))
      refine Run.drawA fun K hK => ?_
      refine DOps.sim ?_
      refine DOps.lookI (d := 0) (j := 0) (.int .i64 (l.natAbs : Nat)) (entV seen) (some (kx, .bool true)) (.im (.bool true)) hf1 rfl rfl ?_
      refine DOps.sim ?_
      refine DOps.nil ?_ (hK _ ?_)
      · rfl
      clear hK K
      refine End.kp [0, 6, 7, 8, 9, 10, 102] ?_
      refine Run.cond _ rfl (fun hb => ?_) (fun hb => ?_)
      · have hb3 := hb
        simp at hb
      · have hb3 := hb
        refine Run.exit rfl ?_
        refine End.kp [0, 6, 7, 8, 9, 10] ?_
        refine Run.seq ?_
        have fx := And.intro hs16 (And.intro oln (And.intro hpos (And.intro o0 (And.intro gwy (And.intro q1 (And.intro wp (And.intro wj (And.intro hmx (And.intro wn (And.intro hjl (And.intro hjj (And.intro gj (And.intro hck (And.intro hk (And.intro hki (And.intro gk (And.intro (@Int.toNat_natCast) (And.intro (@Int.natCast_nonneg) (And.intro (@Nat.zero_add) (And.intro w1 (And.intro hwy (And.intro hlv (And.intro hco (And.intro htr (And.intro hbx ft)))))))))))))))))))))))))
        refine Run.go ?_
        refine End.kp [0, 6, 7, 8, 9, 10, 15] ?_
        refine Run.seq ?_
        refine Run.go ?_
        refine End.kp [0, 6, 7, 8, 9, 10, 15] ?_
        refine Run.seq ?_
        refine Run.seq ?_
        refine Run.go ?_
        refine End.kp [0, 6, 7, 8, 9, 10, 15] ?_
        refine Run.seq ?_
        refine Run.go ?_
        refine End.kp [0, 6, 7, 8, 9, 10, 15, 117] ?_
        refine Run.cond _ rfl (fun hb => ?_) (fun hb => ?_)
        · have hP1 : P.length = 1 := by have := eq_of_beq hb; omega
          have hGd := hlst hm hP1
          refine Run.seq ?_
          have fx := And.intro hs16 (And.intro oln (And.intro hpos (And.intro o0 (And.intro gwy (And.intro q1 (And.intro wp (And.intro wj (And.intro hmx (And.intro wn (And.intro hjl (And.intro hjj (And.intro gj (And.intro hck (And.intro hk (And.intro hki (And.intro gk (And.intro (@Int.toNat_natCast) (And.intro (@Int.natCast_nonneg) (And.intro (@Nat.zero_add) (And.intro w1 (And.intro hwy (And.intro hlv (And.intro hco (And.intro htr (And.intro hbx ft)))))))))))))))))))))))))
          refine Run.go ?_
          refine End.kp [0, 8] ?_
          refine Run.exit rfl ?_
          refine End.kp [0, 8] ?_
          refine Run.seq ?_
          refine Run.go ?_
          refine End.kp [0, 8, 16] ?_
          refine Run.seq ?_
          refine Run.seq ?_
          refine Run.go ?_
          refine End.kp [0, 8, 16, 17] ?_
          refine Run.block ?_
          refine Run.ghost (Ghost.form [(0, .ptr 1 5 0), (8, .vs 0 1 0 out.length g), (16, .i (0 : Nat)), (17, .i (1 : Nat))] 2 ⟨rfl, rfl, rfl, rfl, trivial⟩ rfl (by simp only [ASt.push, List.nil_append, List.cons_append, List.take_succ_cons, List.take_zero, List.all_cons, List.all_nil, AObj.under, i64s_set, unders_append, unders_ims, unders, PV.under, Bool.and_true, Bool.and_self])) ?_
          refine Run.loop (fun m st => ∃ (p to : Nat) (o : List Int), m = o.length - p ∧ Pck S p o to ∧ st = ⟨[(0, .ptr 1 5 0), (8, .vs 0 1 0 o.length g), (16, .i (to : Nat)), (17, .i (p : Nat))], [.map (entV seen), .vec 3 g (i64s o)], f :: rest⟩) (out.length - 1) ⟨1, 0, out.set 0 (-l), by rw [List.length_set], hGd.pck, by rw [List.length_set, ← i64s_set]; rfl⟩ fun m3 st hJ => ?_
          obtain ⟨p, to, o, hmp, hPk, rfl⟩ := hJ
          subst m3
          refine Run.seq ?_
          refine Run.seq ?_
          have fx := And.intro hs16 (And.intro oln (And.intro hpos (And.intro o0 (And.intro gwy (And.intro q1 (And.intro wp (And.intro wj (And.intro hmx (And.intro wn (And.intro hjl (And.intro hjj (And.intro gj (And.intro hck (And.intro hk (And.intro hki (And.intro gk (And.intro (@Int.toNat_natCast) (And.intro (@Int.natCast_nonneg) (And.intro (@Nat.zero_add) (And.intro w1 (And.intro hwy (And.intro hlv (And.intro hco (And.intro htr (And.intro hbx ft)))))))))))))))))))))))))
          refine Run.go ?_
          refine End.kp [0, 8, 16, 17, 136] ?_
          refine Run.cond _ rfl (fun hb => ?_) (fun hb => ?_)
          · have hb4 := of_decide_eq_true hb
            have hpl : p < o.length := by omega
            have gp := i64s_get o p hpl
            have hpp : (p : Int) < (o.length : Int) := by omega
            have hp1 := hPk.j1
            have ho1 : 1 < o.length := by omega
            have gp1 := i64s_get o 1 ho1
            have ho11 : (1 : Int) < (o.length : Int) := by omega
            have olen := hPk.good.len hS
            have wp2 := nsucc hpl (by omega)
            obtain ⟨x, hx⟩ : ∃ x, x = o.getD p 0 := ⟨_, rfl⟩
            have hxk : LitOk S.n x := by
              obtain ⟨ii, h1, h2⟩ := hPk.good.on x (by rw [hx]; exact getD_mem hpl)
              have := lit_ok hS h1
              rw [h2] at this
              exact ⟨by have := this.1; omega, by have := this.2; rwa [Int.natAbs_neg] at this⟩
            have hmo := hPk.more hpl
            have hsm := hPk.same hpl
            have hsw := swap_cells o 1 p
            rw [← hx] at gp hmo hsm hsw
            obtain ⟨x0, x1⟩ := hxk
            have wnx : IntKind.i64.wrap (0 - x) = -x := by rw [wrap64 (by omega)]; omega
            have hmxx : (if x < -x then -x else x) = (x.natAbs : Int) := by split <;> omega
            have qx : ((x.natAbs : Nat) : Int) < ((S.n + 1 : Nat) : Int) := by omega
            have glx := n64s_get S.lev x.natAbs (by rw [hS.len.lev]; omega)
            have olx : (i64s o).length = o.length := by simp
            refine Run.skip ?_
            refine End.kp [0, 8, 16, 17] ?_
            refine Run.seq ?_
            refine Run.block ?_
            refine Run.seq ?_
            have fx := And.intro (@List.length_set.{0}) (And.intro olx (And.intro glx (And.intro qx (And.intro hmxx (And.intro wnx (And.intro wp2 (And.intro ho1 (And.intro ho11 (And.intro gp1 (And.intro hpl (And.intro hpp (And.intro gp (And.intro hs16 (And.intro oln (And.intro hpos (And.intro o0 (And.intro gwy (And.intro q1 (And.intro wp (And.intro wj (And.intro hmx (And.intro wn (And.intro hjl (And.intro hjj (And.intro gj (And.intro hck (And.intro hk (And.intro hki (And.intro gk (And.intro (@Int.toNat_natCast) (And.intro (@Int.natCast_nonneg) (And.intro (@Nat.zero_add) (And.intro w1 (And.intro hwy (And.intro hlv (And.intro hco (And.intro htr (And.intro hbx ft))))))))))))))))))))))))))))))))))))))
            refine Run.drawA fun K hK => ?_
            refine DOps.sim ?_
            refine DOps.nil ?_ (hK _ ?_)
            · rfl
            clear hK K
            refine End.kp [0, 8, 16, 17, 18] ?_
            refine Run.seq ?_
            refine Run.go ?_
            refine End.kp [0, 8, 16, 17, 18, 157] ?_
            refine Run.cond _ rfl (fun hb => ?_) (fun hb => ?_)
            · have hgt : to < S.lvl x := by have := of_decide_eq_true hb; unfold Sol.lvl; omega
              refine Run.seq ?_
              have fx := And.intro (@List.length_set.{0}) (And.intro olx (And.intro glx (And.intro qx (And.intro hmxx (And.intro wnx (And.intro wp2 (And.intro ho1 (And.intro ho11 (And.intro gp1 (And.intro hpl (And.intro hpp (And.intro gp (And.intro hs16 (And.intro oln (And.intro hpos (And.intro o0 (And.intro gwy (And.intro q1 (And.intro wp (And.intro wj (And.intro hmx (And.intro wn (And.intro hjl (And.intro hjj (And.intro gj (And.intro hck (And.intro hk (And.intro hki (And.intro gk (And.intro (@Int.toNat_natCast) (And.intro (@Int.natCast_nonneg) (And.intro (@Nat.zero_add) (And.intro w1 (And.intro hwy (And.intro hlv (And.intro hco (And.intro htr (And.intro hbx ft))))))))))))))))))))))))))))))))))))))
              refine Run.go ?_
              refine End.kp [0, 8, 16, 17] ?_
              refine Run.drawA fun K hK => ?_
              refine DOps.sim ?_
              refine DOps.nil ?_ (hK _ ?_)
              · rfl
              clear hK K
              refine End.blk ?_
              refine End.kp [0, 8, 16, 17] ?_
              refine Run.go ?_
              refine End.lp ?_
              refine ⟨o.length - (p + 1), _, by omega, Ghost.form [(0, .ptr 1 5 0), (8, .vs 0 1 0 o.length g), (16, .i (S.lev.getD x.natAbs 0 : Nat)), (17, .i (p + 1 : Nat))] 2 ⟨rfl, rfl, rfl, rfl, trivial⟩ rfl (by simp only [ASt.push, List.nil_append, List.cons_append, List.take_succ_cons, List.take_zero, List.all_cons, List.all_nil, AObj.under, i64s_set, unders_append, unders_ims, unders, PV.under, Bool.and_true, Bool.and_self]), p + 1, S.lvl x, Sol.swapAt o 1 p, by rw [swapAt_len], hmo hgt, ?_⟩
              rw [swapAt_len, ← hsw]
              rfl
            · have hgt : S.lvl x ≤ to := by have := of_decide_eq_false hb; unfold Sol.lvl; omega
              refine Run.skip ?_
              refine End.blk ?_
              refine End.kp [0, 8, 16, 17] ?_
              have fx := And.intro (@List.length_set.{0}) (And.intro olx (And.intro glx (And.intro qx (And.intro hmxx (And.intro wnx (And.intro wp2 (And.intro ho1 (And.intro ho11 (And.intro gp1 (And.intro hpl (And.intro hpp (And.intro gp (And.intro hs16 (And.intro oln (And.intro hpos (And.intro o0 (And.intro gwy (And.intro q1 (And.intro wp (And.intro wj (And.intro hmx (And.intro wn (And.intro hjl (And.intro hjj (And.intro gj (And.intro hck (And.intro hk (And.intro hki (And.intro gk (And.intro (@Int.toNat_natCast) (And.intro (@Int.natCast_nonneg) (And.intro (@Nat.zero_add) (And.intro w1 (And.intro hwy (And.intro hlv (And.intro hco (And.intro htr (And.intro hbx ft))))))))))))))))))))))))))))))))))))))
              refine Run.go ?_
              refine End.lp ?_
              refine ⟨o.length - (p + 1), _, by omega, Ghost.form [(0, .ptr 1 5 0), (8, .vs 0 1 0 o.length g), (16, .i (to : Nat)), (17, .i (p + 1 : Nat))] 2 ⟨rfl, rfl, rfl, rfl, trivial⟩ rfl (by simp only [ASt.push, List.nil_append, List.cons_append, List.take_succ_cons, List.take_zero, List.all_cons, List.all_nil, AObj.under, i64s_set, unders_append, unders_ims, unders, PV.under, Bool.and_true, Bool.and_self]), p + 1, to, o, rfl, hsm hgt, rfl⟩
          · have hb4 := of_decide_eq_false hb
            have hpe : p = o.length := by have := hPk.jl; omega
            rw [hpe] at hPk
            refine Run.exit rfl ?_
            refine End.kp [8, 16] ?_
            refine Run.seq ?_
            have fx := And.intro hs16 (And.intro oln (And.intro hpos (And.intro o0 (And.intro gwy (And.intro q1 (And.intro wp (And.intro wj (And.intro hmx (And.intro wn (And.intro hjl (And.intro hjj (And.intro gj (And.intro hck (And.intro hk (And.intro hki (And.intro gk (And.intro (@Int.toNat_natCast) (And.intro (@Int.natCast_nonneg) (And.intro (@Nat.zero_add) (And.intro w1 (And.intro hwy (And.intro hlv (And.intro hco (And.intro htr (And.intro hbx ft)))))))))))))))))))))))))
            refine Run.go ?_
            refine End.kp [4, 5] ?_
            refine Run.ret (hQ _ _ ⟨.inr rfl, _, rfl, _, _, rfl, ?_⟩)
            refine ⟨o, to, g, entV seen, rfl, ?_, hPk.lesson hp, hPk.good.len hS, hPk.good.snd⟩
            show (f ++ [AObj.map (entV seen), AObj.vec 3 g (mgs f.length (i64s o))]) :: rest = _
            rw [mgs_ims]
        · have hP2 : P.length ≠ 1 := fun e => by have := ne_of_beq_false hb; omega
          obtain ⟨k2, hk2, hkl2, hj1, hG2⟩ := hnxt hm hP2
          have hme := (hat hm).2
          have gw2 : (i64s S.why)[l.natAbs]? = some (.im (.int .i64 (k2 : Nat))) := by rw [gwy]; unfold Sol.wy at hk2; rw [hk2]
          clear gwy
          have gwy := gw2
          refine Run.skip ?_
          refine End.kp [0, 6, 7, 8, 9, 10, 15] ?_
          have fx := And.intro hs16 (And.intro oln (And.intro hpos (And.intro o0 (And.intro gwy (And.intro q1 (And.intro wp (And.intro wj (And.intro hmx (And.intro wn (And.intro hjl (And.intro hjj (And.intro gj (And.intro hck (And.intro hk (And.intro hki (And.intro gk (And.intro (@Int.toNat_natCast) (And.intro (@Int.natCast_nonneg) (And.intro (@Nat.zero_add) (And.intro w1 (And.intro hwy (And.intro hlv (And.intro hco (And.intro htr (And.intro hbx ft)))))))))))))))))))))))))
          refine Run.go ?_
          refine End.blk ?_
          refine End.lp ?_
          refine ⟨j - 1, _, by omega, Ghost.form [(0, .ptr 1 5 0), (1, .i (k2 : Nat)), (6, .i (S.st.length : Nat)), (7, .map 0 0), (8, .vs 0 1 0 out.length g), (9, .i (P.length - 1 : Nat)), (10, .i ((j : Int) - 1)), (11, .i l)] 2 ⟨rfl, rfl, rfl, rfl, rfl, rfl, rfl, rfl, trivial⟩ rfl (by simp only [ASt.push, List.nil_append, List.cons_append, List.take_succ_cons, List.take_zero, List.all_cons, List.all_nil, AObj.under, i64s_set, unders_append, unders_ims, unders, PV.under, Bool.and_true, Bool.and_self]), j - 1, k2, l, seen, out, P.erase l.natAbs, g, rfl, hkl2, hG2, ?_⟩
          rw [erase_len hme, show ((j : Int) - 1) = ((j - 1 : Nat) : Int) by omega]
          rfl
    · skip
      have hm := of_decide_eq_false hs16
      have hf1 := findV_none _ seen 0 hm
      have fx := And.intro hs16 (And.intro oln (And.intro hpos (And.intro o0 (And.intro gwy (And.intro q1 (And.intro wp (And.intro wj (And.intro hmx (And.intro wn (And.intro hjl (And.intro hjj (And.intro gj (And.intro hck (And.intro hk (And.intro hki (And.intro gk (And.intro (@Int.toNat_natCast) (And.intro (@Int.natCast_nonneg) (And.intro (@Nat.zero_add) (And.intro w1 (And.intro hwy (And.intro hlv (And.intro hco (And.intro htr (And.intro hbx ft)))))))))))))))))))))))))
      refine Run.drawA fun K hK => ?_
      refine DOps.sim ?_
      refine DOps.lookI (d := 0) (j := 0) (.int .i64 (l.natAbs : Nat)) (entV seen) none (.im (.bool false)) hf1 rfl rfl ?_
      refine DOps.sim ?_
      refine DOps.nil ?_ (hK _ ?_)
      · rfl
      clear hK K
      refine End.kp [0, 6, 7, 8, 9, 10, 102] ?_
      refine Run.cond _ rfl (fun hb => ?_) (fun hb => ?_)
      · have hb3 := hb
        refine Run.skip ?_
        refine End.kp [0, 6, 7, 8, 9, 10] ?_
        refine Run.block ?_
        have fx := And.intro hs16 (And.intro oln (And.intro hpos (And.intro o0 (And.intro gwy (And.intro q1 (And.intro wp (And.intro wj (And.intro hmx (And.intro wn (And.intro hjl (And.intro hjj (And.intro gj (And.intro hck (And.intro hk (And.intro hki (And.intro gk (And.intro (@Int.toNat_natCast) (And.intro (@Int.natCast_nonneg) (And.intro (@Nat.zero_add) (And.intro w1 (And.intro hwy (And.intro hlv (And.intro hco (And.intro htr (And.intro hbx ft)))))))))))))))))))))))))
        refine Run.go ?_
        refine End.blk ?_
        refine End.lp ?_
        obtain ⟨hj1, hD2⟩ := hstp hm
        refine ⟨j - 1, _, by omega, Ghost.form [(0, .ptr 1 5 0), (6, .i (S.st.length : Nat)), (7, .map 0 0), (8, .vs 0 1 0 out.length g), (9, .i (P.length : Nat)), (10, .i ((j : Int) - 1))] 2 ⟨rfl, rfl, rfl, rfl, rfl, rfl, trivial⟩ rfl (by simp only [ASt.push, List.nil_append, List.cons_append, List.take_succ_cons, List.take_zero, List.all_cons, List.all_nil, AObj.under, i64s_set, unders_append, unders_ims, unders, PV.under, Bool.and_true, Bool.and_self]), j - 1, rfl, by omega, hD2, ?_⟩
        rw [show ((j : Int) - 1) = ((j - 1 : Nat) : Int) by omega]
        rfl
      · have hb3 := hb
        simp at hb
end Go.Proofs.YtdgpmopcmacicaaPi

/- The walks of the library's Clone and Compact over slices that may grow. -/
set_option linter.unusedVariables false
set_option linter.unusedSimpArgs false
set_option maxRecDepth 100000
namespace Go.Proofs.YtdgpmopcmacicaaPi
set_option maxHeartbeats 40000000
theorem i64s_part (l : List Int) (n d : Nat) (h : n = l.length) : ((i64s l).take n).map (PV.upN d) = i64s l := by
  rw [List.take_of_length_le (by simp; omega)]
  simp only [i64s, List.map_map]
  refine List.map_congr_left fun x _ => ?_
  simp [upN_im]
theorem i64s_down (l : List Int) (d : Nat) : downsN d (i64s l) = some (i64s l) := by
  induction l with
  | nil => rfl
  | cons x xs ih =>
    show downsN d (PV.im (Im.int .i64 x) :: i64s xs) = _
    simp only [downsN, downN_im, ih]
    rfl
theorem i64s_all (l : List Int) : (i64s l).all onePV = true := by simp [onePV]
theorem CloneV_ok (p g n : Nat) (c : List Int) (rest : List PV) (up : Frs) (hc : fget up 0 p = some (.vec 3 g (i64s c))) (hn : n = c.length) (h0 : 0 < c.length) (hl : c.length ≤ 1000000) : ACalls Try.prog 145 [.vs 0 p 0 n g] up fun v u => v = .im (.sl (ints c)) ∧ u = up := by
  have hpt := i64s_part c n 1 hn
  have hdn := i64s_down c 0
  have hal := i64s_all c
  have hln : (i64s c).length = n := by rw [hn]; simp
  have hap : (0 + n) * 8 ≤ 140737488355328 := by omega
  have hap2 : n * 8 ≤ 140737488355328 := by omega
  refine ACalls.code Try.func145 rfl 8 rfl (by simp) [.tmp 2] rfl fun Q hQ => ?_
  simp only [ups, PV.up, argEnv]
  have ft := And.intro ty_3 (And.intro ty_4 (And.intro ty_22 trivial))
  refine Run.seq ?_
  have fx := And.intro (@List.drop_zero.{0}) (And.intro (@List.take_nil.{0}) (And.intro (@List.nil_append.{0}) (And.intro (@Nat.zero_add) (And.intro hap2 (And.intro hap (And.intro hln (And.intro hal (And.intro hdn (And.intro hpt (And.intro hc ft))))))))))
  refine Run.go ?_
  refine End.kp [0] ?_
  refine Run.seq ?_
  refine Run.seq ?_
  refine Run.region rfl fun K hK => GOps.simK 1 ?_
  refine GOps.nilVs (o := 0) (m := n) (g := g) (d := 1) (j := p) (ty := 3) (cs := i64s c) (by exact hc) (by omega) ?_
  refine GOps.sim ?_
  refine GOps.done (hK _ ?_); clear hK K
  refine End.kp [0, 4] ?_
  refine Run.cond _ rfl (fun hb => ?_) (fun hb => ?_)
  · have hb2 := hb
    simp at hb
  · have hb2 := hb
    refine Run.skip ?_
    refine End.kp [0] ?_
    refine Run.seq ?_
    have fx := And.intro (@List.drop_zero.{0}) (And.intro (@List.take_nil.{0}) (And.intro (@List.nil_append.{0}) (And.intro (@Nat.zero_add) (And.intro hap2 (And.intro hap (And.intro hln (And.intro hal (And.intro hdn (And.intro hpt (And.intro hc ft))))))))))
    refine Run.region rfl fun K hK => GOps.litVec rfl (by simp only [litW, fx] <;> rfl) ?_
    refine GOps.sim ?_
    refine GOps.done (hK _ ?_); clear hK K
    refine End.move (Ghost.vecRow (e := [(2, .ms 0 0 n)]) (L := []) (g := 1) (c.map fun x => Im.int .i64 x) (List.ne_nil_of_length_pos (by rw [List.length_map]; exact h0)) (by rw [List.length_map]; exact hn) (cVec.conv rfl cVec.nil) rfl) ?_
    refine End.move (Ghost.shut (t := 2) (j := 0) (m := n) (rows := (c.map fun x => Im.int .i64 x).map fun x => [x]) rfl rfl (by rw [List.length_map, List.length_map]; exact hn.symm)) ?_
    rw [List.map_map]
    refine End.kp [2] ?_
    refine Run.ret (hQ _ _ ⟨.inr rfl, _, rfl, _, rfl, ?_⟩)
    exact ⟨rfl, rfl⟩
theorem CloneD_cons (x : Int) (xs : List Int) (hl : xs.length ≤ 1000000) (f : List AObj) (rest : Frs) : ACalls Try.prog 145 [.im (.sl (ints (x :: xs)))] (f :: rest) fun v u => v = .vs 0 (f.length + 0) 0 (xs.length + 1) 1 ∧ u = (f ++ [.vec 3 1 (i64s (x :: xs))]) :: rest := by
  have hap : (0 + (xs.length + 1)) * 8 ≤ 140737488355328 := by omega
  have hap2 : (xs.length + 1) * 8 ≤ 140737488355328 := by omega
  have hall : (ints xs).all (fun r => r.length == 1) = true := by simp
  have hrc : (ints xs).map rowCell = i64s xs := by simp only [i64s, List.map_map]; rfl
  have hdn := i64s_down xs 0
  have hal := i64s_all xs
  have hln : (i64s xs).length = xs.length := by simp
  refine ACalls.codeX Try.func145 rfl 8 rfl (by simp) [.tmp 2] rfl fun Q hQ => ?_
  simp only [ups, PV.up, argEnv]
  have ft := And.intro ty_3 (And.intro ty_4 (And.intro ty_22 trivial))
  refine Run.seq ?_
  have fx := And.intro (@List.drop_zero.{0}) (And.intro (@List.take_nil.{0}) (And.intro (@List.nil_append.{0}) (And.intro (@Nat.zero_add) (And.intro (@List.length_map.{0, 0}) (And.intro (@List.map_cons.{0, 0}) (And.intro hln (And.intro hal (And.intro hdn (And.intro hrc (And.intro hall (And.intro hap2 (And.intro hap ft))))))))))))
  refine Run.go ?_
  refine End.kp [0] ?_
  refine Run.seq ?_
  refine Run.seq ?_
  refine Run.go ?_
  refine End.kp [0, 4] ?_
  refine Run.cond _ rfl (fun hb => ?_) (fun hb => ?_)
  · have hb2 := hb
    simp at hb
  · have hb2 := hb
    refine Run.skip ?_
    refine End.kp [0] ?_
    refine Run.seq ?_
    have fx := And.intro (@List.drop_zero.{0}) (And.intro (@List.take_nil.{0}) (And.intro (@List.nil_append.{0}) (And.intro (@Nat.zero_add) (And.intro (@List.length_map.{0, 0}) (And.intro (@List.map_cons.{0, 0}) (And.intro hln (And.intro hal (And.intro hdn (And.intro hrc (And.intro hall (And.intro hap2 (And.intro hap ft))))))))))))
    refine Run.region rfl fun K hK => GOps.litVec rfl (by simp only [litW, fx] <;> rfl) ?_
    refine GOps.sim ?_
    refine GOps.done (hK _ ?_); clear hK K
    refine End.kp [2] ?_
    refine Run.ret (hQ _ _ ⟨.inr rfl, _, rfl, _, _, rfl, ?_⟩)
    refine ⟨rfl, ?_⟩
    show (f ++ [AObj.vec 3 1 (mgs f.length (i64s (x :: xs)))]) :: rest = _
    rw [mgs_ims]
end Go.Proofs.YtdgpmopcmacicaaPi

/- The walk of Check (clauses that are in order). -/
set_option linter.unusedVariables false
set_option linter.unusedSimpArgs false
set_option maxRecDepth 100000
namespace Go.Proofs.YtdgpmopcmacicaaPi
set_option maxHeartbeats 40000000
abbrev clss (l : List (List Int)) : List (List Im) := l.map fun r => [.sl (ints r)]
theorem clss_get (l : List (List Int)) (i : Nat) (h : i < l.length) : (clss l)[i]? = some [.sl (ints (l.getD i []))] := by rw [List.getElem?_map, getD_some [] h]; rfl
theorem lits_get (l : List Int) (i : Nat) (h : i < l.length) : (ints l)[i]? = some [.int .i64 (l.getD i 0)] := by rw [List.getElem?_map, getD_some 0 h]; rfl
/-- Clauses that Check lets pass. -/
structure ClsOk (n : Nat) (cs : List (List Int)) : Prop where
  nn : n ≤ 20000
  len : cs.length ≤ 80000
  lit : ∀ c ∈ cs, c.length ≤ 1000000 ∧ ∀ l ∈ c, LitOk n l
theorem csucc {i n : Nat} (h : i < n) (hn : n ≤ 1000000000) : IntKind.i64.wrap ((i : Int) + 1) = ((i + 1 : Nat) : Int) := by
  rw [wrap64 (by omega)]
  rfl
theorem satCheck_ok (n : Nat) (cs : List (List Int)) (h : ClsOk n cs) (up : Frs) : ACalls Try.prog 93 [.im (.sl (clss cs)), .i (n : Nat)] up fun v u => v = .i 0 ∧ u = up := by
  have hn := h.nn
  have hcl := h.len
  have d1 : decide ((n : Int) < 0) = false := decide_eq_false (by omega)
  have d2 : decide ((20000 : Int) < (n : Int)) = false := decide_eq_false (by omega)
  have wn : IntKind.i64.wrap (0 - (n : Int)) = -(n : Int) := by rw [wrap64 (by omega)]; omega
  refine ACalls.code Try.func93 rfl 45 rfl (by simp) [.tmp 4] rfl fun Q hQ => ?_
  simp only [ups, PV.up, argEnv]
  have ft := And.intro ty_3 (And.intro ty_4 (And.intro ty_22 (And.intro ty_39 (And.intro ty_81 trivial))))
  refine Run.seq ?_
  have fx := And.intro (@Int.toNat_natCast) (And.intro (@Int.natCast_nonneg) (And.intro (@List.length_map.{0, 0}) (And.intro wn (And.intro d2 (And.intro d1 ft)))))
  refine Run.go ?_
  refine End.kp [0, 1] ?_
  refine Run.seq ?_
  refine Run.seq ?_
  refine Run.go ?_
  refine End.kp [0, 1, 14] ?_
  refine Run.cond _ rfl (fun hb => ?_) (fun hb => ?_)
  · have hb2 := hb
    simp at hb
  · have hb2 := hb
    refine Run.skip ?_
    refine End.kp [0, 1] ?_
    refine Run.seq ?_
    refine Run.seq ?_
    have fx := And.intro (@Int.toNat_natCast) (And.intro (@Int.natCast_nonneg) (And.intro (@List.length_map.{0, 0}) (And.intro wn (And.intro d2 (And.intro d1 ft)))))
    refine Run.go ?_
    refine End.kp [0, 1, 17] ?_
    refine Run.cond _ rfl (fun hb => ?_) (fun hb => ?_)
    · have hb3 := hb
      have := of_decide_eq_true hb; omega
    · have hb3 := hb
      refine Run.skip ?_
      refine End.kp [0, 1] ?_
      refine Run.seq ?_
      refine Run.seq ?_
      have fx := And.intro (@Int.toNat_natCast) (And.intro (@Int.natCast_nonneg) (And.intro (@List.length_map.{0, 0}) (And.intro wn (And.intro d2 (And.intro d1 ft)))))
      refine Run.go ?_
      refine End.kp [1, 18, 19, 20] ?_
      refine Run.block ?_
      refine Run.ghost (Ghost.form [(1, .i (n : Nat)), (18, .im (.sl (clss cs))), (19, .i cs.length), (20, .i 0)] 0 ⟨rfl, rfl, rfl, rfl, trivial⟩ rfl (by simp only [ASt.push, List.nil_append, List.cons_append, List.take_succ_cons, List.take_zero, List.all_cons, List.all_nil, AObj.under, PV.under, Bool.and_true, Bool.and_self])) ?_
      refine Run.loop (fun m st => ∃ (i : Nat), m = cs.length - i ∧ i ≤ cs.length ∧ st = ⟨[(1, .i (n : Nat)), (18, .im (.sl (clss cs))), (19, .i cs.length), (20, .i (i : Nat))], [], up⟩) cs.length ⟨0, rfl, by omega, rfl⟩ fun m st hI => ?_
      obtain ⟨i, rfl, hi, rfl⟩ := hI
      refine Run.seq ?_
      have fx := And.intro (@Int.toNat_natCast) (And.intro (@Int.natCast_nonneg) (And.intro (@List.length_map.{0, 0}) (And.intro wn (And.intro d2 (And.intro d1 ft)))))
      refine Run.go ?_
      refine End.kp [1, 18, 19, 20, 21] ?_
      refine Run.seq ?_
      refine Run.cond _ rfl (fun hb => ?_) (fun hb => ?_)
      · have hb4 := of_decide_eq_true hb
        have hil : i < cs.length := by omega
        have gi := clss_get cs i hil
        have hii : (i : Int) < (cs.length : Int) := by omega
        have wi := csucc hil (by omega)
        obtain ⟨hc1, hc2⟩ := h.lit _ (getD_mem (d := []) hil)
        generalize cs.getD i [] = c at gi hc1 hc2
        refine Run.skip ?_
        refine End.kp [1, 18, 19, 20] ?_
        refine Run.seq ?_
        refine Run.block ?_
        refine Run.seq ?_
        have fx := And.intro wi (And.intro hii (And.intro gi (And.intro (@Int.toNat_natCast) (And.intro (@Int.natCast_nonneg) (And.intro (@List.length_map.{0, 0}) (And.intro wn (And.intro d2 (And.intro d1 ft))))))))
        refine Run.go ?_
        refine End.kp [1, 6, 18, 19, 20] ?_
        refine Run.seq ?_
        refine Run.go ?_
        refine End.kp [1, 18, 19, 20, 24, 25, 26] ?_
        refine Run.block ?_
        refine Run.ghost (Ghost.form [(1, .i (n : Nat)), (18, .im (.sl (clss cs))), (19, .i cs.length), (20, .i (i : Nat)), (24, .im (.sl (ints c))), (25, .i c.length), (26, .i 0)] 0 ⟨rfl, rfl, rfl, rfl, rfl, rfl, rfl, trivial⟩ rfl (by simp only [ASt.push, List.nil_append, List.cons_append, List.take_succ_cons, List.take_zero, List.all_cons, List.all_nil, AObj.under, PV.under, Bool.and_true, Bool.and_self])) ?_
        refine Run.loop (fun m st => ∃ (j : Nat), m = c.length - j ∧ j ≤ c.length ∧ st = ⟨[(1, .i (n : Nat)), (18, .im (.sl (clss cs))), (19, .i cs.length), (20, .i (i : Nat)), (24, .im (.sl (ints c))), (25, .i c.length), (26, .i (j : Nat))], [], up⟩) c.length ⟨0, rfl, by omega, rfl⟩ fun m st hJ => ?_
        obtain ⟨j, rfl, hj, rfl⟩ := hJ
        refine Run.seq ?_
        have fx := And.intro wi (And.intro hii (And.intro gi (And.intro (@Int.toNat_natCast) (And.intro (@Int.natCast_nonneg) (And.intro (@List.length_map.{0, 0}) (And.intro wn (And.intro d2 (And.intro d1 ft))))))))
        refine Run.go ?_
        refine End.kp [1, 18, 19, 20, 24, 25, 26, 27] ?_
        refine Run.seq ?_
        refine Run.cond _ rfl (fun hb => ?_) (fun hb => ?_)
        · have hb5 := of_decide_eq_true hb
          have hjl : j < c.length := by omega
          have gj := lits_get c j hjl
          have hjj : (j : Int) < (c.length : Int) := by omega
          have wj := csucc hjl (by omega)
          have hl := hc2 _ (getD_mem (d := 0) hjl)
          generalize c.getD j 0 = l at gj hl
          obtain ⟨l0, l1⟩ := hl
          have e0 : (l == 0) = false := by simpa using l0
          have e0' : decide (l = 0) = false := decide_eq_false l0
          have e1 : decide (l < -(n : Int)) = false := decide_eq_false (by omega)
          have e2 : decide ((n : Int) < l) = false := decide_eq_false (by omega)
          refine Run.skip ?_
          refine End.kp [1, 18, 19, 20, 24, 25, 26] ?_
          refine Run.seq ?_
          refine Run.block ?_
          refine Run.seq ?_
          have fx := And.intro e2 (And.intro e1 (And.intro e0' (And.intro e0 (And.intro wj (And.intro hjj (And.intro gj (And.intro wi (And.intro hii (And.intro gi (And.intro (@Int.toNat_natCast) (And.intro (@Int.natCast_nonneg) (And.intro (@List.length_map.{0, 0}) (And.intro wn (And.intro d2 (And.intro d1 ft)))))))))))))))
          refine Run.go ?_
          refine End.kp [1, 8, 18, 19, 20, 24, 25, 26] ?_
          refine Run.seq ?_
          refine Run.go ?_
          refine End.kp [1, 18, 19, 20, 24, 25, 26, 42] ?_
          refine Run.cond _ rfl (fun hb => ?_) (fun hb => ?_)
          · have hb6 := hb
            simp at hb
          · have hb6 := hb
            refine Run.skip ?_
            refine End.blk ?_
            refine End.kp [1, 18, 19, 20, 24, 25, 26] ?_
            have fx := And.intro e2 (And.intro e1 (And.intro e0' (And.intro e0 (And.intro wj (And.intro hjj (And.intro gj (And.intro wi (And.intro hii (And.intro gi (And.intro (@Int.toNat_natCast) (And.intro (@Int.natCast_nonneg) (And.intro (@List.length_map.{0, 0}) (And.intro wn (And.intro d2 (And.intro d1 ft)))))))))))))))
            refine Run.go ?_
            refine End.lp ?_
            refine ⟨c.length - (j + 1), _, by omega, Ghost.form [(1, .i (n : Nat)), (18, .im (.sl (clss cs))), (19, .i cs.length), (20, .i (i : Nat)), (24, .im (.sl (ints c))), (25, .i c.length), (26, .i (j + 1 : Nat))] 0 ⟨rfl, rfl, rfl, rfl, rfl, rfl, rfl, trivial⟩ rfl (by simp only [ASt.push, List.nil_append, List.cons_append, List.take_succ_cons, List.take_zero, List.all_cons, List.all_nil, AObj.under, PV.under, Bool.and_true, Bool.and_self]), j + 1, rfl, by omega, rfl⟩
        · have hb5 := hb
          refine Run.exit rfl ?_
          refine End.blk ?_
          refine End.kp [1, 18, 19, 20] ?_
          have fx := And.intro wi (And.intro hii (And.intro gi (And.intro (@Int.toNat_natCast) (And.intro (@Int.natCast_nonneg) (And.intro (@List.length_map.{0, 0}) (And.intro wn (And.intro d2 (And.intro d1 ft))))))))
          refine Run.go ?_
          refine End.lp ?_
          refine ⟨cs.length - (i + 1), _, by omega, Ghost.form [(1, .i (n : Nat)), (18, .im (.sl (clss cs))), (19, .i cs.length), (20, .i (i + 1 : Nat))] 0 ⟨rfl, rfl, rfl, rfl, trivial⟩ rfl (by simp only [ASt.push, List.nil_append, List.cons_append, List.take_succ_cons, List.take_zero, List.all_cons, List.all_nil, AObj.under, PV.under, Bool.and_true, Bool.and_self]), i + 1, rfl, by omega, rfl⟩
      · have hb4 := hb
        refine Run.exit rfl ?_
        refine End.kp [] ?_
        refine Run.seq ?_
        have fx := And.intro (@Int.toNat_natCast) (And.intro (@Int.natCast_nonneg) (And.intro (@List.length_map.{0, 0}) (And.intro wn (And.intro d2 (And.intro d1 ft)))))
        refine Run.go ?_
        refine End.kp [4] ?_
        refine Run.ret (hQ _ _ ⟨.inr rfl, _, rfl, _, rfl, ?_⟩)
        exact ⟨rfl, rfl⟩
end Go.Proofs.YtdgpmopcmacicaaPi

