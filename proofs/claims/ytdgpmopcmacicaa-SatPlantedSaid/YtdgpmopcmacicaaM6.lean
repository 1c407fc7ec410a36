/- Part 6 of the proof: the texts WSZ, WSZZ, one behind the other. Each holds for every input that it names; no condition is hidden. -/
import Derived.Test.YtdgpmopcmacicaaM5
/- The walk of planted. -/
set_option linter.unusedVariables false
set_option linter.unusedSimpArgs false
set_option maxRecDepth 100000
namespace Go.Proofs.YtdgpmopcmacicaaPi
set_option maxHeartbeats 40000000
theorem gridData {N : Nat} {env : List (Nat × PV)} {up : Frs} {g : Nat} (rs : List (List Int)) (x : Im) (h8 : eget env 8 = some (.im x)) (h9 : eget env 9 = some (.vs 0 0 0 rs.length g)) : ∃ loc', Ghost N ⟨env, .vec 22 g (cellsM (rs.map ints)) :: rowsM 3 (rs.map ints), up⟩ ⟨[(8, .im x), (9, .im (.sl (clss rs)))], loc', up⟩ := by
  by_cases h0 : rs = []
  · subst h0
    refine ⟨_, (Ghost.slot (y := .im (.sl [])) h9 (fun F bs w v hm hv => ?_)).trans (keepL [(8, .im x), (9, .im (.sl (clss [])))] ⟨?_, ?_, trivial⟩)⟩
    · simp only [VRel, IRel, List.length_nil] at hv ⊢
      obtain ⟨A, c, h1, h2, _⟩ := hv
      exact ⟨A, c, h1, h2, fun h => absurd rfl h⟩
    · rw [eget_eput, if_neg (by decide)]; exact h8
    · rw [eget_eput, if_pos rfl]; rfl
  · have hne : 0 < rs.length := List.length_pos_iff.2 h0
    have g1 := gridShut (n := N) (e := env) (up := up) (T := 22) (t := 3) (g := g) (rs.map ints) (rs.map ints).length (Nat.le_refl _)
    rw [List.take_of_length_le (Nat.le_refl _), List.drop_of_length_le (by rw [cellsM_len]; exact Nat.le_refl _), List.drop_of_length_le (Nat.le_refl _), List.append_nil, List.map_map] at g1
    have e1 : rs.map ((fun r => PV.im (.sl r)) ∘ ints) = (rs.map fun c => Im.sl (ints c)).map PV.im := by rw [List.map_map]; rfl
    rw [e1] at g1
    have g2 := Ghost.cut (n := N) (e := [(8, .im x), (9, .vs 0 0 0 rs.length g)]) (L := [.vec 22 g ((rs.map fun c => Im.sl (ints c)).map PV.im)]) (o := ((rs.map ints).map fun r => AObj.row 3 1 r r.length) ++ rowsM 3 []) (up := up) (env := env) ⟨h8, h9, trivial⟩ rfl (by
      have := unders_ims 1 (rs.map fun c => Im.sl (ints c))
      simp only [List.all_cons, List.all_nil, Bool.and_true]
      exact this)
    have g3 := Ghost.vecRow (n := N) (env := [(8, .im x), (9, .vs 0 0 0 rs.length g)]) (e := [(8, .im x), (9, .ms 0 0 rs.length)]) (L := []) (up := up) (t := 22) (g := g) (m := rs.length) (rs.map fun c => Im.sl (ints c)) (List.ne_nil_of_length_pos (by rw [List.length_map]; exact hne)) (by rw [List.length_map]) (cVec.keep rfl rfl (cVec.conv rfl cVec.nil)) rfl
    have g4 := Ghost.shut (n := N) (st := ⟨[(8, .im x), (9, .ms 0 0 rs.length)], [.row 22 1 ((rs.map fun c => Im.sl (ints c)).map fun x => [x]) 0], up⟩) (t := 9) (j := 0) (m := rs.length) rfl rfl (by rw [List.length_map, List.length_map])
    rw [List.map_map] at g4
    exact ⟨_, g1.trans (g2.trans (g3.trans ((by rw [List.map_map]; exact g4 : Ghost N _ _).trans (keepL [(8, .im x), (9, .im (.sl (clss rs)))] ⟨rfl, rfl, trivial⟩))))⟩
theorem lit_n {mv : List Bool} {vn vars : Nat} (h : vn < vars) (hm : mv.getD vn false = false) : LitOk vars (-((vn + 1 : Nat) : Int)) ∧ hl (mdlOf mv) (-((vn + 1 : Nat) : Int)) := ⟨⟨by omega, by omega⟩, by
  unfold hl mdlOf
  rw [show (-((vn + 1 : Nat) : Int)).natAbs - 1 = vn by omega]
  rw [hm, decide_eq_false (by omega)]⟩
theorem lit_p {mv : List Bool} {vn vars : Nat} (h : vn < vars) (hm : mv.getD vn false = true) : LitOk vars ((vn + 1 : Nat) : Int) ∧ hl (mdlOf mv) ((vn + 1 : Nat) : Int) := ⟨⟨by omega, by omega⟩, by
  unfold hl mdlOf
  rw [show (((vn + 1 : Nat) : Int)).natAbs - 1 = vn by omega]
  rw [hm, decide_eq_true (by omega)]⟩
theorem set_map_len (rs : List (List Int)) (i : Nat) (c : List Int) (hi : i < rs.length) (hc : c.length = (rs.getD i []).length) : cellsM ((rs.set i c).map ints) = cellsM (rs.map ints) := by
  unfold cellsM
  rw [List.length_map, List.length_map, List.length_set]
  refine List.map_congr_left fun k hk => ?_
  have hk := List.mem_range.1 hk
  congr 1
  simp only [List.getD_eq_getElem?_getD, List.getElem?_map, List.getElem?_set]
  by_cases e : i = k
  · subst e
    rw [if_pos rfl, if_pos hi, getD_some [] hi]
    simpa using hc
  · rw [if_neg e]
theorem planted_ok (vars n : Nat) (hv1 : 1 ≤ vars) (hv2 : vars ≤ 500) (hn : n ≤ 100) (l : List Int) (a : Int) (hs : StmOk l a) (hf : a + 5000 < 1099511627776) (up : Frs) (d j : Nat) (hl : fget up d j = some (stm l a)) :
    ACalls Try.prog 38 [.ptr d j 0, .i (vars : Nat), .i (n : Nat)] up fun v u => ∃ (cs : List (List Int)) (m : List Bool) (a' : Int), v = .tup [.im (.sl (clss cs)), .im (.sl (bools m))] ∧ u = fset up d j (stm l a') ∧ cs.length = n ∧ Shape vars cs ∧ m.length = vars ∧ (∀ c ∈ cs, HoldsC (mdlOf m) c) := by
  have hset : ∀ o, fget (fset up d j o) d j = some o := fun o => fget_fset_same _ _ _ _ _ hl
  have hff : ∀ o o', fset (fset up d j o) d j o' = fset up d j o' := fun o o' => fset_fset2 _ _ _ _ _
  have hs2 : StmOk l (a + vars) := ⟨hs.vals, hs.len, by have := hs.pos; omega, by omega⟩
  obtain ⟨mv, hmv⟩ : ∃ mv, mv = valsV l vars a := ⟨_, rfl⟩
  have hml : mv.length = vars := by rw [hmv]; exact valsV_len l vars a
  refine ACalls.code Try.func38 rfl 48 rfl (by simp) [.tmp 6, .tmp 7] rfl fun Q hQ => ?_
  simp only [ups, PV.up, argEnv]
  have ft := And.intro ty_3 (And.intro ty_4 (And.intro ty_22 (And.intro ty_23 (And.intro ty_71 (And.intro ty_81 trivial)))))
  refine Run.seq ?_
  have fx := And.intro (@Int.toNat_natCast) (And.intro (@Int.natCast_nonneg) (And.intro (@Nat.zero_add) (And.intro hff (And.intro hset (And.intro hl ft)))))
  refine Run.go ?_
  refine End.kp [0, 1, 2] ?_
  refine Run.seq ?_
  refine Run.region rfl fun K hK => GOps.sim ?_
  refine GOps.call rfl rfl rfl rfl (by kernel_rfl) (ACalls.sim ?_)
  refine (Values_ok vars hv2 l a hs (by omega) _ (d + 1) j hl).mono fun v u hv => ?_
  obtain ⟨rfl, rfl⟩ := hv
  rw [← hmv]
  have fx := And.intro (@Int.toNat_natCast) (And.intro (@Int.natCast_nonneg) (And.intro (@Nat.zero_add) (And.intro hff (And.intro hset (And.intro hl ft)))))
  refine ⟨_, _, rfl, GOps.sim ?_⟩
  refine GOps.done (hK _ ?_); clear hK K
  refine End.kp [0, 1, 2, 8] ?_
  refine Run.seq ?_
  refine Run.region rfl fun K hK => GOps.sim ?_
  refine GOps.call rfl rfl rfl rfl (by kernel_rfl) (ACalls.sim ?_)
  refine (Clauses_ok vars n hv1 (by omega) hn l (a + vars) hs2 (by omega) (fset up d j (stm l (a + vars))) d j (hset _)).mono fun v u hv => ?_
  obtain ⟨rs, a2, g, rfl, rfl, hrl0, hsh0, ha1, ha2⟩ := hv
  rw [hff]
  have fx := And.intro (@Int.toNat_natCast) (And.intro (@Int.natCast_nonneg) (And.intro (@Nat.zero_add) (And.intro hff (And.intro hset (And.intro hl ft)))))
  refine ⟨_, _, rfl, GOps.sim ?_⟩
  refine GOps.done (hK _ ?_); clear hK K
  refine End.kp [0, 1, 8, 9] ?_
  refine Run.seq ?_
  refine Run.seq ?_
  refine Run.go ?_
  refine End.kp [0, 1, 8, 9, 20, 21, 22] ?_
  refine Run.block ?_
  refine Run.ghost (keepL [(0, .ptr (d + 1) j 0), (1, .i (vars : Nat)), (8, .im (.sl (bools mv))), (9, .vs 0 0 0 n g), (20, .vs 0 0 0 n g), (21, .i (n : Nat)), (22, .i (0 : Nat))] ⟨rfl, rfl, rfl, rfl, rfl, rfl, rfl, trivial⟩) ?_
  refine Run.loop (fun q st => ∃ (i : Nat) (rs : List (List Int)) (a3 : Int), q = n - i ∧ i ≤ n ∧ (rs.length = n ∧ Shape vars rs ∧ (∀ k, k < i → HoldsC (mdlOf mv) (rs.getD k [])) ∧ a + vars ≤ a3 ∧ a3 ≤ a + vars + 9 * n + 2 * i) ∧ st = ⟨[(0, .ptr (d + 1) j 0), (1, .i (vars : Nat)), (8, .im (.sl (bools mv))), (9, .vs 0 0 0 n g), (20, .vs 0 0 0 n g), (21, .i (n : Nat)), (22, .i (i : Nat))], AObj.vec 22 g (cellsM (rs.map ints)) :: rowsM 3 (rs.map ints), fset up d j (stm l a3)⟩) n ⟨0, rs, a2, rfl, by omega, ⟨hrl0, hsh0, fun k hk => by omega, by omega, by omega⟩, rfl⟩ fun q st hI => ?_
  clear hrl0 hsh0
  obtain ⟨i, rs, a3, hq, hi, ⟨hrl, hsh, hho, ha3, ha4⟩, rfl⟩ := hI
  subst q
  have hs3 : StmOk l a3 := ⟨hs.vals, hs.len, by have := hs.pos; omega, by omega⟩
  have hs4 : StmOk l (a3 + 1) := ⟨hs.vals, hs.len, by have := hs.pos; omega, by omega⟩
  refine Run.seq ?_
  have fx := And.intro (@Int.toNat_natCast) (And.intro (@Int.natCast_nonneg) (And.intro (@Nat.zero_add) (And.intro hff (And.intro hset (And.intro hl ft)))))
  refine Run.go ?_
  refine End.kp [0, 1, 8, 9, 20, 21, 22, 23] ?_
  refine Run.seq ?_
  refine Run.cond _ rfl (fun hb => ?_) (fun hb => ?_)
  · have hb2 := of_decide_eq_true hb
    have hin : i < n := by omega
    have wi := nsucc hin (by omega)
    have hii : (i : Int) < (n : Int) := by omega
    have hA1 : a + vars ≤ a3 + 1 + 1 := by omega
    have hA2 : a3 + 1 + 1 ≤ a + vars + 9 * n + 2 * ((i + 1 : Nat) : Int) := by omega
    have hir : i < rs.length := by rw [hrl]; exact hin
    have i641 : I64 (vars : Int) := by constructor <;> omega
    obtain ⟨c, hcc⟩ : ∃ c, c = rs.getD i [] := ⟨_, rfl⟩
    obtain ⟨hc1, hc2, hc3⟩ := hsh c (by rw [hcc]; exact getD_mem (by omega))
    have gc : (cellsM (rs.map ints))[i]? = some (.ms 0 (1 + i) c.length) := by
      rw [cellsM_get _ _ (by rw [List.length_map]; omega), List.getD_eq_getElem?_getD, List.getElem?_map, getD_some [] (by omega), ← hcc]
      simp
    obtain ⟨lo, hlo⟩ : ∃ lo, lo = AObj.vec 22 g (cellsM (rs.map ints)) :: rowsM 3 (rs.map ints) := ⟨_, rfl⟩
    change Run _ _ _ _ _ (⟨_, AObj.vec 22 g (cellsM (rs.map ints)) :: rowsM 3 (rs.map ints), _⟩ : ASt)
    rw [← hlo]
    have lo0 : lo[0]? = some (.vec 22 g (cellsM (rs.map ints))) := by rw [hlo]; rfl
    have lo1 : lo[1 + i]? = some (.row 3 1 (ints c) 0) := by
      rw [hlo, Nat.add_comm 1 i, List.getElem?_cons_succ, rowsM, List.getElem?_map, List.getElem?_map, getD_some [] (by omega), ← hcc]
      rfl
    have hicl : (ints c).length = c.length := by simp
    obtain ⟨n0, n1⟩ := nextV_range l a3 (vars : Int) (by omega)
    obtain ⟨vn, hvn⟩ : ∃ vn : Nat, nextV l a3 (vars : Int) = (vn : Int) := ⟨(nextV l a3 (vars : Int)).toNat, by omega⟩
    have hvv : vn < vars := by omega
    have x1 : IntKind.i64.wrap (1 + (vn : Int)) = ((vn + 1 : Nat) : Int) := by rw [wrap64 (by omega)]; omega
    have x2 : IntKind.i64.wrap (((vn + 1 : Nat) : Int) - 1) = (vn : Int) := by rw [wrap64 (by omega)]; omega
    have x3 : IntKind.i64.wrap (0 - ((vn + 1 : Nat) : Int)) = -((vn + 1 : Nat) : Int) := by rw [wrap64 (by omega)]; omega
    have hvm : vn < mv.length := by rw [hml]; exact hvv
    have gm := bools_get mv vn hvm
    have gmi : (vn : Int) < (mv.length : Int) := Int.ofNat_lt.2 hvm
    have i642 : I64 (c.length : Int) := ⟨Int.le_trans (by decide) (Int.natCast_nonneg _), Int.le_trans (Int.ofNat_le.2 hc2) (by decide)⟩
    obtain ⟨k0, k1⟩ := nextV_range l (a3 + 1) (c.length : Int) (Int.ofNat_le.2 hc1)
    obtain ⟨kq, hkqv⟩ : ∃ kq : Nat, nextV l (a3 + 1) (c.length : Int) = (kq : Int) := ⟨(nextV l (a3 + 1) (c.length : Int)).toNat, (Int.toNat_of_nonneg k0).symm⟩
    have hki : (kq : Int) < (c.length : Int) := by rw [← hkqv]; exact k1
    have hkq : kq < c.length := Int.ofNat_lt.1 hki
    have gkq : (ints c)[kq]? = some [.int .i64 (c.getD kq 0)] := lits_get c kq hkq
    refine Run.skip ?_
    refine End.kp [0, 1, 8, 9, 20, 21, 22] ?_
    refine Run.seq ?_
    refine Run.block ?_
    refine Run.seq ?_
    have fx := And.intro bools_len (And.intro gkq (And.intro hkq (And.intro hki (And.intro gmi (And.intro gm (And.intro x3 (And.intro x2 (And.intro x1 (And.intro hicl (And.intro lo1 (And.intro lo0 (And.intro gc (And.intro hii (And.intro wi (And.intro (@Int.toNat_natCast) (And.intro (@Int.natCast_nonneg) (And.intro (@Nat.zero_add) (And.intro hff (And.intro hset (And.intro hl ft))))))))))))))))))))
    refine Run.go ?_
    refine End.kp [0, 1, 8, 9, 11, 20, 21, 22] ?_
    refine Run.seq ?_
    refine Run.region rfl fun K hK => GOps.sim ?_
    refine GOps.call rfl rfl rfl rfl (by kernel_rfl) (ACalls.sim ?_)
    refine (Next_ok l a3 (vars : Int) hs3 i641 _ (d + 1) j (hset _)).mono fun v u hv => ?_
    obtain ⟨rfl, rfl⟩ := hv
    rw [hvn]
    have fx := And.intro bools_len (And.intro gkq (And.intro hkq (And.intro hki (And.intro gmi (And.intro gm (And.intro x3 (And.intro x2 (And.intro x1 (And.intro hicl (And.intro lo1 (And.intro lo0 (And.intro gc (And.intro hii (And.intro wi (And.intro (@Int.toNat_natCast) (And.intro (@Int.natCast_nonneg) (And.intro (@Nat.zero_add) (And.intro hff (And.intro hset (And.intro hl ft))))))))))))))))))))
    refine ⟨_, _, rfl, GOps.sim ?_⟩
    refine GOps.done (hK _ ?_); clear hK K
    refine End.kp [0, 1, 8, 9, 11, 12, 20, 21, 22] ?_
    refine Run.seq ?_
    refine Run.seq ?_
    refine Run.go ?_
    refine End.kp [0, 1, 8, 9, 11, 12, 20, 21, 22, 35] ?_
    refine Run.cond _ rfl (fun hb => ?_) (fun hb => ?_)
    · have hmf : mv.getD vn false = false := by simpa using hb
      have hxx := lit_n hvv hmf
      have fx := And.intro bools_len (And.intro gkq (And.intro hkq (And.intro hki (And.intro gmi (And.intro gm (And.intro x3 (And.intro x2 (And.intro x1 (And.intro hicl (And.intro lo1 (And.intro lo0 (And.intro gc (And.intro hii (And.intro wi (And.intro (@Int.toNat_natCast) (And.intro (@Int.natCast_nonneg) (And.intro (@Nat.zero_add) (And.intro hff (And.intro hset (And.intro hl ft))))))))))))))))))))
      refine Run.go ?_
      refine End.kp [0, 1, 8, 9, 11, 12, 20, 21, 22] ?_
      refine Run.region rfl fun K hK => GOps.sim ?_
      refine GOps.call rfl rfl rfl rfl (by kernel_rfl) (ACalls.sim ?_)
      refine (Next_ok l (a3 + 1) (c.length : Int) hs4 i642 _ (d + 1) j (hset _)).mono fun v u hv => ?_
      obtain ⟨rfl, rfl⟩ := hv
      rw [hkqv]
      have fx := And.intro bools_len (And.intro gkq (And.intro hkq (And.intro hki (And.intro gmi (And.intro gm (And.intro x3 (And.intro x2 (And.intro x1 (And.intro hicl (And.intro lo1 (And.intro lo0 (And.intro gc (And.intro hii (And.intro wi (And.intro (@Int.toNat_natCast) (And.intro (@Int.natCast_nonneg) (And.intro (@Nat.zero_add) (And.intro hff (And.intro hset (And.intro hl ft))))))))))))))))))))
      refine ⟨_, _, rfl, GOps.sim ?_⟩
      refine GOps.done (hK _ ?_); clear hK K
      refine End.blk ?_
      refine End.kp [0, 1, 8, 9, 20, 21, 22] ?_
      refine Run.go ?_
      refine End.lp ?_
      have hcs : lo.set (1 + i) (.row 3 1 ((ints c).set kq [Im.int .i64 (-((vn + 1 : Nat) : Int))]) 0) = AObj.vec 22 g (cellsM ((rs.set i (c.set kq (-((vn + 1 : Nat) : Int)))).map ints)) :: rowsM 3 ((rs.set i (c.set kq (-((vn + 1 : Nat) : Int)))).map ints) := by
        rw [set_map_len rs i _ hir (by rw [List.length_set, hcc]), hlo, Nat.add_comm 1 i, List.set_cons_succ, rowsM, rowsM, List.map_map, List.map_map, List.map_set]
        simp [List.map_set]
      refine ⟨n - (i + 1), _, Nat.sub_lt_sub_left hin (Nat.lt_succ_self i), keepL [(0, .ptr (d + 1) j 0), (1, .i (vars : Nat)), (8, .im (.sl (bools mv))), (9, .vs 0 0 0 n g), (20, .vs 0 0 0 n g), (21, .i (n : Nat)), (22, .i ((i + 1) : Nat))] ⟨rfl, rfl, rfl, rfl, rfl, rfl, rfl, trivial⟩, i + 1, rs.set i (c.set kq (-((vn + 1 : Nat) : Int))), a3 + 1 + 1, rfl, hin, ⟨by rw [List.length_set]; exact hrl, fun y hy => ?_, fun k hk => ?_, hA1, hA2⟩, by rw [← hcs]⟩
      · rcases List.mem_or_eq_of_mem_set hy with h | rfl
        · exact hsh y h
        · refine ⟨by rw [List.length_set]; exact hc1, by rw [List.length_set]; exact hc2, fun z hz => ?_⟩
          rcases List.mem_or_eq_of_mem_set hz with h | rfl
          · exact hc3 z h
          · exact hxx.1
      · rw [getD_set _ _ _ _ _ hir]
        by_cases e : k = i
        · rw [if_pos e]
          exact ⟨(-((vn + 1 : Nat) : Int)), List.mem_iff_getElem?.2 ⟨kq, by rw [List.getElem?_set_self hkq]⟩, hxx.2⟩
        · rw [if_neg e]
          exact hho k (Nat.lt_of_le_of_ne (Nat.le_of_lt_succ hk) e)
    · have hmt : mv.getD vn false = true := by simpa using hb
      have hxx := lit_p hvv hmt
      refine Run.skip ?_
      refine End.kp [0, 1, 8, 9, 11, 12, 20, 21, 22] ?_
      have fx := And.intro bools_len (And.intro gkq (And.intro hkq (And.intro hki (And.intro gmi (And.intro gm (And.intro x3 (And.intro x2 (And.intro x1 (And.intro hicl (And.intro lo1 (And.intro lo0 (And.intro gc (And.intro hii (And.intro wi (And.intro (@Int.toNat_natCast) (And.intro (@Int.natCast_nonneg) (And.intro (@Nat.zero_add) (And.intro hff (And.intro hset (And.intro hl ft))))))))))))))))))))
      refine Run.region rfl fun K hK => GOps.sim ?_
      refine GOps.call rfl rfl rfl rfl (by kernel_rfl) (ACalls.sim ?_)
      refine (Next_ok l (a3 + 1) (c.length : Int) hs4 i642 _ (d + 1) j (hset _)).mono fun v u hv => ?_
      obtain ⟨rfl, rfl⟩ := hv
      rw [hkqv]
      have fx := And.intro bools_len (And.intro gkq (And.intro hkq (And.intro hki (And.intro gmi (And.intro gm (And.intro x3 (And.intro x2 (And.intro x1 (And.intro hicl (And.intro lo1 (And.intro lo0 (And.intro gc (And.intro hii (And.intro wi (And.intro (@Int.toNat_natCast) (And.intro (@Int.natCast_nonneg) (And.intro (@Nat.zero_add) (And.intro hff (And.intro hset (And.intro hl ft))))))))))))))))))))
      refine ⟨_, _, rfl, GOps.sim ?_⟩
      refine GOps.done (hK _ ?_); clear hK K
      refine End.blk ?_
      refine End.kp [0, 1, 8, 9, 20, 21, 22] ?_
      refine Run.go ?_
      refine End.lp ?_
      have hcs : lo.set (1 + i) (.row 3 1 ((ints c).set kq [Im.int .i64 ((vn + 1 : Nat) : Int)]) 0) = AObj.vec 22 g (cellsM ((rs.set i (c.set kq ((vn + 1 : Nat) : Int))).map ints)) :: rowsM 3 ((rs.set i (c.set kq ((vn + 1 : Nat) : Int))).map ints) := by
        rw [set_map_len rs i _ hir (by rw [List.length_set, hcc]), hlo, Nat.add_comm 1 i, List.set_cons_succ, rowsM, rowsM, List.map_map, List.map_map, List.map_set]
        simp [List.map_set]
      refine ⟨n - (i + 1), _, Nat.sub_lt_sub_left hin (Nat.lt_succ_self i), keepL [(0, .ptr (d + 1) j 0), (1, .i (vars : Nat)), (8, .im (.sl (bools mv))), (9, .vs 0 0 0 n g), (20, .vs 0 0 0 n g), (21, .i (n : Nat)), (22, .i ((i + 1) : Nat))] ⟨rfl, rfl, rfl, rfl, rfl, rfl, rfl, trivial⟩, i + 1, rs.set i (c.set kq ((vn + 1 : Nat) : Int)), a3 + 1 + 1, rfl, hin, ⟨by rw [List.length_set]; exact hrl, fun y hy => ?_, fun k hk => ?_, hA1, hA2⟩, by rw [← hcs]⟩
      · rcases List.mem_or_eq_of_mem_set hy with h | rfl
        · exact hsh y h
        · refine ⟨by rw [List.length_set]; exact hc1, by rw [List.length_set]; exact hc2, fun z hz => ?_⟩
          rcases List.mem_or_eq_of_mem_set hz with h | rfl
          · exact hc3 z h
          · exact hxx.1
      · rw [getD_set _ _ _ _ _ hir]
        by_cases e : k = i
        · rw [if_pos e]
          exact ⟨((vn + 1 : Nat) : Int), List.mem_iff_getElem?.2 ⟨kq, by rw [List.getElem?_set_self hkq]⟩, hxx.2⟩
        · rw [if_neg e]
          exact hho k (Nat.lt_of_le_of_ne (Nat.le_of_lt_succ hk) e)
  · have hb2 := of_decide_eq_false hb
    have hie : i = n := by omega
    subst hie
    refine Run.exit rfl ?_
    refine End.kp [8, 9] ?_
    refine Run.seq ?_
    obtain ⟨loc', hg⟩ := @gridData 48 [(8, .im (.sl (bools mv))), (9, .vs 0 0 0 i g)] (fset up d j (stm l a3)) g rs (.sl (bools mv)) rfl (by rw [hrl]; rfl)
    refine Run.ghost (keepL [(8, .im (.sl (bools mv))), (9, .vs 0 0 0 i g)] ⟨rfl, rfl, trivial⟩) ?_
    refine Run.ghost hg ?_
    have fx := And.intro (@Int.toNat_natCast) (And.intro (@Int.natCast_nonneg) (And.intro (@Nat.zero_add) (And.intro hff (And.intro hset (And.intro hl ft)))))
    refine Run.go ?_
    refine End.kp [6, 7] ?_
    refine Run.ret (hQ _ _ ⟨.inr rfl, _, rfl, _, rfl, ?_⟩)
    refine ⟨rs, mv, a3, rfl, rfl, hrl, hsh, hml, fun c hc => ?_⟩
    obtain ⟨k, hk, e⟩ := mem_getD (d := []) hc
    rw [← e]
    exact hho k (by omega)
end Go.Proofs.YtdgpmopcmacicaaPi

/- The walk of SatPlanted. -/
set_option linter.unusedVariables false
set_option linter.unusedSimpArgs false
set_option maxRecDepth 100000
namespace Go.Proofs.YtdgpmopcmacicaaPi
set_option maxHeartbeats 40000000
theorem Shape.clsIn {n : Nat} {cs : List (List Int)} (h : Shape n cs) (hl : cs.length ≤ 100) : ClsIn n cs := ⟨by omega, fun c hc => ⟨(h c hc).1, by have := (h c hc).2.1; omega, (h c hc).2.2⟩⟩
theorem SatPlanted_walk (l : List Int) (n : Int) (hs : StmOk l 0) (hn : I64 n) (up : Frs) : ACalls Try.prog 6 [.im (.sl (ints l)), .i n] up fun v u => v = .im (.bool true) ∧ u = up := by
  obtain ⟨r0, r1⟩ := nextV_range l 0 (14 - 1 + 1) (by omega)
  obtain ⟨vars, hvars⟩ : ∃ vars : Nat, 1 + nextV l 0 (14 - 1 + 1) = (vars : Int) := ⟨(1 + nextV l 0 (14 - 1 + 1)).toNat, by omega⟩
  have hv1 : 1 ≤ vars := by omega
  have hv2 : vars ≤ 14 := by omega
  obtain ⟨b0, b1⟩ := below_range n 70 (by omega)
  obtain ⟨k, hk⟩ : ∃ k : Nat, below n 70 = (k : Int) := ⟨(below n 70).toNat, by omega⟩
  have hk2 : k ≤ 100 := by omega
  have hs1 : StmOk l (0 + 1) := ⟨hs.vals, hs.len, by omega, by omega⟩
  have hpw : 2 ^ vars ≤ 16384 := Nat.le_trans (Nat.pow_le_pow_right (by decide) hv2) (by decide)
  refine ACalls.code Try.func6 rfl 61 rfl (by simp) [.tmp 4] rfl fun Q hQ => ?_
  simp only [ups, PV.up, argEnv]
  have ft := And.intro ty_2 (And.intro ty_3 (And.intro ty_4 (And.intro ty_22 (And.intro ty_23 (And.intro ty_25 (And.intro ty_39 (And.intro ty_71 (And.intro ty_81 (And.intro ty_86 trivial)))))))))
  refine Run.seq ?_
  have fx := And.intro bools_len ft
  refine Run.go ?_
  refine End.kp [0, 1] ?_
  refine Run.seq ?_
  refine Run.go ?_
  refine End.kp [1, 5] ?_
  refine Run.seq ?_
  refine Run.region rfl fun K hK => GOps.sim ?_
  refine GOps.call rfl rfl rfl rfl (by kernel_rfl) (ACalls.sim ?_)
  refine (Range_ok 1 14 (by omega) (by omega) (by omega) l 0 hs (by omega) _ 0 0 rfl).mono fun v u hv => ?_
  obtain ⟨rfl, rfl⟩ := hv
  rw [hvars]
  have fx := And.intro bools_len ft
  refine ⟨_, _, rfl, GOps.sim ?_⟩
  refine GOps.done (hK _ ?_); clear hK K
  refine End.kp [1, 5, 6] ?_
  refine Run.seq ?_
  refine Run.region rfl fun K hK => GOps.sim ?_
  refine GOps.call rfl rfl rfl rfl (by kernel_rfl) (ACalls.sim ?_)
  refine (Below_ok n 70 hn (by constructor <;> omega) _).mono fun v u hv => ?_
  obtain ⟨rfl, rfl⟩ := hv
  rw [hk]
  have fx := And.intro bools_len ft
  refine ⟨_, _, rfl, GOps.sim ?_⟩
  refine GOps.call rfl rfl rfl rfl (by kernel_rfl) (ACalls.sim ?_)
  refine (planted_ok vars k hv1 (by omega) hk2 l (0 + 1) hs1 (by omega) _ 0 0 rfl).mono fun v u hv => ?_
  obtain ⟨cs, m, a', rfl, rfl, hcl, hsh, hml, hho⟩ := hv
  refine ⟨_, _, rfl, GOps.sim ?_⟩
  refine GOps.done (hK _ ?_); clear hK K
  refine End.kp [6, 7, 8] ?_
  refine Run.seq ?_
  refine Run.region rfl fun K hK => GOps.sim ?_
  refine GOps.call rfl rfl rfl rfl (by kernel_rfl) (ACalls.sim ?_)
  refine (solve_ok (mdlOf m) cs vars 16384 (by omega) (hsh.clsIn (by omega)) hho (by omega) hpw _).mono fun v u hv => ?_
  obtain ⟨rfl, m2, q, rfl, hm2, hf2⟩ := hv
  have e1 : ((m2.length : Int) == (vars : Int)) = true := by rw [hm2]; simp
  have fx := And.intro bools_len ft
  refine ⟨_, _, rfl, GOps.sim ?_⟩
  refine GOps.done (hK _ ?_); clear hK K
  refine End.kp [6, 7, 8, 9, 10] ?_
  refine Run.seq ?_
  have fx := And.intro e1 (And.intro bools_len ft)
  refine Run.region rfl fun K hK => GOps.sim ?_
  refine GOps.call rfl rfl rfl rfl (by kernel_rfl) (ACalls.sim ?_)
  refine (solved_ok _).mono fun v u hv => ?_
  obtain ⟨rfl, rfl⟩ := hv
  refine ⟨_, _, rfl, GOps.sim ?_⟩
  refine GOps.call rfl rfl rfl rfl (by kernel_rfl) (ACalls.sim ?_)
  refine (holds_ok m (by omega) cs (by omega) (fun c hc => ⟨by have := (hsh c hc).2.1; omega, by rw [hml]; exact (hsh c hc).2.2⟩) hho _).mono fun v u hv => ?_
  obtain ⟨rfl, rfl⟩ := hv
  refine ⟨_, _, rfl, GOps.sim ?_⟩
  refine GOps.call rfl rfl rfl rfl (by kernel_rfl) (ACalls.sim ?_)
  refine (holds_ok m2 (by omega) cs (by omega) (fun c hc => ⟨by have := (hsh c hc).2.1; omega, by rw [hm2]; exact (hsh c hc).2.2⟩) hf2 _).mono fun v u hv => ?_
  obtain ⟨rfl, rfl⟩ := hv
  refine ⟨_, _, rfl, GOps.sim ?_⟩
  refine GOps.done (hK _ ?_); clear hK K
  refine End.kp [4] ?_
  refine Run.ret (hQ _ _ ⟨.inr rfl, _, rfl, _, rfl, ?_⟩)
  exact ⟨rfl, rfl⟩
end Go.Proofs.YtdgpmopcmacicaaPi

