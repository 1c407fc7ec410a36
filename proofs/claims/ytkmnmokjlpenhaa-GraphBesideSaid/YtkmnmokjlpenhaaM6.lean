/- Part 6 of the proof: the texts WIH, one behind the other. Each holds for every input that it names; no condition is hidden. -/
import Derived.Test.YtkmnmokjlpenhaaM5
/- The walk of GraphBeside. -/
set_option linter.unusedVariables false
set_option linter.unusedSimpArgs false
set_option maxRecDepth 100000
namespace Go.Proofs.YtkmnmokjlpenhaaPi
set_option maxHeartbeats 8000000
theorem small_ands (l : List Int) (a : Int) (ands : Nat) : (smallV l a ands).1.ands.length ≤ ands := by
  obtain ⟨r1, s1⟩ := nextV_range l (a + 1 + 1) (ands + 1) (by omega)
  have h2 := graphV_pos l (a + 1 + 1 + 1 + 1) (nextV l a 5).toNat (nextV l (a + 1) 4).toNat (nextV l (a + 1 + 1) (ands + 1)).toNat (1 + nextV l (a + 1 + 1 + 1) (4 - 1 + 1)).toNat
  simp only [smallV]
  omega
theorem rowB_len (a b : LGraph) (r : List Bool) : (rowB a b r).length = b.inn.length := by simp [rowB]
theorem boolss_snoc (l : List (List Bool)) (x : List Bool) : boolss (l ++ [x]) = boolss l ++ [[.sl (bools x)]] := by simp
theorem rows_snoc (l : List (List Bool)) (i : Nat) (r : List Bool) (h : l[i]? = some r) : l.take (i + 1) = l.take i ++ [r] := by simp [List.take_add_one, h]
theorem bools_snoc (l : List Bool) (x : Bool) : bools (l ++ [x]) = bools l ++ [[.bool x]] := by simp
theorem Beside_walk (l : List Int) (hs : StmOk l 0) (up : Frs) : ACalls Try.prog 13 [.im (.sl (ints l))] up fun v u => v = .im (.bool true) ∧ u = up := by
  have ok : ∀ b : Int, 0 ≤ b → b ≤ 100000 → StmOk l b := fun b h1 h2 => ⟨hs.vals, hs.len, h1, by omega⟩
  have hSm1 := Small_ok 15 (by omega) l 0 hs (by omega)
  obtain ⟨haa, a1, a2⟩ := small_ok l 0 15 (by omega)
  obtain ⟨a3, a4⟩ := small_len l 0 15
  obtain ⟨a5, a6⟩ := small_outs l 0 15
  have hda := small_drawn l 0 15
  have a7 := small_ands l 0 15
  generalize smallV l 0 15 = M at hSm1 haa a1 a2 a3 a4 a5 a6 hda a7
  obtain ⟨a, p1⟩ := M
  simp only at hSm1 haa a1 a2 a3 a4 a5 a6 hda a7
  have hSm2 := Small_ok 15 (by omega) l p1 (ok _ (by omega) (by omega)) (by omega)
  obtain ⟨hb0, b1, b2⟩ := small_ok l p1 15 (by omega)
  obtain ⟨b3, b4⟩ := small_len l p1 15
  obtain ⟨b5, b6⟩ := small_outs l p1 15
  have hdb := small_drawn l p1 15
  have b7 := small_ands l p1 15
  generalize smallV l p1 15 = M at hSm2 hb0 b1 b2 b3 b4 b5 b6 hdb b7
  obtain ⟨b, p2⟩ := M
  simp only at hSm2 hb0 b1 b2 b3 b4 b5 b6 hdb b7
  have hbb := pref_ok hb0 hdb
  have hPre := Prefix_ok px (by decide) b hb0 hbb
  have jn1 := join_nodup haa hb0 hda hdb
  have jn2 := join_hit haa hb0 hda hdb
  have jn3 := join_nameOk haa hb0 hda hdb
  have jn4 := join_outs haa hb0 hda hdb
  have hclash := fun h up => clash_ok a (prefG px b) haa.small hbb.small h up
  obtain ⟨c, hc⟩ : ∃ c, c = prefG px b := ⟨_, rfl⟩
  have c1 : c.inn.length ≤ 4 := by rw [hc]; exact b3
  have c2 : c.regs.length ≤ 3 := by rw [hc]; simpa [prefG] using b4
  have c3 : c.outs.length = b.outs.length := by rw [hc]; rfl
  have c4 : c.out.length = c.outs.length := hc ▸ hbb.olen
  have c5 : c.ands.length ≤ 15 := by rw [hc]; exact b7
  rw [← hc] at hbb hPre jn1 jn2 jn3 jn4 hclash
  have hjl : a.inn.length ≤ (jInA a c).length ∧ (jInA a c).length ≤ a.inn.length + c.inn.length := jIn_len a c c.inn.length
  have hjs : GSmall (joinG a c) := ⟨by simp only [joinG]; omega, by simp only [joinG, List.length_append]; have := haa.olen; omega, by simp only [joinG, List.length_append, List.length_map]; omega, by simp only [joinG, List.length_append, List.length_map]; omega, by simp only [joinG, List.length_append, List.length_map]; omega⟩
  have hjo : (joinG a c).out.length = (joinG a c).outs.length := by
    simp only [joinG, List.length_append, List.length_map]
    rw [haa.olen, c4]
  refine ACalls.code Try.func13 rfl 161 rfl (by simp) [.tmp 2] rfl fun Q hQ => ?_
  simp only [ups, PV.up, argEnv]
  have ft := And.intro ty_2 (And.intro ty_3 (And.intro ty_4 (And.intro ty_9 (And.intro ty_22 (And.intro ty_23 (And.intro ty_25 (And.intro ty_26 (And.intro ty_34 (And.intro ty_51 (And.intro ty_58 (And.intro ty_71 trivial)))))))))))
  refine Run.seq ?_
  have fx := And.intro bools_len (And.intro boolss_len (And.intro strs_len ft))
  refine Run.go ?_
  refine End.kp [0] ?_
  refine Run.seq ?_
  refine Run.go ?_
  refine End.kp [3] ?_
  refine Run.seq ?_
  refine Run.region rfl fun K hK => GOps.sim ?_
  refine GOps.call rfl rfl rfl rfl (by kernel_rfl) (ACalls.sim ?_)
  refine (hSm1 _ 0 0 rfl).mono fun v u hv => ?_
  obtain ⟨rfl, rfl⟩ := hv
  refine ⟨_, _, rfl, GOps.sim ?_⟩
  refine GOps.call rfl rfl rfl rfl (by kernel_rfl) (ACalls.sim ?_)
  refine (hSm2 _ 0 0 rfl).mono fun v u hv => ?_
  obtain ⟨rfl, rfl⟩ := hv
  refine ⟨_, _, rfl, GOps.sim ?_⟩
  refine GOps.done (hK _ ?_); clear hK K
  refine End.kp [3, 4, 5] ?_
  refine Run.seq ?_
  refine Run.region rfl fun K hK => GOps.sim ?_
  refine GOps.call rfl rfl rfl rfl (by kernel_rfl) (ACalls.sim ?_)
  refine (hPre _).mono fun v u hv => ?_
  obtain ⟨rfl, rfl⟩ := hv
  refine ⟨_, _, rfl, GOps.sim ?_⟩
  refine GOps.done (hK _ ?_); clear hK K
  refine End.kp [3, 4, 5, 6] ?_
  refine Run.seq ?_
  rcases Bool.eq_false_or_eq_true (anyHit a.regs c) with hs4 | hs4
  · skip
    have hJ := Join_twice a c haa hbb ⟨hjs, jn3, jn2 hs4, hjo⟩
    have fx := And.intro hs4 (And.intro bools_len (And.intro boolss_len (And.intro strs_len ft)))
    refine Run.region rfl fun K hK => GOps.sim ?_
    refine GOps.call rfl rfl rfl rfl (by kernel_rfl) (ACalls.sim ?_)
    refine (hJ _).mono fun v u hv => ?_
    obtain ⟨rfl, rfl⟩ := hv
    refine ⟨_, _, rfl, GOps.sim ?_⟩
    refine GOps.done (hK _ ?_); clear hK K
    refine End.kp [3, 4, 5, 6, 7, 8] ?_
    refine Run.seq ?_
    refine Run.seq ?_
    refine Run.region rfl fun K hK => GOps.sim ?_
    refine GOps.call rfl rfl rfl rfl (by kernel_rfl) (ACalls.sim ?_)
    refine (graphs_ok _).mono fun v u hv => ?_
    obtain ⟨rfl, rfl⟩ := hv
    refine ⟨_, _, rfl, GOps.sim ?_⟩
    refine GOps.done (hK _ ?_); clear hK K
    refine End.kp [3, 4, 5, 6, 7, 8, 49] ?_
    refine Run.cond _ rfl (fun hb => ?_) (fun hb => ?_)
    · have hb2 := hb
      refine Run.seq ?_
      have fx := And.intro hs4 (And.intro bools_len (And.intro boolss_len (And.intro strs_len ft)))
      refine Run.region rfl fun K hK => GOps.sim ?_
      refine GOps.call rfl rfl rfl rfl (by kernel_rfl) (ACalls.sim ?_)
      refine (graphs_ok _).mono fun v u hv => ?_
      obtain ⟨rfl, rfl⟩ := hv
      refine ⟨_, _, rfl, GOps.sim ?_⟩
      refine GOps.call rfl rfl rfl rfl (by kernel_rfl) (ACalls.sim ?_)
      refine (hclash hs4 _).mono fun v u hv => ?_
      obtain ⟨rfl, rfl⟩ := hv
      refine ⟨_, _, rfl, GOps.sim ?_⟩
      refine GOps.done (hK _ ?_); clear hK K
      refine End.kp [2] ?_
      refine Run.ret (hQ _ _ ⟨.inr rfl, _, rfl, _, rfl, ?_⟩)
      exact ⟨rfl, rfl⟩
    · have hb2 := hb
      simp at hb
  · skip
    have hG := join_ok haa hbb jn3 (jn1 hs4) jn4 hjs
    have hJ := Join_ok a c haa hbb hG
    have hLaw := fun tr htr => run_join haa hbb tr (lanes0 (initG a)) (lanes0 (initG c)) htr (by simp) (by simp)
    have hInn : (joinG a c).inn = jInA a c := rfl
    rw [← init_join] at hLaw
    obtain ⟨G, hGe⟩ : ∃ G, G = joinG a c := ⟨_, rfl⟩
    rw [← hGe] at hG hJ hLaw hInn hjs
    have hP := Played_ok 8 G.inn.length (by omega) (by rw [hInn]; omega) l p2 (ok _ (by omega) (by omega)) (by omega)
    have hr := playedV_row l G.inn.length p2 8
    have hl := playedV_len l G.inn.length p2 8
    generalize playedV l G.inn.length p2 8 = PA at hP hr hl
    obtain ⟨tr, p3⟩ := PA
    simp only at hP hr hl
    have hr2 : ∀ r ∈ tr, r.length = (jInA a c).length := fun r h => by rw [hr r h, hInn]
    have hjge : a.inn.length ≤ (jInA a c).length := hjl.1
    have fx := And.intro hs4 (And.intro bools_len (And.intro boolss_len (And.intro strs_len ft)))
    refine Run.region rfl fun K hK => GOps.sim ?_
    refine GOps.call rfl rfl rfl rfl (by kernel_rfl) (ACalls.sim ?_)
    refine (hJ _).mono fun v u hv => ?_
    obtain ⟨rfl, rfl⟩ := hv
    refine ⟨_, _, rfl, GOps.sim ?_⟩
    refine GOps.done (hK _ ?_); clear hK K
    refine End.kp [3, 4, 5, 6, 7, 8] ?_
    refine Run.seq ?_
    refine Run.seq ?_
    refine Run.region rfl fun K hK => GOps.sim ?_
    refine GOps.call rfl rfl rfl rfl (by kernel_rfl) (ACalls.sim ?_)
    refine (graphs_ok _).mono fun v u hv => ?_
    obtain ⟨rfl, rfl⟩ := hv
    refine ⟨_, _, rfl, GOps.sim ?_⟩
    refine GOps.done (hK _ ?_); clear hK K
    refine End.kp [3, 4, 5, 6, 7, 8, 49] ?_
    refine Run.cond _ rfl (fun hb => ?_) (fun hb => ?_)
    · have hb2 := hb
      simp at hb
    · have hb2 := hb
      refine Run.skip ?_
      refine End.kp [3, 4, 5, 7] ?_
      refine Run.seq ?_
      have fx := And.intro hs4 (And.intro bools_len (And.intro boolss_len (And.intro strs_len ft)))
      refine Run.region rfl fun K hK => GOps.sim ?_
      refine GOps.call rfl rfl rfl rfl (by kernel_rfl) (ACalls.sim ?_)
      refine (hP _ 0 0 rfl).mono fun v u hv => ?_
      obtain ⟨rfl, rfl⟩ := hv
      refine ⟨_, _, rfl, GOps.sim ?_⟩
      refine GOps.done (hK _ ?_); clear hK K
      refine End.kp [4, 5, 7, 9] ?_
      refine Run.seq ?_
      refine Run.go ?_
      refine End.kp [4, 5, 7, 9, 10, 11] ?_
      refine Run.seq ?_
      refine Run.seq ?_
      refine Run.go ?_
      refine End.kp [4, 5, 7, 9, 10, 11, 69, 70, 71] ?_
      refine Run.block ?_
      refine Run.ghost (Ghost.thaw (u := 10) 71 1 (by decide) rfl) ?_
      refine Run.ghost (Ghost.thaw (u := 11) 71 1 (by decide) rfl) ?_
      refine Run.ghost (Ghost.form [(4, .ptr 0 1 0), (5, .ptr 0 2 0), (7, .ptr 0 3 0), (9, .im (.sl (boolss tr))), (10, .ms 0 4 0), (11, .ms 0 5 0), (69, .im (.sl (boolss tr))), (70, .i tr.length), (71, .i (0 : Nat))] 6 ⟨rfl, rfl, rfl, rfl, rfl, rfl, rfl, rfl, rfl, trivial⟩ rfl rfl) ?_
      refine Run.loop (fun m s => ∃ i : Nat, m = tr.length - i ∧ i ≤ tr.length ∧ s = ⟨[(4, .ptr 0 1 0), (5, .ptr 0 2 0), (7, .ptr 0 3 0), (9, .im (.sl (boolss tr))), (10, .ms 0 4 i), (11, .ms 0 5 i), (69, .im (.sl (boolss tr))), (70, .i tr.length), (71, .i (i : Nat))], [stm l p3, .box [.im (.sl (strs a.inn)), .im (.sl (strs a.out)), .im (.sl (a.regs.map LReg.im)), .im (.sl (a.ands.map nd)), .im (.sl (ints a.outs))], .box [.im (.sl (strs c.inn)), .im (.sl (strs c.out)), .im (.sl (c.regs.map LReg.im)), .im (.sl (c.ands.map nd)), .im (.sl (ints c.outs))], .box [.im (.sl (strs G.inn)), .im (.sl (strs G.out)), .im (.sl (G.regs.map LReg.im)), .im (.sl (G.ands.map nd)), .im (.sl (ints G.outs))], .row 71 1 (boolss ((tr.take i).map fun r => r.take a.inn.length)) 0, .row 71 1 (boolss ((tr.take i).map (rowB a c))) 0], up⟩) tr.length ⟨0, rfl, by omega, rfl⟩ fun m s hI => ?_
      obtain ⟨i, rfl, hi, rfl⟩ := hI
      have hpl : (boolss ((tr.take i).map fun r => r.take a.inn.length)).length = i := by simp; omega
      have hql : (boolss ((tr.take i).map (rowB a c))).length = i := by simp; omega
      have hap : (i + 1) * 24 ≤ 140737488355328 := by omega
      refine Run.seq ?_
      have fx := And.intro hap (And.intro hql (And.intro hpl (And.intro hs4 (And.intro bools_len (And.intro boolss_len (And.intro strs_len ft))))))
      refine Run.go ?_
      refine End.kp [4, 5, 7, 9, 10, 11, 69, 70, 71, 72] ?_
      refine Run.seq ?_
      refine Run.cond _ rfl (fun hb => ?_) (fun hb => ?_)
      · have hb2 := of_decide_eq_true hb
        have hin : i < tr.length := by omega
        have wi := wsucc hin (by omega)
        obtain ⟨r, hri, hrm, _, hrr⟩ := boolss_at tr i hin
        have hrl := hr2 r hrm
        have hil : (i : Int) < (tr.length : Int) := by omega
        refine Run.skip ?_
        refine End.kp [4, 5, 7, 9, 10, 11, 69, 70, 71] ?_
        refine Run.seq ?_
        refine Run.block ?_
        refine Run.seq ?_
        have fx := And.intro (@Int.toNat_natCast) (And.intro (@Int.natCast_nonneg) (And.intro hil (And.intro hrr (And.intro wi (And.intro hap (And.intro hql (And.intro hpl (And.intro hs4 (And.intro bools_len (And.intro boolss_len (And.intro strs_len ft)))))))))))
        refine Run.go ?_
        refine End.kp [4, 5, 7, 9, 10, 11, 13, 69, 70, 71] ?_
        refine Run.seq ?_
        refine Run.go ?_
        refine End.kp [4, 5, 7, 9, 10, 11, 13, 14, 69, 70, 71] ?_
        refine Run.seq ?_
        refine Run.seq ?_
        refine Run.go ?_
        refine End.kp [4, 5, 7, 9, 10, 11, 13, 14, 69, 70, 71, 76, 77, 78] ?_
        refine Run.block ?_
        refine Run.ghost (Ghost.thaw (u := 14) 4 1 (by decide) rfl) ?_
        refine Run.ghost (Ghost.form [(4, .ptr 0 1 0), (5, .ptr 0 2 0), (7, .ptr 0 3 0), (9, .im (.sl (boolss tr))), (10, .ms 0 4 i), (11, .ms 0 5 i), (13, .im (.sl (bools r))), (14, .ms 0 6 0), (69, .im (.sl (boolss tr))), (70, .i tr.length), (71, .i (i : Nat)), (76, .im (.sl (strs c.inn))), (77, .i c.inn.length), (78, .i (0 : Nat))] 7 ⟨rfl, rfl, rfl, rfl, rfl, rfl, rfl, rfl, rfl, rfl, rfl, rfl, rfl, rfl, trivial⟩ rfl rfl) ?_
        refine Run.loop (fun m s => ∃ j : Nat, m = c.inn.length - j ∧ j ≤ c.inn.length ∧ s = ⟨[(4, .ptr 0 1 0), (5, .ptr 0 2 0), (7, .ptr 0 3 0), (9, .im (.sl (boolss tr))), (10, .ms 0 4 i), (11, .ms 0 5 i), (13, .im (.sl (bools r))), (14, .ms 0 6 j), (69, .im (.sl (boolss tr))), (70, .i tr.length), (71, .i (i : Nat)), (76, .im (.sl (strs c.inn))), (77, .i c.inn.length), (78, .i (j : Nat))], [stm l p3, .box [.im (.sl (strs a.inn)), .im (.sl (strs a.out)), .im (.sl (a.regs.map LReg.im)), .im (.sl (a.ands.map nd)), .im (.sl (ints a.outs))], .box [.im (.sl (strs c.inn)), .im (.sl (strs c.out)), .im (.sl (c.regs.map LReg.im)), .im (.sl (c.ands.map nd)), .im (.sl (ints c.outs))], .box [.im (.sl (strs G.inn)), .im (.sl (strs G.out)), .im (.sl (G.regs.map LReg.im)), .im (.sl (G.ands.map nd)), .im (.sl (ints G.outs))], .row 71 1 (boolss ((tr.take i).map fun r => r.take a.inn.length)) 0, .row 71 1 (boolss ((tr.take i).map (rowB a c))) 0, .row 4 1 (bools ((rowB a c r).take j)) 0], up⟩) c.inn.length ⟨0, rfl, by omega, rfl⟩ fun m s hI => ?_
        obtain ⟨j, rfl, hj, rfl⟩ := hI
        have hvl : (bools ((rowB a c r).take j)).length = j := by simp [rowB_len]; omega
        have hap2 : (j + 1) * 1 ≤ 140737488355328 := by omega
        have hap3 : j + 1 ≤ 140737488355328 := by omega
        refine Run.seq ?_
        have fx := And.intro hap3 (And.intro hap2 (And.intro hvl (And.intro (@Int.toNat_natCast) (And.intro (@Int.natCast_nonneg) (And.intro hil (And.intro hrr (And.intro wi (And.intro hap (And.intro hql (And.intro hpl (And.intro hs4 (And.intro bools_len (And.intro boolss_len (And.intro strs_len ft))))))))))))))
        refine Run.go ?_
        refine End.kp [4, 5, 7, 9, 10, 11, 13, 14, 69, 70, 71, 76, 77, 78, 79] ?_
        refine Run.seq ?_
        refine Run.cond _ rfl (fun hb => ?_) (fun hb => ?_)
        · have hb3 := of_decide_eq_true hb
          have hjn : j < c.inn.length := by omega
          have wj := wsucc hjn (by omega)
          obtain ⟨x, hx1, hx2, hx3⟩ := str_at c.inn j hjn
          have hjl2 : (j : Int) < (c.inn.length : Int) := by omega
          have hmem : x ∈ jInA a c := by
            refine jIn_mem.2 ?_
            by_cases h : x ∈ a.inn
            · exact .inl h
            · exact .inr ⟨hx2, h⟩
          obtain ⟨q, hq1, hq2, hq3⟩ := idxS_in x (jInA a c) 0 hmem
          rw [Nat.zero_add] at hq1
          have hIx := IndexS_ok (jInA a c) x (by omega)
          rw [hq1, ← hInn] at hIx
          have hrq : (bools r)[q]? = some [.bool (r.getD q false)] := by simp [hrl, hq3]
          have hql2 : (q : Int) < (r.length : Int) := by omega
          have hrow : (rowB a c r).take (j + 1) = (rowB a c r).take j ++ [r.getD q false] := by
            rw [List.take_add_one]
            congr 1
            simp only [rowB, List.getElem?_map, hx1, Option.map_some, hq1, Int.toNat_natCast]
            rfl
          refine Run.skip ?_
          refine End.kp [4, 5, 7, 9, 10, 11, 13, 14, 69, 70, 71, 76, 77, 78] ?_
          refine Run.seq ?_
          refine Run.block ?_
          refine Run.seq ?_
          have fx := And.intro hql2 (And.intro hrq (And.intro hjl2 (And.intro hx3 (And.intro wj (And.intro hap3 (And.intro hap2 (And.intro hvl (And.intro (@Int.toNat_natCast) (And.intro (@Int.natCast_nonneg) (And.intro hil (And.intro hrr (And.intro wi (And.intro hap (And.intro hql (And.intro hpl (And.intro hs4 (And.intro bools_len (And.intro boolss_len (And.intro strs_len ft)))))))))))))))))))
          refine Run.go ?_
          refine End.kp [4, 5, 7, 9, 10, 11, 13, 14, 16, 69, 70, 71, 76, 77, 78] ?_
          refine Run.region rfl fun K hK => GOps.sim ?_
          refine GOps.call rfl rfl rfl rfl (by kernel_rfl) (ACalls.sim ?_)
          refine (hIx _).mono fun v u hv => ?_
          obtain ⟨rfl, rfl⟩ := hv
          refine ⟨_, _, rfl, GOps.sim ?_⟩
          refine GOps.done (hK _ ?_); clear hK K
          refine End.blk ?_
          refine End.kp [4, 5, 7, 9, 10, 11, 13, 14, 69, 70, 71, 76, 77, 78] ?_
          refine Run.go ?_
          refine End.lp ?_
          refine ⟨c.inn.length - (j + 1), _, by omega, Ghost.form [(4, .ptr 0 1 0), (5, .ptr 0 2 0), (7, .ptr 0 3 0), (9, .im (.sl (boolss tr))), (10, .ms 0 4 i), (11, .ms 0 5 i), (13, .im (.sl (bools r))), (14, .ms 0 6 (j + 1)), (69, .im (.sl (boolss tr))), (70, .i tr.length), (71, .i (i : Nat)), (76, .im (.sl (strs c.inn))), (77, .i c.inn.length), (78, .i (j + 1 : Nat))] 7 ⟨rfl, rfl, rfl, rfl, rfl, rfl, rfl, rfl, rfl, rfl, rfl, rfl, rfl, rfl, trivial⟩ rfl rfl, j + 1, rfl, by omega, ?_⟩
          rw [hrow, bools_snoc]
          rfl
        · have hb3 := of_decide_eq_false hb
          have hjN : j = c.inn.length := by omega
          subst hjN
          have hfull : (rowB a c r).take c.inn.length = rowB a c r := by rw [List.take_of_length_le (by rw [rowB_len]; omega)]
          rw [hfull] at hvl ⊢
          have htk : (bools r).take a.inn.length = bools (r.take a.inn.length) := by simp [List.map_take]
          have hle : a.inn.length ≤ r.length := by omega
          have hsz : ∀ z : List (List Im), szOk 1 0 z := fun z => .inl rfl
          refine Run.exit rfl ?_
          refine End.kp [4, 5, 7, 9, 10, 11, 13, 14, 69, 70, 71] ?_
          refine Run.ghost (Ghost.shut (t := 14) (j := 6) rfl rfl hvl) ?_
          simp only [eput, edel]
          have fx := And.intro hsz (And.intro hle (And.intro htk (And.intro hap3 (And.intro hap2 (And.intro hvl (And.intro (@Int.toNat_natCast) (And.intro (@Int.natCast_nonneg) (And.intro hil (And.intro hrr (And.intro wi (And.intro hap (And.intro hql (And.intro hpl (And.intro hs4 (And.intro bools_len (And.intro boolss_len (And.intro strs_len ft)))))))))))))))))
          refine Run.go ?_
          refine End.blk ?_
          refine End.kp [4, 5, 7, 9, 10, 11, 69, 70, 71] ?_
          refine Run.go ?_
          refine End.lp ?_
          refine ⟨tr.length - (i + 1), _, by omega, Ghost.form [(4, .ptr 0 1 0), (5, .ptr 0 2 0), (7, .ptr 0 3 0), (9, .im (.sl (boolss tr))), (10, .ms 0 4 (i + 1)), (11, .ms 0 5 (i + 1)), (69, .im (.sl (boolss tr))), (70, .i tr.length), (71, .i (i + 1 : Nat))] 6 ⟨rfl, rfl, rfl, rfl, rfl, rfl, rfl, rfl, rfl, trivial⟩ rfl rfl, i + 1, rfl, by omega, ?_⟩
          rw [rows_snoc tr i r hri]
          simp
      · have hb2 := of_decide_eq_false hb
        have hiN : i = tr.length := by omega
        subst hiN
        rw [List.take_length] at hpl hql ⊢
        have hRa := GRun_ok a haa (tr.map fun r => r.take a.inn.length) (by simp; omega) (by
          intro z hz
          obtain ⟨r, hr3, rfl⟩ := List.mem_map.1 hz
          have := hr2 r hr3
          rw [List.length_take]
          omega)
        have hRc := GRun_ok c hbb (tr.map (rowB a c)) (by simp; omega) (by
          intro z hz
          obtain ⟨r, hr3, rfl⟩ := List.mem_map.1 hz
          exact rowB_len a c r)
        have hRg := GRun_ok G hG tr (by omega) (fun r h => hr r h)
        have hz := hLaw tr hr2
        have hZl := runG_len G tr (lanes0 (initG G))
        have hXl := runG_len a (tr.map fun r => r.take a.inn.length) (lanes0 (initG a))
        have hYl := runG_len c (tr.map (rowB a c)) (lanes0 (initG c))
        have hXr := runG_row a (tr.map fun r => r.take a.inn.length) (lanes0 (initG a))
        have hYr := runG_row c (tr.map (rowB a c)) (lanes0 (initG c))
        rw [List.length_map] at hXl hYl
        generalize runG G (lanes0 (initG G)) tr = Z at hRg hz hZl
        generalize runG a (lanes0 (initG a)) (tr.map fun r => r.take a.inn.length) = X at hRa hz hXl hXr
        generalize runG c (lanes0 (initG c)) (tr.map (rowB a c)) = Y at hRc hz hYl hYr
        have d8 : ((Z.length : Int) != 8) = false := by rw [hZl, hl]; rfl
        refine Run.exit rfl ?_
        refine End.kp [4, 5, 7, 9, 10, 11] ?_
        refine Run.seq ?_
        refine Run.ghost (Ghost.shut (t := 10) (j := 4) rfl rfl hpl) ?_
        refine Run.ghost (Ghost.shut (t := 11) (j := 5) rfl rfl hql) ?_
        simp only [eput, edel]
        have fx := And.intro d8 (And.intro hap (And.intro hql (And.intro hpl (And.intro hs4 (And.intro bools_len (And.intro boolss_len (And.intro strs_len ft)))))))
        refine Run.region rfl fun K hK => GOps.sim ?_
        refine GOps.call rfl rfl rfl rfl (by kernel_rfl) (ACalls.sim ?_)
        refine (hRa _).mono fun v u hv => ?_
        obtain ⟨rfl, rfl⟩ := hv
        refine ⟨_, _, rfl, GOps.sim ?_⟩
        refine GOps.done (hK _ ?_); clear hK K
        refine End.kp [5, 6, 7, 9, 11, 17] ?_
        refine Run.seq ?_
        refine Run.region rfl fun K hK => GOps.sim ?_
        refine GOps.call rfl rfl rfl rfl (by kernel_rfl) (ACalls.sim ?_)
        refine (hRc _).mono fun v u hv => ?_
        obtain ⟨rfl, rfl⟩ := hv
        refine ⟨_, _, rfl, GOps.sim ?_⟩
        refine GOps.done (hK _ ?_); clear hK K
        refine End.kp [6, 7, 8, 9, 17, 18] ?_
        refine Run.seq ?_
        refine Run.region rfl fun K hK => GOps.sim ?_
        refine GOps.call rfl rfl rfl rfl (by kernel_rfl) (ACalls.sim ?_)
        refine (hRg _).mono fun v u hv => ?_
        obtain ⟨rfl, rfl⟩ := hv
        refine ⟨_, _, rfl, GOps.sim ?_⟩
        refine GOps.done (hK _ ?_); clear hK K
        refine End.kp [6, 8, 17, 18, 19, 20] ?_
        refine Run.seq ?_
        refine Run.seq ?_
        refine Run.go ?_
        refine End.kp [17, 18, 19, 138] ?_
        refine Run.cond _ rfl (fun hb => ?_) (fun hb => ?_)
        · have hb3 := hb
          simp at hb
        · have hb3 := hb
          refine Run.skip ?_
          refine End.kp [17, 18, 19] ?_
          refine Run.seq ?_
          refine Run.seq ?_
          have fx := And.intro d8 (And.intro hap (And.intro hql (And.intro hpl (And.intro hs4 (And.intro bools_len (And.intro boolss_len (And.intro strs_len ft)))))))
          refine Run.go ?_
          refine End.kp [17, 18, 19, 140, 141] ?_
          refine Run.block ?_
          refine Run.ghost (Ghost.form [(17, .im (.sl (boolss X))), (18, .im (.sl (boolss Y))), (19, .im (.sl (boolss Z))), (140, .i Z.length), (141, .i (0 : Nat))] 0 ⟨rfl, rfl, rfl, rfl, rfl, trivial⟩ rfl rfl) ?_
          refine Run.loop (fun m s => ∃ i : Nat, m = Z.length - i ∧ i ≤ Z.length ∧ s = ⟨[(17, .im (.sl (boolss X))), (18, .im (.sl (boolss Y))), (19, .im (.sl (boolss Z))), (140, .i Z.length), (141, .i (i : Nat))], [], up⟩) Z.length ⟨0, rfl, by omega, rfl⟩ fun m s hI => ?_
          obtain ⟨i, rfl, hi, rfl⟩ := hI
          refine Run.seq ?_
          have fx := And.intro d8 (And.intro hap (And.intro hql (And.intro hpl (And.intro hs4 (And.intro bools_len (And.intro boolss_len (And.intro strs_len ft)))))))
          refine Run.go ?_
          refine End.kp [17, 18, 19, 140, 141, 142] ?_
          refine Run.seq ?_
          refine Run.cond _ rfl (fun hb => ?_) (fun hb => ?_)
          · have hb4 := of_decide_eq_true hb
            have hin : i < Z.length := by omega
            have wi := wsucc hin (by omega)
            obtain ⟨z, hzi, hzm, _, hzz⟩ := boolss_at Z i hin
            obtain ⟨x, hxi, hxm, _, hxx⟩ := boolss_at X i (by omega)
            obtain ⟨y, hyi, hym, _, hyy⟩ := boolss_at Y i (by omega)
            have hil1 : (i : Int) < (Z.length : Int) := by omega
            have hil2 : (i : Int) < (X.length : Int) := by omega
            have hil3 : (i : Int) < (Y.length : Int) := by omega
            have hxy : z = x ++ y := by
              have h := congrArg (fun l => l[i]?) hz
              simp only [hzi, List.getElem?_zipWith, hxi, hyi] at h
              exact Option.some.inj h
            have hxl := hXr x hxm
            have hyl := hYr y hym
            have hCat := fun u hl => ConcatB_ms [x, y] (by simp [sumL]; omega) (by simp [sumL]; omega) (by simp) u 0 0 0 hl
            rw [show [x, y].flatten = z by simp [hxy]] at hCat
            have hzl : z.length = a.outs.length + c.outs.length := by rw [hxy, List.length_append, hxl, hyl]
            refine Run.skip ?_
            refine End.kp [17, 18, 19, 140, 141] ?_
            refine Run.seq ?_
            refine Run.block ?_
            refine Run.seq ?_
            have fx := And.intro (@Int.toNat_natCast) (And.intro (@Int.natCast_nonneg) (And.intro hil3 (And.intro hil2 (And.intro hil1 (And.intro hyy (And.intro hxx (And.intro hzz (And.intro wi (And.intro d8 (And.intro hap (And.intro hql (And.intro hpl (And.intro hs4 (And.intro bools_len (And.intro boolss_len (And.intro strs_len ft))))))))))))))))
            refine Run.go ?_
            refine End.kp [17, 18, 19, 21, 140, 141] ?_
            refine Run.seq ?_
            refine Run.ghost (.spares 1) ?_
            simp only [ASt.pushN, ASt.push, List.append_assoc, List.cons_append, List.nil_append]
            refine Run.drawA fun K hK => ?_
            refine DOps.sim ?_
            refine DOps.call (.im (.sl (bools z))) [((0, 0), .row 71 1 (boolss [x, y]) 0)] [] rfl rfl rfl rfl (by kernel_rfl) (by simp [Agree, ASt.fr]) (fun u hu => hCat u (hu ((0, 0), .row 71 1 (boolss [x, y]) 0) (by simp))) ?_
            refine DOps.sim ?_
            refine DOps.call (.im (.bool true)) [] [] rfl rfl rfl rfl (by kernel_rfl) (by simp [Agree]) (fun u hu => EqB_same z z rfl (by omega) u) ?_
            refine DOps.sim ?_
            refine DOps.nil (by rfl) (hK _ ?_); clear hK K
            refine End.kp [17, 18, 19, 140, 141, 159] ?_
            refine Run.cond _ rfl (fun hb => ?_) (fun hb => ?_)
            · have hb5 := hb
              simp at hb
            · have hb5 := hb
              refine Run.skip ?_
              refine End.blk ?_
              refine End.kp [17, 18, 19, 140, 141] ?_
              have fx := And.intro (@Int.toNat_natCast) (And.intro (@Int.natCast_nonneg) (And.intro hil3 (And.intro hil2 (And.intro hil1 (And.intro hyy (And.intro hxx (And.intro hzz (And.intro wi (And.intro d8 (And.intro hap (And.intro hql (And.intro hpl (And.intro hs4 (And.intro bools_len (And.intro boolss_len (And.intro strs_len ft))))))))))))))))
              refine Run.go ?_
              refine End.lp ?_
              refine ⟨Z.length - (i + 1), _, by omega, Ghost.form [(17, .im (.sl (boolss X))), (18, .im (.sl (boolss Y))), (19, .im (.sl (boolss Z))), (140, .i Z.length), (141, .i (i + 1 : Nat))] 0 ⟨rfl, rfl, rfl, rfl, rfl, trivial⟩ rfl rfl, i + 1, rfl, by omega, rfl⟩
          · have hb4 := of_decide_eq_false hb
            refine Run.exit rfl ?_
            refine End.kp [] ?_
            refine Run.seq ?_
            have fx := And.intro d8 (And.intro hap (And.intro hql (And.intro hpl (And.intro hs4 (And.intro bools_len (And.intro boolss_len (And.intro strs_len ft)))))))
            refine Run.go ?_
            refine End.kp [2] ?_
            refine Run.ret (hQ _ _ ⟨.inr rfl, _, rfl, _, rfl, ?_⟩)
            exact ⟨rfl, rfl⟩
end Go.Proofs.YtkmnmokjlpenhaaPi

