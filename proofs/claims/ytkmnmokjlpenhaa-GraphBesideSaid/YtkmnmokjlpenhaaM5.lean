/- Part 5 of the proof: the texts WO, WUA, PJoin, PJoinB, PBit0, PLane, PWords, PLanes, WGM, WGN, WGE, WIG, one behind the other. Each holds for every input that it names; no condition is hidden. -/
import Derived.Test.YtkmnmokjlpenhaaM2
import Derived.Test.YtkmnmokjlpenhaaM4
import Derived.Test.YtkmnmokjlpenhaaM1
import Derived.Test.YtkmnmokjlpenhaaM3
import Derived.Test.YtkmnmokjlpenhaaPiGrowB
/- The walk of Moving, and that drawn graphs are in order. -/
set_option linter.unusedVariables false
set_option linter.unusedSimpArgs false
set_option maxRecDepth 100000
namespace Go.Proofs.YtkmnmokjlpenhaaPi
set_option maxHeartbeats 4000000
theorem nd_at (D T : List (Int × Int)) (p : Int × Int) (i : Nat) (h : D.length = i) : ((D ++ p :: T).map nd)[i]? = some [.int .i64 p.1, .int .i64 p.2] := by
  subst h
  simp
theorem nd_set (D T : List (Int × Int)) (p : Int × Int) (i : Nat) (a b : Int) (h : D.length = i) : ((D ++ p :: T).map nd).set i [.int .i64 a, .int .i64 b] = (D ++ (a, b) :: T).map nd := by
  subst h
  simp
theorem nd_mlen (D T : List (Int × Int)) (p : Int × Int) (i k : Nat) (h : D.length = i) (h2 : i < k) (h3 : T.length = k - (i + 1)) : ((D ++ p :: T).map nd).length = k := by
  simp
  omega
theorem Moving_ok (ands : Nat) (h0 : 1 ≤ ands) (h3 : ands ≤ 99) (l : List Int) (a : Int) (hs : StmOk l a) (hf : a + 20000 < 1099511627776) (up : Frs) (d j : Nat) (hl : fget up d j = some (stm l a)) :
    ACalls Try.prog 21 [.ptr d j 0, .i ands] up fun v u => v = (movingV l a ands).1.pv ∧ u = fset up d j (stm l (movingV l a ands).2) := by
  have hset : ∀ o, fget (fset up d j o) d j = some o := fun o => fget_fset_same _ _ _ _ _ hl
  have hp := hs.pos
  
  have ok : ∀ b : Int, a ≤ b → b ≤ a + 3000 → StmOk l b := fun b h1 h2 => ⟨hs.vals, hs.len, by omega, by omega⟩
  obtain ⟨r1, s1⟩ := nextV_range l a (3 - 1 + 1) (by omega)
  obtain ⟨r2, s2⟩ := nextV_range l (a + 1) (7 - 2 + 1) (by omega)
  obtain ⟨r3, s3⟩ := nextV_range l (a + 1 + 1) (ands - 1 + 1) (by omega)
  obtain ⟨r4, s4⟩ := nextV_range l (a + 1 + 1 + 1) (3 - 1 + 1) (by omega)
  obtain ⟨ins, e1⟩ : ∃ k : Nat, 1 + nextV l a (3 - 1 + 1) = k := ⟨(1 + nextV l a (3 - 1 + 1)).toNat, by omega⟩
  obtain ⟨regs, e2⟩ : ∃ k : Nat, 2 + nextV l (a + 1) (7 - 2 + 1) = k := ⟨(2 + nextV l (a + 1) (7 - 2 + 1)).toNat, by omega⟩
  obtain ⟨k, e3⟩ : ∃ k : Nat, 1 + nextV l (a + 1 + 1) (ands - 1 + 1) = k := ⟨(1 + nextV l (a + 1 + 1) (ands - 1 + 1)).toNat, by omega⟩
  obtain ⟨outs, e4⟩ : ∃ k : Nat, 1 + nextV l (a + 1 + 1 + 1) (3 - 1 + 1) = k := ⟨(1 + nextV l (a + 1 + 1 + 1) (3 - 1 + 1)).toNat, by omega⟩
  generalize hM : movingV l a ands = M
  obtain ⟨p1, p2, p3, p4, p5, p6, p7⟩ := graphV_pos l (a + 1 + 1 + 1 + 1) ins regs k outs
  have hGr := Graph_ok ins regs k outs (by omega) (by omega) (by omega) (by omega) l (a + 1 + 1 + 1 + 1) (ok _ (by omega) (by omega)) (by omega)
  have hMM : M = (let G := graphV l (a + 1 + 1 + 1 + 1) ins regs k outs; ({ G.1 with ands := (drawN (mvX l ins regs G.1.ands) G.2 G.1.ands.length).1 }, (drawN (mvX l ins regs G.1.ands) G.2 G.1.ands.length).2)) := by
    rw [← hM]
    simp only [movingV, e1, e2, e3, e4, Int.toNat_natCast]
  generalize graphV l (a + 1 + 1 + 1 + 1) ins regs k outs = G at p1 p2 p3 p4 p5 p6 p7 hGr hMM
  obtain ⟨g, a5⟩ := G
  simp only at p1 p2 p3 p4 p5 p6 p7 hGr hMM
  rw [p6] at hMM
  have hal : (g.ands.map nd).length = k := by rw [nd_len]; exact p6
  have pM : ∀ i : Nat, _ := drawN_pos (mvX l ins regs g.ands) a5 6 (mvX_pos l ins regs g.ands)
  refine ACalls.code Try.func21 rfl 52 rfl (by simp) [.cell 4 51] rfl fun Q hQ => ?_
  simp only [ups, PV.up, argEnv]
  have ft := And.intro ty_3 (And.intro ty_4 (And.intro ty_23 (And.intro ty_48 (And.intro ty_51 (And.intro ty_62 (And.intro ty_137 trivial))))))
  refine Run.seq ?_
  have fx := And.intro e4 (And.intro e3 (And.intro e2 (And.intro e1 (And.intro hset (And.intro hl ft)))))
  refine Run.go ?_
  refine End.kp [1, 2, 4] ?_
  refine Run.seq ?_
  refine Run.ghost (.spares 2) ?_
  simp only [ASt.pushN, ASt.push, List.append_assoc, List.cons_append, List.nil_append]
  refine Run.drawA fun K hK => ?_
  refine DOps.sim ?_
  refine DOps.call (.i ins) [((0, 0), .box [.ptr (d + 1) j 0]), ((d + 1, j), stm l (a))] [((d + 1, j), stm l (a + 1))] rfl rfl rfl rfl (by kernel_rfl) (by simp [Agree, ASt.fr, hl]) (fun u hu => by have := Range_ok 1 3 (by omega) (by omega) (by omega) l a hs (by omega) u (d + 1) j (hu (((d + 1, j), stm l (a))) (by simp)); rw [e1] at this; exact this) ?_
  refine DOps.sim ?_
  refine DOps.call (.i regs) [((0, 0), .box [.ptr (d + 1) j 0]), ((d + 1, j), stm l (a + 1))] [((d + 1, j), stm l (a + 1 + 1))] rfl rfl rfl rfl (by kernel_rfl) (by simp [Agree, ASt.fr, hset]) (fun u hu => by have := Range_ok 2 7 (by omega) (by omega) (by omega) l (a + 1) (ok _ (by omega) (by omega)) (by omega) u (d + 1) j (hu (((d + 1, j), stm l (a + 1))) (by simp)); rw [e2] at this; exact this) ?_
  refine DOps.sim ?_
  refine DOps.nil (by rfl) (hK _ ?_); clear hK K
  refine End.kp [1, 2, 4, 5, 6] ?_
  refine Run.seq ?_
  refine Run.ghost (.spares 1) ?_
  simp only [ASt.pushN, ASt.push, List.append_assoc, List.cons_append, List.nil_append]
  refine Run.ghost (.spares 1) ?_
  simp only [ASt.pushN, ASt.push, List.append_assoc, List.cons_append, List.nil_append]
  have fx := And.intro e4 (And.intro e3 (And.intro e2 (And.intro e1 (And.intro hset (And.intro hl ft)))))
  refine Run.drawA fun K hK => ?_
  refine DOps.sim ?_
  refine DOps.call (.i k) [((d + 1, j), stm l (a + 1 + 1))] [((d + 1, j), stm l (a + 1 + 1 + 1))] rfl rfl rfl rfl (by kernel_rfl) (by simp [Agree, ASt.fr, hset]) (fun u hu => by have := Range_ok 1 ands (by omega) (by omega) (by omega) l (a + 1 + 1) (ok _ (by omega) (by omega)) (by omega) u (d + 1) j (hu (((d + 1, j), stm l (a + 1 + 1))) (by simp)); rw [e3] at this; exact this) ?_
  refine DOps.sim ?_
  refine DOps.call (.i outs) [((d + 1, j), stm l (a + 1 + 1 + 1))] [((d + 1, j), stm l (a + 1 + 1 + 1 + 1))] rfl rfl rfl rfl (by kernel_rfl) (by simp [Agree, ASt.fr, hset]) (fun u hu => by have := Range_ok 1 3 (by omega) (by omega) (by omega) l (a + 1 + 1 + 1) (ok _ (by omega) (by omega)) (by omega) u (d + 1) j (hu (((d + 1, j), stm l (a + 1 + 1 + 1))) (by simp)); rw [e4] at this; exact this) ?_
  refine DOps.sim ?_
  refine DOps.call (.agg [.im (.sl (strs g.inn)), .im (.sl (strs g.out)), .im (.sl (g.regs.map LReg.im)), .ms 0 4 k, .im (.sl (ints g.outs))]) [((d + 1, j), stm l (a + 1 + 1 + 1 + 1)), ((0, 4), .dead)] [((d + 1, j), stm l (a5)), ((0, 4), .row 137 2 (g.ands.map nd) 0)] rfl rfl rfl rfl (by kernel_rfl) (by simp [Agree, ASt.fr, hset]) (fun u hu => hGr u (d + 1) j (hu (((d + 1, j), stm l (a + 1 + 1 + 1 + 1))) (by simp)) 4 (hu (((0, 4), .dead)) (by simp))) ?_
  refine DOps.sim ?_
  refine DOps.nil (by rfl) (hK _ ?_); clear hK K
  refine End.kp [2, 4, 5, 6, 7] ?_
  refine Run.seq ?_
  refine Run.seq ?_
  refine Run.go ?_
  refine End.kp [2, 4, 5, 6, 7, 25, 26] ?_
  refine Run.block ?_
  refine Run.ghost (Ghost.form [(2, .ptr 0 0 0), (4, .ptr 0 1 0), (5, .ptr 0 2 0), (6, .ptr 0 3 0), (7, .ptr 0 5 0), (25, .i k), (26, .i (0 : Nat))] 6 ⟨rfl, rfl, rfl, rfl, rfl, rfl, rfl, trivial⟩ rfl rfl) ?_
  refine Run.loop (fun m s => ∃ i : Nat, m = k - i ∧ i ≤ k ∧ s = ⟨[(2, .ptr 0 0 0), (4, .ptr 0 1 0), (5, .ptr 0 2 0), (6, .ptr 0 3 0), (7, .ptr 0 5 0), (25, .i k), (26, .i (i : Nat))], [.box [.ptr (d + 1) j 0], .box [.nils, .nils, .nils, .nils, .nils], .box [.i ins], .box [.i regs], .row 137 2 (((drawN (mvX l ins regs g.ands) a5 i).1 ++ g.ands.drop i).map nd) 0, .box [.im (.sl (strs g.inn)), .im (.sl (strs g.out)), .im (.sl (g.regs.map LReg.im)), .ms 0 4 k, .im (.sl (ints g.outs))]], fset up d j (stm l (drawN (mvX l ins regs g.ands) a5 i).2)⟩) k ⟨0, rfl, by omega, rfl⟩ fun m s hI => ?_
  obtain ⟨i, rfl, hi, rfl⟩ := hI
  have pMi := pM i
  have hDl : (drawN (mvX l ins regs g.ands) a5 i).1.length = i := drawN_len _ _ _
  have hcb : (drawN (mvX l ins regs g.ands) a5 i).2 ≤ a5 + 600 := by omega
  generalize hD : (drawN (mvX l ins regs g.ands) a5 i).1 = D at hDl
  generalize hcM : (drawN (mvX l ins regs g.ands) a5 i).2 = c at pMi hcb
  refine Run.seq ?_
  have fx := And.intro e4 (And.intro e3 (And.intro e2 (And.intro e1 (And.intro hset (And.intro hl ft)))))
  refine Run.go ?_
  refine End.kp [2, 4, 5, 6, 7, 25, 26, 27] ?_
  refine Run.seq ?_
  refine Run.cond _ rfl (fun hb => ?_) (fun hb => ?_)
  · have hb := of_decide_eq_true hb
    have hin : i < k := by omega
    have hik := hb
    have wi := wsucc hin (by omega)
    obtain ⟨p, T, hpT, hge⟩ : ∃ p T, g.ands.drop i = p :: T ∧ g.ands[i]?.getD (0, 0) = p := by
      have h : i < g.ands.length := by omega
      exact ⟨g.ands[i], g.ands.drop (i + 1), List.drop_eq_getElem_cons h, by simp [h]⟩
    have hT : g.ands.drop (i + 1) = T := by rw [← List.tail_drop, hpT]; rfl
    have hTl : T.length = k - (i + 1) := by rw [← hT, List.length_drop, p6]
    have hat : ∀ q, ((D ++ q :: T).map nd)[i]? = some [.int .i64 q.1, .int .i64 q.2] := fun q => nd_at D T q i hDl
    have hst : ∀ q a b, ((D ++ q :: T).map nd).set i [.int .i64 a, .int .i64 b] = (D ++ (a, b) :: T).map nd := fun q a b => nd_set D T q i a b hDl
    have hml : ∀ q, ((D ++ q :: T).map nd).length = k := fun q => nd_mlen D T q i k hDl hin hTl
    rw [hpT]
    refine Run.skip ?_
    refine End.kp [2, 4, 5, 6, 7, 25, 26] ?_
    refine Run.seq ?_
    refine Run.block ?_
    refine Run.seq ?_
    have fx := And.intro (@Int.toNat_natCast) (And.intro (@Int.natCast_nonneg) (And.intro hml (And.intro hst (And.intro hat (And.intro hik (And.intro wi (And.intro e4 (And.intro e3 (And.intro e2 (And.intro e1 (And.intro hset (And.intro hl ft))))))))))))
    refine Run.go ?_
    refine End.kp [2, 4, 5, 6, 7, 8, 25, 26] ?_
    refine Run.seq ?_
    refine Run.go ?_
    refine End.kp [2, 4, 5, 6, 7, 8, 9, 25, 26] ?_
    refine Run.seq ?_
    refine Run.seq ?_
    refine Run.region rfl fun K hK => GOps.sim ?_
    refine GOps.call rfl rfl rfl rfl (by kernel_rfl) (ACalls.sim ?_)
    refine (Next_ok l c 3 (ok _ (by omega) (by omega)) (by omega) _ (d + 1) j (hset _)).mono fun v u hv => ?_
    obtain ⟨rfl, rfl⟩ := hv
    refine ⟨_, _, rfl, GOps.sim ?_⟩
    refine GOps.done (hK _ ?_); clear hK K
    refine End.kp [2, 4, 5, 6, 7, 8, 9, 25, 26, 32] ?_
    refine Run.cond _ rfl (fun hb => ?_) (fun hb => ?_)
    · have hb1 : nextV l c 3 = 0 := eq_of_beq hb
      have fx := And.intro (@Int.toNat_natCast) (And.intro (@Int.natCast_nonneg) (And.intro hml (And.intro hst (And.intro hat (And.intro hik (And.intro wi (And.intro e4 (And.intro e3 (And.intro e2 (And.intro e1 (And.intro hset (And.intro hl ft))))))))))))
      refine Run.drawA fun K hK => ?_
      refine DOps.sim ?_
      refine DOps.call (.i (rX l ins regs (c + 1))) [((0, 2), .box [.i ins]), ((0, 0), .box [.ptr (d + 1) j 0]), ((0, 3), .box [.i regs]), ((d + 1, j), stm l (c + 1))] [((d + 1, j), stm l (c + 1 + 1 + 1))] rfl rfl rfl rfl (by kernel_rfl) (by simp [Agree, ASt.fr, hset]) (fun u hu => r_ok ins regs (by omega) (by omega) (by omega) (by omega) 2 0 3 l (c + 1) (ok _ (by omega) (by omega)) (by omega) u d j (hu (((d + 1, j), stm l (c + 1))) (by simp)) (hu (((0, 2), .box [.i ins])) (by simp)) (hu (((0, 0), .box [.ptr (d + 1) j 0])) (by simp)) (hu (((0, 3), .box [.i regs])) (by simp))) ?_
      refine DOps.sim ?_
      refine DOps.nil (by rfl) (hK _ ?_); clear hK K
      refine End.kp [2, 4, 5, 6, 7, 8, 9, 25, 26] ?_
      refine Run.seq ?_
      refine Run.region rfl fun K hK => GOps.sim ?_
      refine GOps.call rfl rfl rfl rfl (by kernel_rfl) (ACalls.sim ?_)
      refine (Next_ok l (c + 1 + 1 + 1) 3 (ok _ (by omega) (by omega)) (by omega) _ (d + 1) j (hset _)).mono fun v u hv => ?_
      obtain ⟨rfl, rfl⟩ := hv
      refine ⟨_, _, rfl, GOps.sim ?_⟩
      refine GOps.done (hK _ ?_); clear hK K
      refine End.kp [2, 4, 5, 6, 7, 8, 9, 25, 26, 42] ?_
      refine Run.cond _ rfl (fun hb => ?_) (fun hb => ?_)
      · have hb2 : nextV l (c + 1 + 1 + 1) 3 = 0 := eq_of_beq hb
        have fx := And.intro (@Int.toNat_natCast) (And.intro (@Int.natCast_nonneg) (And.intro hml (And.intro hst (And.intro hat (And.intro hik (And.intro wi (And.intro e4 (And.intro e3 (And.intro e2 (And.intro e1 (And.intro hset (And.intro hl ft))))))))))))
        refine Run.drawA fun K hK => ?_
        refine DOps.sim ?_
        refine DOps.call (.i (rX l ins regs (c + 1 + 1 + 1 + 1))) [((0, 2), .box [.i ins]), ((0, 0), .box [.ptr (d + 1) j 0]), ((0, 3), .box [.i regs]), ((d + 1, j), stm l (c + 1 + 1 + 1 + 1))] [((d + 1, j), stm l (c + 1 + 1 + 1 + 1 + 1 + 1))] rfl rfl rfl rfl (by kernel_rfl) (by simp [Agree, ASt.fr, hset]) (fun u hu => r_ok ins regs (by omega) (by omega) (by omega) (by omega) 2 0 3 l (c + 1 + 1 + 1 + 1) (ok _ (by omega) (by omega)) (by omega) u d j (hu (((d + 1, j), stm l (c + 1 + 1 + 1 + 1))) (by simp)) (hu (((0, 2), .box [.i ins])) (by simp)) (hu (((0, 0), .box [.ptr (d + 1) j 0])) (by simp)) (hu (((0, 3), .box [.i regs])) (by simp))) ?_
        refine DOps.sim ?_
        refine DOps.nil (by rfl) (hK _ ?_); clear hK K
        refine End.blk ?_
        refine End.kp [2, 4, 5, 6, 7, 25, 26] ?_
        refine Run.go ?_
        refine End.lp ?_
        refine ⟨k - (i + 1), _, by omega, Ghost.form [(2, .ptr 0 0 0), (4, .ptr 0 1 0), (5, .ptr 0 2 0), (6, .ptr 0 3 0), (7, .ptr 0 5 0), (25, .i k), (26, .i (i + 1 : Nat))] 6 ⟨rfl, rfl, rfl, rfl, rfl, rfl, rfl, trivial⟩ rfl rfl, i + 1, rfl, by omega, ?_⟩
        have e0 : mvX l ins regs g.ands i c = ((rX l ins regs (c + 1), rX l ins regs (c + 1 + 1 + 1 + 1)), c + 1 + 1 + 1 + 1 + 1 + 1) := by simp [mvX, mv1, hge, hb1, hb2]
        have e1 : drawN (mvX l ins regs g.ands) a5 (i + 1) = (D ++ [(((rX l ins regs (c + 1), rX l ins regs (c + 1 + 1 + 1 + 1)), c + 1 + 1 + 1 + 1 + 1 + 1)).1], (((rX l ins regs (c + 1), rX l ins regs (c + 1 + 1 + 1 + 1)), c + 1 + 1 + 1 + 1 + 1 + 1)).2) := by
          show ((drawN (mvX l ins regs g.ands) a5 i).1 ++ [(mvX l ins regs g.ands i (drawN (mvX l ins regs g.ands) a5 i).2).1], (mvX l ins regs g.ands i (drawN (mvX l ins regs g.ands) a5 i).2).2) = _
          rw [hD, hcM, e0]
        rw [e1, hT]
        simp
      · have hb2 : ¬ nextV l (c + 1 + 1 + 1) 3 = 0 := fun e => by simp [e] at hb
        refine Run.skip ?_
        refine End.blk ?_
        refine End.kp [2, 4, 5, 6, 7, 25, 26] ?_
        have fx := And.intro (@Int.toNat_natCast) (And.intro (@Int.natCast_nonneg) (And.intro hml (And.intro hst (And.intro hat (And.intro hik (And.intro wi (And.intro e4 (And.intro e3 (And.intro e2 (And.intro e1 (And.intro hset (And.intro hl ft))))))))))))
        refine Run.go ?_
        refine End.lp ?_
        refine ⟨k - (i + 1), _, by omega, Ghost.form [(2, .ptr 0 0 0), (4, .ptr 0 1 0), (5, .ptr 0 2 0), (6, .ptr 0 3 0), (7, .ptr 0 5 0), (25, .i k), (26, .i (i + 1 : Nat))] 6 ⟨rfl, rfl, rfl, rfl, rfl, rfl, rfl, trivial⟩ rfl rfl, i + 1, rfl, by omega, ?_⟩
        have e0 : mvX l ins regs g.ands i c = ((rX l ins regs (c + 1), p.2), c + 1 + 1 + 1 + 1) := by simp [mvX, mv1, hge, hb1, hb2]
        have e1 : drawN (mvX l ins regs g.ands) a5 (i + 1) = (D ++ [(((rX l ins regs (c + 1), p.2), c + 1 + 1 + 1 + 1)).1], (((rX l ins regs (c + 1), p.2), c + 1 + 1 + 1 + 1)).2) := by
          show ((drawN (mvX l ins regs g.ands) a5 i).1 ++ [(mvX l ins regs g.ands i (drawN (mvX l ins regs g.ands) a5 i).2).1], (mvX l ins regs g.ands i (drawN (mvX l ins regs g.ands) a5 i).2).2) = _
          rw [hD, hcM, e0]
        rw [e1, hT]
        simp
    · have hb1 : ¬ nextV l c 3 = 0 := fun e => by simp [e] at hb
      refine Run.skip ?_
      refine End.kp [2, 4, 5, 6, 7, 8, 9, 25, 26] ?_
      refine Run.seq ?_
      have fx := And.intro (@Int.toNat_natCast) (And.intro (@Int.natCast_nonneg) (And.intro hml (And.intro hst (And.intro hat (And.intro hik (And.intro wi (And.intro e4 (And.intro e3 (And.intro e2 (And.intro e1 (And.intro hset (And.intro hl ft))))))))))))
      refine Run.region rfl fun K hK => GOps.sim ?_
      refine GOps.call rfl rfl rfl rfl (by kernel_rfl) (ACalls.sim ?_)
      refine (Next_ok l (c + 1) 3 (ok _ (by omega) (by omega)) (by omega) _ (d + 1) j (hset _)).mono fun v u hv => ?_
      obtain ⟨rfl, rfl⟩ := hv
      refine ⟨_, _, rfl, GOps.sim ?_⟩
      refine GOps.done (hK _ ?_); clear hK K
      refine End.kp [2, 4, 5, 6, 7, 8, 9, 25, 26, 42] ?_
      refine Run.cond _ rfl (fun hb => ?_) (fun hb => ?_)
      · have hb2 : nextV l (c + 1) 3 = 0 := eq_of_beq hb
        have fx := And.intro (@Int.toNat_natCast) (And.intro (@Int.natCast_nonneg) (And.intro hml (And.intro hst (And.intro hat (And.intro hik (And.intro wi (And.intro e4 (And.intro e3 (And.intro e2 (And.intro e1 (And.intro hset (And.intro hl ft))))))))))))
        refine Run.drawA fun K hK => ?_
        refine DOps.sim ?_
        refine DOps.call (.i (rX l ins regs (c + 1 + 1))) [((0, 2), .box [.i ins]), ((0, 0), .box [.ptr (d + 1) j 0]), ((0, 3), .box [.i regs]), ((d + 1, j), stm l (c + 1 + 1))] [((d + 1, j), stm l (c + 1 + 1 + 1 + 1))] rfl rfl rfl rfl (by kernel_rfl) (by simp [Agree, ASt.fr, hset]) (fun u hu => r_ok ins regs (by omega) (by omega) (by omega) (by omega) 2 0 3 l (c + 1 + 1) (ok _ (by omega) (by omega)) (by omega) u d j (hu (((d + 1, j), stm l (c + 1 + 1))) (by simp)) (hu (((0, 2), .box [.i ins])) (by simp)) (hu (((0, 0), .box [.ptr (d + 1) j 0])) (by simp)) (hu (((0, 3), .box [.i regs])) (by simp))) ?_
        refine DOps.sim ?_
        refine DOps.nil (by rfl) (hK _ ?_); clear hK K
        refine End.blk ?_
        refine End.kp [2, 4, 5, 6, 7, 25, 26] ?_
        refine Run.go ?_
        refine End.lp ?_
        refine ⟨k - (i + 1), _, by omega, Ghost.form [(2, .ptr 0 0 0), (4, .ptr 0 1 0), (5, .ptr 0 2 0), (6, .ptr 0 3 0), (7, .ptr 0 5 0), (25, .i k), (26, .i (i + 1 : Nat))] 6 ⟨rfl, rfl, rfl, rfl, rfl, rfl, rfl, trivial⟩ rfl rfl, i + 1, rfl, by omega, ?_⟩
        have e0 : mvX l ins regs g.ands i c = ((p.1, rX l ins regs (c + 1 + 1)), c + 1 + 1 + 1 + 1) := by simp [mvX, mv1, hge, hb1, hb2]
        have e1 : drawN (mvX l ins regs g.ands) a5 (i + 1) = (D ++ [(((p.1, rX l ins regs (c + 1 + 1)), c + 1 + 1 + 1 + 1)).1], (((p.1, rX l ins regs (c + 1 + 1)), c + 1 + 1 + 1 + 1)).2) := by
          show ((drawN (mvX l ins regs g.ands) a5 i).1 ++ [(mvX l ins regs g.ands i (drawN (mvX l ins regs g.ands) a5 i).2).1], (mvX l ins regs g.ands i (drawN (mvX l ins regs g.ands) a5 i).2).2) = _
          rw [hD, hcM, e0]
        rw [e1, hT]
        simp
      · have hb2 : ¬ nextV l (c + 1) 3 = 0 := fun e => by simp [e] at hb
        refine Run.skip ?_
        refine End.blk ?_
        refine End.kp [2, 4, 5, 6, 7, 25, 26] ?_
        have fx := And.intro (@Int.toNat_natCast) (And.intro (@Int.natCast_nonneg) (And.intro hml (And.intro hst (And.intro hat (And.intro hik (And.intro wi (And.intro e4 (And.intro e3 (And.intro e2 (And.intro e1 (And.intro hset (And.intro hl ft))))))))))))
        refine Run.go ?_
        refine End.lp ?_
        refine ⟨k - (i + 1), _, by omega, Ghost.form [(2, .ptr 0 0 0), (4, .ptr 0 1 0), (5, .ptr 0 2 0), (6, .ptr 0 3 0), (7, .ptr 0 5 0), (25, .i k), (26, .i (i + 1 : Nat))] 6 ⟨rfl, rfl, rfl, rfl, rfl, rfl, rfl, trivial⟩ rfl rfl, i + 1, rfl, by omega, ?_⟩
        have e0 : mvX l ins regs g.ands i c = ((p.1, p.2), c + 1 + 1) := by simp [mvX, mv1, hge, hb1, hb2]
        have e1 : drawN (mvX l ins regs g.ands) a5 (i + 1) = (D ++ [(((p.1, p.2), c + 1 + 1)).1], (((p.1, p.2), c + 1 + 1)).2) := by
          show ((drawN (mvX l ins regs g.ands) a5 i).1 ++ [(mvX l ins regs g.ands i (drawN (mvX l ins regs g.ands) a5 i).2).1], (mvX l ins regs g.ands i (drawN (mvX l ins regs g.ands) a5 i).2).2) = _
          rw [hD, hcM, e0]
        rw [e1, hT]
        simp
  · have hb := of_decide_eq_false hb
    have hiN : i = k := by omega
    rw [hiN] at hDl hD hcM
    have hdr : g.ands.drop i = [] := List.drop_eq_nil_of_le (by omega)
    have hDD : (D.map nd).length = k := by rw [nd_len]; exact hDl
    rw [hdr, List.append_nil]
    refine Run.exit rfl ?_
    refine End.kp [4, 7] ?_
    refine Run.seq ?_
    refine Run.ghost (Ghost.boxShut (j := 5) (i := 3) (r := 4) rfl rfl rfl hDD) ?_
    simp only [List.set_cons_zero, List.set_cons_succ]
    have fx := And.intro e4 (And.intro e3 (And.intro e2 (And.intro e1 (And.intro hset (And.intro hl ft)))))
    refine Run.go ?_
    refine End.kp [4] ?_
    refine Run.resC hQ ?_
    rw [hMM, hD, hcM]
    exact ⟨rfl, rfl⟩
end Go.Proofs.YtkmnmokjlpenhaaPi

/- Plain law: drawn graphs are in order. -/
set_option linter.unusedVariables false
set_option linter.unusedSimpArgs false
namespace Go.Proofs.YtkmnmokjlpenhaaPi
set_option maxHeartbeats 4000000
theorem words_mem (l : List Int) (k i : Nat) (a : Int) : ∀ s ∈ (wordsV l k i a).1, NameOk s := (words_ok l k i a).1
theorem drawnG_ok (l : List Int) (a : Int) (ins regs ands outs : Nat) (h1 : ins + regs ≤ 26) (h2 : ands ≤ 100) (h3 : outs ≤ 26) : GraphOk (graphV l a ins regs ands outs).1 := by
  obtain ⟨p1, p2, p3, p4, p5, p6, p7⟩ := graphV_pos l a ins regs ands outs
  have hw := (wordsV_pos l (ins + regs) 0 a).2.2
  have hnames : ((graphV l a ins regs ands outs).1.inn ++ (graphV l a ins regs ands outs).1.regs.map LReg.name) = (wordsV l (ins + regs) 0 a).1 := by
    have hr : (graphV l a ins regs ands outs).1.regs.map LReg.name = (wordsV l (ins + regs) 0 a).1.drop ins := by
      refine List.ext_getElem? fun i => ?_
      rw [List.getElem?_map]
      by_cases hi : i < regs
      · have hg : (graphV l a ins regs ands outs).1.regs[i]? = some (graphV l a ins regs ands outs).1.regs[i] := List.getElem?_eq_getElem (by omega)
        have := drawN_mem (regX l (((1 + ins + regs : Nat) : Int) + ands) ((wordsV l (ins + regs) 0 a).1.drop ins)) (drawN (andX l ((1 + ins + regs : Nat) : Int)) (wordsV l outs 0 (wordsV l (ins + regs) 0 a).2).2 ands).2 (fun i r => r.name = ((wordsV l (ins + regs) 0 a).1.drop ins).getD i ByteArray.empty) (fun i b => rfl) regs i _ hg
        rw [hg, Option.map_some, this, List.getD_eq_getElem?_getD]
        have hlt : i < ((wordsV l (ins + regs) 0 a).1.drop ins).length := by rw [List.length_drop, hw]; omega
        rw [List.getElem?_eq_getElem hlt]
        rfl
      · rw [List.getElem?_eq_none (by omega), List.getElem?_eq_none (by rw [List.length_drop, hw]; omega)]
        rfl
    rw [hr]
    exact List.take_append_drop ins _
  refine ⟨⟨by omega, by omega, by omega, by omega, by omega⟩, ?_, ?_, ?_, ?_, by omega, ?_, ?_, ?_⟩
  · rw [hnames]
    exact words_mem l _ _ _
  · rw [hnames]
    exact words_nodup l _ _ (by omega)
  · exact words_mem l _ _ _
  · exact words_nodup l _ _ (by omega)
  · intro i p hp
    rw [p3, p5]
    have := drawN_mem (andX l ((1 + ins + regs : Nat) : Int)) (wordsV l outs 0 (wordsV l (ins + regs) 0 a).2).2 (fun i p => (0 ≤ p.1 ∧ p.1 < 2 * (((1 + ins + regs : Nat) : Int) + i)) ∧ 0 ≤ p.2 ∧ p.2 < 2 * (((1 + ins + regs : Nat) : Int) + i))
      (fun i b => ⟨litX_range l b _ (by omega), litX_range l _ _ (by omega)⟩) ands i p hp
    omega
  · intro r hr
    rw [p3, p5, p6]
    obtain ⟨i, hi⟩ := List.mem_iff_getElem?.1 hr
    have := drawN_mem (regX l (((1 + ins + regs : Nat) : Int) + ands) ((wordsV l (ins + regs) 0 a).1.drop ins)) (drawN (andX l ((1 + ins + regs : Nat) : Int)) (wordsV l outs 0 (wordsV l (ins + regs) 0 a).2).2 ands).2 (fun i r => 0 ≤ r.next ∧ r.next < 2 * (((1 + ins + regs : Nat) : Int) + ands)) (fun i b => litX_range l b _ (by omega)) regs i r hi
    omega
  · intro x hx
    rw [p3, p5, p6]
    obtain ⟨i, hi⟩ := List.mem_iff_getElem?.1 hx
    have := drawN_mem (fun _ b => litX l b (((1 + ins + regs : Nat) : Int) + ands)) (drawN (regX l (((1 + ins + regs : Nat) : Int) + ands) ((wordsV l (ins + regs) 0 a).1.drop ins)) (drawN (andX l ((1 + ins + regs : Nat) : Int)) (wordsV l outs 0 (wordsV l (ins + regs) 0 a).2).2 ands).2 regs).2 (fun i x => 0 ≤ x ∧ x < 2 * (((1 + ins + regs : Nat) : Int) + ands)) (fun i b => litX_range l b _ (by omega)) outs i x hi
    omega
theorem small_ok (l : List Int) (a : Int) (ands : Nat) (h : ands ≤ 99) : GraphOk (smallV l a ands).1 ∧ a ≤ (smallV l a ands).2 ∧ (smallV l a ands).2 ≤ a + 1000 := by
  obtain ⟨r1, s1⟩ := nextV_range l a 5 (by omega)
  obtain ⟨r2, s2⟩ := nextV_range l (a + 1) 4 (by omega)
  obtain ⟨r3, s3⟩ := nextV_range l (a + 1 + 1) (ands + 1) (by omega)
  obtain ⟨r4, s4⟩ := nextV_range l (a + 1 + 1 + 1) (4 - 1 + 1) (by omega)
  have h2 := graphV_pos l (a + 1 + 1 + 1 + 1) (nextV l a 5).toNat (nextV l (a + 1) 4).toNat (nextV l (a + 1 + 1) (ands + 1)).toNat (1 + nextV l (a + 1 + 1 + 1) (4 - 1 + 1)).toNat
  refine ⟨drawnG_ok l _ _ _ _ _ (by omega) (by omega) (by omega), ?_, ?_⟩
  · simp only [smallV]; omega
  · simp only [smallV]; omega
theorem mv1_range (l : List Int) (ins regs x b n : Int) (hr : 1 ≤ regs) (h0 : 0 ≤ ins) (hn : 1 + ins + regs ≤ n) (hx : 0 ≤ x ∧ x < 2 * n) : 0 ≤ (mv1 l ins regs x b).1 ∧ (mv1 l ins regs x b).1 < 2 * n := by
  unfold mv1
  split
  · have h1 := nextV_range l (b + 1) regs hr
    have h2 := nextV_range l (b + 1 + 1) 2 (by omega)
    simp only [rX]
    omega
  · exact hx
theorem moving_ok (l : List Int) (a : Int) (ands : Nat) (h0 : 1 ≤ ands) (h : ands ≤ 99) : GraphOk (movingV l a ands).1 ∧ a ≤ (movingV l a ands).2 ∧ (movingV l a ands).2 ≤ a + 2000 ∧ (movingV l a ands).1.inn.length ≤ 3 ∧ (movingV l a ands).1.regs.length ≤ 7 ∧ 2 ≤ (movingV l a ands).1.regs.length ∧ (movingV l a ands).1.ands.length ≤ ands ∧ 1 ≤ (movingV l a ands).1.ands.length := by
  obtain ⟨r1, s1⟩ := nextV_range l a (3 - 1 + 1) (by omega)
  obtain ⟨r2, s2⟩ := nextV_range l (a + 1) (7 - 2 + 1) (by omega)
  obtain ⟨r3, s3⟩ := nextV_range l (a + 1 + 1) (ands - 1 + 1) (by omega)
  obtain ⟨r4, s4⟩ := nextV_range l (a + 1 + 1 + 1) (3 - 1 + 1) (by omega)
  simp only [movingV]
  obtain ⟨ins, e1⟩ : ∃ k : Nat, 1 + nextV l a (3 - 1 + 1) = k := ⟨(1 + nextV l a (3 - 1 + 1)).toNat, by omega⟩
  obtain ⟨regs, e2⟩ : ∃ k : Nat, 2 + nextV l (a + 1) (7 - 2 + 1) = k := ⟨(2 + nextV l (a + 1) (7 - 2 + 1)).toNat, by omega⟩
  obtain ⟨k, e3⟩ : ∃ k : Nat, 1 + nextV l (a + 1 + 1) (ands - 1 + 1) = k := ⟨(1 + nextV l (a + 1 + 1) (ands - 1 + 1)).toNat, by omega⟩
  obtain ⟨outs, e4⟩ : ∃ k : Nat, 1 + nextV l (a + 1 + 1 + 1) (3 - 1 + 1) = k := ⟨(1 + nextV l (a + 1 + 1 + 1) (3 - 1 + 1)).toNat, by omega⟩
  simp only [e1, e2, e3, e4, Int.toNat_natCast]
  have hok := drawnG_ok l (a + 1 + 1 + 1 + 1) ins regs k outs (by omega) (by omega) (by omega)
  obtain ⟨p1, p2, p3, p4, p5, p6, p7⟩ := graphV_pos l (a + 1 + 1 + 1 + 1) ins regs k outs
  generalize graphV l (a + 1 + 1 + 1 + 1) ins regs k outs = G at hok p1 p2 p3 p4 p5 p6 p7
  obtain ⟨g, a5⟩ := G
  simp only at hok p1 p2 p3 p4 p5 p6 p7 ⊢
  have pM := drawN_pos (mvX l ins regs g.ands) a5 6 (mvX_pos l ins regs g.ands) g.ands.length
  have hl : (drawN (mvX l ins regs g.ands) a5 g.ands.length).1.length = g.ands.length := drawN_len _ _ _
  obtain ⟨⟨z1, z2, z3, z4, z5⟩, k1, k2, k3, k4, k5, k6, k7, k8⟩ := hok
  refine ⟨⟨⟨z1, z2, z3, by simp only [hl]; exact z4, z5⟩, k1, k2, k3, k4, k5, ?_, ?_, ?_⟩, by omega, by omega, by omega, by omega, by omega, by omega, by omega⟩
  · intro i p hp
    simp only at hp ⊢
    have hi : i < g.ands.length := by have := (List.getElem?_eq_some_iff.1 hp).1; omega
    have hb := k6 i g.ands[i] (List.getElem?_eq_getElem hi)
    have := drawN_mem (mvX l ins regs g.ands) a5 (fun i p => i < g.ands.length → (0 ≤ p.1 ∧ p.1 < 2 * (1 + (g.inn.length : Int) + g.regs.length + i)) ∧ 0 ≤ p.2 ∧ p.2 < 2 * (1 + (g.inn.length : Int) + g.regs.length + i)) (fun i b hi => by
      have hb := k6 i g.ands[i] (List.getElem?_eq_getElem hi)
      have hd : g.ands.getD i (0, 0) = g.ands[i] := by simp [hi]
      simp only [mvX, hd]
      exact ⟨mv1_range l ins regs _ _ _ (by omega) (by omega) (by omega) hb.1, mv1_range l ins regs _ _ _ (by omega) (by omega) (by omega) hb.2⟩) _ i p hp hi
    exact this
  · intro r hr
    have := k7 r hr
    simp only
    omega
  · intro x hx
    have := k8 x hx
    simp only
    omega
theorem small_len (l : List Int) (a : Int) (ands : Nat) : (smallV l a ands).1.inn.length ≤ 4 ∧ (smallV l a ands).1.regs.length ≤ 3 := by
  obtain ⟨r1, s1⟩ := nextV_range l a 5 (by omega)
  obtain ⟨r2, s2⟩ := nextV_range l (a + 1) 4 (by omega)
  have h2 := graphV_pos l (a + 1 + 1 + 1 + 1) (nextV l a 5).toNat (nextV l (a + 1) 4).toNat (nextV l (a + 1 + 1) (ands + 1)).toNat (1 + nextV l (a + 1 + 1 + 1) (4 - 1 + 1)).toNat
  simp only [smallV]
  omega
end Go.Proofs.YtkmnmokjlpenhaaPi

/- Plain law: drawn graphs, one of them with other names, side by side: their names, and what they show. -/
set_option linter.unusedVariables false
set_option linter.unusedSectionVars false
set_option linter.unusedSimpArgs false
namespace Go.Proofs.YtkmnmokjlpenhaaPi

/-- A drawn name: short, and without a stroke in second place. -/
def NameD (s : ByteArray) : Prop := s.size ≤ 6 ∧ s.data.toList[1]? ≠ some 47
theorem chr_47 (n : Int) (h0 : 97 ≤ n) (h1 : n < 256) : chr n ≠ 47 := fun e => by
  have := chr_nat n (by omega) h1
  rw [e] at this
  simp at this
  omega
theorem name_drawn (l : List Int) (a i : Int) : NameD (nameV l a i).1 := by
  have m0 := Int.emod_nonneg i (show (26 : Int) ≠ 0 by decide)
  have m1 := Int.emod_lt_of_pos i (show (26 : Int) > 0 by decide)
  have hne := chr_47 (97 + i % 26) (by omega) (by omega)
  unfold nameV
  split
  · exact ⟨by simp [ba_size], by simp [hne]⟩
  · split
    · exact ⟨by simp [ba_size], by simp⟩
    · exact ⟨by simp [ba_size], by simp [hne]⟩
theorem words_drawn (l : List Int) : ∀ (k i : Nat) (a : Int), ∀ s ∈ (wordsV l k i a).1, NameD s
  | 0, i, a, s, h => by simp [wordsV] at h
  | k + 1, i, a, s, h => by
    simp only [wordsV, List.mem_cons] at h
    rcases h with rfl | h
    · exact name_drawn l a i
    · exact words_drawn l k (i + 1) _ s h
structure DrawnG (g : LGraph) : Prop where
  names : ∀ s ∈ g.inn ++ g.regs.map LReg.name, NameD s
  outs : ∀ s ∈ g.out, NameD s
theorem graph_drawn (l : List Int) (a : Int) (ins regs ands outs : Nat) : DrawnG (graphV l a ins regs ands outs).1 := by
  obtain ⟨p1, p2, p3, p4, p5, p6, p7⟩ := graphV_pos l a ins regs ands outs
  have hw := (wordsV_pos l (ins + regs) 0 a).2.2
  refine ⟨fun s hs => ?_, fun s hs => words_drawn l _ _ _ s hs⟩
  rcases List.mem_append.1 hs with hs | hs
  · exact words_drawn l _ _ _ s (List.mem_of_mem_take hs)
  · obtain ⟨r, hr, rfl⟩ := List.mem_map.1 hs
    obtain ⟨i, hi⟩ := List.mem_iff_getElem?.1 hr
    have hil := (List.getElem?_eq_some_iff.1 hi).1
    have := drawN_mem (regX l (((1 + ins + regs : Nat) : Int) + ands) ((wordsV l (ins + regs) 0 a).1.drop ins)) (drawN (andX l ((1 + ins + regs : Nat) : Int)) (wordsV l outs 0 (wordsV l (ins + regs) 0 a).2).2 ands).2 (fun i r => r.name = ((wordsV l (ins + regs) 0 a).1.drop ins).getD i ByteArray.empty) (fun i b => rfl) regs i _ hi
    rw [this]
    refine words_drawn l _ _ _ _ (List.mem_of_mem_drop (i := ins) (l := (wordsV l (ins + regs) 0 a).1) ?_)
    have hlt : i < ((wordsV l (ins + regs) 0 a).1.drop ins).length := by rw [List.length_drop, hw]; omega
    rw [List.getD_eq_getElem?_getD, List.getElem?_eq_getElem hlt, Option.getD_some]
    exact List.getElem_mem hlt
theorem small_drawn (l : List Int) (a : Int) (ands : Nat) : DrawnG (smallV l a ands).1 := graph_drawn l _ _ _ _ _

abbrev px : ByteArray := ⟨#[120, 47]⟩
theorem px_list (s : ByteArray) : (px ++ s).data.toList = 120 :: 47 :: s.data.toList := by simp
theorem px_inj {s t : ByteArray} (h : px ++ s = px ++ t) : s = t := by
  have := congrArg (fun x : ByteArray => x.data.toList) h
  simp only [px_list, List.cons.injEq, true_and] at this
  exact ByteArray.ext (Array.toList_inj.1 this)
theorem px_ne {s t : ByteArray} (h : NameD s) : s ≠ px ++ t := fun e => h.2 (by rw [e, px_list]; rfl)
theorem px_name {s : ByteArray} (h : NameOk s) (hd : NameD s) : NameOk (px ++ s) := by
  have hsz : (px ++ s).size = 2 + s.size := by rw [ByteArray.size_append]; rfl
  refine ⟨by omega, by have := hd.1; omega, fun b hb => ?_⟩
  rw [px_list] at hb
  simp only [List.mem_cons] at hb
  rcases hb with rfl | rfl | hb
  · decide
  · decide
  · exact h.chars b hb
theorem px_nodup {l : List ByteArray} (h : l.Nodup) : (l.map (px ++ ·)).Nodup := by
  rw [List.Nodup, List.pairwise_map]
  exact h.imp fun hne e => hne (px_inj e)
theorem pref_names (g : LGraph) : (prefG px g).regs.map LReg.name = (g.regs.map LReg.name).map (px ++ ·) := by
  simp only [prefG, List.map_map]
  rfl
theorem nodup_app {l r : List ByteArray} : (l ++ r).Nodup ↔ l.Nodup ∧ r.Nodup ∧ ∀ s, s ∈ l → s ∉ r := by
  rw [List.nodup_append]
  exact ⟨fun ⟨h1, h2, h3⟩ => ⟨h1, h2, fun s hs hs' => h3 s hs s hs' rfl⟩, fun ⟨h1, h2, h3⟩ => ⟨h1, h2, fun s hs t ht e => h3 s hs (e ▸ ht)⟩⟩
theorem pref_ok {g : LGraph} (hg : GraphOk g) (hd : DrawnG g) : GraphOk (prefG px g) := by
  have hsm := hg.small
  have hreg : ∀ s, s ∈ g.regs.map LReg.name → NameOk s ∧ NameD s := fun s hs => ⟨hg.names s (List.mem_append_right _ hs), hd.names s (List.mem_append_right _ hs)⟩
  obtain ⟨n1, n2, n3⟩ := nodup_app.1 hg.nodup
  refine ⟨⟨hsm.inn, by simp [prefG]; exact hsm.out, by simp [prefG]; exact hsm.regs, hsm.ands, hsm.outs⟩, ?_, ?_, ?_, px_nodup hg.onodup, by simp [prefG, hg.olen], ?_, ?_, ?_⟩
  · intro s hs
    rw [pref_names] at hs
    rcases List.mem_append.1 hs with hs | hs
    · exact hg.names s (List.mem_append_left _ hs)
    · obtain ⟨t, ht, rfl⟩ := List.mem_map.1 hs
      exact px_name (hreg t ht).1 (hreg t ht).2
  · rw [pref_names]
    refine nodup_app.2 ⟨n1, px_nodup n2, fun s hs hs' => ?_⟩
    obtain ⟨t, ht, e⟩ := List.mem_map.1 hs'
    exact px_ne (hd.names s (List.mem_append_left _ hs)) e.symm
  · intro s hs
    obtain ⟨t, ht, rfl⟩ := List.mem_map.1 hs
    exact px_name (hg.onames t ht) (hd.outs t ht)
  · intro i p hp
    have := hg.ands i p hp
    simpa [prefG] using this
  · intro r hr
    obtain ⟨q, hq, rfl⟩ := List.mem_map.1 hr
    have := hg.regs q hq
    simpa [prefG] using this
  · intro x hx
    have := hg.outs x hx
    simpa [prefG] using this
theorem map_name_mv (to : List Int) (l : List LReg) : (l.map (mvR to)).map LReg.name = l.map LReg.name := by
  rw [List.map_map]
  rfl
theorem join_names (a b : LGraph) : (joinG a b).inn ++ (joinG a b).regs.map LReg.name = jInA a b ++ (a.regs.map LReg.name ++ b.regs.map LReg.name) := by
  simp only [joinG, List.map_append, map_name_mv]
theorem jIn_mem {a b : LGraph} {s : ByteArray} : s ∈ jInA a b ↔ s ∈ a.inn ∨ (s ∈ b.inn ∧ s ∉ a.inn) := by
  simp [jIn]
theorem jIn_nodup {a b : LGraph} (ha : a.inn.Nodup) (hb : b.inn.Nodup) : (jInA a b).Nodup := by
  show (jIn a b b.inn.length).Nodup
  unfold jIn
  refine nodup_app.2 ⟨ha, ?_, fun s hs hs' => ?_⟩
  · rw [List.take_length]
    exact hb.filter _
  · have := (List.mem_filter.1 hs').2
    simp [hs] at this
section
variable {a b : LGraph} (ha : GraphOk a) (hb : GraphOk b) (hda : DrawnG a) (hdb : DrawnG b)
include ha hb hda hdb
theorem join_nodup (h : anyHit a.regs (prefG px b) = false) : ((joinG a (prefG px b)).inn ++ (joinG a (prefG px b)).regs.map LReg.name).Nodup := by
  obtain ⟨n1, n2, n3⟩ := nodup_app.1 ha.nodup
  obtain ⟨m1, m2, m3⟩ := nodup_app.1 hb.nodup
  rw [join_names, pref_names]
  have hdis : ∀ s t, NameD s → s ≠ px ++ t := fun s t h => px_ne h
  refine nodup_app.2 ⟨jIn_nodup n1 m1, nodup_app.2 ⟨n2, px_nodup m2, fun s hs hs' => ?_⟩, fun s hs hs' => ?_⟩
  · obtain ⟨t, ht, e⟩ := List.mem_map.1 hs'
    exact hdis s t (hda.names s (List.mem_append_right _ hs)) e.symm
  · have hD : NameD s := by
      rcases jIn_mem.1 hs with h1 | ⟨h1, _⟩
      · exact hda.names s (List.mem_append_left _ h1)
      · exact hdb.names s (List.mem_append_left _ h1)
    rcases List.mem_append.1 hs' with h2 | h2
    · rcases jIn_mem.1 hs with h1 | ⟨h1, _⟩
      · exact n3 s h1 h2
      · obtain ⟨r, hr, rfl⟩ := List.mem_map.1 h2
        have : anyHit a.regs (prefG px b) = true := List.any_eq_true.2 ⟨r, hr, decide_eq_true h1⟩
        rw [h] at this
        simp at this
    · obtain ⟨t, ht, e⟩ := List.mem_map.1 h2
      exact hdis s t hD e.symm
theorem join_hit (h : anyHit a.regs (prefG px b) = true) : ¬ ((joinG a (prefG px b)).inn ++ (joinG a (prefG px b)).regs.map LReg.name).Nodup := by
  obtain ⟨n1, n2, n3⟩ := nodup_app.1 ha.nodup
  obtain ⟨r, hr, hb2⟩ := List.any_eq_true.1 h
  have hin : r.name ∈ b.inn := of_decide_eq_true hb2
  rw [join_names]
  intro hn
  have hmem : r.name ∈ a.regs.map LReg.name := List.mem_map.2 ⟨r, hr, rfl⟩
  refine (nodup_app.1 hn).2.2 r.name (jIn_mem.2 ?_) (List.mem_append_left _ hmem)
  by_cases h1 : r.name ∈ a.inn
  · exact .inl h1
  · exact .inr ⟨hin, h1⟩
theorem join_nameOk : ∀ s ∈ (joinG a (prefG px b)).inn ++ (joinG a (prefG px b)).regs.map LReg.name, NameOk s := by
  intro s hs
  have hp := pref_ok hb hdb
  rw [join_names] at hs
  rcases List.mem_append.1 hs with hs | hs
  · rcases jIn_mem.1 hs with h1 | ⟨h1, _⟩
    · exact ha.names s (List.mem_append_left _ h1)
    · exact hb.names s (List.mem_append_left _ h1)
  · rcases List.mem_append.1 hs with hs | hs
    · exact ha.names s (List.mem_append_right _ hs)
    · exact hp.names s (List.mem_append_right _ hs)
theorem join_outs : (∀ s ∈ (joinG a (prefG px b)).out, NameOk s) ∧ (joinG a (prefG px b)).out.Nodup := by
  have hp := pref_ok hb hdb
  refine ⟨fun s hs => ?_, nodup_app.2 ⟨ha.onodup, hp.onodup, fun s hs hs' => ?_⟩⟩
  · rcases List.mem_append.1 hs with hs | hs
    · exact ha.onames s hs
    · exact hp.onames s hs
  · obtain ⟨t, ht, e⟩ := List.mem_map.1 hs'
    exact px_ne (hda.outs s hs) e.symm
end

/-! ### literals -/
theorem atV_even (to : List Int) (l : Int) (h0 : 0 ≤ l) (m : Int) (h : to.getD (l / 2).toNat 0 = 2 * m) : atV to l = 2 * m + l % 2 := by
  unfold atV
  rw [h]
  by_cases h2 : l % 2 = 1
  · rw [if_pos h2, flipL, if_pos (by omega)]
    omega
  · rw [if_neg h2]
    omega
theorem ofV_at (v va : List Int) (to : List Int) (l : Int) (h0 : 0 ≤ l) (m : Nat) (h : to.getD (l / 2).toNat 0 = 2 * (m : Int)) (hv : v.getD m 0 = va.getD (l / 2).toNat 0) : ofV v (atV to l) = ofV va l := by
  rw [atV_even to l h0 m h]
  unfold ofV
  have e1 : (2 * (m : Int) + l % 2) % 2 = l % 2 := by omega
  have e2 : ((2 * (m : Int) + l % 2) / 2).toNat = m := by omega
  rw [e1, e2, hv]
/-- Ands over other places have the values that they had. -/
theorem vals_map (tau : Nat → Nat) (to : List Int) : ∀ (ps : List (Int × Int)) (w va : List Int), (∀ k, k < va.length + ps.length → to.getD k 0 = 2 * (tau k : Int)) → (∀ k, k < va.length → w.getD (tau k) 0 = va.getD k 0 ∧ tau k < w.length) → (∀ i, i < ps.length → tau (va.length + i) = w.length + i) →
    (∀ (i : Nat) (p : Int × Int), ps[i]? = some p → (0 ≤ p.1 ∧ p.1 < 2 * ((va.length : Int) + i)) ∧ 0 ≤ p.2 ∧ p.2 < 2 * ((va.length : Int) + i)) →
    ∀ k, k < va.length + ps.length → (valsA (ps.map (mvA to)) w).getD (tau k) 0 = (valsA ps va).getD k 0
  | [], w, va, _, h2, _, _, k, hk => (h2 k (by simpa using hk)).1
  | p :: ps, w, va, h1, h2, h3, h4, k, hk => by
    obtain ⟨⟨a1, a2⟩, a3, a4⟩ := h4 0 p rfl
    have hx : bits .and .u64 (ofV w (atV to p.1)) (ofV w (atV to p.2)) = bits .and .u64 (ofV va p.1) (ofV va p.2) := by
      rw [ofV_at w va to p.1 a1 (tau (p.1 / 2).toNat) (h1 _ (by omega)) (h2 _ (by omega)).1, ofV_at w va to p.2 a3 (tau (p.2 / 2).toNat) (h1 _ (by omega)) (h2 _ (by omega)).1]
    rw [List.map_cons, valsA, valsA, hx]
    have hl : ∀ (u : List Int) (x : Int), (u ++ [x]).length = u.length + 1 := fun u x => by simp
    refine vals_map tau to ps _ _ ?_ ?_ ?_ ?_ k (by rw [hl]; simp only [List.length_cons] at hk; omega)
    · intro k hk
      rw [hl] at hk
      exact h1 k (by simp only [List.length_cons]; omega)
    · intro k hk
      rw [hl] at hk ⊢
      by_cases e : k < va.length
      · obtain ⟨b1, b2⟩ := h2 k e
        refine ⟨?_, by omega⟩
        simp only [List.getD_eq_getElem?_getD] at b1 ⊢
        rw [List.getElem?_append_left b2, List.getElem?_append_left e]
        exact b1
      · have e2 : k = va.length := by omega
        subst e2
        have h5 := h3 0 (by simp)
        rw [Nat.add_zero, Nat.add_zero] at h5
        rw [h5]
        exact ⟨by simp, by omega⟩
    · intro i hi
      rw [hl, hl]
      have := h3 (i + 1) (by simp only [List.length_cons]; omega)
      rw [show va.length + 1 + i = va.length + (i + 1) by omega, this]
      omega
    · intro i q hq
      have := h4 (i + 1) q (by simpa using hq)
      rw [hl]
      omega
theorem valsA_append : ∀ (ps qs : List (Int × Int)) (v : List Int), valsA (ps ++ qs) v = valsA qs (valsA ps v)
  | [], qs, v => rfl
  | p :: ps, qs, v => by rw [List.cons_append, valsA, valsA, valsA_append ps qs]
end Go.Proofs.YtkmnmokjlpenhaaPi

/- Plain law: graphs side by side are in order, and show what both show. -/
set_option linter.unusedVariables false
set_option linter.unusedSimpArgs false
namespace Go.Proofs.YtkmnmokjlpenhaaPi

section
variable {a b : LGraph} (hb : GraphOk b) (hI : ∀ s ∈ b.inn, s ∈ jInA a b)
/-- The node that node k of the first graph becomes, and that of the second. -/
def tauA (a b : LGraph) (k : Nat) : Nat :=
  if k ≤ a.inn.length then k else if k ≤ a.inn.length + a.regs.length then k + ((jInA a b).length - a.inn.length) else k + ((jInA a b).length - a.inn.length) + b.regs.length
def tauB (a b : LGraph) (k : Nat) : Nat :=
  if k = 0 then 0 else if k ≤ b.inn.length then (1 + idxS (b.inn.getD (k - 1) ByteArray.empty) (jInA a b) 0).toNat else if k ≤ b.inn.length + b.regs.length then k - b.inn.length + (jInA a b).length + a.regs.length else k - b.inn.length + (jInA a b).length + a.regs.length + a.ands.length
theorem tauA_get (k : Nat) (hk : k < nodesN a) : (toAL a b (jInA a b).length).getD k 0 = 2 * (tauA a b k : Int) := by
  have hj := (jIn_len a b b.inn.length).1
  rw [toAL_get a b _ k hk, oldV, tauA]
  change a.inn.length ≤ (jInA a b).length at hj
  by_cases h1 : k ≤ a.inn.length
  · rw [if_pos h1, if_neg (show ¬ (a.inn.length : Int) < k by omega), if_neg (by omega)]
  · rw [if_neg h1, if_pos (show (a.inn.length : Int) < k by omega)]
    by_cases h2 : k ≤ a.inn.length + a.regs.length
    · rw [if_pos h2, if_neg (by omega)]
      omega
    · rw [if_neg h2, if_pos (by omega)]
      omega
theorem tauB_get (k : Nat) (hk : k < nodesN b) : (toBL a b (jInA a b) (jInA a b).length).getD k 0 = 2 * (tauB a b k : Int) := by
  rw [toBL_get a b _ _ k hk, nowV, tauB]
  by_cases h0 : k = 0
  · rw [if_pos h0, if_pos (by omega)]
    rfl
  · rw [if_neg h0, if_neg (show ¬ (k : Int) = 0 by omega)]
    by_cases h1 : k ≤ b.inn.length
    · have hr := idxS_range (b.inn.getD (k - 1) ByteArray.empty) (jInA a b)
      rw [if_pos h1, if_pos (by omega), show ((k : Int) - 1).toNat = k - 1 by omega]
      omega
    · rw [if_neg h1, if_neg (by omega)]
      by_cases h2 : k ≤ b.inn.length + b.regs.length
      · rw [if_pos h2, if_pos (by omega)]
        omega
      · rw [if_neg h2, if_neg (by omega)]
        omega
abbrev firstJ (a b : LGraph) : Nat := 1 + (jInA a b).length + (a.regs.length + b.regs.length)
theorem tauA_lt (k n : Nat) (h : k < 1 + a.inn.length + a.regs.length + n) : tauA a b k < firstJ a b + n := by
  have hj := (jIn_len a b b.inn.length).1
  change a.inn.length ≤ (jInA a b).length at hj
  unfold tauA firstJ
  split
  · omega
  · split <;> omega
theorem tauB_lt (k n : Nat) (h : k < 1 + b.inn.length + b.regs.length + n) : tauB a b k < firstJ a b + a.ands.length + n := by
  unfold tauB firstJ
  split
  · omega
  · split
    · have hr := idxS_range (b.inn.getD (k - 1) ByteArray.empty) (jInA a b)
      omega
    · split <;> omega
theorem join_ok {a b : LGraph} (ha : GraphOk a) (hb : GraphOk b) (h1 : ∀ s ∈ (joinG a b).inn ++ (joinG a b).regs.map LReg.name, NameOk s) (h2 : ((joinG a b).inn ++ (joinG a b).regs.map LReg.name).Nodup) (h3 : (∀ s ∈ (joinG a b).out, NameOk s) ∧ (joinG a b).out.Nodup) (hs : GSmall (joinG a b)) : GraphOk (joinG a b) := by
  have hN : nodesN a = 1 + a.inn.length + a.regs.length + a.ands.length := rfl
  have hM : nodesN b = 1 + b.inn.length + b.regs.length + b.ands.length := rfl
  have l1 : (joinG a b).inn.length = (jInA a b).length := rfl
  have l2 : (joinG a b).regs.length = a.regs.length + b.regs.length := by simp [joinG]
  have l3 : (joinG a b).ands.length = a.ands.length + b.ands.length := by simp [joinG]
  have rA : ∀ (n : Nat) (l : Int), 0 ≤ l → l < 2 * (1 + (a.inn.length : Int) + a.regs.length + n) → n ≤ a.ands.length → 0 ≤ atV (toAL a b (jInA a b).length) l ∧ atV (toAL a b (jInA a b).length) l < 2 * ((firstJ a b : Int) + n) := fun n l h0 hl hn => by
    have hk : (l / 2).toNat < 1 + a.inn.length + a.regs.length + n := by omega
    rw [atV_even _ l h0 _ (tauA_get (l / 2).toNat (by omega))]
    have := tauA_lt (a := a) (b := b) (l / 2).toNat n hk
    omega
  have rB : ∀ (n : Nat) (l : Int), 0 ≤ l → l < 2 * (1 + (b.inn.length : Int) + b.regs.length + n) → n ≤ b.ands.length → 0 ≤ atV (toBL a b (jInA a b) (jInA a b).length) l ∧ atV (toBL a b (jInA a b) (jInA a b).length) l < 2 * ((firstJ a b : Int) + a.ands.length + n) := fun n l h0 hl hn => by
    have hk : (l / 2).toNat < 1 + b.inn.length + b.regs.length + n := by omega
    rw [atV_even _ l h0 _ (tauB_get (l / 2).toNat (by omega))]
    have := tauB_lt (a := a) (b := b) (l / 2).toNat n hk
    omega
  have hF : (firstJ a b : Int) = 1 + ((jInA a b).length : Int) + ((a.regs.length : Int) + b.regs.length) := by simp only [firstJ]; omega
  refine ⟨hs, h1, h2, h3.1, h3.2, ?_, ?_, ?_, ?_⟩
  · simp only [joinG, List.length_append, List.length_map]
    rw [ha.olen, hb.olen]
  · intro i p hp
    rw [l1, l2]
    simp only [joinG] at hp
    by_cases hi : i < a.ands.length
    · rw [List.getElem?_append_left (by simpa using hi), List.getElem?_map, Option.map_eq_some_iff] at hp
      obtain ⟨q, hq, rfl⟩ := hp
      obtain ⟨⟨x1, x2⟩, x3, x4⟩ := ha.ands i q hq
      have r1 := rA i q.1 x1 x2 (by omega)
      have r2 := rA i q.2 x3 x4 (by omega)
      simp only [mvA]
      omega
    · rw [List.getElem?_append_right (by simp; omega), List.getElem?_map, Option.map_eq_some_iff] at hp
      obtain ⟨q, hq, rfl⟩ := hp
      rw [List.length_map] at hq
      obtain ⟨⟨x1, x2⟩, x3, x4⟩ := hb.ands _ q hq
      have hlt := (List.getElem?_eq_some_iff.1 hq).1
      have r1 := rB (i - a.ands.length) q.1 x1 x2 (by omega)
      have r2 := rB (i - a.ands.length) q.2 x3 x4 (by omega)
      simp only [mvA]
      omega
  · intro r hr
    rw [l1, l2, l3]
    simp only [joinG, List.mem_append, List.mem_map] at hr
    rcases hr with ⟨q, hq, rfl⟩ | ⟨q, hq, rfl⟩
    · obtain ⟨x1, x2⟩ := ha.regs q hq
      have := rA a.ands.length q.next x1 x2 (by omega)
      simp only [mvR]
      omega
    · obtain ⟨x1, x2⟩ := hb.regs q hq
      have := rB b.ands.length q.next x1 x2 (by omega)
      simp only [mvR]
      omega
  · intro x hx
    rw [l1, l2, l3]
    simp only [joinG, List.mem_append, List.mem_map] at hx
    rcases hx with ⟨q, hq, rfl⟩ | ⟨q, hq, rfl⟩
    · obtain ⟨x1, x2⟩ := ha.outs q hq
      have := rA a.ands.length q x1 x2 (by omega)
      omega
    · obtain ⟨x1, x2⟩ := hb.outs q hq
      have := rB b.ands.length q x1 x2 (by omega)
      omega

/-- What the second graph is given of a row. -/
def rowB (a b : LGraph) (r : List Bool) : List Bool := b.inn.map fun s => r.getD (idxS s (jInA a b) 0).toNat false
theorem getD_app_l (v w : List Int) (k : Nat) (h : k < v.length) : (v ++ w).getD k 0 = v.getD k 0 := by
  simp only [List.getD_eq_getElem?_getD]
  rw [List.getElem?_append_left h]
theorem getD_app_r (v w : List Int) (k : Nat) (h : v.length ≤ k) : (v ++ w).getD k 0 = w.getD (k - v.length) 0 := by
  simp only [List.getD_eq_getElem?_getD]
  rw [List.getElem?_append_right h]
theorem valsA_preD (ps : List (Int × Int)) (v : List Int) (k : Nat) (h : k < v.length) : (valsA ps v).getD k 0 = v.getD k 0 := by
  induction ps generalizing v with
  | nil => rfl
  | cons p ps ih =>
    rw [valsA, ih _ (by simp; omega), getD_app_l _ _ _ h]
theorem lanes_getD (r : List Bool) (k : Nat) : (lanes0 r).getD k 0 = if r.getD k false = true then 1 else 0 := by
  simp only [List.getD_eq_getElem?_getD, List.getElem?_map]
  cases r[k]? <;> rfl
theorem graph_join {a b : LGraph} (ha : GraphOk a) (hb : GraphOk b) (r : List Bool) (sA sB : List Int) (hr : r.length = (jInA a b).length) (h1 : sA.length = a.regs.length) (h2 : sB.length = b.regs.length) :
    (∀ k, k < nodesN a → (graphVals (joinG a b) (lanes0 r) (sA ++ sB)).getD (tauA a b k) 0 = (graphVals a (lanes0 (r.take a.inn.length)) sA).getD k 0) ∧
    (∀ k, k < nodesN b → (graphVals (joinG a b) (lanes0 r) (sA ++ sB)).getD (tauB a b k) 0 = (graphVals b (lanes0 (rowB a b r)) sB).getD k 0) := by
  have hj := (jIn_len a b b.inn.length).1
  change a.inn.length ≤ (jInA a b).length at hj
  have hN : nodesN a = 1 + a.inn.length + a.regs.length + a.ands.length := rfl
  have hM : nodesN b = 1 + b.inn.length + b.regs.length + b.ands.length := rfl
  have hv0 : ([0] ++ lanes0 r ++ (sA ++ sB)).length = firstJ a b := by simp [firstJ]; omega
  have hG : graphVals (joinG a b) (lanes0 r) (sA ++ sB) = valsA (b.ands.map (mvA (toBL a b (jInA a b) (jInA a b).length))) (valsA (a.ands.map (mvA (toAL a b (jInA a b).length))) ([0] ++ lanes0 r ++ (sA ++ sB))) := by
    rw [graphVals]
    simp only [joinG]
    rw [valsA_append]
  have hw : (valsA (a.ands.map (mvA (toAL a b (jInA a b).length))) ([0] ++ lanes0 r ++ (sA ++ sB))).length = firstJ a b + a.ands.length := by rw [valsA_len, hv0]; simp
  have hla : (lanes0 r).length = (jInA a b).length := by simp [hr]
  have hbA : ([0] ++ lanes0 (r.take a.inn.length) ++ sA).length = 1 + a.inn.length + a.regs.length := by simp; omega
  have hbB : ([0] ++ lanes0 (rowB a b r) ++ sB).length = 1 + b.inn.length + b.regs.length := by simp [rowB]; omega
  have at0 : ∀ k, k < (jInA a b).length → ([0] ++ lanes0 r ++ (sA ++ sB)).getD (1 + k) 0 = (lanes0 r).getD k 0 := fun k hk => by
    rw [getD_app_l _ _ _ (by simp; omega), getD_app_r _ _ _ (by simp)]
    congr 1
    simp
  have atR : ∀ k, ([0] ++ lanes0 r ++ (sA ++ sB)).getD (1 + (jInA a b).length + k) 0 = (sA ++ sB).getD k 0 := fun k => by
    rw [getD_app_r _ _ _ (by simp; omega)]
    congr 1
    simp
    omega
  have mA := vals_map (tauA a b) (toAL a b (jInA a b).length) a.ands ([0] ++ lanes0 r ++ (sA ++ sB)) ([0] ++ lanes0 (r.take a.inn.length) ++ sA) (fun k hk => tauA_get k (by omega)) (fun k hk => by
      rw [hbA] at hk
      have hlt := tauA_lt (a := a) (b := b) k 0 (by omega)
      refine ⟨?_, by omega⟩
      unfold tauA
      by_cases h3 : k ≤ a.inn.length
      · rw [if_pos h3]
        rcases Nat.eq_zero_or_pos k with h4 | h4
        · subst h4; rfl
        · obtain ⟨q, rfl⟩ : ∃ q, k = 1 + q := ⟨k - 1, by omega⟩
          rw [at0 q (by omega), getD_app_l _ _ _ (by simp; omega), getD_app_r _ _ _ (by simp), lanes_getD]
          have e : 1 + q - ([0] : List Int).length = q := by simp
          have e5 : (r.take a.inn.length).getD q false = r.getD q false := by
            simp only [List.getD_eq_getElem?_getD, List.getElem?_take]
            rw [if_pos (by omega)]
          rw [e, lanes_getD, e5]
      · rw [if_neg h3, if_pos (by omega)]
        obtain ⟨q, rfl⟩ : ∃ q, k = 1 + a.inn.length + q := ⟨k - (1 + a.inn.length), by omega⟩
        rw [show 1 + a.inn.length + q + ((jInA a b).length - a.inn.length) = 1 + (jInA a b).length + q by omega, atR q, getD_app_l _ _ _ (by omega), getD_app_r _ _ _ (by simp; omega)]
        congr 1
        simp
        omega) (fun i hi => by
      rw [hbA, hv0]
      unfold tauA firstJ
      rw [if_neg (by omega), if_neg (by omega)]
      omega) (fun i p hp => by
      have := ha.ands i p hp
      rw [hbA]
      omega)
  have mB := vals_map (tauB a b) (toBL a b (jInA a b) (jInA a b).length) b.ands (valsA (a.ands.map (mvA (toAL a b (jInA a b).length))) ([0] ++ lanes0 r ++ (sA ++ sB))) ([0] ++ lanes0 (rowB a b r) ++ sB) (fun k hk => tauB_get k (by omega)) (fun k hk => by
      rw [hbB] at hk
      have hlt := tauB_lt (a := a) (b := b) k 0 (by omega)
      refine ⟨?_, by omega⟩
      have hlow : tauB a b k < firstJ a b := by
        unfold tauB firstJ
        split
        · omega
        · split
          · have hr := idxS_range (b.inn.getD (k - 1) ByteArray.empty) (jInA a b)
            omega
          · rw [if_pos (by omega)]
            omega
      rw [valsA_preD _ _ _ (by omega)]
      unfold tauB
      by_cases h0 : k = 0
      · subst h0; rfl
      · rw [if_neg h0]
        by_cases h3 : k ≤ b.inn.length
        · rw [if_pos h3]
          obtain ⟨q, rfl⟩ : ∃ q, k = 1 + q := ⟨k - 1, by omega⟩
          have hq : q < b.inn.length := by omega
          have hx : b.inn.getD (1 + q - 1) ByteArray.empty = b.inn[q] := by
            rw [show 1 + q - 1 = q by omega]
            simp [hq]
          have hmem : b.inn[q] ∈ jInA a b := by
            have := List.getElem_mem hq
            refine jIn_mem.2 ?_
            by_cases h : b.inn[q] ∈ a.inn
            · exact .inl h
            · exact .inr ⟨this, h⟩
          obtain ⟨m, e1, e2, e3⟩ := idxS_in _ (jInA a b) 0 hmem
          rw [hx, e1, show (1 + ((0 + m : Nat) : Int)).toNat = 1 + m by omega, at0 m e3, getD_app_l _ _ _ (by simp [rowB]; omega), getD_app_r _ _ _ (by simp), lanes_getD]
          have e : 1 + q - ([0] : List Int).length = q := by simp
          rw [e, lanes_getD]
          have e4 : (rowB a b r).getD q false = r.getD m false := by
            simp only [rowB, List.getD_eq_getElem?_getD, List.getElem?_map, List.getElem?_eq_getElem hq, Option.map_some, Option.getD_some]
            rw [e1, show ((0 + m : Nat) : Int).toNat = m by omega]
          rw [e4]
        · rw [if_neg h3, if_pos (by omega)]
          obtain ⟨q, rfl⟩ : ∃ q, k = 1 + b.inn.length + q := ⟨k - (1 + b.inn.length), by omega⟩
          rw [show 1 + b.inn.length + q - b.inn.length + (jInA a b).length + a.regs.length = 1 + (jInA a b).length + (sA.length + q) by omega, atR, getD_app_r _ _ _ (by omega), getD_app_r _ _ _ (by simp [rowB]; omega)]
          congr 1
          simp [rowB]
          omega) (fun i hi => by
      rw [hbB, hw]
      unfold tauB firstJ
      rw [if_neg (by omega), if_neg (by omega), if_neg (by omega)]
      omega) (fun i p hp => by
      have := hb.ands i p hp
      rw [hbB]
      omega)
  refine ⟨fun k hk => ?_, fun k hk => ?_⟩
  · rw [hG, valsA_preD _ _ _ (by rw [hw]; exact tauA_lt k a.ands.length (by omega))]
    exact mA k (by omega)
  · rw [hG]
    exact mB k (by omega)
theorem run_join {a b : LGraph} (ha : GraphOk a) (hb : GraphOk b) : ∀ (tr : List (List Bool)) (sA sB : List Int), (∀ r ∈ tr, r.length = (jInA a b).length) → sA.length = a.regs.length → sB.length = b.regs.length →
    runG (joinG a b) (sA ++ sB) tr = List.zipWith (· ++ ·) (runG a sA (tr.map fun r => r.take a.inn.length)) (runG b sB (tr.map (rowB a b)))
  | [], _, _, _, _, _ => rfl
  | r :: tr, sA, sB, hr, h1, h2 => by
    obtain ⟨gA, gB⟩ := graph_join ha hb r sA sB (hr r (by simp)) h1 h2
    have hN : nodesN a = 1 + a.inn.length + a.regs.length + a.ands.length := rfl
    have hM : nodesN b = 1 + b.inn.length + b.regs.length + b.ands.length := rfl
    have vA : ∀ l, 0 ≤ l → l < 2 * (1 + (a.inn.length : Int) + a.regs.length + a.ands.length) → ofV (graphVals (joinG a b) (lanes0 r) (sA ++ sB)) (atV (toAL a b (jInA a b).length) l) = ofV (graphVals a (lanes0 (r.take a.inn.length)) sA) l := fun l h0 hl =>
      ofV_at _ _ _ l h0 _ (tauA_get (l / 2).toNat (by omega)) (gA _ (by omega))
    have vB : ∀ l, 0 ≤ l → l < 2 * (1 + (b.inn.length : Int) + b.regs.length + b.ands.length) → ofV (graphVals (joinG a b) (lanes0 r) (sA ++ sB)) (atV (toBL a b (jInA a b) (jInA a b).length) l) = ofV (graphVals b (lanes0 (rowB a b r)) sB) l := fun l h0 hl =>
      ofV_at _ _ _ l h0 _ (tauB_get (l / 2).toNat (by omega)) (gB _ (by omega))
    have eO : outsG (joinG a b) (graphVals (joinG a b) (lanes0 r) (sA ++ sB)) = outsG a (graphVals a (lanes0 (r.take a.inn.length)) sA) ++ outsG b (graphVals b (lanes0 (rowB a b r)) sB) := by
      generalize graphVals (joinG a b) (lanes0 r) (sA ++ sB) = V at vA vB
      simp only [outsG, joinG, List.map_append, List.map_map]
      congr 1
      · exact List.map_congr_left fun x hx => vA x (ha.outs x hx).1 (ha.outs x hx).2
      · exact List.map_congr_left fun x hx => vB x (hb.outs x hx).1 (hb.outs x hx).2
    have eN : nextsG (joinG a b) (graphVals (joinG a b) (lanes0 r) (sA ++ sB)) = nextsG a (graphVals a (lanes0 (r.take a.inn.length)) sA) ++ nextsG b (graphVals b (lanes0 (rowB a b r)) sB) := by
      generalize graphVals (joinG a b) (lanes0 r) (sA ++ sB) = V at vA vB
      simp only [nextsG, joinG, List.map_append, List.map_map]
      congr 1
      · exact List.map_congr_left fun x hx => vA x.next (ha.regs x hx).1 (ha.regs x hx).2
      · exact List.map_congr_left fun x hx => vB x.next (hb.regs x hx).1 (hb.regs x hx).2
    simp only [runG, List.map_cons, List.zipWith_cons_cons]
    rw [eO, eN, run_join ha hb tr _ _ (fun r hr' => hr r (by simp [hr'])) (by simp [nextsG]) (by simp [nextsG])]
    simp
theorem init_join (a b : LGraph) : lanes0 (initG (joinG a b)) = lanes0 (initG a) ++ lanes0 (initG b) := by
  simp only [joinG, List.map_append, List.map_map]
  rfl
end
end Go.Proofs.YtkmnmokjlpenhaaPi

/- Plain law: bit 0 of words. -/
set_option linter.unusedVariables false
set_option linter.unusedSimpArgs false
namespace Go.Proofs.YtkmnmokjlpenhaaPi

/-- Bit 0 of a word. -/
def bit0 (x : Int) : Bool := (BitVec.ofInt 64 x).getLsbD 0
theorem back0 (r : BitVec 64) : bit0 (IntKind.u64.wrap r.toNat) = r.getLsbD 0 := by
  have h : IntKind.u64.wrap r.toNat = r.toNat := wrapU (by have := r.isLt; omega)
  rw [bit0, h]
  congr 1
  apply BitVec.eq_of_toNat_eq
  simp
theorem bit0_and (x y : Int) : bit0 (bits .and .u64 x y) = (bit0 x && bit0 y) := by
  show bit0 (IntKind.u64.wrap (BitVec.ofInt 64 x &&& BitVec.ofInt 64 y).toNat) = _
  rw [back0, BitVec.getLsbD_and]
  rfl
theorem bit0_or (x y : Int) : bit0 (bits .or .u64 x y) = (bit0 x || bit0 y) := by
  show bit0 (IntKind.u64.wrap (BitVec.ofInt 64 x ||| BitVec.ofInt 64 y).toNat) = _
  rw [back0, BitVec.getLsbD_or]
  rfl
theorem bit0_not (y : Int) : bit0 (bits .xor .u64 (if IntKind.u64.signed = true then -1 else IntKind.u64.max) y) = !bit0 y := by
  show bit0 (IntKind.u64.wrap (BitVec.ofInt 64 _ ^^^ BitVec.ofInt 64 y).toNat) = _
  rw [back0, BitVec.getLsbD_xor]
  have : (BitVec.ofInt 64 (if IntKind.u64.signed = true then -1 else IntKind.u64.max)).getLsbD 0 = true := by decide
  rw [this]
  simp [bit0]
theorem one_iff (x : Int) : (bits .and .u64 x 1 == 1) = bit0 x := by
  have h1 : bits .and .u64 x 1 = ((BitVec.ofInt 64 x &&& 1#64).toNat : Int) := by
    show IntKind.u64.wrap (BitVec.ofInt 64 x &&& BitVec.ofInt 64 1).toNat = _
    rw [wrapU (by have := (BitVec.ofInt 64 x &&& BitVec.ofInt 64 1).isLt; omega)]
    rfl
  rw [h1, bit0]
  generalize BitVec.ofInt 64 x = b
  have h2 : (b &&& 1#64).toNat = b.toNat % 2 := by
    rw [BitVec.toNat_and]
    exact Nat.and_one_is_mod _
  have h3 : b.getLsbD 0 = decide (b.toNat % 2 = 1) := by
    rw [BitVec.getLsbD, Nat.testBit_zero]
  rw [h2, h3]
  by_cases h : b.toNat % 2 = 1
  · simp [h]
  · have h0 : b.toNat % 2 = 0 := by omega
    simp [h0]
theorem bit0_lane (b : Bool) : bit0 (if b = true then 1 else 0) = b := by cases b <;> decide
end Go.Proofs.YtkmnmokjlpenhaaPi

/- Plain law: what a run of a graph shows depends on lane 0 of the state alone. -/
set_option linter.unusedVariables false
set_option linter.unusedSimpArgs false
namespace Go.Proofs.YtkmnmokjlpenhaaPi

def same0 (v v' : List Int) : Prop := v.length = v'.length ∧ ∀ k, bit0 (v.getD k 0) = bit0 (v'.getD k 0)
theorem laneB_bit0 (v : List Int) : laneB v = v.map bit0 := by
  unfold laneB
  exact List.map_congr_left fun x _ => one_iff x
theorem same0_of {v v' : List Int} (h : same0 v v') (l : Int) : bit0 (ofV v l) = bit0 (ofV v' l) := by
  unfold ofV
  split
  · rw [vnot, vnot, bit0_not, bit0_not, h.2]
  · exact h.2 _
theorem same0_app {v v' w w' : List Int} (h : same0 v v') (k : same0 w w') : same0 (v ++ w) (v' ++ w') := by
  refine ⟨by simp [h.1, k.1], fun q => ?_⟩
  simp only [List.getD_eq_getElem?_getD, List.getElem?_append]
  rw [h.1]
  split
  · have := h.2 q
    simpa only [List.getD_eq_getElem?_getD] using this
  · have := k.2 (q - v'.length)
    simpa only [List.getD_eq_getElem?_getD] using this
theorem same0_refl (v : List Int) : same0 v v := ⟨rfl, fun _ => rfl⟩
theorem same0_one {x y : Int} (h : bit0 x = bit0 y) : same0 [x] [y] := ⟨rfl, fun k => by
  cases k with
  | zero => simpa using h
  | succ k => simp⟩
theorem same0_valsA : ∀ (ps : List (Int × Int)) {v v' : List Int}, same0 v v' → same0 (valsA ps v) (valsA ps v')
  | [], v, v', h => h
  | p :: ps, v, v', h => by
    simp only [valsA]
    refine same0_valsA ps (same0_app h (same0_one ?_))
    rw [bit0_and, bit0_and, same0_of h, same0_of h]
theorem same0_vals (g : LGraph) (inn : List Int) {st st' : List Int} (h : same0 st st') : same0 (graphVals g inn st) (graphVals g inn st') := same0_valsA _ (same0_app (same0_refl _) h)
theorem same0_map {α : Type} (l : List α) (f f' : α → Int) (h : ∀ x, bit0 (f x) = bit0 (f' x)) : same0 (l.map f) (l.map f') := by
  refine ⟨by simp, fun k => ?_⟩
  simp only [List.getD_eq_getElem?_getD, List.getElem?_map]
  cases l[k]? with
  | none => rfl
  | some x => exact h x
theorem same0_lane {v v' : List Int} (h : same0 v v') : laneB v = laneB v' := by
  rw [laneB_bit0, laneB_bit0]
  refine List.ext_getElem? fun k => ?_
  rw [List.getElem?_map, List.getElem?_map]
  have := h.2 k
  simp only [List.getD_eq_getElem?_getD] at this
  have hl := h.1
  by_cases hk : k < v.length
  · rw [List.getElem?_eq_getElem hk, List.getElem?_eq_getElem (by omega)] at this ⊢
    simpa using this
  · rw [List.getElem?_eq_none (by omega), List.getElem?_eq_none (by omega)]
theorem lane_same0 (v : List Int) : same0 v (lanes0 (laneB v)) := by
  refine ⟨by simp, fun k => ?_⟩
  rw [laneB_bit0]
  simp only [List.getD_eq_getElem?_getD, List.getElem?_map]
  cases v[k]? with
  | none => rfl
  | some x => exact (bit0_lane (bit0 x)).symm
theorem runG_same (g : LGraph) : ∀ (t : List (List Bool)) {st st' : List Int}, same0 st st' → runG g st t = runG g st' t
  | [], st, st', h => rfl
  | r :: t, st, st', h => by
    have hv := same0_vals g (lanes0 r) h
    have e1 : laneB (outsG g (graphVals g (lanes0 r) st)) = laneB (outsG g (graphVals g (lanes0 r) st')) := same0_lane (same0_map g.outs (ofV (graphVals g (lanes0 r) st)) (ofV (graphVals g (lanes0 r) st')) (fun x => same0_of hv x))
    have e2 : runG g (nextsG g (graphVals g (lanes0 r) st)) t = runG g (nextsG g (graphVals g (lanes0 r) st')) t := runG_same g t (same0_map g.regs (fun r' => ofV (graphVals g (lanes0 r) st) r'.next) (fun r' => ofV (graphVals g (lanes0 r) st') r'.next) (fun x => same0_of hv x.next))
    simp only [runG]
    rw [e1, e2]
theorem runG_lane (g : LGraph) (t : List (List Bool)) (st : List Int) : runG g st t = runG g (lanes0 (laneB st)) t := runG_same g t (lane_same0 st)
end Go.Proofs.YtkmnmokjlpenhaaPi

/- Plain law: words as 64 bits; the values of literals and nodes of a graph. -/
set_option linter.unusedVariables false
set_option linter.unusedSimpArgs false
namespace Go.Proofs.YtkmnmokjlpenhaaPi

/-- A word's bits. -/
abbrev bv (x : Int) : BitVec 64 := BitVec.ofInt 64 x
def U64 (x : Int) : Prop := 0 ≤ x ∧ x < 18446744073709551616
theorem bv_nat (r : BitVec 64) : bv (r.toNat : Int) = r := by
  apply BitVec.eq_of_toNat_eq
  simp
theorem u64_nat (r : BitVec 64) : U64 (r.toNat : Int) := by
  have := r.isLt
  exact ⟨by omega, by omega⟩
theorem wrap_nat (r : BitVec 64) : IntKind.u64.wrap (r.toNat : Int) = r.toNat := wrapU (by have := r.isLt; omega)
theorem u64_eq {x y : Int} (hx : U64 x) (hy : U64 y) (h : bv x = bv y) : x = y := by
  have h1 := congrArg BitVec.toNat h
  simp only [BitVec.toNat_ofInt] at h1
  obtain ⟨x0, x1⟩ := hx
  obtain ⟨y0, y1⟩ := hy
  have e1 : x % ((2 ^ 64 : Nat) : Int) = x := Int.emod_eq_of_lt x0 (by simpa using x1)
  have e2 : y % ((2 ^ 64 : Nat) : Int) = y := Int.emod_eq_of_lt y0 (by simpa using y1)
  rw [e1, e2] at h1
  omega
theorem bits_and (x y : Int) : bits .and .u64 x y = ((bv x &&& bv y).toNat : Int) := wrap_nat _
theorem bits_or (x y : Int) : bits .or .u64 x y = ((bv x ||| bv y).toNat : Int) := wrap_nat _
theorem bits_andNot (x y : Int) : bits .andNot .u64 x y = ((bv x &&& ~~~ (bv y)).toNat : Int) := wrap_nat _
theorem bits_xor (x y : Int) : bits .xor .u64 x y = ((bv x ^^^ bv y).toNat : Int) := wrap_nat _
theorem bv_and (x y : Int) : bv (bits .and .u64 x y) = bv x &&& bv y := by rw [bits_and, bv_nat]
theorem bv_or (x y : Int) : bv (bits .or .u64 x y) = bv x ||| bv y := by rw [bits_or, bv_nat]
theorem bv_andNot (x y : Int) : bv (bits .andNot .u64 x y) = bv x &&& ~~~ (bv y) := by rw [bits_andNot, bv_nat]
theorem bv_xor (x y : Int) : bv (bits .xor .u64 x y) = bv x ^^^ bv y := by rw [bits_xor, bv_nat]
theorem u64_and (x y : Int) : U64 (bits .and .u64 x y) := by rw [bits_and]; exact u64_nat _
theorem u64_or (x y : Int) : U64 (bits .or .u64 x y) := by rw [bits_or]; exact u64_nat _
theorem u64_xor (x y : Int) : U64 (bits .xor .u64 x y) := by rw [bits_xor]; exact u64_nat _
theorem bv_vnot (x : Int) : bv (vnot x) = ~~~ bv x := by
  rw [vnot, bv_xor]
  have : bv (if IntKind.u64.signed = true then -1 else IntKind.u64.max) = BitVec.allOnes 64 := by decide
  rw [this]
  apply BitVec.eq_of_getLsbD_eq
  intro i hi
  simp only [BitVec.getLsbD_xor, BitVec.getLsbD_allOnes, BitVec.getLsbD_not, hi, decide_true, Bool.true_and, Bool.true_xor]
theorem u64_vnot (x : Int) : U64 (vnot x) := u64_xor _ _
theorem bv_ext {x y : BitVec 64} (h : ∀ i, i < 64 → x.getLsbD i = y.getLsbD i) : x = y := BitVec.eq_of_getLsbD_eq h

/-- The bits of a literal. -/
def litB (v : List Int) (l : Int) : BitVec 64 := if l % 2 = 1 then ~~~ bv (v.getD (l / 2).toNat 0) else bv (v.getD (l / 2).toNat 0)
theorem bv_of (v : List Int) (l : Int) : bv (ofV v l) = litB v l := by
  unfold ofV litB
  split
  · exact bv_vnot _
  · rfl
theorem litB_flip (v : List Int) (l : Int) (h : 0 ≤ l) : litB v (flipL l) = ~~~ litB v l := by
  unfold litB flipL
  by_cases h2 : l % 2 = 0
  · rw [if_pos h2, if_pos (by omega), if_neg (show ¬ l % 2 = 1 by omega)]
    congr 3
    omega
  · rw [if_neg h2, if_neg (by omega), if_pos (show l % 2 = 1 by omega)]
    have : ((l - 1) / 2).toNat = (l / 2).toNat := by omega
    rw [this]
    apply bv_ext
    intro i hi
    simp [hi]
theorem valsA_pre : ∀ (ps : List (Int × Int)) (v : List Int) (k : Nat), k < v.length → (valsA ps v).getD k 0 = v.getD k 0
  | [], v, k, h => rfl
  | p :: ps, v, k, h => by
    rw [valsA, valsA_pre ps _ k (by simp; omega)]
    simp [List.getElem?_append_left h]
theorem valsA_litB (ps : List (Int × Int)) (v : List Int) (l : Int) (h0 : 0 ≤ l) (h : l < 2 * (v.length : Int)) : litB (valsA ps v) l = litB v l := by
  unfold litB
  rw [valsA_pre ps v (l / 2).toNat (by omega)]
theorem valsA_node : ∀ (ps : List (Int × Int)) (v : List Int) (i : Nat) (p : Int × Int), ps[i]? = some p → (∀ (i : Nat) (p : Int × Int), ps[i]? = some p → (0 ≤ p.1 ∧ p.1 < 2 * ((v.length : Int) + i)) ∧ 0 ≤ p.2 ∧ p.2 < 2 * ((v.length : Int) + i)) →
    bv ((valsA ps v).getD (v.length + i) 0) = litB (valsA ps v) p.1 &&& litB (valsA ps v) p.2
  | [], v, i, p, h, _ => by simp at h
  | q :: qs, v, 0, p, h, hr => by
    simp at h
    subst h
    obtain ⟨⟨a1, a2⟩, a3, a4⟩ := hr 0 q rfl
    rw [valsA]
    have hl : (v ++ [bits .and .u64 (ofV v q.1) (ofV v q.2)]).length = v.length + 1 := by simp
    rw [valsA_pre qs _ _ (by omega), valsA_litB qs _ q.1 a1 (by rw [hl]; omega), valsA_litB qs _ q.2 a3 (by rw [hl]; omega)]
    have e : ∀ l : Int, 0 ≤ l → l < 2 * (v.length : Int) → litB (v ++ [bits .and .u64 (ofV v q.1) (ofV v q.2)]) l = litB v l := fun l h1 h2 => by
      unfold litB
      have : (v ++ [bits .and .u64 (ofV v q.1) (ofV v q.2)]).getD (l / 2).toNat 0 = v.getD (l / 2).toNat 0 := by
        simp only [List.getD_eq_getElem?_getD]
        rw [List.getElem?_append_left (by omega)]
      rw [this]
    rw [e q.1 a1 (by omega), e q.2 a3 (by omega)]
    simp [bv_and, bv_of]
  | q :: qs, v, i + 1, p, h, hr => by
    rw [valsA]
    have hl : (v ++ [bits .and .u64 (ofV v q.1) (ofV v q.2)]).length = v.length + 1 := by simp
    have := valsA_node qs (v ++ [bits .and .u64 (ofV v q.1) (ofV v q.2)]) i p (by simpa using h) (fun j p' hp' => by
      have := hr (j + 1) p' (by simpa using hp')
      rw [hl]
      omega)
    rw [hl] at this
    rw [show v.length + (i + 1) = v.length + 1 + i by omega]
    exact this
theorem valsA_u64 : ∀ (ps : List (Int × Int)) (v : List Int), (∀ x ∈ v, U64 x) → ∀ x ∈ valsA ps v, U64 x
  | [], v, h => h
  | p :: ps, v, h => by
    rw [valsA]
    refine valsA_u64 ps _ fun x hx => ?_
    simp only [List.mem_append, List.mem_singleton] at hx
    rcases hx with hx | rfl
    · exact h x hx
    · exact u64_and _ _
theorem getD_u64 {v : List Int} (h : ∀ x ∈ v, U64 x) (k : Nat) : U64 (v.getD k 0) := by
  rw [List.getD_eq_getElem?_getD]
  cases hk : v[k]? with
  | none => exact ⟨by simp, by simp⟩
  | some x => exact h x (List.mem_of_getElem? hk)
theorem ofV_u64 {v : List Int} (h : ∀ x ∈ v, U64 x) (l : Int) : U64 (ofV v l) := by
  unfold ofV
  split
  · exact u64_vnot _
  · exact getD_u64 h _

section
variable {g : LGraph} (hg : GraphOk g) {inn st : List Int} (h1 : inn.length = g.inn.length) (h2 : st.length = g.regs.length)
include hg h1 h2
theorem g_and (i : Nat) (p : Int × Int) (hp : g.ands[i]? = some p) : litB (graphVals g inn st) (2 * (1 + (g.inn.length : Int) + g.regs.length + i)) = litB (graphVals g inn st) p.1 &&& litB (graphVals g inn st) p.2 := by
  have hl : ([0] ++ inn ++ st).length = 1 + g.inn.length + g.regs.length := by simp; omega
  have := valsA_node g.ands ([0] ++ inn ++ st) i p hp (fun j q hq => by
    have := hg.ands j q hq
    rw [hl]
    omega)
  rw [hl] at this
  rw [graphVals, litB, if_neg (by omega)]
  have e : (2 * (1 + (g.inn.length : Int) + g.regs.length + i) / 2).toNat = 1 + g.inn.length + g.regs.length + i := by omega
  rw [e]
  exact this
theorem g_nodeOf {l : Int} {p : Int × Int} (h : nodeOf g l = some p) : litB (graphVals g inn st) l = litB (graphVals g inn st) p.1 &&& litB (graphVals g inn st) p.2 := by
  obtain ⟨i, hi, rfl⟩ := nodeOf_mem h
  exact g_and hg h1 h2 i p hi
theorem g_off : litB (graphVals g inn st) 0 = 0#64 := by
  have _ := hg
  rw [graphVals, valsA_litB _ _ _ (by omega) (by simp; omega)]
  simp [litB]
theorem g_on : litB (graphVals g inn st) 1 = BitVec.allOnes 64 := by
  have := litB_flip (graphVals g inn st) 0 (by omega)
  rw [g_off hg h1 h2] at this
  rw [show (1 : Int) = flipL 0 by decide, this]
  decide
theorem g_reg (i : Nat) (hi : i < g.regs.length) : litB (graphVals g inn st) (2 * (1 + (g.inn.length : Int) + i)) = bv (st.getD i 0) := by
  have _ := hg
  rw [graphVals, valsA_litB _ _ _ (by omega) (by simp; omega), litB, if_neg (by omega)]
  have e : (2 * (1 + (g.inn.length : Int) + i) / 2).toNat = 1 + inn.length + i := by omega
  rw [e]
  congr 1
  simp only [List.getD_eq_getElem?_getD]
  rw [List.getElem?_append_right (by simp; omega)]
  congr 2
  simp
  omega
end
theorem colV_u64 (rows : List (List Bool)) (i : Nat) : ∀ k, U64 (colV rows i k)
  | 0 => ⟨by simp [colV], by simp [colV]⟩
  | k + 1 => by
    unfold colV orBit
    split
    · exact u64_or _ _
    · exact colV_u64 rows i k
theorem spreadV_u64 (rows : List (List Bool)) (K : Nat) : ∀ x ∈ spreadV rows K, U64 x := by
  intro x hx
  simp only [spreadV, List.mem_map] at hx
  obtain ⟨q, _, rfl⟩ := hx
  exact colV_u64 rows q _
end Go.Proofs.YtkmnmokjlpenhaaPi

/- Plain law: lane k of words over spread rows is what lane 0 is over row k. -/
set_option linter.unusedVariables false
set_option linter.unusedSimpArgs false
namespace Go.Proofs.YtkmnmokjlpenhaaPi

/-- Lane k of words is lane 0 of others. -/
def lnK (k : Nat) (v v' : List Int) : Prop := v.length = v'.length ∧ ∀ q, (bv (v.getD q 0)).getLsbD k = (bv (v'.getD q 0)).getLsbD 0
theorem lnK_of {k : Nat} (hk : k < 64) {v v' : List Int} (h : lnK k v v') (l : Int) : (bv (ofV v l)).getLsbD k = (bv (ofV v' l)).getLsbD 0 := by
  rw [bv_of, bv_of]
  unfold litB
  split
  · rw [BitVec.getLsbD_not, BitVec.getLsbD_not, h.2]
    simp [hk]
  · exact h.2 _
theorem lnK_app {k : Nat} {v v' w w' : List Int} (h : lnK k v v') (e : lnK k w w') : lnK k (v ++ w) (v' ++ w') := by
  refine ⟨by simp [h.1, e.1], fun q => ?_⟩
  simp only [List.getD_eq_getElem?_getD, List.getElem?_append]
  rw [h.1]
  split
  · have := h.2 q
    simpa only [List.getD_eq_getElem?_getD] using this
  · have := e.2 (q - v'.length)
    simpa only [List.getD_eq_getElem?_getD] using this
theorem lnK_one {k : Nat} {x y : Int} (h : (bv x).getLsbD k = (bv y).getLsbD 0) : lnK k [x] [y] := ⟨rfl, fun q => by
  cases q with
  | zero => simpa using h
  | succ q => simp⟩
theorem lnK_valsA {k : Nat} (hk : k < 64) : ∀ (ps : List (Int × Int)) {v v' : List Int}, lnK k v v' → lnK k (valsA ps v) (valsA ps v')
  | [], v, v', h => h
  | p :: ps, v, v', h => by
    simp only [valsA]
    refine lnK_valsA hk ps (lnK_app h (lnK_one ?_))
    rw [bv_and, bv_and, BitVec.getLsbD_and, BitVec.getLsbD_and, lnK_of hk h, lnK_of hk h]
theorem lnK_vals {k : Nat} (hk : k < 64) (g : LGraph) {inn inn' st st' : List Int} (h : lnK k inn inn') (e : lnK k st st') : lnK k (graphVals g inn st) (graphVals g inn' st') :=
  lnK_valsA hk _ (lnK_app (lnK_app (lnK_one (by simp)) h) e)
/-- A word's bit as the program takes it. -/
def bitW (k : Nat) (x : Int) : Bool := bits .and .u64 (x.fdiv (2 ^ (min k IntKind.u64.bits))) 1 == 1
theorem bitW_eq {k : Nat} (hk : k < 64) {x : Int} (hx : U64 x) : bitW k x = (bv x).getLsbD k := by
  unfold bitW
  rw [one_iff, bit0, show min k IntKind.u64.bits = k from Nat.min_eq_left (Nat.le_of_lt hk)]
  obtain ⟨h0, h1⟩ := hx
  obtain ⟨r, rfl⟩ : ∃ r : Nat, x = r := ⟨x.toNat, by omega⟩
  have e : ((r : Int).fdiv (2 ^ k)) = ((r / 2 ^ k : Nat) : Int) := by
    rw [show ((2 : Int) ^ k) = ((2 ^ k : Nat) : Int) by simp, Int.fdiv_eq_ediv_of_nonneg _ (Int.natCast_nonneg _)]
    rfl
  rw [e]
  show (BitVec.ofInt 64 ((r / 2 ^ k : Nat) : Int)).getLsbD 0 = (BitVec.ofInt 64 (r : Int)).getLsbD k
  rw [BitVec.ofInt_natCast, BitVec.ofInt_natCast, BitVec.getLsbD_ofNat, BitVec.getLsbD_ofNat]
  simp only [hk, Nat.testBit_div_two_pow]
  simp
theorem two_bit {n k : Nat} (hn : n < 64) (hk : k < 64) : (bv (IntKind.u64.wrap (1 * 2 ^ (min n IntKind.u64.bits)))).getLsbD k = decide (n = k) := by
  have h : ∀ n, n < 64 → ∀ k, k < 64 → (bv (IntKind.u64.wrap (1 * 2 ^ (min n IntKind.u64.bits)))).getLsbD k = decide (n = k) := by decide +kernel
  exact h n hn k hk
theorem col_bit (rows : List (List Bool)) (i : Nat) {k : Nat} (hk : k < 64) : ∀ n, n ≤ 64 → (bv (colV rows i n)).getLsbD k = (decide (k < n) && (rows.getD k []).getD i false)
  | 0, _ => by simp [colV]
  | n + 1, hn => by
    rw [colV, orBit]
    have ih := col_bit rows i hk n (by omega)
    split
    · rename_i hb
      rw [bv_or, BitVec.getLsbD_or, ih, two_bit (by omega) hk]
      by_cases h : n = k
      · subst h
        rw [hb]
        simp
      · by_cases h2 : k < n
        · simp [h, h2, show k < n + 1 by omega]
        · simp [h, h2, show ¬ k < n + 1 by omega]
    · rename_i hb
      rw [ih]
      by_cases h : n = k
      · subst h
        simp at hb
        simp [hb]
      · by_cases h2 : k < n
        · simp [h2, show k < n + 1 by omega]
        · simp [h2, show ¬ k < n + 1 by omega]
theorem lnK_spread {rows : List (List Bool)} {K k : Nat} (hn : rows.length ≤ 64) (hk : k < rows.length) (hr : ∀ r ∈ rows, r.length = K) {r : List Bool} (hg : rows[k]? = some r) : lnK k (spreadV rows K) (lanes0 r) := by
  have hm := hr r (List.mem_of_getElem? hg)
  refine ⟨by simp [spreadV, hm], fun q => ?_⟩
  have e : rows.getD k [] = r := by simp [hg]
  simp only [spreadV, List.getD_eq_getElem?_getD, List.getElem?_map]
  by_cases hq : q < K
  · rw [List.getElem?_range hq, List.getElem?_eq_getElem (by omega)]
    simp only [Option.map_some, Option.getD_some]
    rw [col_bit rows q (by omega) _ hn, decide_eq_true hk, Bool.true_and, e, List.getD_eq_getElem?_getD, List.getElem?_eq_getElem (by omega), Option.getD_some]
    exact (bit0_lane _).symm
  · rw [List.getElem?_eq_none (by simpa using hq), List.getElem?_eq_none (by omega)]
    simp
/-- What the words' bits k are: the bits of the single call. -/
theorem lane_map {k : Nat} (hk : k < 64) {α : Type} (l : List α) (f f' : α → Int) (hu : ∀ x, U64 (f x)) (h : ∀ x, (bv (f x)).getLsbD k = (bv (f' x)).getLsbD 0) : laneB (l.map f') = (l.map f).map (bitW k) := by
  rw [laneB_bit0, List.map_map, List.map_map]
  refine List.map_congr_left fun x _ => ?_
  show bit0 (f' x) = bitW k (f x)
  rw [bitW_eq hk (hu x), h]
  rfl
theorem lanes_law (g : LGraph) (ins sts : List (List Bool)) {k : Nat} (h1 : ins.length = 64) (h2 : sts.length = 64) (hk : k < 64) (hi : ∀ r ∈ ins, r.length = g.inn.length) (hs : ∀ r ∈ sts, r.length = g.regs.length) {a b : List Bool} (ha : ins[k]? = some a) (hb : sts[k]? = some b) :
    laneB (outsG g (graphVals g (lanes0 a) (lanes0 b))) ++ laneB (nextsG g (graphVals g (lanes0 a) (lanes0 b))) = (outsG g (graphVals g (spreadV ins g.inn.length) (spreadV sts g.regs.length)) ++ nextsG g (graphVals g (spreadV ins g.inn.length) (spreadV sts g.regs.length))).map (bitW k) := by
  have hv := lnK_vals hk g (lnK_spread (by omega) (by omega) hi ha) (lnK_spread (by omega) (by omega) hs hb)
  have hu : ∀ x ∈ graphVals g (spreadV ins g.inn.length) (spreadV sts g.regs.length), U64 x := valsA_u64 _ _ fun x hx => by
    simp only [List.mem_append, List.mem_singleton] at hx
    rcases hx with (rfl | hx) | hx
    · exact ⟨by omega, by omega⟩
    · exact spreadV_u64 _ _ _ hx
    · exact spreadV_u64 _ _ _ hx
  rw [List.map_append]
  congr 1
  · exact lane_map hk g.outs (ofV _) (ofV _) (fun x => ofV_u64 hu x) (fun x => lnK_of hk hv x)
  · exact lane_map hk g.regs (fun r => ofV _ r.next) (fun r => ofV _ r.next) (fun x => ofV_u64 hu x.next) (fun x => lnK_of hk hv x.next)
end Go.Proofs.YtkmnmokjlpenhaaPi

/- The walks of slices.Concat of rows of bools, and of rows of words, that are not all empty. -/
set_option linter.unusedVariables false
set_option linter.unusedSimpArgs false
set_option maxRecDepth 100000
namespace Go.Proofs.YtkmnmokjlpenhaaPi
set_option maxHeartbeats 4000000
def sumL {α : Type} (ps : List (List α)) : Nat := (ps.map List.length).foldr (· + ·) 0
theorem sumL_take {α : Type} (ps : List (List α)) (i : Nat) (r : List α) (h : ps[i]? = some r) : sumL (ps.take (i + 1)) = sumL (ps.take i) + r.length := by
  induction ps generalizing i with
  | nil => simp at h
  | cons p ps ih =>
    cases i with
    | zero => simp at h; subst h; simp [sumL]
    | succ i =>
      have := ih i (by simpa using h)
      simp only [sumL, List.take_succ_cons, List.map_cons, List.foldr_cons] at this ⊢
      omega
theorem flat_take {α : Type} (ps : List (List α)) (i : Nat) (r : List α) (h : ps[i]? = some r) : (ps.take (i + 1)).flatten = (ps.take i).flatten ++ r := by simp [List.take_add_one, h]
theorem sumL_le {α : Type} (ps : List (List α)) (i : Nat) : sumL (ps.take i) ≤ sumL ps := by
  induction ps generalizing i with
  | nil => simp
  | cons p ps ih =>
    cases i with
    | zero => simp [sumL]
    | succ i =>
      have := ih i
      simp only [sumL, List.take_succ_cons, List.map_cons, List.foldr_cons] at this ⊢
      omega
theorem flat_len {α : Type} (ps : List (List α)) : ps.flatten.length = sumL ps := by
  induction ps with
  | nil => rfl
  | cons p ps ih => simp only [List.flatten_cons, List.length_append, sumL, List.map_cons, List.foldr_cons] at ih ⊢; rw [ih]
abbrev uss (l : List (List Int)) : List (List Im) := l.map fun r => [.sl (us r)]
theorem uss_len (l : List (List Int)) : (uss l).length = l.length := by simp
theorem uss_at (q : List (List Int)) (i : Nat) (h : i < q.length) : ∃ r, q[i]? = some r ∧ r ∈ q ∧ q.getD i [] = r ∧ (uss q)[i]? = some [.sl (us r)] :=
  ⟨q[i], List.getElem?_eq_getElem h, List.getElem_mem h, by simp [h], by simp [h]⟩
theorem ConcatB_ok (ps : List (List Bool)) (h0 : 0 < sumL ps) (h1 : sumL ps ≤ 100000) (h2 : ps.length ≤ 1000) (up : Frs) : ACalls Try.prog 51 [.im (.sl (boolss ps))] up fun v u => v = .im (.sl (bools ps.flatten)) ∧ u = up := by
  refine ACalls.code Try.func51 rfl 36 rfl (by simp) [.tmp 2] rfl fun Q hQ => ?_
  simp only [ups, PV.up, argEnv]
  have ft := And.intro ty_3 (And.intro ty_4 (And.intro ty_9 (And.intro ty_58 (And.intro ty_71 trivial))))
  refine Run.seq ?_
  have fx := And.intro boolss_len ft
  refine Run.go ?_
  refine End.kp [0] ?_
  refine Run.seq ?_
  refine Run.go ?_
  refine End.kp [0, 3] ?_
  refine Run.seq ?_
  refine Run.seq ?_
  refine Run.go ?_
  refine End.kp [0, 3, 9, 10, 11] ?_
  refine Run.block ?_
  refine Run.ghost (Ghost.form [(0, .im (.sl (boolss ps))), (3, .i 0), (9, .im (.sl (boolss ps))), (10, .i ps.length), (11, .i (0 : Nat))] 0 ⟨rfl, rfl, rfl, rfl, rfl, trivial⟩ rfl rfl) ?_
  refine Run.loop (fun m' st => ∃ i : Nat, m' = ps.length - i ∧ i ≤ ps.length ∧ st = ⟨[(0, .im (.sl (boolss ps))), (3, .i (sumL (ps.take i) : Nat)), (9, .im (.sl (boolss ps))), (10, .i ps.length), (11, .i (i : Nat))], [], up⟩) ps.length ⟨0, rfl, by omega, by simp [sumL]⟩ fun m' st hI => ?_
  obtain ⟨i, rfl, hi, rfl⟩ := hI
  refine Run.seq ?_
  have fx := And.intro boolss_len ft
  refine Run.go ?_
  refine End.kp [0, 3, 9, 10, 11, 12] ?_
  refine Run.seq ?_
  refine Run.cond _ rfl (fun hb => ?_) (fun hb => ?_)
  · have hb2 := of_decide_eq_true hb
    have hin : i < ps.length := by omega
    have wi := wsucc hin (by omega)
    obtain ⟨r, hri, hrm, _, hrr⟩ := boolss_at ps i hin
    have hil : (i : Int) < (ps.length : Int) := by omega
    have ht := sumL_take ps i r hri
    have hle := sumL_le ps (i + 1)
    have wa : IntKind.i64.wrap ((sumL (ps.take i) : Int) + r.length) = (sumL (ps.take (i + 1)) : Int) := by rw [wrap64 (by omega)]; omega
    have hn0 : decide ((sumL (ps.take (i + 1)) : Int) < 0) = false := decide_eq_false (by omega)
    refine Run.skip ?_
    refine End.kp [0, 3, 9, 10, 11] ?_
    refine Run.seq ?_
    refine Run.block ?_
    refine Run.seq ?_
    have fx := And.intro (@Int.toNat_natCast) (And.intro (@Int.natCast_nonneg) (And.intro hn0 (And.intro wa (And.intro bools_len (And.intro hil (And.intro hrr (And.intro wi (And.intro boolss_len ft))))))))
    refine Run.go ?_
    refine End.kp [0, 3, 5, 9, 10, 11] ?_
    refine Run.seq ?_
    refine Run.go ?_
    refine End.kp [0, 3, 9, 10, 11] ?_
    refine Run.seq ?_
    refine Run.go ?_
    refine End.kp [0, 3, 9, 10, 11, 20] ?_
    refine Run.cond _ rfl (fun hb => ?_) (fun hb => ?_)
    · have hb3 := hb
      simp at hb
    · have hb3 := hb
      refine Run.skip ?_
      refine End.blk ?_
      refine End.kp [0, 3, 9, 10, 11] ?_
      have fx := And.intro (@Int.toNat_natCast) (And.intro (@Int.natCast_nonneg) (And.intro hn0 (And.intro wa (And.intro bools_len (And.intro hil (And.intro hrr (And.intro wi (And.intro boolss_len ft))))))))
      refine Run.go ?_
      refine End.lp ?_
      refine ⟨ps.length - (i + 1), _, by omega, Ghost.form [(0, .im (.sl (boolss ps))), (3, .i (sumL (ps.take (i + 1)) : Nat)), (9, .im (.sl (boolss ps))), (10, .i ps.length), (11, .i (i + 1 : Nat))] 0 ⟨rfl, rfl, rfl, rfl, rfl, trivial⟩ rfl rfl, i + 1, rfl, by omega, rfl⟩
  · have hb2 := of_decide_eq_false hb
    have hiN : i = ps.length := by omega
    subst hiN
    rw [List.take_length]
    refine Run.exit rfl ?_
    refine End.kp [0, 3] ?_
    refine Run.seq ?_
    have fx := And.intro boolss_len ft
    refine Run.region rfl fun K hK => GOps.sim ?_
    refine GOps.callM rfl rfl rfl rfl (by kernel_rfl) (ACalls.sim ?_)
    refine (growB_ok (sumL ps) h0 (by omega) _ _).mono fun v u hv => ?_
    obtain ⟨rfl, rfl⟩ := hv
    refine ⟨_, _, rfl, GOps.sim ?_⟩
    refine GOps.done (hK _ ?_); clear hK K
    refine End.kp [0, 6] ?_
    refine Run.seq ?_
    refine Run.seq ?_
    refine Run.go ?_
    refine End.kp [6, 25, 26, 27] ?_
    refine Run.block ?_
    refine Run.ghost (Ghost.form [(6, .ms 0 0 0), (25, .im (.sl (boolss ps))), (26, .i ps.length), (27, .i (0 : Nat))] 1 ⟨rfl, rfl, rfl, rfl, trivial⟩ rfl rfl) ?_
    refine Run.loop (fun m' st => ∃ i : Nat, m' = ps.length - i ∧ i ≤ ps.length ∧ st = ⟨[(6, .ms 0 0 (ps.take i).flatten.length), (25, .im (.sl (boolss ps))), (26, .i ps.length), (27, .i (i : Nat))], [.row 4 1 (bools (ps.take i).flatten) 0], up⟩) ps.length ⟨0, rfl, by omega, rfl⟩ fun m' st hI => ?_
    obtain ⟨i, rfl, hi, rfl⟩ := hI
    have hfl : (bools (ps.take i).flatten).length = (ps.take i).flatten.length := by rw [bools_len]
    have hfs := flat_len (ps.take i)
    have hsl := sumL_le ps i
    refine Run.seq ?_
    have fx := And.intro hfl (And.intro boolss_len ft)
    refine Run.go ?_
    refine End.kp [6, 25, 26, 27, 28] ?_
    refine Run.seq ?_
    refine Run.cond _ rfl (fun hb => ?_) (fun hb => ?_)
    · have hb2 := of_decide_eq_true hb
      have hin : i < ps.length := by omega
      have wi := wsucc hin (by omega)
      obtain ⟨r, hri, hrm, _, hrr⟩ := boolss_at ps i hin
      have hil : (i : Int) < (ps.length : Int) := by omega
      have ht := sumL_take ps i r hri
      have hle := sumL_le ps (i + 1)
      have hft := flat_take ps i r hri
      have hcap : ((ps.take i).flatten.length + r.length) * 1 ≤ 140737488355328 := by omega
      have hcap2 : (ps.take i).flatten.length + r.length ≤ 140737488355328 := by omega
      have hall : (bools r).all (fun r => r.length == 1) = true := by simp
      refine Run.skip ?_
      refine End.kp [6, 25, 26, 27] ?_
      refine Run.seq ?_
      refine Run.block ?_
      refine Run.seq ?_
      have fx := And.intro (@Int.toNat_natCast) (And.intro (@Int.natCast_nonneg) (And.intro hall (And.intro hcap2 (And.intro hcap (And.intro bools_len (And.intro hil (And.intro hrr (And.intro wi (And.intro hfl (And.intro boolss_len ft))))))))))
      refine Run.go ?_
      refine End.kp [6, 8, 25, 26, 27] ?_
      refine Run.go ?_
      refine End.blk ?_
      refine End.kp [6, 25, 26, 27] ?_
      refine Run.go ?_
      refine End.lp ?_
      refine ⟨ps.length - (i + 1), _, by omega, Ghost.form [(6, .ms 0 0 ((ps.take i).flatten.length + r.length)), (25, .im (.sl (boolss ps))), (26, .i ps.length), (27, .i (i + 1 : Nat))] 1 ⟨rfl, rfl, rfl, rfl, trivial⟩ rfl rfl, i + 1, rfl, by omega, ?_⟩
      rw [hft]
      simp
    · have hb2 := of_decide_eq_false hb
      have hiN : i = ps.length := by omega
      subst hiN
      rw [List.take_length] at hfl ⊢
      refine Run.exit rfl ?_
      refine End.kp [6] ?_
      refine Run.seq ?_
      refine Run.ghost (Ghost.shut (t := 6) (j := 0) rfl rfl hfl) ?_
      simp only [eput, edel]
      have fx := And.intro hfl (And.intro boolss_len ft)
      refine Run.go ?_
      refine End.kp [2] ?_
      refine Run.ret (hQ _ _ ⟨.inr rfl, _, rfl, _, rfl, ?_⟩)
      exact ⟨rfl, rfl⟩
theorem ConcatU_ok (ps : List (List Int)) (h0 : 0 < sumL ps) (h1 : sumL ps ≤ 100000) (h2 : ps.length ≤ 1000) (up : Frs) : ACalls Try.prog 52 [.im (.sl (uss ps))] up fun v u => v = .im (.sl (us ps.flatten)) ∧ u = up := by
  refine ACalls.code Try.func52 rfl 36 rfl (by simp) [.tmp 2] rfl fun Q hQ => ?_
  simp only [ups, PV.up, argEnv]
  have ft := And.intro ty_3 (And.intro ty_4 (And.intro ty_9 (And.intro ty_37 (And.intro ty_56 (And.intro ty_155 trivial)))))
  refine Run.seq ?_
  have fx := And.intro uss_len ft
  refine Run.go ?_
  refine End.kp [0] ?_
  refine Run.seq ?_
  refine Run.go ?_
  refine End.kp [0, 3] ?_
  refine Run.seq ?_
  refine Run.seq ?_
  refine Run.go ?_
  refine End.kp [0, 3, 9, 10, 11] ?_
  refine Run.block ?_
  refine Run.ghost (Ghost.form [(0, .im (.sl (uss ps))), (3, .i 0), (9, .im (.sl (uss ps))), (10, .i ps.length), (11, .i (0 : Nat))] 0 ⟨rfl, rfl, rfl, rfl, rfl, trivial⟩ rfl rfl) ?_
  refine Run.loop (fun m' st => ∃ i : Nat, m' = ps.length - i ∧ i ≤ ps.length ∧ st = ⟨[(0, .im (.sl (uss ps))), (3, .i (sumL (ps.take i) : Nat)), (9, .im (.sl (uss ps))), (10, .i ps.length), (11, .i (i : Nat))], [], up⟩) ps.length ⟨0, rfl, by omega, by simp [sumL]⟩ fun m' st hI => ?_
  obtain ⟨i, rfl, hi, rfl⟩ := hI
  refine Run.seq ?_
  have fx := And.intro uss_len ft
  refine Run.go ?_
  refine End.kp [0, 3, 9, 10, 11, 12] ?_
  refine Run.seq ?_
  refine Run.cond _ rfl (fun hb => ?_) (fun hb => ?_)
  · have hb2 := of_decide_eq_true hb
    have hin : i < ps.length := by omega
    have wi := wsucc hin (by omega)
    obtain ⟨r, hri, hrm, _, hrr⟩ := uss_at ps i hin
    have hil : (i : Int) < (ps.length : Int) := by omega
    have ht := sumL_take ps i r hri
    have hle := sumL_le ps (i + 1)
    have wa : IntKind.i64.wrap ((sumL (ps.take i) : Int) + r.length) = (sumL (ps.take (i + 1)) : Int) := by rw [wrap64 (by omega)]; omega
    have hn0 : decide ((sumL (ps.take (i + 1)) : Int) < 0) = false := decide_eq_false (by omega)
    refine Run.skip ?_
    refine End.kp [0, 3, 9, 10, 11] ?_
    refine Run.seq ?_
    refine Run.block ?_
    refine Run.seq ?_
    have fx := And.intro (@Int.toNat_natCast) (And.intro (@Int.natCast_nonneg) (And.intro hn0 (And.intro wa (And.intro us_len (And.intro hil (And.intro hrr (And.intro wi (And.intro uss_len ft))))))))
    refine Run.go ?_
    refine End.kp [0, 3, 5, 9, 10, 11] ?_
    refine Run.seq ?_
    refine Run.go ?_
    refine End.kp [0, 3, 9, 10, 11] ?_
    refine Run.seq ?_
    refine Run.go ?_
    refine End.kp [0, 3, 9, 10, 11, 20] ?_
    refine Run.cond _ rfl (fun hb => ?_) (fun hb => ?_)
    · have hb3 := hb
      simp at hb
    · have hb3 := hb
      refine Run.skip ?_
      refine End.blk ?_
      refine End.kp [0, 3, 9, 10, 11] ?_
      have fx := And.intro (@Int.toNat_natCast) (And.intro (@Int.natCast_nonneg) (And.intro hn0 (And.intro wa (And.intro us_len (And.intro hil (And.intro hrr (And.intro wi (And.intro uss_len ft))))))))
      refine Run.go ?_
      refine End.lp ?_
      refine ⟨ps.length - (i + 1), _, by omega, Ghost.form [(0, .im (.sl (uss ps))), (3, .i (sumL (ps.take (i + 1)) : Nat)), (9, .im (.sl (uss ps))), (10, .i ps.length), (11, .i (i + 1 : Nat))] 0 ⟨rfl, rfl, rfl, rfl, rfl, trivial⟩ rfl rfl, i + 1, rfl, by omega, rfl⟩
  · have hb2 := of_decide_eq_false hb
    have hiN : i = ps.length := by omega
    subst hiN
    rw [List.take_length]
    refine Run.exit rfl ?_
    refine End.kp [0, 3] ?_
    refine Run.seq ?_
    have fx := And.intro uss_len ft
    refine Run.region rfl fun K hK => GOps.sim ?_
    refine GOps.callM rfl rfl rfl rfl (by kernel_rfl) (ACalls.sim ?_)
    refine (growU_ok (sumL ps) h0 (by omega) _ _).mono fun v u hv => ?_
    obtain ⟨rfl, rfl⟩ := hv
    refine ⟨_, _, rfl, GOps.sim ?_⟩
    refine GOps.done (hK _ ?_); clear hK K
    refine End.kp [0, 6] ?_
    refine Run.seq ?_
    refine Run.seq ?_
    refine Run.go ?_
    refine End.kp [6, 25, 26, 27] ?_
    refine Run.block ?_
    refine Run.ghost (Ghost.form [(6, .ms 0 0 0), (25, .im (.sl (uss ps))), (26, .i ps.length), (27, .i (0 : Nat))] 1 ⟨rfl, rfl, rfl, rfl, trivial⟩ rfl rfl) ?_
    refine Run.loop (fun m' st => ∃ i : Nat, m' = ps.length - i ∧ i ≤ ps.length ∧ st = ⟨[(6, .ms 0 0 (ps.take i).flatten.length), (25, .im (.sl (uss ps))), (26, .i ps.length), (27, .i (i : Nat))], [.row 37 1 (us (ps.take i).flatten) 0], up⟩) ps.length ⟨0, rfl, by omega, rfl⟩ fun m' st hI => ?_
    obtain ⟨i, rfl, hi, rfl⟩ := hI
    have hfl : (us (ps.take i).flatten).length = (ps.take i).flatten.length := by rw [us_len]
    have hfs := flat_len (ps.take i)
    have hsl := sumL_le ps i
    refine Run.seq ?_
    have fx := And.intro hfl (And.intro uss_len ft)
    refine Run.go ?_
    refine End.kp [6, 25, 26, 27, 28] ?_
    refine Run.seq ?_
    refine Run.cond _ rfl (fun hb => ?_) (fun hb => ?_)
    · have hb2 := of_decide_eq_true hb
      have hin : i < ps.length := by omega
      have wi := wsucc hin (by omega)
      obtain ⟨r, hri, hrm, _, hrr⟩ := uss_at ps i hin
      have hil : (i : Int) < (ps.length : Int) := by omega
      have ht := sumL_take ps i r hri
      have hle := sumL_le ps (i + 1)
      have hft := flat_take ps i r hri
      have hcap : ((ps.take i).flatten.length + r.length) * 8 ≤ 140737488355328 := by omega
      have hcap2 : (ps.take i).flatten.length + r.length ≤ 140737488355328 := by omega
      have hall : (us r).all (fun r => r.length == 1) = true := by simp
      refine Run.skip ?_
      refine End.kp [6, 25, 26, 27] ?_
      refine Run.seq ?_
      refine Run.block ?_
      refine Run.seq ?_
      have fx := And.intro (@Int.toNat_natCast) (And.intro (@Int.natCast_nonneg) (And.intro hall (And.intro hcap2 (And.intro hcap (And.intro us_len (And.intro hil (And.intro hrr (And.intro wi (And.intro hfl (And.intro uss_len ft))))))))))
      refine Run.go ?_
      refine End.kp [6, 8, 25, 26, 27] ?_
      refine Run.go ?_
      refine End.blk ?_
      refine End.kp [6, 25, 26, 27] ?_
      refine Run.go ?_
      refine End.lp ?_
      refine ⟨ps.length - (i + 1), _, by omega, Ghost.form [(6, .ms 0 0 ((ps.take i).flatten.length + r.length)), (25, .im (.sl (uss ps))), (26, .i ps.length), (27, .i (i + 1 : Nat))] 1 ⟨rfl, rfl, rfl, rfl, trivial⟩ rfl rfl, i + 1, rfl, by omega, ?_⟩
      rw [hft]
      simp
    · have hb2 := of_decide_eq_false hb
      have hiN : i = ps.length := by omega
      subst hiN
      rw [List.take_length] at hfl ⊢
      refine Run.exit rfl ?_
      refine End.kp [6] ?_
      refine Run.seq ?_
      refine Run.ghost (Ghost.shut (t := 6) (j := 0) rfl rfl hfl) ?_
      simp only [eput, edel]
      have fx := And.intro hfl (And.intro uss_len ft)
      refine Run.go ?_
      refine End.kp [2] ?_
      refine Run.ret (hQ _ _ ⟨.inr rfl, _, rfl, _, rfl, ?_⟩)
      exact ⟨rfl, rfl⟩
end Go.Proofs.YtkmnmokjlpenhaaPi

/- The walk of GraphLanes. -/
set_option linter.unusedVariables false
set_option linter.unusedSimpArgs false
set_option maxRecDepth 100000
namespace Go.Proofs.YtkmnmokjlpenhaaPi
set_option maxHeartbeats 4000000
theorem small_outs (l : List Int) (a : Int) (ands : Nat) : 1 ≤ (smallV l a ands).1.outs.length ∧ (smallV l a ands).1.outs.length ≤ 4 := by
  obtain ⟨r1, s1⟩ := nextV_range l (a + 1 + 1 + 1) (4 - 1 + 1) (by omega)
  have h2 := graphV_pos l (a + 1 + 1 + 1 + 1) (nextV l a 5).toNat (nextV l (a + 1) 4).toNat (nextV l (a + 1 + 1) (ands + 1)).toNat (1 + nextV l (a + 1 + 1 + 1) (4 - 1 + 1)).toNat
  simp only [smallV]
  omega
theorem Lanes_walk (l : List Int) (hs : StmOk l 0) (up : Frs) : ACalls Try.prog 8 [.im (.sl (ints l))] up fun v u => v = .im (.bool true) ∧ u = up := by
  have ok : ∀ b : Int, 0 ≤ b → b ≤ 100000 → StmOk l b := fun b h1 h2 => ⟨hs.vals, hs.len, h1, by omega⟩
  have hSm := Small_ok 20 (by omega) l 0 hs (by omega)
  obtain ⟨hg, hb1, hb2⟩ := small_ok l 0 20 (by omega)
  obtain ⟨hi4, hr3⟩ := small_len l 0 20
  obtain ⟨ho1, ho2⟩ := small_outs l 0 20
  generalize smallV l 0 20 = M at hSm hg hb1 hb2 hi4 hr3 ho1 ho2
  obtain ⟨g, b⟩ := M
  simp only at hSm hg hb1 hb2 hi4 hr3 ho1 ho2
  obtain ⟨z1, z2, z3, z4, z5⟩ := hg.small
  have hp1 := playedV_pos l g.inn.length b 64
  have hP1 := Played_ok 64 g.inn.length (by omega) (by omega) l b (ok _ (by omega) (by omega)) (by omega)
  have hr1 := playedV_row l g.inn.length b 64
  have hl1 := playedV_len l g.inn.length b 64
  generalize playedV l g.inn.length b 64 = PA at hp1 hP1 hr1 hl1
  obtain ⟨A, c⟩ := PA
  simp only at hp1 hP1 hr1 hl1
  have hp2 := playedV_pos l g.regs.length c 64
  have hP2 := Played_ok 64 g.regs.length (by omega) (by omega) l c (ok _ (by omega) (by omega)) (by omega)
  have hr2 := playedV_row l g.regs.length c 64
  have hl2 := playedV_len l g.regs.length c 64
  generalize playedV l g.regs.length c 64 = PB at hp2 hP2 hr2 hl2
  obtain ⟨B, e⟩ := PB
  simp only at hp2 hP2 hr2 hl2
  have hsA := spread_ok A g.inn.length (by omega) (by intro h; rw [h] at hl1; simp at hl1) (by omega) hr1
  have hsB := spread_ok B g.regs.length (by omega) (by intro h; rw [h] at hl2; simp at hl2) (by omega) hr2
  have hW := GWords_ok g hg (spreadV A g.inn.length) (spreadV B g.regs.length) (by simp [spreadV]) (by simp [spreadV])
  have hLaw := fun (k : Nat) (hk : k < 64) (a b : List Bool) (ha : A[k]? = some a) (hb : B[k]? = some b) => lanes_law g A B hl1 hl2 hk hr1 hr2 ha hb
  have hOl : (outsG g (graphVals g (spreadV A g.inn.length) (spreadV B g.regs.length))).length = g.outs.length := by simp [outsG]
  have hXl : (nextsG g (graphVals g (spreadV A g.inn.length) (spreadV B g.regs.length))).length = g.regs.length := by simp [nextsG]
  generalize outsG g (graphVals g (spreadV A g.inn.length) (spreadV B g.regs.length)) = O at hW hLaw hOl
  generalize nextsG g (graphVals g (spreadV A g.inn.length) (spreadV B g.regs.length)) = X at hW hLaw hXl
  obtain ⟨Y, hY⟩ : ∃ Y, Y = O ++ X := ⟨_, rfl⟩
  have hYl : Y.length = g.outs.length + g.regs.length := by rw [hY, List.length_append, hOl, hXl]
  have hCU := ConcatU_ok [O, X] (by simp [sumL]; omega) (by simp [sumL]; omega) (by simp)
  rw [show [O, X].flatten = Y by simp [hY]] at hCU
  rw [← hY] at hLaw
  have huY := us_len Y
  have d1 : ((g.outs.length : Int) != g.outs.length) = false := by simp
  have d2 : ((g.regs.length : Int) != g.regs.length) = false := by simp
  refine ACalls.code Try.func8 rfl 107 rfl (by simp) [.tmp 2] rfl fun Q hQ => ?_
  simp only [ups, PV.up, argEnv]
  have ft := And.intro ty_2 (And.intro ty_3 (And.intro ty_4 (And.intro ty_9 (And.intro ty_22 (And.intro ty_23 (And.intro ty_25 (And.intro ty_26 (And.intro ty_34 (And.intro ty_37 (And.intro ty_47 (And.intro ty_51 (And.intro ty_56 (And.intro ty_58 (And.intro ty_69 (And.intro ty_71 (And.intro ty_155 trivial))))))))))))))))
  refine Run.seq ?_
  have fx := And.intro d2 (And.intro d1 (And.intro huY (And.intro hXl (And.intro hOl (And.intro us_len (And.intro boolss_len (And.intro rim_len (And.intro strs_len ft))))))))
  refine Run.go ?_
  refine End.kp [0] ?_
  refine Run.seq ?_
  refine Run.go ?_
  refine End.kp [3] ?_
  refine Run.seq ?_
  refine Run.region rfl fun K hK => GOps.sim ?_
  refine GOps.call rfl rfl rfl rfl (by kernel_rfl) (ACalls.sim ?_)
  refine (hSm _ 0 0 rfl).mono fun v u hv => ?_
  obtain ⟨rfl, rfl⟩ := hv
  refine ⟨_, _, rfl, GOps.sim ?_⟩
  refine GOps.done (hK _ ?_); clear hK K
  refine End.kp [3, 4] ?_
  refine Run.seq ?_
  refine Run.drawA fun K hK => ?_
  refine DOps.sim ?_
  refine DOps.call (.im (.sl (boolss A))) [((0, 0), stm l b)] [((0, 0), stm l c)] rfl rfl rfl rfl (by kernel_rfl) (by simp [Agree, ASt.fr]) (fun u hu => hP1 u 0 0 (hu ((0, 0), stm l b) (by simp))) ?_
  refine DOps.sim ?_
  refine DOps.call (.im (.sl (boolss B))) [((0, 0), stm l c)] [((0, 0), stm l e)] rfl rfl rfl rfl (by kernel_rfl) (by simp [Agree, ASt.fr]) (fun u hu => hP2 u 0 0 (hu ((0, 0), stm l c) (by simp))) ?_
  refine DOps.sim ?_
  refine DOps.nil (by rfl) (hK _ ?_); clear hK K
  refine End.kp [4, 5, 6] ?_
  refine Run.seq ?_
  refine Run.drawA fun K hK => ?_
  refine DOps.sim ?_
  refine DOps.call (.im (.sl (us (spreadV A g.inn.length)))) [] [] rfl rfl rfl rfl (by kernel_rfl) (by simp [Agree]) (fun u hu => hsA u) ?_
  refine DOps.sim ?_
  refine DOps.call (.im (.sl (us (spreadV B g.regs.length)))) [] [] rfl rfl rfl rfl (by kernel_rfl) (by simp [Agree]) (fun u hu => hsB u) ?_
  refine DOps.sim ?_
  refine DOps.call (.tup [.im (.sl (us O)), .im (.sl (us X)), .i 0]) [] [] rfl rfl rfl rfl (by kernel_rfl) (by simp [Agree]) (fun u hu => hW u) ?_
  refine DOps.sim ?_
  refine DOps.nil (by rfl) (hK _ ?_); clear hK K
  refine End.kp [4, 5, 6, 7, 8, 9] ?_
  refine Run.seq ?_
  refine Run.seq ?_
  refine Run.region rfl fun K hK => GOps.sim ?_
  refine GOps.call rfl rfl rfl rfl (by kernel_rfl) (ACalls.sim ?_)
  refine (graphs_ok _).mono fun v u hv => ?_
  obtain ⟨rfl, rfl⟩ := hv
  refine ⟨_, _, rfl, GOps.sim ?_⟩
  refine GOps.done (hK _ ?_); clear hK K
  refine End.kp [4, 5, 6, 7, 8, 47] ?_
  refine Run.cond _ rfl (fun hb => ?_) (fun hb => ?_)
  · have hb2 := hb
    simp at hb
  · have hb2 := hb
    refine Run.skip ?_
    refine End.kp [4, 5, 6, 7, 8] ?_
    refine Run.seq ?_
    refine Run.seq ?_
    have fx := And.intro d2 (And.intro d1 (And.intro huY (And.intro hXl (And.intro hOl (And.intro us_len (And.intro boolss_len (And.intro rim_len (And.intro strs_len ft))))))))
    refine Run.go ?_
    refine End.kp [4, 5, 6, 7, 8, 48] ?_
    refine Run.block ?_
    refine Run.ghost (Ghost.form [(4, .ptr 0 1 0), (5, .im (.sl (boolss A))), (6, .im (.sl (boolss B))), (7, .im (.sl (us O))), (8, .im (.sl (us X))), (48, .i (0 : Nat))] 2 ⟨rfl, rfl, rfl, rfl, rfl, rfl, trivial⟩ rfl rfl) ?_
    refine Run.loop (fun m s => ∃ k : Nat, m = 64 - k ∧ k ≤ 64 ∧ s = ⟨[(4, .ptr 0 1 0), (5, .im (.sl (boolss A))), (6, .im (.sl (boolss B))), (7, .im (.sl (us O))), (8, .im (.sl (us X))), (48, .i (k : Nat))], [stm l e, .box [.im (.sl (strs g.inn)), .im (.sl (strs g.out)), .im (.sl (g.regs.map LReg.im)), .im (.sl (g.ands.map nd)), .im (.sl (ints g.outs))]], up⟩) 64 ⟨0, rfl, by omega, rfl⟩ fun m s hI => ?_
    obtain ⟨k, rfl, hk, rfl⟩ := hI
    refine Run.seq ?_
    have fx := And.intro d2 (And.intro d1 (And.intro huY (And.intro hXl (And.intro hOl (And.intro us_len (And.intro boolss_len (And.intro rim_len (And.intro strs_len ft))))))))
    refine Run.go ?_
    refine End.kp [4, 5, 6, 7, 8, 48, 49] ?_
    refine Run.seq ?_
    refine Run.cond _ rfl (fun hb => ?_) (fun hb => ?_)
    · have hb2 := of_decide_eq_true hb
      have hkn : k < 64 := by omega
      have wk := wsucc hkn (by omega)
      obtain ⟨ra, hra, hram, _, hrra⟩ := boolss_at A k (by omega)
      obtain ⟨rb, hrb, hrbm, _, hrrb⟩ := boolss_at B k (by omega)
      have hka : (k : Int) < (A.length : Int) := by omega
      have hkb : (k : Int) < (B.length : Int) := by omega
      have hE := GEval_ok g hg ra rb (hr1 ra hram) (hr2 rb hrbm)
      have hL := hLaw k hkn ra rb hra hrb
      have hpl : (laneB (outsG g (graphVals g (lanes0 ra) (lanes0 rb)))).length = g.outs.length := by simp [outsG]
      have hml : (laneB (nextsG g (graphVals g (lanes0 ra) (lanes0 rb)))).length = g.regs.length := by simp [nextsG]
      generalize laneB (outsG g (graphVals g (lanes0 ra) (lanes0 rb))) = p at hE hL hpl
      generalize laneB (nextsG g (graphVals g (lanes0 ra) (lanes0 rb))) = q at hE hL hml
      have hbp := bools_len p
      have hbq := bools_len q
      have hCB := ConcatB_ok [p, q] (by simp [sumL]; omega) (by simp [sumL]; omega) (by simp)
      rw [show [p, q].flatten = Y.map (bitW k) by simp [hL]] at hCB
      have hbl : (bools (Y.map (bitW k))).length = Y.length := by simp
      refine Run.skip ?_
      refine End.kp [4, 5, 6, 7, 8, 48] ?_
      refine Run.seq ?_
      refine Run.block ?_
      refine Run.seq ?_
      have fx := And.intro (@Int.toNat_natCast) (And.intro (@Int.natCast_nonneg) (And.intro hbl (And.intro hml (And.intro hpl (And.intro hbq (And.intro hbp (And.intro hkb (And.intro hka (And.intro hrrb (And.intro hrra (And.intro wk (And.intro d2 (And.intro d1 (And.intro huY (And.intro hXl (And.intro hOl (And.intro us_len (And.intro boolss_len (And.intro rim_len (And.intro strs_len ft))))))))))))))))))))
      refine Run.go ?_
      refine End.kp [4, 5, 6, 7, 8, 10, 48] ?_
      refine Run.seq ?_
      refine Run.drawA fun K hK => ?_
      refine DOps.sim ?_
      refine DOps.call (.tup [.im (.sl (bools p)), .im (.sl (bools q)), .i 0]) [] [] rfl rfl rfl rfl (by kernel_rfl) (by simp [Agree]) (fun u hu => hE u) ?_
      refine DOps.sim ?_
      refine DOps.nil (by rfl) (hK _ ?_); clear hK K
      refine End.kp [4, 5, 6, 7, 8, 10, 11, 12, 13, 48] ?_
      refine Run.seq ?_
      refine Run.seq ?_
      refine Run.go ?_
      refine End.kp [4, 5, 6, 7, 8, 10, 11, 12, 48, 80] ?_
      refine Run.cond _ rfl (fun hb => ?_) (fun hb => ?_)
      · have hb3 := hb
        simp at hb
      · have hb3 := hb
        refine Run.skip ?_
        refine End.kp [4, 5, 6, 7, 8, 10, 11, 12, 48] ?_
        refine Run.seq ?_
        have fx := And.intro (@Int.toNat_natCast) (And.intro (@Int.natCast_nonneg) (And.intro hbl (And.intro hml (And.intro hpl (And.intro hbq (And.intro hbp (And.intro hkb (And.intro hka (And.intro hrrb (And.intro hrra (And.intro wk (And.intro d2 (And.intro d1 (And.intro huY (And.intro hXl (And.intro hOl (And.intro us_len (And.intro boolss_len (And.intro rim_len (And.intro strs_len ft))))))))))))))))))))
        refine Run.region rfl fun K hK => GOps.sim ?_
        refine GOps.call rfl rfl rfl rfl (by kernel_rfl) (ACalls.sim ?_)
        refine (hCB _).mono fun v u hv => ?_
        obtain ⟨rfl, rfl⟩ := hv
        refine ⟨_, _, rfl, GOps.sim ?_⟩
        refine GOps.done (hK _ ?_); clear hK K
        refine End.kp [4, 5, 6, 7, 8, 10, 48, 84, 85, 86] ?_
        refine Run.block ?_
        refine Run.ghost (Ghost.form [(4, .ptr 0 1 0), (5, .im (.sl (boolss A))), (6, .im (.sl (boolss B))), (7, .im (.sl (us O))), (8, .im (.sl (us X))), (10, .i (k : Nat)), (48, .i (k : Nat)), (84, .im (.sl (bools (Y.map (bitW k))))), (85, .i Y.length), (86, .i (0 : Nat))] 2 ⟨rfl, rfl, rfl, rfl, rfl, rfl, rfl, rfl, rfl, rfl, trivial⟩ rfl rfl) ?_
        refine Run.loop (fun m s => ∃ i : Nat, m = Y.length - i ∧ i ≤ Y.length ∧ s = ⟨[(4, .ptr 0 1 0), (5, .im (.sl (boolss A))), (6, .im (.sl (boolss B))), (7, .im (.sl (us O))), (8, .im (.sl (us X))), (10, .i (k : Nat)), (48, .i (k : Nat)), (84, .im (.sl (bools (Y.map (bitW k))))), (85, .i Y.length), (86, .i (i : Nat))], [stm l e, .box [.im (.sl (strs g.inn)), .im (.sl (strs g.out)), .im (.sl (g.regs.map LReg.im)), .im (.sl (g.ands.map nd)), .im (.sl (ints g.outs))]], up⟩) Y.length ⟨0, rfl, by omega, rfl⟩ fun m s hI => ?_
        obtain ⟨i, rfl, hi, rfl⟩ := hI
        refine Run.seq ?_
        have fx := And.intro (@Int.toNat_natCast) (And.intro (@Int.natCast_nonneg) (And.intro hbl (And.intro hml (And.intro hpl (And.intro hbq (And.intro hbp (And.intro hkb (And.intro hka (And.intro hrrb (And.intro hrra (And.intro wk (And.intro d2 (And.intro d1 (And.intro huY (And.intro hXl (And.intro hOl (And.intro us_len (And.intro boolss_len (And.intro rim_len (And.intro strs_len ft))))))))))))))))))))
        refine Run.go ?_
        refine End.kp [4, 5, 6, 7, 8, 10, 48, 84, 85, 86, 87] ?_
        refine Run.seq ?_
        refine Run.cond _ rfl (fun hb => ?_) (fun hb => ?_)
        · have hb4 := of_decide_eq_true hb
          have hin : i < Y.length := by omega
          have wi := wsucc hin (by omega)
          obtain ⟨y, hy⟩ : ∃ y, Y[i]? = some y := ⟨_, List.getElem?_eq_getElem hin⟩
          have hyu : (us Y)[i]? = some [.int .u64 y] := by simp [hy]
          have hyb : (bools (Y.map (bitW k)))[i]? = some [.bool (bitW k y)] := by simp [hy]
          have hiY : (i : Int) < (Y.length : Int) := by omega
          have hk0 : ¬ ((k : Int) < 0) := by omega
          refine Run.skip ?_
          refine End.kp [4, 5, 6, 7, 8, 10, 48, 84, 85, 86] ?_
          refine Run.seq ?_
          refine Run.block ?_
          refine Run.seq ?_
          have fx := And.intro hk0 (And.intro hiY (And.intro hyb (And.intro hyu (And.intro wi (And.intro (@Int.toNat_natCast) (And.intro (@Int.natCast_nonneg) (And.intro hbl (And.intro hml (And.intro hpl (And.intro hbq (And.intro hbp (And.intro hkb (And.intro hka (And.intro hrrb (And.intro hrra (And.intro wk (And.intro d2 (And.intro d1 (And.intro huY (And.intro hXl (And.intro hOl (And.intro us_len (And.intro boolss_len (And.intro rim_len (And.intro strs_len ft)))))))))))))))))))))))))
          refine Run.go ?_
          refine End.kp [4, 5, 6, 7, 8, 10, 14, 15, 48, 84, 85, 86] ?_
          refine Run.seq ?_
          refine Run.region rfl fun K hK => GOps.sim ?_
          refine GOps.call rfl rfl rfl rfl (by kernel_rfl) (ACalls.sim ?_)
          refine (hCU _).mono fun v u hv => ?_
          obtain ⟨rfl, rfl⟩ := hv
          refine ⟨_, _, rfl, GOps.sim ?_⟩
          refine GOps.done (hK _ ?_); clear hK K
          refine End.kp [4, 5, 6, 7, 8, 10, 15, 16, 48, 84, 85, 86] ?_
          refine Run.seq ?_
          refine Run.go ?_
          refine End.kp [4, 5, 6, 7, 8, 10, 48, 84, 85, 86, 104] ?_
          refine Run.cond _ rfl (fun hb => ?_) (fun hb => ?_)
          · have hb5 := hb
            simp [bitW] at hb
          · have hb5 := hb
            refine Run.skip ?_
            refine End.blk ?_
            refine End.kp [4, 5, 6, 7, 8, 10, 48, 84, 85, 86] ?_
            have fx := And.intro hk0 (And.intro hiY (And.intro hyb (And.intro hyu (And.intro wi (And.intro (@Int.toNat_natCast) (And.intro (@Int.natCast_nonneg) (And.intro hbl (And.intro hml (And.intro hpl (And.intro hbq (And.intro hbp (And.intro hkb (And.intro hka (And.intro hrrb (And.intro hrra (And.intro wk (And.intro d2 (And.intro d1 (And.intro huY (And.intro hXl (And.intro hOl (And.intro us_len (And.intro boolss_len (And.intro rim_len (And.intro strs_len ft)))))))))))))))))))))))))
            refine Run.go ?_
            refine End.lp ?_
            refine ⟨Y.length - (i + 1), _, by omega, Ghost.form [(4, .ptr 0 1 0), (5, .im (.sl (boolss A))), (6, .im (.sl (boolss B))), (7, .im (.sl (us O))), (8, .im (.sl (us X))), (10, .i (k : Nat)), (48, .i (k : Nat)), (84, .im (.sl (bools (Y.map (bitW k))))), (85, .i Y.length), (86, .i (i + 1 : Nat))] 2 ⟨rfl, rfl, rfl, rfl, rfl, rfl, rfl, rfl, rfl, rfl, trivial⟩ rfl rfl, i + 1, rfl, by omega, rfl⟩
        · have hb4 := of_decide_eq_false hb
          refine Run.exit rfl ?_
          refine End.blk ?_
          refine End.kp [4, 5, 6, 7, 8, 48] ?_
          have fx := And.intro (@Int.toNat_natCast) (And.intro (@Int.natCast_nonneg) (And.intro hbl (And.intro hml (And.intro hpl (And.intro hbq (And.intro hbp (And.intro hkb (And.intro hka (And.intro hrrb (And.intro hrra (And.intro wk (And.intro d2 (And.intro d1 (And.intro huY (And.intro hXl (And.intro hOl (And.intro us_len (And.intro boolss_len (And.intro rim_len (And.intro strs_len ft))))))))))))))))))))
          refine Run.go ?_
          refine End.lp ?_
          refine ⟨64 - (k + 1), _, by omega, Ghost.form [(4, .ptr 0 1 0), (5, .im (.sl (boolss A))), (6, .im (.sl (boolss B))), (7, .im (.sl (us O))), (8, .im (.sl (us X))), (48, .i (k + 1 : Nat))] 2 ⟨rfl, rfl, rfl, rfl, rfl, rfl, trivial⟩ rfl rfl, k + 1, rfl, by omega, rfl⟩
    · have hb2 := of_decide_eq_false hb
      refine Run.exit rfl ?_
      refine End.kp [] ?_
      refine Run.seq ?_
      have fx := And.intro d2 (And.intro d1 (And.intro huY (And.intro hXl (And.intro hOl (And.intro us_len (And.intro boolss_len (And.intro rim_len (And.intro strs_len ft))))))))
      refine Run.go ?_
      refine End.kp [2] ?_
      refine Run.ret (hQ _ _ ⟨.inr rfl, _, rfl, _, rfl, ?_⟩)
      exact ⟨rfl, rfl⟩
end Go.Proofs.YtkmnmokjlpenhaaPi

/- The walks of runs, GraphTidies. -/
set_option linter.unusedVariables false
set_option linter.unusedSimpArgs false
set_option maxRecDepth 100000
namespace Go.Proofs.YtkmnmokjlpenhaaPi
set_option maxHeartbeats 4000000
theorem runG_row (g : LGraph) : ∀ (t : List (List Bool)) (st : List Int), ∀ r ∈ runG g st t, r.length = g.outs.length
  | [], st, r, h => by simp [runG] at h
  | x :: t, st, r, h => by
    simp only [runG, List.mem_cons] at h
    rcases h with rfl | h
    · simp [outsG]
    · exact runG_row g t _ r h
abbrev runI (g : LGraph) (tr : List (List Bool)) : List (List Bool) := runG g (lanes0 (initG g)) tr
def cleanL (g : LGraph) : LGraph := movedG g (cleanG g).1 (cleanG g).2.1
def strashL (g : LGraph) : LGraph := movedG g (strashG g).1.ands (strashG g).2
structure TidyLaw : Prop where
  clean : ∀ g, GraphOk g → GraphOk (cleanL g)
  strash : ∀ g, GraphOk g → GraphOk (strashL g)
  cleanRun : ∀ g, GraphOk g → ∀ tr : List (List Bool), (∀ r ∈ tr, r.length = g.inn.length) → runI (cleanL g) tr = runI g tr
  strashRun : ∀ g, GraphOk g → ∀ tr : List (List Bool), (∀ r ∈ tr, r.length = g.inn.length) → runI (strashL g) tr = runI g tr
  less : ∀ g, GraphOk g → (cleanL (strashL (cleanL g))).ands.length ≤ (cleanL g).ands.length
  again : ∀ g, GraphOk g → (strashL (cleanL (strashL g))).ands.length = (cleanL (strashL g)).ands.length
theorem EqF_same (p : List (List Bool)) (hn : p.length ≤ 1000000) (hr : ∀ r ∈ p, r.length ≤ 1000000) (up : Frs) : ACalls Try.prog 59 [.im (.sl (boolss p)), .im (.sl (boolss p)), .fn 55 []] up fun v u => v = .im (.bool true) ∧ u = up := by
  have d1 : ((p.length : Int) != p.length) = false := by simp
  refine ACalls.code Try.func59 rfl 32 rfl (by simp) [.tmp 6] rfl fun Q hQ => ?_
  simp only [ups, PV.up, argEnv]
  have ft := And.intro ty_3 (And.intro ty_4 (And.intro ty_58 (And.intro ty_71 trivial)))
  refine Run.seq ?_
  have fx := And.intro d1 (And.intro boolss_len ft)
  refine Run.go ?_
  refine End.kp [0, 1, 2] ?_
  refine Run.seq ?_
  refine Run.seq ?_
  refine Run.go ?_
  refine End.kp [0, 1, 2, 14] ?_
  refine Run.cond _ rfl (fun hb => ?_) (fun hb => ?_)
  · have hb2 := hb
    simp at hb
  · have hb2 := hb
    refine Run.skip ?_
    refine End.kp [0, 1, 2] ?_
    refine Run.seq ?_
    refine Run.seq ?_
    have fx := And.intro d1 (And.intro boolss_len ft)
    refine Run.go ?_
    refine End.kp [1, 2, 15, 16, 17] ?_
    refine Run.block ?_
    refine Run.ghost (Ghost.form [(1, .im (.sl (boolss p))), (2, .fn 55 []), (15, .im (.sl (boolss p))), (16, .i p.length), (17, .i (0 : Nat))] 0 ⟨rfl, rfl, rfl, rfl, rfl, trivial⟩ rfl rfl) ?_
    refine Run.loop (fun m' st => ∃ i : Nat, m' = p.length - i ∧ i ≤ p.length ∧ st = ⟨[(1, .im (.sl (boolss p))), (2, .fn 55 []), (15, .im (.sl (boolss p))), (16, .i p.length), (17, .i (i : Nat))], [], up⟩) p.length ⟨0, rfl, by omega, rfl⟩ fun m' st hI => ?_
    obtain ⟨i, rfl, hi, rfl⟩ := hI
    refine Run.seq ?_
    have fx := And.intro d1 (And.intro boolss_len ft)
    refine Run.go ?_
    refine End.kp [1, 2, 15, 16, 17, 18] ?_
    refine Run.seq ?_
    refine Run.cond _ rfl (fun hb => ?_) (fun hb => ?_)
    · have hb2 := of_decide_eq_true hb
      have hin : i < p.length := by omega
      have wi := wsucc hin (by omega)
      obtain ⟨r, hri, hrm, _, hrr⟩ := boolss_at p i hin
      have hrl := hr r hrm
      have hil : (i : Int) < (p.length : Int) := by omega
      refine Run.skip ?_
      refine End.kp [1, 2, 15, 16, 17] ?_
      refine Run.seq ?_
      refine Run.block ?_
      refine Run.seq ?_
      have fx := And.intro (@Int.toNat_natCast) (And.intro (@Int.natCast_nonneg) (And.intro hil (And.intro hrr (And.intro wi (And.intro d1 (And.intro boolss_len ft))))))
      refine Run.go ?_
      refine End.kp [1, 2, 7, 8, 15, 16, 17] ?_
      refine Run.seq ?_
      refine Run.go ?_
      refine End.kp [1, 2, 8, 9, 15, 16, 17] ?_
      refine Run.seq ?_
      refine Run.region rfl fun K hK => GOps.sim ?_
      refine GOps.call rfl rfl rfl rfl (by kernel_rfl) (ACalls.sim ?_)
      refine (EqB_same r r rfl (by omega) _).mono fun v u hv => ?_
      obtain ⟨rfl, rfl⟩ := hv
      refine ⟨_, _, rfl, GOps.sim ?_⟩
      refine GOps.done (hK _ ?_); clear hK K
      refine End.kp [1, 2, 15, 16, 17, 30] ?_
      refine Run.cond _ rfl (fun hb => ?_) (fun hb => ?_)
      · have hb2 := hb
        simp at hb
      · have hb2 := hb
        refine Run.skip ?_
        refine End.blk ?_
        refine End.kp [1, 2, 15, 16, 17] ?_
        have fx := And.intro (@Int.toNat_natCast) (And.intro (@Int.natCast_nonneg) (And.intro hil (And.intro hrr (And.intro wi (And.intro d1 (And.intro boolss_len ft))))))
        refine Run.go ?_
        refine End.lp ?_
        refine ⟨p.length - (i + 1), _, by omega, Ghost.form [(1, .im (.sl (boolss p))), (2, .fn 55 []), (15, .im (.sl (boolss p))), (16, .i p.length), (17, .i (i + 1 : Nat))] 0 ⟨rfl, rfl, rfl, rfl, rfl, trivial⟩ rfl rfl, i + 1, rfl, by omega, rfl⟩
    · have hb2 := of_decide_eq_false hb
      refine Run.exit rfl ?_
      refine End.kp [] ?_
      refine Run.seq ?_
      have fx := And.intro d1 (And.intro boolss_len ft)
      refine Run.go ?_
      refine End.kp [6] ?_
      refine Run.ret (hQ _ _ ⟨.inr rfl, _, rfl, _, rfl, ?_⟩)
      exact ⟨rfl, rfl⟩
theorem runs_ok (a b : LGraph) (ha : GraphOk a) (hb : GraphOk b) (tr : List (List Bool)) (hn : tr.length ≤ 64) (hta : ∀ r ∈ tr, r.length = a.inn.length) (htb : ∀ r ∈ tr, r.length = b.inn.length) (hs : runI b tr = runI a tr) (up : Frs) : ACalls Try.prog 67 [a.pv, b.pv, .im (.sl (boolss tr))] up fun v u => v = .im (.bool true) ∧ u = up := by
  have h1 := GRun_ok a ha tr hn hta
  have h2 := GRun_ok b hb tr hn htb
  rw [show runG b (lanes0 (initG b)) tr = runI a tr from hs] at h2
  have hl := runG_len a tr (lanes0 (initG a))
  have hr := runG_row a tr (lanes0 (initG a))
  have ho := ha.small.outs
  unfold runI at h2
  generalize runG a (lanes0 (initG a)) tr = O at h1 h2 hl hr
  refine ACalls.code Try.func67 rfl 41 rfl (by simp) [.tmp 6] rfl fun Q hQ => ?_
  simp only [ups, PV.up, argEnv]
  have ft := And.intro ty_3 (And.intro ty_4 (And.intro ty_34 (And.intro ty_51 (And.intro ty_58 (And.intro ty_71 trivial)))))
  refine Run.seq ?_
  have fx := And.intro hl (And.intro boolss_len ft)
  refine Run.go ?_
  refine End.kp [2, 3, 4] ?_
  refine Run.seq ?_
  refine Run.region rfl fun K hK => GOps.sim ?_
  refine GOps.call rfl rfl rfl rfl (by kernel_rfl) (ACalls.sim ?_)
  refine (h1 _).mono fun v u hv => ?_
  obtain ⟨rfl, rfl⟩ := hv
  refine ⟨_, _, rfl, GOps.sim ?_⟩
  refine GOps.done (hK _ ?_); clear hK K
  refine End.kp [2, 4, 7, 8] ?_
  refine Run.seq ?_
  refine Run.region rfl fun K hK => GOps.sim ?_
  refine GOps.call rfl rfl rfl rfl (by kernel_rfl) (ACalls.sim ?_)
  refine (h2 _).mono fun v u hv => ?_
  obtain ⟨rfl, rfl⟩ := hv
  refine ⟨_, _, rfl, GOps.sim ?_⟩
  refine GOps.done (hK _ ?_); clear hK K
  refine End.kp [2, 7, 8, 9, 10] ?_
  refine Run.seq ?_
  refine Run.region rfl fun K hK => GOps.sim ?_
  refine GOps.call rfl rfl rfl rfl (by kernel_rfl) (ACalls.sim ?_)
  refine (EqF_same O (by omega) (fun r h => by rw [hr r h]; omega) _).mono fun v u hv => ?_
  obtain ⟨rfl, rfl⟩ := hv
  refine ⟨_, _, rfl, GOps.sim ?_⟩
  refine GOps.done (hK _ ?_); clear hK K
  refine End.kp [6] ?_
  refine Run.ret (hQ _ _ ⟨.inr rfl, _, rfl, _, rfl, ?_⟩)
  exact ⟨rfl, rfl⟩
theorem Tidies_walk (l : List Int) (hs : StmOk l 0) (hlaw : TidyLaw) (up : Frs) : ACalls Try.prog 12 [.im (.sl (ints l))] up fun v u => v = .im (.bool true) ∧ u = up := by
  have ok : ∀ b : Int, 0 ≤ b → b ≤ 100000 → StmOk l b := fun b h1 h2 => ⟨hs.vals, hs.len, h1, by omega⟩
  have hSm := Small_ok 30 (by omega) l 0 hs (by omega)
  obtain ⟨hg, hb1, hb2⟩ := small_ok l 0 30 (by omega)
  obtain ⟨hi4, hr3⟩ := small_len l 0 30
  generalize smallV l 0 30 = M at hSm hg hb1 hb2 hi4 hr3
  obtain ⟨g, b⟩ := M
  simp only at hSm hg hb1 hb2 hi4 hr3
  obtain ⟨z1, z2, z3, z4, z5⟩ := hg.small
  have hP := Played_ok 12 g.inn.length (by omega) (by omega) l b (ok _ (by omega) (by omega)) (by omega)
  have hr := playedV_row l g.inn.length b 12
  have hl := playedV_len l g.inn.length b 12
  generalize playedV l g.inn.length b 12 = PA at hP hr hl
  obtain ⟨tr, c⟩ := PA
  simp only at hP hr hl
  have k1 := Clean_ok g hg
  have ga := hlaw.clean g hg
  have r1 := hlaw.cleanRun g hg tr hr
  have ia : (cleanL g).inn = g.inn := rfl
  have k2 := Strash_ok (cleanL g) ga
  have gb := hlaw.strash _ ga
  have r2 := hlaw.strashRun _ ga tr hr
  have ib : (strashL (cleanL g)).inn = g.inn := rfl
  have k3 := Clean_ok _ gb
  have gc := hlaw.clean _ gb
  have r3 := hlaw.cleanRun _ gb tr hr
  have ic : (cleanL (strashL (cleanL g))).inn = g.inn := rfl
  have k4 := Strash_ok _ gc
  have n1 := hlaw.less g hg
  have n2 := hlaw.again _ ga
  rw [r2, r1] at r3
  rw [r1] at r2
  have e1 : movedG g (cleanG g).1 (cleanG g).2.1 = cleanL g := rfl
  rw [e1] at k1
  generalize cleanL g = A at k1 ga r1 ia k2 gb r2 ib k3 gc r3 ic k4 n1 n2
  have e2 : movedG A (strashG A).1.ands (strashG A).2 = strashL A := rfl
  rw [e2] at k2
  generalize strashL A = B at k2 gb r2 ib k3 gc r3 ic k4 n1 n2
  have e3 : movedG B (cleanG B).1 (cleanG B).2.1 = cleanL B := rfl
  rw [e3] at k3
  generalize cleanL B = C at k3 gc r3 ic k4 n1 n2
  have e4 : movedG C (strashG C).1.ands (strashG C).2 = strashL C := rfl
  rw [e4] at k4
  generalize strashL C = D at k4 n2
  have d1 : ((D.ands.length : Int) == C.ands.length) = true := by rw [n2]; simp
  have d2 : decide ((C.ands.length : Int) ≤ A.ands.length) = true := decide_eq_true (by omega)
  refine ACalls.code Try.func12 rfl 104 rfl (by simp) [.tmp 2] rfl fun Q hQ => ?_
  simp only [ups, PV.up, argEnv]
  have ft := And.intro ty_2 (And.intro ty_3 (And.intro ty_4 (And.intro ty_9 (And.intro ty_22 (And.intro ty_23 (And.intro ty_25 (And.intro ty_26 (And.intro ty_34 (And.intro ty_48 (And.intro ty_49 (And.intro ty_51 (And.intro ty_58 (And.intro ty_62 (And.intro ty_71 (And.intro ty_137 trivial)))))))))))))))
  refine Run.seq ?_
  have fx := And.intro d2 (And.intro d1 (And.intro nd_len (And.intro strs_len ft)))
  refine Run.go ?_
  refine End.kp [0] ?_
  refine Run.seq ?_
  refine Run.go ?_
  refine End.kp [3] ?_
  refine Run.seq ?_
  refine Run.region rfl fun K hK => GOps.sim ?_
  refine GOps.call rfl rfl rfl rfl (by kernel_rfl) (ACalls.sim ?_)
  refine (hSm _ 0 0 rfl).mono fun v u hv => ?_
  obtain ⟨rfl, rfl⟩ := hv
  refine ⟨_, _, rfl, GOps.sim ?_⟩
  refine GOps.done (hK _ ?_); clear hK K
  refine End.kp [3, 4] ?_
  refine Run.seq ?_
  refine Run.region rfl fun K hK => GOps.sim ?_
  refine GOps.call rfl rfl rfl rfl (by kernel_rfl) (ACalls.sim ?_)
  refine (hP _ 0 0 rfl).mono fun v u hv => ?_
  obtain ⟨rfl, rfl⟩ := hv
  refine ⟨_, _, rfl, GOps.sim ?_⟩
  refine GOps.done (hK _ ?_); clear hK K
  refine End.kp [4, 5] ?_
  refine Run.seq ?_
  refine Run.region rfl fun K hK => GOps.sim ?_
  refine GOps.call rfl rfl rfl rfl (by kernel_rfl) (ACalls.sim ?_)
  refine (k1 _).mono fun v u hv => ?_
  obtain ⟨rfl, rfl⟩ := hv
  refine ⟨_, _, rfl, GOps.sim ?_⟩
  refine GOps.done (hK _ ?_); clear hK K
  refine End.kp [4, 5, 6, 8] ?_
  refine Run.seq ?_
  refine Run.region rfl fun K hK => GOps.sim ?_
  refine GOps.call rfl rfl rfl rfl (by kernel_rfl) (ACalls.sim ?_)
  refine (k2 _).mono fun v u hv => ?_
  obtain ⟨rfl, rfl⟩ := hv
  refine ⟨_, _, rfl, GOps.sim ?_⟩
  refine GOps.done (hK _ ?_); clear hK K
  refine End.kp [4, 5, 6, 8, 9, 11] ?_
  refine Run.seq ?_
  refine Run.region rfl fun K hK => GOps.sim ?_
  refine GOps.call rfl rfl rfl rfl (by kernel_rfl) (ACalls.sim ?_)
  refine (k3 _).mono fun v u hv => ?_
  obtain ⟨rfl, rfl⟩ := hv
  refine ⟨_, _, rfl, GOps.sim ?_⟩
  refine GOps.done (hK _ ?_); clear hK K
  refine End.kp [4, 5, 6, 8, 9, 11, 12, 14] ?_
  refine Run.seq ?_
  refine Run.region rfl fun K hK => GOps.sim ?_
  refine GOps.call rfl rfl rfl rfl (by kernel_rfl) (ACalls.sim ?_)
  refine (k4 _).mono fun v u hv => ?_
  obtain ⟨rfl, rfl⟩ := hv
  refine ⟨_, _, rfl, GOps.sim ?_⟩
  refine GOps.done (hK _ ?_); clear hK K
  refine End.kp [4, 5, 6, 8, 9, 11, 12, 14, 15, 17] ?_
  refine Run.seq ?_
  refine Run.seq ?_
  refine Run.region rfl fun K hK => GOps.sim ?_
  refine GOps.call rfl rfl rfl rfl (by kernel_rfl) (ACalls.sim ?_)
  refine (graphs_ok _).mono fun v u hv => ?_
  obtain ⟨rfl, rfl⟩ := hv
  refine ⟨_, _, rfl, GOps.sim ?_⟩
  refine GOps.done (hK _ ?_); clear hK K
  refine End.kp [4, 5, 6, 9, 12, 15, 69] ?_
  refine Run.cond _ rfl (fun hb => ?_) (fun hb => ?_)
  · have hb2 := hb
    simp at hb
  · have hb2 := hb
    refine Run.skip ?_
    refine End.kp [4, 5, 6, 9, 12, 15] ?_
    refine Run.seq ?_
    have fx := And.intro d2 (And.intro d1 (And.intro nd_len (And.intro strs_len ft)))
    refine Run.region rfl fun K hK => GOps.sim ?_
    refine GOps.call rfl rfl rfl rfl (by kernel_rfl) (ACalls.sim ?_)
    refine (runs_ok g A hg ga tr (by omega) hr (by rw [ia]; exact hr) r1 _).mono fun v u hv => ?_
    obtain ⟨rfl, rfl⟩ := hv
    refine ⟨_, _, rfl, GOps.sim ?_⟩
    refine GOps.call rfl rfl rfl rfl (by kernel_rfl) (ACalls.sim ?_)
    refine (runs_ok g B hg gb tr (by omega) hr (by rw [ib]; exact hr) r2 _).mono fun v u hv => ?_
    obtain ⟨rfl, rfl⟩ := hv
    refine ⟨_, _, rfl, GOps.sim ?_⟩
    refine GOps.call rfl rfl rfl rfl (by kernel_rfl) (ACalls.sim ?_)
    refine (runs_ok g C hg gc tr (by omega) hr (by rw [ic]; exact hr) r3 _).mono fun v u hv => ?_
    obtain ⟨rfl, rfl⟩ := hv
    refine ⟨_, _, rfl, GOps.sim ?_⟩
    refine GOps.done (hK _ ?_); clear hK K
    refine End.kp [2] ?_
    refine Run.ret (hQ _ _ ⟨.inr rfl, _, rfl, _, rfl, ?_⟩)
    exact ⟨rfl, rfl⟩
end Go.Proofs.YtkmnmokjlpenhaaPi

/- The walk of slices.Concat of rows of bools that lie in a row of the caller's. -/
set_option linter.unusedVariables false
set_option linter.unusedSimpArgs false
set_option maxRecDepth 100000
namespace Go.Proofs.YtkmnmokjlpenhaaPi
set_option maxHeartbeats 4000000
theorem ConcatB_ms (ps : List (List Bool)) (h0 : 0 < sumL ps) (h1 : sumL ps ≤ 100000) (h2 : ps.length ≤ 1000) (up : Frs) (d j fz : Nat) (hl : fget up d j = some (.row 71 1 (boolss ps) fz)) : ACalls Try.prog 51 [.ms d j ps.length] up fun v u => v = .im (.sl (bools ps.flatten)) ∧ u = up := by
  refine ACalls.code Try.func51 rfl 36 rfl (by simp) [.tmp 2] rfl fun Q hQ => ?_
  simp only [ups, PV.up, argEnv]
  have ft := And.intro ty_3 (And.intro ty_4 (And.intro ty_9 (And.intro ty_58 (And.intro ty_71 trivial))))
  refine Run.seq ?_
  have fx := And.intro hl (And.intro boolss_len ft)
  refine Run.go ?_
  refine End.kp [0] ?_
  refine Run.seq ?_
  refine Run.go ?_
  refine End.kp [0, 3] ?_
  refine Run.seq ?_
  refine Run.seq ?_
  refine Run.go ?_
  refine End.kp [0, 3, 9, 10, 11] ?_
  refine Run.block ?_
  refine Run.ghost (Ghost.form [(0, .ms (d + 1) j ps.length), (3, .i 0), (9, .ms (d + 1) j ps.length), (10, .i ps.length), (11, .i (0 : Nat))] 0 ⟨rfl, rfl, rfl, rfl, rfl, trivial⟩ rfl rfl) ?_
  refine Run.loop (fun m' st => ∃ i : Nat, m' = ps.length - i ∧ i ≤ ps.length ∧ st = ⟨[(0, .ms (d + 1) j ps.length), (3, .i (sumL (ps.take i) : Nat)), (9, .ms (d + 1) j ps.length), (10, .i ps.length), (11, .i (i : Nat))], [], up⟩) ps.length ⟨0, rfl, by omega, by simp [sumL]⟩ fun m' st hI => ?_
  obtain ⟨i, rfl, hi, rfl⟩ := hI
  refine Run.seq ?_
  have fx := And.intro hl (And.intro boolss_len ft)
  refine Run.go ?_
  refine End.kp [0, 3, 9, 10, 11, 12] ?_
  refine Run.seq ?_
  refine Run.cond _ rfl (fun hb => ?_) (fun hb => ?_)
  · have hb2 := of_decide_eq_true hb
    have hin : i < ps.length := by omega
    have wi := wsucc hin (by omega)
    obtain ⟨r, hri, hrm, _, hrr⟩ := boolss_at ps i hin
    have hil : (i : Int) < (ps.length : Int) := by omega
    have ht := sumL_take ps i r hri
    have hle := sumL_le ps (i + 1)
    have wa : IntKind.i64.wrap ((sumL (ps.take i) : Int) + r.length) = (sumL (ps.take (i + 1)) : Int) := by rw [wrap64 (by omega)]; omega
    have hn0 : decide ((sumL (ps.take (i + 1)) : Int) < 0) = false := decide_eq_false (by omega)
    refine Run.skip ?_
    refine End.kp [0, 3, 9, 10, 11] ?_
    refine Run.seq ?_
    refine Run.block ?_
    refine Run.seq ?_
    have fx := And.intro (@Int.toNat_natCast) (And.intro (@Int.natCast_nonneg) (And.intro hn0 (And.intro wa (And.intro bools_len (And.intro hil (And.intro hrr (And.intro wi (And.intro hl (And.intro boolss_len ft)))))))))
    refine Run.go ?_
    refine End.kp [0, 3, 5, 9, 10, 11] ?_
    refine Run.seq ?_
    refine Run.go ?_
    refine End.kp [0, 3, 9, 10, 11] ?_
    refine Run.seq ?_
    refine Run.go ?_
    refine End.kp [0, 3, 9, 10, 11, 20] ?_
    refine Run.cond _ rfl (fun hb => ?_) (fun hb => ?_)
    · have hb3 := hb
      simp at hb
    · have hb3 := hb
      refine Run.skip ?_
      refine End.blk ?_
      refine End.kp [0, 3, 9, 10, 11] ?_
      have fx := And.intro (@Int.toNat_natCast) (And.intro (@Int.natCast_nonneg) (And.intro hn0 (And.intro wa (And.intro bools_len (And.intro hil (And.intro hrr (And.intro wi (And.intro hl (And.intro boolss_len ft)))))))))
      refine Run.go ?_
      refine End.lp ?_
      refine ⟨ps.length - (i + 1), _, by omega, Ghost.form [(0, .ms (d + 1) j ps.length), (3, .i (sumL (ps.take (i + 1)) : Nat)), (9, .ms (d + 1) j ps.length), (10, .i ps.length), (11, .i (i + 1 : Nat))] 0 ⟨rfl, rfl, rfl, rfl, rfl, trivial⟩ rfl rfl, i + 1, rfl, by omega, rfl⟩
  · have hb2 := of_decide_eq_false hb
    have hiN : i = ps.length := by omega
    subst hiN
    rw [List.take_length]
    refine Run.exit rfl ?_
    refine End.kp [0, 3] ?_
    refine Run.seq ?_
    have fx := And.intro hl (And.intro boolss_len ft)
    refine Run.region rfl fun K hK => GOps.sim ?_
    refine GOps.callM rfl rfl rfl rfl (by kernel_rfl) (ACalls.sim ?_)
    refine (growB_ok (sumL ps) h0 (by omega) _ _).mono fun v u hv => ?_
    obtain ⟨rfl, rfl⟩ := hv
    refine ⟨_, _, rfl, GOps.sim ?_⟩
    refine GOps.done (hK _ ?_); clear hK K
    refine End.kp [0, 6] ?_
    refine Run.seq ?_
    refine Run.seq ?_
    refine Run.go ?_
    refine End.kp [6, 25, 26, 27] ?_
    refine Run.block ?_
    refine Run.ghost (Ghost.form [(6, .ms 0 0 0), (25, .ms (d + 1) j ps.length), (26, .i ps.length), (27, .i (0 : Nat))] 1 ⟨rfl, rfl, rfl, rfl, trivial⟩ rfl rfl) ?_
    refine Run.loop (fun m' st => ∃ i : Nat, m' = ps.length - i ∧ i ≤ ps.length ∧ st = ⟨[(6, .ms 0 0 (ps.take i).flatten.length), (25, .ms (d + 1) j ps.length), (26, .i ps.length), (27, .i (i : Nat))], [.row 4 1 (bools (ps.take i).flatten) 0], up⟩) ps.length ⟨0, rfl, by omega, rfl⟩ fun m' st hI => ?_
    obtain ⟨i, rfl, hi, rfl⟩ := hI
    have hfl : (bools (ps.take i).flatten).length = (ps.take i).flatten.length := by rw [bools_len]
    have hfs := flat_len (ps.take i)
    have hsl := sumL_le ps i
    refine Run.seq ?_
    have fx := And.intro hfl (And.intro hl (And.intro boolss_len ft))
    refine Run.go ?_
    refine End.kp [6, 25, 26, 27, 28] ?_
    refine Run.seq ?_
    refine Run.cond _ rfl (fun hb => ?_) (fun hb => ?_)
    · have hb2 := of_decide_eq_true hb
      have hin : i < ps.length := by omega
      have wi := wsucc hin (by omega)
      obtain ⟨r, hri, hrm, _, hrr⟩ := boolss_at ps i hin
      have hil : (i : Int) < (ps.length : Int) := by omega
      have ht := sumL_take ps i r hri
      have hle := sumL_le ps (i + 1)
      have hft := flat_take ps i r hri
      have hcap : ((ps.take i).flatten.length + r.length) * 1 ≤ 140737488355328 := by omega
      have hcap2 : (ps.take i).flatten.length + r.length ≤ 140737488355328 := by omega
      have hall : (bools r).all (fun r => r.length == 1) = true := by simp
      refine Run.skip ?_
      refine End.kp [6, 25, 26, 27] ?_
      refine Run.seq ?_
      refine Run.block ?_
      refine Run.seq ?_
      have fx := And.intro (@Int.toNat_natCast) (And.intro (@Int.natCast_nonneg) (And.intro hall (And.intro hcap2 (And.intro hcap (And.intro bools_len (And.intro hil (And.intro hrr (And.intro wi (And.intro hfl (And.intro hl (And.intro boolss_len ft)))))))))))
      refine Run.go ?_
      refine End.kp [6, 8, 25, 26, 27] ?_
      refine Run.go ?_
      refine End.blk ?_
      refine End.kp [6, 25, 26, 27] ?_
      refine Run.go ?_
      refine End.lp ?_
      refine ⟨ps.length - (i + 1), _, by omega, Ghost.form [(6, .ms 0 0 ((ps.take i).flatten.length + r.length)), (25, .ms (d + 1) j ps.length), (26, .i ps.length), (27, .i (i + 1 : Nat))] 1 ⟨rfl, rfl, rfl, rfl, trivial⟩ rfl rfl, i + 1, rfl, by omega, ?_⟩
      rw [hft]
      simp
    · have hb2 := of_decide_eq_false hb
      have hiN : i = ps.length := by omega
      subst hiN
      rw [List.take_length] at hfl ⊢
      refine Run.exit rfl ?_
      refine End.kp [6] ?_
      refine Run.seq ?_
      refine Run.ghost (Ghost.shut (t := 6) (j := 0) rfl rfl hfl) ?_
      simp only [eput, edel]
      have fx := And.intro hfl (And.intro hl (And.intro boolss_len ft))
      refine Run.go ?_
      refine End.kp [2] ?_
      refine Run.ret (hQ _ _ ⟨.inr rfl, _, rfl, _, rfl, ?_⟩)
      exact ⟨rfl, rfl⟩
end Go.Proofs.YtkmnmokjlpenhaaPi

