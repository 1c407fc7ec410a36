/- Part 3 of the proof: the texts WO, WUA, WGE, WTA, WTB, PTB, PSat, WOA, WOB, WOC, WOD, one behind the other. Each holds for every input that it names; no condition is hidden. -/
import Derived.Test.YtdgpmopcmacicaaDoorM1
import Derived.Test.YtdgpmopcmacicaaDoorM2
import Derived.Test.YtdgpmopcmacicaaDoorPiStr
import Derived.Test.YtdgpmopcmacicaaDoorPiLayR
/- The walk of Moving, and that drawn graphs are in order. -/
set_option linter.unusedVariables false
set_option linter.unusedSimpArgs false
set_option maxRecDepth 100000
namespace Go.Proofs.YtdgpmopcmacicaaDoorPi
set_option maxHeartbeats 4000000
theorem nd_at (D T : List (Int × Int)) (p : Int × Int) (i : Nat) (h : D.length = i) : ((D ++ p :: T).map nd)[i]? = some [.int .i64 p.1, .int .i64 p.2] := by
  subst h
  simp
theorem nd_set (D T : List (Int × Int)) (p : Int × Int) (i : Nat) (a b : Int) (h : D.length = i) : ((D ++ p :: T).map nd).set i [.int .i64 a, .int .i64 b] = (D ++ (a, b) :: T).map nd := by
  subst h
  simp
theorem nd_mlen (D T : List (Int × Int)) (p : Int × Int) (i k : Nat) (h : D.length = i) (h2 : i < k) (h3 : T.length = k - (i + 1)) : ((D ++ p :: T).map nd).length = k := by
  simp
  omega
theorem Moving_ok (ands : Nat) (h0 : 1 ≤ ands) (h3 : ands ≤ 99) (l : List Int) (a : Int) (hs : StmOk l a) (hf : a + 20000 < 1099511627776) (up : Frs) (d j : Nat) (hl : fget up d j = some (stm l a)) :
    ACalls Tryd.prog 5 [.ptr d j 0, .i ands] up fun v u => v = (movingV l a ands).1.pv ∧ u = fset up d j (stm l (movingV l a ands).2) := by
  have hset : ∀ o, fget (fset up d j o) d j = some o := fun o => fget_fset_same _ _ _ _ _ hl
  have hp := hs.pos
  
  have ok : ∀ b : Int, a ≤ b → b ≤ a + 3000 → StmOk l b := fun b h1 h2 => ⟨hs.vals, hs.len, by omega, by omega⟩
  obtain ⟨r1, s1⟩ := nextV_range l a (3 - 1 + 1) (by omega)
  obtain ⟨r2, s2⟩ := nextV_range l (a + 1) (7 - 2 + 1) (by omega)
  obtain ⟨r3, s3⟩ := nextV_range l (a + 1 + 1) (ands - 1 + 1) (by omega)
  obtain ⟨r4, s4⟩ := nextV_range l (a + 1 + 1 + 1) (3 - 1 + 1) (by omega)
  obtain ⟨ins, e1⟩ : ∃ k : Nat, 1 + nextV l a (3 - 1 + 1) = k := ⟨(1 + nextV l a (3 - 1 + 1)).toNat, by omega⟩
  obtain ⟨regs, e2⟩ : ∃ k : Nat, 2 + nextV l (a + 1) (7 - 2 + 1) = k := ⟨(2 + nextV l (a + 1) (7 - 2 + 1)).toNat, by omega⟩
  obtain ⟨k, e3⟩ : ∃ k : Nat, 1 + nextV l (a + 1 + 1) (ands - 1 + 1) = k := ⟨(1 + nextV l (a + 1 + 1) (ands - 1 + 1)).toNat, by omega⟩
  obtain ⟨outs, e4⟩ : ∃ k : Nat, 1 + nextV l (a + 1 + 1 + 1) (3 - 1 + 1) = k := ⟨(1 + nextV l (a + 1 + 1 + 1) (3 - 1 + 1)).toNat, by omega⟩
  generalize hM : movingV l a ands = M
  obtain ⟨p1, p2, p3, p4, p5, p6, p7⟩ := graphV_pos l (a + 1 + 1 + 1 + 1) ins regs k outs
  have hGr := Graph_ok ins regs k outs (by omega) (by omega) (by omega) (by omega) l (a + 1 + 1 + 1 + 1) (ok _ (by omega) (by omega)) (by omega)
  have hMM : M = (let G := graphV l (a + 1 + 1 + 1 + 1) ins regs k outs; ({ G.1 with ands := (drawN (mvX l ins regs G.1.ands) G.2 G.1.ands.length).1 }, (drawN (mvX l ins regs G.1.ands) G.2 G.1.ands.length).2)) := by
    rw [← hM]
    simp only [movingV, e1, e2, e3, e4, Int.toNat_natCast]
  generalize graphV l (a + 1 + 1 + 1 + 1) ins regs k outs = G at p1 p2 p3 p4 p5 p6 p7 hGr hMM
  obtain ⟨g, a5⟩ := G
  simp only at p1 p2 p3 p4 p5 p6 p7 hGr hMM
  rw [p6] at hMM
  have hal : (g.ands.map nd).length = k := by rw [nd_len]; exact p6
  have pM : ∀ i : Nat, _ := drawN_pos (mvX l ins regs g.ands) a5 6 (mvX_pos l ins regs g.ands)
  refine ACalls.code Tryd.func5 rfl 52 rfl (by simp) [.cell 4 31] rfl fun Q hQ => ?_
  simp only [ups, PV.up, argEnv]
  have ft := And.intro ty_3 (And.intro ty_4 (And.intro ty_19 (And.intro ty_23 (And.intro ty_28 (And.intro ty_31 (And.intro ty_51 (And.intro ty_54 trivial)))))))
  refine Run.seq ?_
  have fx := And.intro e4 (And.intro e3 (And.intro e2 (And.intro e1 (And.intro hset (And.intro hl ft)))))
  refine Run.go ?_
  refine End.kp [1, 2, 4] ?_
  refine Run.seq ?_
  refine Run.ghost (.spares 2) ?_
  simp only [ASt.pushN, ASt.push, List.append_assoc, List.cons_append, List.nil_append]
  refine Run.drawA fun K hK => ?_
  refine DOps.sim ?_
  refine DOps.call (.i ins) [((0, 0), .box [.ptr (d + 1) j 0]), ((d + 1, j), stm l (a))] [((d + 1, j), stm l (a + 1))] rfl rfl rfl rfl (by kernel_rfl) (by simp [Agree, ASt.fr, hl]) (fun u hu => by have := Range_ok 1 3 (by omega) (by omega) (by omega) l a hs (by omega) u (d + 1) j (hu (((d + 1, j), stm l (a))) (by simp)); rw [e1] at this; exact this) ?_
  refine DOps.sim ?_
  refine DOps.call (.i regs) [((0, 0), .box [.ptr (d + 1) j 0]), ((d + 1, j), stm l (a + 1))] [((d + 1, j), stm l (a + 1 + 1))] rfl rfl rfl rfl (by kernel_rfl) (by simp [Agree, ASt.fr, hset]) (fun u hu => by have := Range_ok 2 7 (by omega) (by omega) (by omega) l (a + 1) (ok _ (by omega) (by omega)) (by omega) u (d + 1) j (hu (((d + 1, j), stm l (a + 1))) (by simp)); rw [e2] at this; exact this) ?_
  refine DOps.sim ?_
  refine DOps.nil (by rfl) (hK _ ?_); clear hK K
  refine End.kp [1, 2, 4, 5, 6] ?_
  refine Run.seq ?_
  refine Run.ghost (.spares 1) ?_
  simp only [ASt.pushN, ASt.push, List.append_assoc, List.cons_append, List.nil_append]
  refine Run.ghost (.spares 1) ?_
  simp only [ASt.pushN, ASt.push, List.append_assoc, List.cons_append, List.nil_append]
  have fx := And.intro e4 (And.intro e3 (And.intro e2 (And.intro e1 (And.intro hset (And.intro hl ft)))))
  refine Run.drawA fun K hK => ?_
  refine DOps.sim ?_
  refine DOps.call (.i k) [((d + 1, j), stm l (a + 1 + 1))] [((d + 1, j), stm l (a + 1 + 1 + 1))] rfl rfl rfl rfl (by kernel_rfl) (by simp [Agree, ASt.fr, hset]) (fun u hu => by have := Range_ok 1 ands (by omega) (by omega) (by omega) l (a + 1 + 1) (ok _ (by omega) (by omega)) (by omega) u (d + 1) j (hu (((d + 1, j), stm l (a + 1 + 1))) (by simp)); rw [e3] at this; exact this) ?_
  refine DOps.sim ?_
  refine DOps.call (.i outs) [((d + 1, j), stm l (a + 1 + 1 + 1))] [((d + 1, j), stm l (a + 1 + 1 + 1 + 1))] rfl rfl rfl rfl (by kernel_rfl) (by simp [Agree, ASt.fr, hset]) (fun u hu => by have := Range_ok 1 3 (by omega) (by omega) (by omega) l (a + 1 + 1 + 1) (ok _ (by omega) (by omega)) (by omega) u (d + 1) j (hu (((d + 1, j), stm l (a + 1 + 1 + 1))) (by simp)); rw [e4] at this; exact this) ?_
  refine DOps.sim ?_
  refine DOps.call (.agg [.im (.sl (strs g.inn)), .im (.sl (strs g.out)), .im (.sl (g.regs.map LReg.im)), .ms 0 4 k, .im (.sl (ints g.outs))]) [((d + 1, j), stm l (a + 1 + 1 + 1 + 1)), ((0, 4), .dead)] [((d + 1, j), stm l (a5)), ((0, 4), .row 54 2 (g.ands.map nd) 0)] rfl rfl rfl rfl (by kernel_rfl) (by simp [Agree, ASt.fr, hset]) (fun u hu => hGr u (d + 1) j (hu (((d + 1, j), stm l (a + 1 + 1 + 1 + 1))) (by simp)) 4 (hu (((0, 4), .dead)) (by simp))) ?_
  refine DOps.sim ?_
  refine DOps.nil (by rfl) (hK _ ?_); clear hK K
  refine End.kp [2, 4, 5, 6, 7] ?_
  refine Run.seq ?_
  refine Run.seq ?_
  refine Run.go ?_
  refine End.kp [2, 4, 5, 6, 7, 25, 26] ?_
  refine Run.block ?_
  refine Run.ghost (Ghost.form [(2, .ptr 0 0 0), (4, .ptr 0 1 0), (5, .ptr 0 2 0), (6, .ptr 0 3 0), (7, .ptr 0 5 0), (25, .i k), (26, .i (0 : Nat))] 6 ⟨rfl, rfl, rfl, rfl, rfl, rfl, rfl, trivial⟩ rfl rfl) ?_
  refine Run.loop (fun m s => ∃ i : Nat, m = k - i ∧ i ≤ k ∧ s = ⟨[(2, .ptr 0 0 0), (4, .ptr 0 1 0), (5, .ptr 0 2 0), (6, .ptr 0 3 0), (7, .ptr 0 5 0), (25, .i k), (26, .i (i : Nat))], [.box [.ptr (d + 1) j 0], .box [.nils, .nils, .nils, .nils, .nils], .box [.i ins], .box [.i regs], .row 54 2 (((drawN (mvX l ins regs g.ands) a5 i).1 ++ g.ands.drop i).map nd) 0, .box [.im (.sl (strs g.inn)), .im (.sl (strs g.out)), .im (.sl (g.regs.map LReg.im)), .ms 0 4 k, .im (.sl (ints g.outs))]], fset up d j (stm l (drawN (mvX l ins regs g.ands) a5 i).2)⟩) k ⟨0, rfl, by omega, rfl⟩ fun m s hI => ?_
  obtain ⟨i, rfl, hi, rfl⟩ := hI
  have pMi := pM i
  have hDl : (drawN (mvX l ins regs g.ands) a5 i).1.length = i := drawN_len _ _ _
  have hcb : (drawN (mvX l ins regs g.ands) a5 i).2 ≤ a5 + 600 := by omega
  generalize hD : (drawN (mvX l ins regs g.ands) a5 i).1 = D at hDl
  generalize hcM : (drawN (mvX l ins regs g.ands) a5 i).2 = c at pMi hcb
  refine Run.seq ?_
  have fx := And.intro e4 (And.intro e3 (And.intro e2 (And.intro e1 (And.intro hset (And.intro hl ft)))))
  refine Run.go ?_
  refine End.kp [2, 4, 5, 6, 7, 25, 26, 27] ?_
  refine Run.seq ?_
  refine Run.cond _ rfl (fun hb => ?_) (fun hb => ?_)
  · have hb := of_decide_eq_true hb
    have hin : i < k := by omega
    have hik := hb
    have wi := wsucc hin (by omega)
    obtain ⟨p, T, hpT, hge⟩ : ∃ p T, g.ands.drop i = p :: T ∧ g.ands[i]?.getD (0, 0) = p := by
      have h : i < g.ands.length := by omega
      exact ⟨g.ands[i], g.ands.drop (i + 1), List.drop_eq_getElem_cons h, by simp [h]⟩
    have hT : g.ands.drop (i + 1) = T := by rw [← List.tail_drop, hpT]; rfl
    have hTl : T.length = k - (i + 1) := by rw [← hT, List.length_drop, p6]
    have hat : ∀ q, ((D ++ q :: T).map nd)[i]? = some [.int .i64 q.1, .int .i64 q.2] := fun q => nd_at D T q i hDl
    have hst : ∀ q a b, ((D ++ q :: T).map nd).set i [.int .i64 a, .int .i64 b] = (D ++ (a, b) :: T).map nd := fun q a b => nd_set D T q i a b hDl
    have hml : ∀ q, ((D ++ q :: T).map nd).length = k := fun q => nd_mlen D T q i k hDl hin hTl
    rw [hpT]
    refine Run.skip ?_
    refine End.kp [2, 4, 5, 6, 7, 25, 26] ?_
    refine Run.seq ?_
    refine Run.block ?_
    refine Run.seq ?_
    have fx := And.intro (@Int.toNat_natCast) (And.intro (@Int.natCast_nonneg) (And.intro hml (And.intro hst (And.intro hat (And.intro hik (And.intro wi (And.intro e4 (And.intro e3 (And.intro e2 (And.intro e1 (And.intro hset (And.intro hl ft))))))))))))
    refine Run.go ?_
    refine End.kp [2, 4, 5, 6, 7, 8, 25, 26] ?_
    refine Run.seq ?_
    refine Run.go ?_
    refine End.kp [2, 4, 5, 6, 7, 8, 9, 25, 26] ?_
    refine Run.seq ?_
    refine Run.seq ?_
    refine Run.region rfl fun K hK => GOps.sim ?_
    refine GOps.call rfl rfl rfl rfl (by kernel_rfl) (ACalls.sim ?_)
    refine (Next_ok l c 3 (ok _ (by omega) (by omega)) (by omega) _ (d + 1) j (hset _)).mono fun v u hv => ?_
    obtain ⟨rfl, rfl⟩ := hv
    refine ⟨_, _, rfl, GOps.sim ?_⟩
    refine GOps.done (hK _ ?_); clear hK K
    refine End.kp [2, 4, 5, 6, 7, 8, 9, 25, 26, 32] ?_
    refine Run.cond _ rfl (fun hb => ?_) (fun hb => ?_)
    · have hb1 : nextV l c 3 = 0 := eq_of_beq hb
      have fx := And.intro (@Int.toNat_natCast) (And.intro (@Int.natCast_nonneg) (And.intro hml (And.intro hst (And.intro hat (And.intro hik (And.intro wi (And.intro e4 (And.intro e3 (And.intro e2 (And.intro e1 (And.intro hset (And.intro hl ft))))))))))))
      refine Run.drawA fun K hK => ?_
      refine DOps.sim ?_
      refine DOps.call (.i (rX l ins regs (c + 1))) [((0, 2), .box [.i ins]), ((0, 0), .box [.ptr (d + 1) j 0]), ((0, 3), .box [.i regs]), ((d + 1, j), stm l (c + 1))] [((d + 1, j), stm l (c + 1 + 1 + 1))] rfl rfl rfl rfl (by kernel_rfl) (by simp [Agree, ASt.fr, hset]) (fun u hu => r_ok ins regs (by omega) (by omega) (by omega) (by omega) 2 0 3 l (c + 1) (ok _ (by omega) (by omega)) (by omega) u d j (hu (((d + 1, j), stm l (c + 1))) (by simp)) (hu (((0, 2), .box [.i ins])) (by simp)) (hu (((0, 0), .box [.ptr (d + 1) j 0])) (by simp)) (hu (((0, 3), .box [.i regs])) (by simp))) ?_
      refine DOps.sim ?_
      refine DOps.nil (by rfl) (hK _ ?_); clear hK K
      refine End.kp [2, 4, 5, 6, 7, 8, 9, 25, 26] ?_
      refine Run.seq ?_
      refine Run.region rfl fun K hK => GOps.sim ?_
      refine GOps.call rfl rfl rfl rfl (by kernel_rfl) (ACalls.sim ?_)
      refine (Next_ok l (c + 1 + 1 + 1) 3 (ok _ (by omega) (by omega)) (by omega) _ (d + 1) j (hset _)).mono fun v u hv => ?_
      obtain ⟨rfl, rfl⟩ := hv
      refine ⟨_, _, rfl, GOps.sim ?_⟩
      refine GOps.done (hK _ ?_); clear hK K
      refine End.kp [2, 4, 5, 6, 7, 8, 9, 25, 26, 42] ?_
      refine Run.cond _ rfl (fun hb => ?_) (fun hb => ?_)
      · have hb2 : nextV l (c + 1 + 1 + 1) 3 = 0 := eq_of_beq hb
        have fx := And.intro (@Int.toNat_natCast) (And.intro (@Int.natCast_nonneg) (And.intro hml (And.intro hst (And.intro hat (And.intro hik (And.intro wi (And.intro e4 (And.intro e3 (And.intro e2 (And.intro e1 (And.intro hset (And.intro hl ft))))))))))))
        refine Run.drawA fun K hK => ?_
        refine DOps.sim ?_
        refine DOps.call (.i (rX l ins regs (c + 1 + 1 + 1 + 1))) [((0, 2), .box [.i ins]), ((0, 0), .box [.ptr (d + 1) j 0]), ((0, 3), .box [.i regs]), ((d + 1, j), stm l (c + 1 + 1 + 1 + 1))] [((d + 1, j), stm l (c + 1 + 1 + 1 + 1 + 1 + 1))] rfl rfl rfl rfl (by kernel_rfl) (by simp [Agree, ASt.fr, hset]) (fun u hu => r_ok ins regs (by omega) (by omega) (by omega) (by omega) 2 0 3 l (c + 1 + 1 + 1 + 1) (ok _ (by omega) (by omega)) (by omega) u d j (hu (((d + 1, j), stm l (c + 1 + 1 + 1 + 1))) (by simp)) (hu (((0, 2), .box [.i ins])) (by simp)) (hu (((0, 0), .box [.ptr (d + 1) j 0])) (by simp)) (hu (((0, 3), .box [.i regs])) (by simp))) ?_
        refine DOps.sim ?_
        refine DOps.nil (by rfl) (hK _ ?_); clear hK K
        refine End.blk ?_
        refine End.kp [2, 4, 5, 6, 7, 25, 26] ?_
        refine Run.go ?_
        refine End.lp ?_
        refine ⟨k - (i + 1), _, by omega, Ghost.form [(2, .ptr 0 0 0), (4, .ptr 0 1 0), (5, .ptr 0 2 0), (6, .ptr 0 3 0), (7, .ptr 0 5 0), (25, .i k), (26, .i (i + 1 : Nat))] 6 ⟨rfl, rfl, rfl, rfl, rfl, rfl, rfl, trivial⟩ rfl rfl, i + 1, rfl, by omega, ?_⟩
        have e0 : mvX l ins regs g.ands i c = ((rX l ins regs (c + 1), rX l ins regs (c + 1 + 1 + 1 + 1)), c + 1 + 1 + 1 + 1 + 1 + 1) := by simp [mvX, mv1, hge, hb1, hb2]
        have e1 : drawN (mvX l ins regs g.ands) a5 (i + 1) = (D ++ [(((rX l ins regs (c + 1), rX l ins regs (c + 1 + 1 + 1 + 1)), c + 1 + 1 + 1 + 1 + 1 + 1)).1], (((rX l ins regs (c + 1), rX l ins regs (c + 1 + 1 + 1 + 1)), c + 1 + 1 + 1 + 1 + 1 + 1)).2) := by
          show ((drawN (mvX l ins regs g.ands) a5 i).1 ++ [(mvX l ins regs g.ands i (drawN (mvX l ins regs g.ands) a5 i).2).1], (mvX l ins regs g.ands i (drawN (mvX l ins regs g.ands) a5 i).2).2) = _
          rw [hD, hcM, e0]
        rw [e1, hT]
        simp
      · have hb2 : ¬ nextV l (c + 1 + 1 + 1) 3 = 0 := fun e => by simp [e] at hb
        refine Run.skip ?_
        refine End.blk ?_
        refine End.kp [2, 4, 5, 6, 7, 25, 26] ?_
        have fx := And.intro (@Int.toNat_natCast) (And.intro (@Int.natCast_nonneg) (And.intro hml (And.intro hst (And.intro hat (And.intro hik (And.intro wi (And.intro e4 (And.intro e3 (And.intro e2 (And.intro e1 (And.intro hset (And.intro hl ft))))))))))))
        refine Run.go ?_
        refine End.lp ?_
        refine ⟨k - (i + 1), _, by omega, Ghost.form [(2, .ptr 0 0 0), (4, .ptr 0 1 0), (5, .ptr 0 2 0), (6, .ptr 0 3 0), (7, .ptr 0 5 0), (25, .i k), (26, .i (i + 1 : Nat))] 6 ⟨rfl, rfl, rfl, rfl, rfl, rfl, rfl, trivial⟩ rfl rfl, i + 1, rfl, by omega, ?_⟩
        have e0 : mvX l ins regs g.ands i c = ((rX l ins regs (c + 1), p.2), c + 1 + 1 + 1 + 1) := by simp [mvX, mv1, hge, hb1, hb2]
        have e1 : drawN (mvX l ins regs g.ands) a5 (i + 1) = (D ++ [(((rX l ins regs (c + 1), p.2), c + 1 + 1 + 1 + 1)).1], (((rX l ins regs (c + 1), p.2), c + 1 + 1 + 1 + 1)).2) := by
          show ((drawN (mvX l ins regs g.ands) a5 i).1 ++ [(mvX l ins regs g.ands i (drawN (mvX l ins regs g.ands) a5 i).2).1], (mvX l ins regs g.ands i (drawN (mvX l ins regs g.ands) a5 i).2).2) = _
          rw [hD, hcM, e0]
        rw [e1, hT]
        simp
    · have hb1 : ¬ nextV l c 3 = 0 := fun e => by simp [e] at hb
      refine Run.skip ?_
      refine End.kp [2, 4, 5, 6, 7, 8, 9, 25, 26] ?_
      refine Run.seq ?_
      have fx := And.intro (@Int.toNat_natCast) (And.intro (@Int.natCast_nonneg) (And.intro hml (And.intro hst (And.intro hat (And.intro hik (And.intro wi (And.intro e4 (And.intro e3 (And.intro e2 (And.intro e1 (And.intro hset (And.intro hl ft))))))))))))
      refine Run.region rfl fun K hK => GOps.sim ?_
      refine GOps.call rfl rfl rfl rfl (by kernel_rfl) (ACalls.sim ?_)
      refine (Next_ok l (c + 1) 3 (ok _ (by omega) (by omega)) (by omega) _ (d + 1) j (hset _)).mono fun v u hv => ?_
      obtain ⟨rfl, rfl⟩ := hv
      refine ⟨_, _, rfl, GOps.sim ?_⟩
      refine GOps.done (hK _ ?_); clear hK K
      refine End.kp [2, 4, 5, 6, 7, 8, 9, 25, 26, 42] ?_
      refine Run.cond _ rfl (fun hb => ?_) (fun hb => ?_)
      · have hb2 : nextV l (c + 1) 3 = 0 := eq_of_beq hb
        have fx := And.intro (@Int.toNat_natCast) (And.intro (@Int.natCast_nonneg) (And.intro hml (And.intro hst (And.intro hat (And.intro hik (And.intro wi (And.intro e4 (And.intro e3 (And.intro e2 (And.intro e1 (And.intro hset (And.intro hl ft))))))))))))
        refine Run.drawA fun K hK => ?_
        refine DOps.sim ?_
        refine DOps.call (.i (rX l ins regs (c + 1 + 1))) [((0, 2), .box [.i ins]), ((0, 0), .box [.ptr (d + 1) j 0]), ((0, 3), .box [.i regs]), ((d + 1, j), stm l (c + 1 + 1))] [((d + 1, j), stm l (c + 1 + 1 + 1 + 1))] rfl rfl rfl rfl (by kernel_rfl) (by simp [Agree, ASt.fr, hset]) (fun u hu => r_ok ins regs (by omega) (by omega) (by omega) (by omega) 2 0 3 l (c + 1 + 1) (ok _ (by omega) (by omega)) (by omega) u d j (hu (((d + 1, j), stm l (c + 1 + 1))) (by simp)) (hu (((0, 2), .box [.i ins])) (by simp)) (hu (((0, 0), .box [.ptr (d + 1) j 0])) (by simp)) (hu (((0, 3), .box [.i regs])) (by simp))) ?_
        refine DOps.sim ?_
        refine DOps.nil (by rfl) (hK _ ?_); clear hK K
        refine End.blk ?_
        refine End.kp [2, 4, 5, 6, 7, 25, 26] ?_
        refine Run.go ?_
        refine End.lp ?_
        refine ⟨k - (i + 1), _, by omega, Ghost.form [(2, .ptr 0 0 0), (4, .ptr 0 1 0), (5, .ptr 0 2 0), (6, .ptr 0 3 0), (7, .ptr 0 5 0), (25, .i k), (26, .i (i + 1 : Nat))] 6 ⟨rfl, rfl, rfl, rfl, rfl, rfl, rfl, trivial⟩ rfl rfl, i + 1, rfl, by omega, ?_⟩
        have e0 : mvX l ins regs g.ands i c = ((p.1, rX l ins regs (c + 1 + 1)), c + 1 + 1 + 1 + 1) := by simp [mvX, mv1, hge, hb1, hb2]
        have e1 : drawN (mvX l ins regs g.ands) a5 (i + 1) = (D ++ [(((p.1, rX l ins regs (c + 1 + 1)), c + 1 + 1 + 1 + 1)).1], (((p.1, rX l ins regs (c + 1 + 1)), c + 1 + 1 + 1 + 1)).2) := by
          show ((drawN (mvX l ins regs g.ands) a5 i).1 ++ [(mvX l ins regs g.ands i (drawN (mvX l ins regs g.ands) a5 i).2).1], (mvX l ins regs g.ands i (drawN (mvX l ins regs g.ands) a5 i).2).2) = _
          rw [hD, hcM, e0]
        rw [e1, hT]
        simp
      · have hb2 : ¬ nextV l (c + 1) 3 = 0 := fun e => by simp [e] at hb
        refine Run.skip ?_
        refine End.blk ?_
        refine End.kp [2, 4, 5, 6, 7, 25, 26] ?_
        have fx := And.intro (@Int.toNat_natCast) (And.intro (@Int.natCast_nonneg) (And.intro hml (And.intro hst (And.intro hat (And.intro hik (And.intro wi (And.intro e4 (And.intro e3 (And.intro e2 (And.intro e1 (And.intro hset (And.intro hl ft))))))))))))
        refine Run.go ?_
        refine End.lp ?_
        refine ⟨k - (i + 1), _, by omega, Ghost.form [(2, .ptr 0 0 0), (4, .ptr 0 1 0), (5, .ptr 0 2 0), (6, .ptr 0 3 0), (7, .ptr 0 5 0), (25, .i k), (26, .i (i + 1 : Nat))] 6 ⟨rfl, rfl, rfl, rfl, rfl, rfl, rfl, trivial⟩ rfl rfl, i + 1, rfl, by omega, ?_⟩
        have e0 : mvX l ins regs g.ands i c = ((p.1, p.2), c + 1 + 1) := by simp [mvX, mv1, hge, hb1, hb2]
        have e1 : drawN (mvX l ins regs g.ands) a5 (i + 1) = (D ++ [(((p.1, p.2), c + 1 + 1)).1], (((p.1, p.2), c + 1 + 1)).2) := by
          show ((drawN (mvX l ins regs g.ands) a5 i).1 ++ [(mvX l ins regs g.ands i (drawN (mvX l ins regs g.ands) a5 i).2).1], (mvX l ins regs g.ands i (drawN (mvX l ins regs g.ands) a5 i).2).2) = _
          rw [hD, hcM, e0]
        rw [e1, hT]
        simp
  · have hb := of_decide_eq_false hb
    have hiN : i = k := by omega
    rw [hiN] at hDl hD hcM
    have hdr : g.ands.drop i = [] := List.drop_eq_nil_of_le (by omega)
    have hDD : (D.map nd).length = k := by rw [nd_len]; exact hDl
    rw [hdr, List.append_nil]
    refine Run.exit rfl ?_
    refine End.kp [4, 7] ?_
    refine Run.seq ?_
    refine Run.ghost (Ghost.boxShut (j := 5) (i := 3) (r := 4) rfl rfl rfl hDD) ?_
    simp only [List.set_cons_zero, List.set_cons_succ]
    have fx := And.intro e4 (And.intro e3 (And.intro e2 (And.intro e1 (And.intro hset (And.intro hl ft)))))
    refine Run.go ?_
    refine End.kp [4] ?_
    refine Run.resC hQ ?_
    rw [hMM, hD, hcM]
    exact ⟨rfl, rfl⟩
end Go.Proofs.YtdgpmopcmacicaaDoorPi

/- Plain law: drawn graphs are in order. -/
set_option linter.unusedVariables false
set_option linter.unusedSimpArgs false
namespace Go.Proofs.YtdgpmopcmacicaaDoorPi
set_option maxHeartbeats 4000000
theorem words_mem (l : List Int) (k i : Nat) (a : Int) : ∀ s ∈ (wordsV l k i a).1, NameOk s := (words_ok l k i a).1
theorem drawnG_ok (l : List Int) (a : Int) (ins regs ands outs : Nat) (h1 : ins + regs ≤ 26) (h2 : ands ≤ 100) (h3 : outs ≤ 26) : GraphOk (graphV l a ins regs ands outs).1 := by
  obtain ⟨p1, p2, p3, p4, p5, p6, p7⟩ := graphV_pos l a ins regs ands outs
  have hw := (wordsV_pos l (ins + regs) 0 a).2.2
  have hnames : ((graphV l a ins regs ands outs).1.inn ++ (graphV l a ins regs ands outs).1.regs.map LReg.name) = (wordsV l (ins + regs) 0 a).1 := by
    have hr : (graphV l a ins regs ands outs).1.regs.map LReg.name = (wordsV l (ins + regs) 0 a).1.drop ins := by
      refine List.ext_getElem? fun i => ?_
      rw [List.getElem?_map]
      by_cases hi : i < regs
      · have hg : (graphV l a ins regs ands outs).1.regs[i]? = some (graphV l a ins regs ands outs).1.regs[i] := List.getElem?_eq_getElem (by omega)
        have := drawN_mem (regX l (((1 + ins + regs : Nat) : Int) + ands) ((wordsV l (ins + regs) 0 a).1.drop ins)) (drawN (andX l ((1 + ins + regs : Nat) : Int)) (wordsV l outs 0 (wordsV l (ins + regs) 0 a).2).2 ands).2 (fun i r => r.name = ((wordsV l (ins + regs) 0 a).1.drop ins).getD i ByteArray.empty) (fun i b => rfl) regs i _ hg
        rw [hg, Option.map_some, this, List.getD_eq_getElem?_getD]
        have hlt : i < ((wordsV l (ins + regs) 0 a).1.drop ins).length := by rw [List.length_drop, hw]; omega
        rw [List.getElem?_eq_getElem hlt]
        rfl
      · rw [List.getElem?_eq_none (by omega), List.getElem?_eq_none (by rw [List.length_drop, hw]; omega)]
        rfl
    rw [hr]
    exact List.take_append_drop ins _
  refine ⟨⟨by omega, by omega, by omega, by omega, by omega⟩, ?_, ?_, ?_, ?_, by omega, ?_, ?_, ?_⟩
  · rw [hnames]
    exact words_mem l _ _ _
  · rw [hnames]
    exact words_nodup l _ _ (by omega)
  · exact words_mem l _ _ _
  · exact words_nodup l _ _ (by omega)
  · intro i p hp
    rw [p3, p5]
    have := drawN_mem (andX l ((1 + ins + regs : Nat) : Int)) (wordsV l outs 0 (wordsV l (ins + regs) 0 a).2).2 (fun i p => (0 ≤ p.1 ∧ p.1 < 2 * (((1 + ins + regs : Nat) : Int) + i)) ∧ 0 ≤ p.2 ∧ p.2 < 2 * (((1 + ins + regs : Nat) : Int) + i))
      (fun i b => ⟨litX_range l b _ (by omega), litX_range l _ _ (by omega)⟩) ands i p hp
    omega
  · intro r hr
    rw [p3, p5, p6]
    obtain ⟨i, hi⟩ := List.mem_iff_getElem?.1 hr
    have := drawN_mem (regX l (((1 + ins + regs : Nat) : Int) + ands) ((wordsV l (ins + regs) 0 a).1.drop ins)) (drawN (andX l ((1 + ins + regs : Nat) : Int)) (wordsV l outs 0 (wordsV l (ins + regs) 0 a).2).2 ands).2 (fun i r => 0 ≤ r.next ∧ r.next < 2 * (((1 + ins + regs : Nat) : Int) + ands)) (fun i b => litX_range l b _ (by omega)) regs i r hi
    omega
  · intro x hx
    rw [p3, p5, p6]
    obtain ⟨i, hi⟩ := List.mem_iff_getElem?.1 hx
    have := drawN_mem (fun _ b => litX l b (((1 + ins + regs : Nat) : Int) + ands)) (drawN (regX l (((1 + ins + regs : Nat) : Int) + ands) ((wordsV l (ins + regs) 0 a).1.drop ins)) (drawN (andX l ((1 + ins + regs : Nat) : Int)) (wordsV l outs 0 (wordsV l (ins + regs) 0 a).2).2 ands).2 regs).2 (fun i x => 0 ≤ x ∧ x < 2 * (((1 + ins + regs : Nat) : Int) + ands)) (fun i b => litX_range l b _ (by omega)) outs i x hi
    omega
theorem mv1_range (l : List Int) (ins regs x b n : Int) (hr : 1 ≤ regs) (h0 : 0 ≤ ins) (hn : 1 + ins + regs ≤ n) (hx : 0 ≤ x ∧ x < 2 * n) : 0 ≤ (mv1 l ins regs x b).1 ∧ (mv1 l ins regs x b).1 < 2 * n := by
  unfold mv1
  split
  · have h1 := nextV_range l (b + 1) regs hr
    have h2 := nextV_range l (b + 1 + 1) 2 (by omega)
    simp only [rX]
    omega
  · exact hx
theorem moving_ok (l : List Int) (a : Int) (ands : Nat) (h0 : 1 ≤ ands) (h : ands ≤ 99) : GraphOk (movingV l a ands).1 ∧ a ≤ (movingV l a ands).2 ∧ (movingV l a ands).2 ≤ a + 2000 ∧ (movingV l a ands).1.inn.length ≤ 3 ∧ (movingV l a ands).1.regs.length ≤ 7 ∧ 2 ≤ (movingV l a ands).1.regs.length ∧ (movingV l a ands).1.ands.length ≤ ands ∧ 1 ≤ (movingV l a ands).1.ands.length := by
  obtain ⟨r1, s1⟩ := nextV_range l a (3 - 1 + 1) (by omega)
  obtain ⟨r2, s2⟩ := nextV_range l (a + 1) (7 - 2 + 1) (by omega)
  obtain ⟨r3, s3⟩ := nextV_range l (a + 1 + 1) (ands - 1 + 1) (by omega)
  obtain ⟨r4, s4⟩ := nextV_range l (a + 1 + 1 + 1) (3 - 1 + 1) (by omega)
  simp only [movingV]
  obtain ⟨ins, e1⟩ : ∃ k : Nat, 1 + nextV l a (3 - 1 + 1) = k := ⟨(1 + nextV l a (3 - 1 + 1)).toNat, by omega⟩
  obtain ⟨regs, e2⟩ : ∃ k : Nat, 2 + nextV l (a + 1) (7 - 2 + 1) = k := ⟨(2 + nextV l (a + 1) (7 - 2 + 1)).toNat, by omega⟩
  obtain ⟨k, e3⟩ : ∃ k : Nat, 1 + nextV l (a + 1 + 1) (ands - 1 + 1) = k := ⟨(1 + nextV l (a + 1 + 1) (ands - 1 + 1)).toNat, by omega⟩
  obtain ⟨outs, e4⟩ : ∃ k : Nat, 1 + nextV l (a + 1 + 1 + 1) (3 - 1 + 1) = k := ⟨(1 + nextV l (a + 1 + 1 + 1) (3 - 1 + 1)).toNat, by omega⟩
  simp only [e1, e2, e3, e4, Int.toNat_natCast]
  have hok := drawnG_ok l (a + 1 + 1 + 1 + 1) ins regs k outs (by omega) (by omega) (by omega)
  obtain ⟨p1, p2, p3, p4, p5, p6, p7⟩ := graphV_pos l (a + 1 + 1 + 1 + 1) ins regs k outs
  generalize graphV l (a + 1 + 1 + 1 + 1) ins regs k outs = G at hok p1 p2 p3 p4 p5 p6 p7
  obtain ⟨g, a5⟩ := G
  simp only at hok p1 p2 p3 p4 p5 p6 p7 ⊢
  have pM := drawN_pos (mvX l ins regs g.ands) a5 6 (mvX_pos l ins regs g.ands) g.ands.length
  have hl : (drawN (mvX l ins regs g.ands) a5 g.ands.length).1.length = g.ands.length := drawN_len _ _ _
  obtain ⟨⟨z1, z2, z3, z4, z5⟩, k1, k2, k3, k4, k5, k6, k7, k8⟩ := hok
  refine ⟨⟨⟨z1, z2, z3, by simp only [hl]; exact z4, z5⟩, k1, k2, k3, k4, k5, ?_, ?_, ?_⟩, by omega, by omega, by omega, by omega, by omega, by omega, by omega⟩
  · intro i p hp
    simp only at hp ⊢
    have hi : i < g.ands.length := by have := (List.getElem?_eq_some_iff.1 hp).1; omega
    have hb := k6 i g.ands[i] (List.getElem?_eq_getElem hi)
    have := drawN_mem (mvX l ins regs g.ands) a5 (fun i p => i < g.ands.length → (0 ≤ p.1 ∧ p.1 < 2 * (1 + (g.inn.length : Int) + g.regs.length + i)) ∧ 0 ≤ p.2 ∧ p.2 < 2 * (1 + (g.inn.length : Int) + g.regs.length + i)) (fun i b hi => by
      have hb := k6 i g.ands[i] (List.getElem?_eq_getElem hi)
      have hd : g.ands.getD i (0, 0) = g.ands[i] := by simp [hi]
      simp only [mvX, hd]
      exact ⟨mv1_range l ins regs _ _ _ (by omega) (by omega) (by omega) hb.1, mv1_range l ins regs _ _ _ (by omega) (by omega) (by omega) hb.2⟩) _ i p hp hi
    exact this
  · intro r hr
    have := k7 r hr
    simp only
    omega
  · intro x hx
    have := k8 x hx
    simp only
    omega
end Go.Proofs.YtdgpmopcmacicaaDoorPi

/- The walks of runs, GraphTidies. -/
set_option linter.unusedVariables false
set_option linter.unusedSimpArgs false
set_option maxRecDepth 100000
namespace Go.Proofs.YtdgpmopcmacicaaDoorPi
set_option maxHeartbeats 4000000
theorem runG_row (g : LGraph) : ∀ (t : List (List Bool)) (st : List Int), ∀ r ∈ runG g st t, r.length = g.outs.length
  | [], st, r, h => by simp [runG] at h
  | x :: t, st, r, h => by
    simp only [runG, List.mem_cons] at h
    rcases h with rfl | h
    · simp [outsG]
    · exact runG_row g t _ r h
abbrev runI (g : LGraph) (tr : List (List Bool)) : List (List Bool) := runG g (lanes0 (initG g)) tr
def cleanL (g : LGraph) : LGraph := movedG g (cleanG g).1 (cleanG g).2.1
theorem EqF_same (p : List (List Bool)) (hn : p.length ≤ 1000000) (hr : ∀ r ∈ p, r.length ≤ 1000000) (up : Frs) : ACalls Tryd.prog 33 [.im (.sl (boolss p)), .im (.sl (boolss p)), .fn 34 []] up fun v u => v = .im (.bool true) ∧ u = up := by
  have d1 : ((p.length : Int) != p.length) = false := by simp
  refine ACalls.code Tryd.func33 rfl 32 rfl (by simp) [.tmp 6] rfl fun Q hQ => ?_
  simp only [ups, PV.up, argEnv]
  have ft := And.intro ty_3 (And.intro ty_4 (And.intro ty_42 (And.intro ty_77 trivial)))
  refine Run.seq ?_
  have fx := And.intro d1 (And.intro boolss_len ft)
  refine Run.go ?_
  refine End.kp [0, 1, 2] ?_
  refine Run.seq ?_
  refine Run.seq ?_
  refine Run.go ?_
  refine End.kp [0, 1, 2, 14] ?_
  refine Run.cond _ rfl (fun hb => ?_) (fun hb => ?_)
  · have hb2 := hb
    simp at hb
  · have hb2 := hb
    refine Run.skip ?_
    refine End.kp [0, 1, 2] ?_
    refine Run.seq ?_
    refine Run.seq ?_
    have fx := And.intro d1 (And.intro boolss_len ft)
    refine Run.go ?_
    refine End.kp [1, 2, 15, 16, 17] ?_
    refine Run.block ?_
    refine Run.ghost (Ghost.form [(1, .im (.sl (boolss p))), (2, .fn 34 []), (15, .im (.sl (boolss p))), (16, .i p.length), (17, .i (0 : Nat))] 0 ⟨rfl, rfl, rfl, rfl, rfl, trivial⟩ rfl rfl) ?_
    refine Run.loop (fun m' st => ∃ i : Nat, m' = p.length - i ∧ i ≤ p.length ∧ st = ⟨[(1, .im (.sl (boolss p))), (2, .fn 34 []), (15, .im (.sl (boolss p))), (16, .i p.length), (17, .i (i : Nat))], [], up⟩) p.length ⟨0, rfl, by omega, rfl⟩ fun m' st hI => ?_
    obtain ⟨i, rfl, hi, rfl⟩ := hI
    refine Run.seq ?_
    have fx := And.intro d1 (And.intro boolss_len ft)
    refine Run.go ?_
    refine End.kp [1, 2, 15, 16, 17, 18] ?_
    refine Run.seq ?_
    refine Run.cond _ rfl (fun hb => ?_) (fun hb => ?_)
    · have hb2 := of_decide_eq_true hb
      have hin : i < p.length := by omega
      have wi := wsucc hin (by omega)
      obtain ⟨r, hri, hrm, _, hrr⟩ := boolss_at p i hin
      have hrl := hr r hrm
      have hil : (i : Int) < (p.length : Int) := by omega
      refine Run.skip ?_
      refine End.kp [1, 2, 15, 16, 17] ?_
      refine Run.seq ?_
      refine Run.block ?_
      refine Run.seq ?_
      have fx := And.intro (@Int.toNat_natCast) (And.intro (@Int.natCast_nonneg) (And.intro hil (And.intro hrr (And.intro wi (And.intro d1 (And.intro boolss_len ft))))))
      refine Run.go ?_
      refine End.kp [1, 2, 7, 8, 15, 16, 17] ?_
      refine Run.seq ?_
      refine Run.go ?_
      refine End.kp [1, 2, 8, 9, 15, 16, 17] ?_
      refine Run.seq ?_
      refine Run.region rfl fun K hK => GOps.sim ?_
      refine GOps.call rfl rfl rfl rfl (by kernel_rfl) (ACalls.sim ?_)
      refine (EqB_same r r rfl (by omega) _).mono fun v u hv => ?_
      obtain ⟨rfl, rfl⟩ := hv
      refine ⟨_, _, rfl, GOps.sim ?_⟩
      refine GOps.done (hK _ ?_); clear hK K
      refine End.kp [1, 2, 15, 16, 17, 30] ?_
      refine Run.cond _ rfl (fun hb => ?_) (fun hb => ?_)
      · have hb2 := hb
        simp at hb
      · have hb2 := hb
        refine Run.skip ?_
        refine End.blk ?_
        refine End.kp [1, 2, 15, 16, 17] ?_
        have fx := And.intro (@Int.toNat_natCast) (And.intro (@Int.natCast_nonneg) (And.intro hil (And.intro hrr (And.intro wi (And.intro d1 (And.intro boolss_len ft))))))
        refine Run.go ?_
        refine End.lp ?_
        refine ⟨p.length - (i + 1), _, by omega, Ghost.form [(1, .im (.sl (boolss p))), (2, .fn 34 []), (15, .im (.sl (boolss p))), (16, .i p.length), (17, .i (i + 1 : Nat))] 0 ⟨rfl, rfl, rfl, rfl, rfl, trivial⟩ rfl rfl, i + 1, rfl, by omega, rfl⟩
    · have hb2 := of_decide_eq_false hb
      refine Run.exit rfl ?_
      refine End.kp [] ?_
      refine Run.seq ?_
      have fx := And.intro d1 (And.intro boolss_len ft)
      refine Run.go ?_
      refine End.kp [6] ?_
      refine Run.ret (hQ _ _ ⟨.inr rfl, _, rfl, _, rfl, ?_⟩)
      exact ⟨rfl, rfl⟩
theorem runs_ok (a b : LGraph) (ha : GraphOk a) (hb : GraphOk b) (tr : List (List Bool)) (hn : tr.length ≤ 64) (hta : ∀ r ∈ tr, r.length = a.inn.length) (htb : ∀ r ∈ tr, r.length = b.inn.length) (hs : runI b tr = runI a tr) (up : Frs) : ACalls Tryd.prog 13 [a.pv, b.pv, .im (.sl (boolss tr))] up fun v u => v = .im (.bool true) ∧ u = up := by
  have h1 := GRun_ok a ha tr hn hta
  have h2 := GRun_ok b hb tr hn htb
  rw [show runG b (lanes0 (initG b)) tr = runI a tr from hs] at h2
  have hl := runG_len a tr (lanes0 (initG a))
  have hr := runG_row a tr (lanes0 (initG a))
  have ho := ha.small.outs
  unfold runI at h2
  generalize runG a (lanes0 (initG a)) tr = O at h1 h2 hl hr
  refine ACalls.code Tryd.func13 rfl 41 rfl (by simp) [.tmp 6] rfl fun Q hQ => ?_
  simp only [ups, PV.up, argEnv]
  have ft := And.intro ty_3 (And.intro ty_4 (And.intro ty_31 (And.intro ty_35 (And.intro ty_42 (And.intro ty_77 trivial)))))
  refine Run.seq ?_
  have fx := And.intro hl (And.intro boolss_len ft)
  refine Run.go ?_
  refine End.kp [2, 3, 4] ?_
  refine Run.seq ?_
  refine Run.region rfl fun K hK => GOps.sim ?_
  refine GOps.call rfl rfl rfl rfl (by kernel_rfl) (ACalls.sim ?_)
  refine (h1 _).mono fun v u hv => ?_
  obtain ⟨rfl, rfl⟩ := hv
  refine ⟨_, _, rfl, GOps.sim ?_⟩
  refine GOps.done (hK _ ?_); clear hK K
  refine End.kp [2, 4, 7, 8] ?_
  refine Run.seq ?_
  refine Run.region rfl fun K hK => GOps.sim ?_
  refine GOps.call rfl rfl rfl rfl (by kernel_rfl) (ACalls.sim ?_)
  refine (h2 _).mono fun v u hv => ?_
  obtain ⟨rfl, rfl⟩ := hv
  refine ⟨_, _, rfl, GOps.sim ?_⟩
  refine GOps.done (hK _ ?_); clear hK K
  refine End.kp [2, 7, 8, 9, 10] ?_
  refine Run.seq ?_
  refine Run.region rfl fun K hK => GOps.sim ?_
  refine GOps.call rfl rfl rfl rfl (by kernel_rfl) (ACalls.sim ?_)
  refine (EqF_same O (by omega) (fun r h => by rw [hr r h]; omega) _).mono fun v u hv => ?_
  obtain ⟨rfl, rfl⟩ := hv
  refine ⟨_, _, rfl, GOps.sim ?_⟩
  refine GOps.done (hK _ ?_); clear hK K
  refine End.kp [6] ?_
  refine Run.ret (hQ _ _ ⟨.inr rfl, _, rfl, _, rfl, ?_⟩)
  exact ⟨rfl, rfl⟩
-- GONE Tidies_walk
end Go.Proofs.YtdgpmopcmacicaaDoorPi

/- Merged: WGF WGG WGH. -/
/- The walks of Copy of graphs, and of pair, depends of makers. -/
set_option linter.unusedVariables false
set_option linter.unusedSimpArgs false
set_option maxRecDepth 100000
namespace Go.Proofs.YtdgpmopcmacicaaDoorPi
set_option maxHeartbeats 4000000
abbrev LMk.top (m : LMk) : Int := 2 * (m.first + m.ands.length)
abbrev InM (m : LMk) (a : Int) : Prop := 0 ≤ a ∧ a < m.top
structure AfterM (m m' : LMk) (n : Nat) : Prop where
  inn : m'.inn = m.inn
  regs : m'.regs = m.regs
  less : m.ands.length ≤ m'.ands.length
  most : m'.ands.length ≤ m.ands.length + n
theorem AfterM.first {m m' : LMk} {n : Nat} (h : AfterM m m' n) : m'.first = m.first := by rw [LMk.first, LMk.first, h.inn, h.regs]
theorem AfterM.small {m m' : LMk} {n : Nat} (h : AfterM m m' n) (hm : MkSmall m) (hn : m.ands.length + n ≤ 4000) : MkSmall m' := ⟨by rw [h.inn]; exact hm.inn, by rw [h.regs]; exact hm.regs, by have := h.most; omega⟩
theorem AfterM.up {m m' : LMk} {n : Nat} (h : AfterM m m' n) {a : Int} (ha : InM m a) : InM m' a := by
  have := h.first
  have := h.less
  unfold InM LMk.top at *
  omega
theorem AfterM.trans {m m' m2 : LMk} {n k : Nat} (h : AfterM m m' n) (h' : AfterM m' m2 k) : AfterM m m2 (n + k) := ⟨by rw [h'.inn, h.inn], by rw [h'.regs, h.regs], by have := h.less; have := h'.less; omega, by have := h.most; have := h'.most; omega⟩
theorem AfterM.refl (m : LMk) (n : Nat) : AfterM m m n := ⟨rfl, rfl, Nat.le_refl _, by omega⟩
-- GONE Not_ok
-- GONE mpair_ok
end Go.Proofs.YtdgpmopcmacicaaDoorPi

/- The walks of depends, table, Table of makers. -/
set_option linter.unusedVariables false
set_option linter.unusedSimpArgs false
namespace Go.Proofs.YtdgpmopcmacicaaDoorPi
set_option maxHeartbeats 4000000
-- GONE depends_ok
end Go.Proofs.YtdgpmopcmacicaaDoorPi

/- The walk of table of makers. -/
set_option linter.unusedVariables false
set_option linter.unusedSimpArgs false
namespace Go.Proofs.YtdgpmopcmacicaaDoorPi
set_option maxHeartbeats 4000000
-- GONE mtable_zero
-- GONE mtable_succ
end Go.Proofs.YtdgpmopcmacicaaDoorPi

/- Merged: WGI WGJ WGK. -/
/- The walks of Table, Graph of makers. -/
set_option linter.unusedVariables false
set_option linter.unusedSimpArgs false
set_option maxRecDepth 100000
namespace Go.Proofs.YtdgpmopcmacicaaDoorPi
set_option maxHeartbeats 4000000
-- GONE mTable_ok
-- GONE mGraph_ok
end Go.Proofs.YtdgpmopcmacicaaDoorPi

/- The walks of Next, Words of a stream without numbers. -/
set_option linter.unusedVariables false
set_option linter.unusedSimpArgs false
namespace Go.Proofs.YtdgpmopcmacicaaDoorPi
set_option maxHeartbeats 4000000
end Go.Proofs.YtdgpmopcmacicaaDoorPi

/- The walk of GraphTables. -/
set_option linter.unusedVariables false
set_option linter.unusedSimpArgs false
namespace Go.Proofs.YtdgpmopcmacicaaDoorPi
set_option maxHeartbeats 4000000
-- GONE Tables_walk
end Go.Proofs.YtdgpmopcmacicaaDoorPi

/- Merged: PTidyA PTidyB PTab. -/
/- Plain law: Clean and Strash of graphs keep what a graph shows. -/
set_option linter.unusedVariables false
set_option linter.unusedSimpArgs false
namespace Go.Proofs.YtdgpmopcmacicaaDoorPi

/-- Lane 0 of a literal. -/
def lb (v : List Int) (l : Int) : Bool := bit0 (ofV v l)
theorem lb_litB (v : List Int) (l : Int) : lb v l = (litB v l).getLsbD 0 := by
  rw [← bv_of]; rfl
theorem lb_flip (v : List Int) (l : Int) (h : 0 ≤ l) : lb v (flipL l) = !lb v l := by
  rw [lb_litB, lb_litB, litB_flip v l h]
  simp
theorem lb_def (v : List Int) (l : Int) : lb v l = if l % 2 = 1 then !bit0 (v.getD (l / 2).toNat 0) else bit0 (v.getD (l / 2).toNat 0) := by
  unfold lb ofV
  split
  · rw [vnot, bit0_not]
  · rfl
theorem lb_even (v : List Int) (k : Nat) : lb v (2 * (k : Int)) = bit0 (v.getD k 0) := by
  rw [lb_def, if_neg (by omega), show (2 * (k : Int) / 2).toNat = k by omega]
theorem lb_app (v w : List Int) (l : Int) (h0 : 0 ≤ l) (h : l < 2 * (v.length : Int)) : lb (v ++ w) l = lb v l := by
  have e : (v ++ w).getD (l / 2).toNat 0 = v.getD (l / 2).toNat 0 := by
    simp only [List.getD_eq_getElem?_getD]
    rw [List.getElem?_append_left (by omega)]
  rw [lb_def, lb_def, e]
theorem lb_at {v v' to : List Int} (l : Int) (h0 : 0 ≤ to.getD (l / 2).toNat 0) (h : lb v' (to.getD (l / 2).toNat 0) = bit0 (v.getD (l / 2).toNat 0)) : lb v' (atV to l) = lb v l := by
  rw [lb_def v l]
  unfold atV
  split
  · rw [lb_flip _ _ h0, h]
  · exact h
theorem valsA_snoc (p : Int × Int) : ∀ (ps : List (Int × Int)) (v : List Int), valsA (ps ++ [p]) v = valsA ps v ++ [bits .and .u64 (ofV (valsA ps v) p.1) (ofV (valsA ps v) p.2)]
  | [], v => rfl
  | q :: ps, v => by
    rw [List.cons_append, valsA, valsA_snoc p ps, valsA]
theorem lb_last (w : List Int) (a b : Int) : lb (w ++ [bits .and .u64 (ofV w a) (ofV w b)]) (2 * (w.length : Int)) = (lb w a && lb w b) := by
  rw [lb_even]
  simp [bit0_and, lb]
theorem same0_mapM {α : Type} (l : List α) (f f' : α → Int) (h : ∀ x ∈ l, bit0 (f x) = bit0 (f' x)) : same0 (l.map f) (l.map f') := by
  refine ⟨by simp, fun k => ?_⟩
  simp only [List.getD_eq_getElem?_getD, List.getElem?_map]
  cases hk : l[k]? with
  | none => rfl
  | some x => exact h x (List.mem_of_getElem? hk)
theorem runG_moved (g : LGraph) (ands : List (Int × Int)) (to : List Int)
    (H : ∀ inn st : List Int, inn.length = g.inn.length → st.length = g.regs.length → ∀ l, (l ∈ g.outs ∨ ∃ r ∈ g.regs, l = r.next) → lb (graphVals (movedG g ands to) inn st) (atV to l) = lb (graphVals g inn st) l) :
    ∀ (t : List (List Bool)) (st : List Int), (∀ r ∈ t, r.length = g.inn.length) → st.length = g.regs.length → runG (movedG g ands to) st t = runG g st t
  | [], st, _, _ => rfl
  | r :: t, st, hr, hst => by
    have h1 := H (lanes0 r) st (by simpa using hr r (by simp)) hst
    generalize hv' : graphVals (movedG g ands to) (lanes0 r) st = v' at h1
    generalize hv : graphVals g (lanes0 r) st = v at h1
    simp only [runG, hv, hv']
    have e1 : laneB (outsG (movedG g ands to) v') = laneB (outsG g v) := by
      rw [laneB_bit0, laneB_bit0]
      simp only [outsG, movedG, List.map_map]
      exact List.map_congr_left fun x hx => h1 x (.inl hx)
    have e2 : same0 (nextsG (movedG g ands to) v') (nextsG g v) := by
      simp only [nextsG, movedG, List.map_map]
      exact same0_mapM g.regs _ _ fun x hx => h1 x.next (.inr ⟨x, hx, rfl⟩)
    rw [e1, runG_same _ t e2, runG_moved g ands to H t (nextsG g v) (fun x hx => hr x (by simp [hx])) (by simp [nextsG])]
theorem runI_moved (g : LGraph) (ands : List (Int × Int)) (to : List Int)
    (H : ∀ inn st : List Int, inn.length = g.inn.length → st.length = g.regs.length → ∀ l, (l ∈ g.outs ∨ ∃ r ∈ g.regs, l = r.next) → lb (graphVals (movedG g ands to) inn st) (atV to l) = lb (graphVals g inn st) l)
    (t : List (List Bool)) (hr : ∀ r ∈ t, r.length = g.inn.length) : runI (movedG g ands to) t = runI g t := by
  have e : initG (movedG g ands to) = initG g := by simp [initG, movedG]
  rw [runI, runI, e]
  exact runG_moved g ands to H t _ hr (by simp)
/-- The node's value. -/
theorem node_lb {g : LGraph} (hg : GraphOk g) {inn st : List Int} (h1 : inn.length = g.inn.length) (h2 : st.length = g.regs.length) (i : Nat) (p : Int × Int) (hp : g.ands[i]? = some p) : bit0 ((graphVals g inn st).getD (1 + g.inn.length + g.regs.length + i) 0) = (lb (graphVals g inn st) p.1 && lb (graphVals g inn st) p.2) := by
  have h := g_and hg h1 h2 i p hp
  rw [← lb_even, show (2 * ((1 + g.inn.length + g.regs.length + i : Nat) : Int)) = 2 * (1 + (g.inn.length : Int) + g.regs.length + i) by omega, lb_litB, h, lb_litB, lb_litB]
  simp
theorem movedG_ok {g : LGraph} (hg : GraphOk g) (ands : List (Int × Int)) (to : List Int) (h1 : ands.length ≤ 4000)
    (h2 : ∀ (i : Nat) (p : Int × Int), ands[i]? = some p → (0 ≤ p.1 ∧ p.1 < 2 * (1 + (g.inn.length : Int) + g.regs.length + i)) ∧ 0 ≤ p.2 ∧ p.2 < 2 * (1 + (g.inn.length : Int) + g.regs.length + i))
    (h3 : ∀ x ∈ to, 0 ≤ x ∧ x < 2 * (1 + (g.inn.length : Int) + g.regs.length + ands.length)) : GraphOk (movedG g ands to) := by
  have hn : (movedG g ands to).regs.map LReg.name = g.regs.map LReg.name := by simp [movedG]
  have hl : (movedG g ands to).regs.length = g.regs.length := by simp [movedG]
  have hr := fun l => atV_range h3 (by omega) l
  refine ⟨⟨hg.small.inn, hg.small.out, by rw [hl]; exact hg.small.regs, h1, by simp [movedG, hg.small.outs]⟩, ?_, ?_, hg.onames, hg.onodup, by simp [movedG, hg.olen], ?_, ?_, ?_⟩
  · rw [hn]; exact hg.names
  · rw [hn]; exact hg.nodup
  · rw [hl]; exact h2
  · rw [hl]
    intro r hr'
    simp only [movedG, List.mem_map] at hr'
    obtain ⟨r0, _, rfl⟩ := hr'
    exact hr _
  · rw [hl]
    intro x hx
    simp only [movedG, List.mem_map] at hx
    obtain ⟨l, _, rfl⟩ := hx
    exact hr l

/- The cone. -/
theorem set_getD (v : List Bool) (i k : Nat) : (v.set i true).getD k false = if i = k ∧ k < v.length then true else v.getD k false := by
  simp only [List.getD_eq_getElem?_getD, List.getElem?_set]
  by_cases h : i = k
  · subst h
    by_cases h2 : i < v.length
    · simp [h2]
    · simp [h2]
  · simp [h]
theorem set_mono {v : List Bool} {i k : Nat} (h : v.getD k false = true) : (v.set i true).getD k false = true := by
  rw [set_getD]
  split
  · rfl
  · exact h
theorem coneStep_mono (g : LGraph) {v : List Bool} (i : Nat) {k : Nat} (h : v.getD k false = true) : (coneStep g v i).getD k false = true := by
  unfold coneStep
  split
  · exact set_mono (set_mono h)
  · exact h
theorem coneDown_mono (g : LGraph) : ∀ (i : Nat) {v : List Bool} {k : Nat}, v.getD k false = true → (coneDown g i v).getD k false = true
  | 0, _, _, h => h
  | i + 1, _, _, h => coneDown_mono g i (coneStep_mono g i h)
theorem coneRoots_mono : ∀ (roots : List Int) {v : List Bool} {k : Nat}, v.getD k false = true → (coneRoots v roots).getD k false = true
  | [], _, _, h => h
  | l :: t, v, k, h => coneRoots_mono t (v := v.set (l / 2).toNat true) (set_mono h)
theorem coneRoots_in : ∀ (roots : List Int) {v : List Bool} (l : Int), l ∈ roots → (l / 2).toNat < v.length → (coneRoots v roots).getD (l / 2).toNat false = true
  | x :: t, v, l, h, hv => by
    rcases List.mem_cons.1 h with rfl | h
    · exact coneRoots_mono t (v := v.set (l / 2).toNat true) (by rw [set_getD, if_pos ⟨rfl, hv⟩])
    · exact coneRoots_in t (v := v.set (x / 2).toNat true) l h (by simpa using hv)
section
variable {g : LGraph} (hg : GraphOk g)
include hg
theorem coneStep_high (v : List Bool) (i : Nat) (hi : i < g.ands.length) (k : Nat) (hk : 1 + g.inn.length + g.regs.length + i ≤ k) : (coneStep g v i).getD k false = v.getD k false := by
  unfold coneStep
  obtain ⟨p, hp, _, _⟩ := node_at g.ands i hi
  obtain ⟨⟨p1, p2⟩, p3, p4⟩ := hg.ands i p hp
  have e : g.ands.getD i (0, 0) = p := by simp [hp]
  rw [e]
  split
  · rw [set_getD, if_neg (by omega), set_getD, if_neg (by omega)]
  · rfl
theorem coneDown_high : ∀ (i : Nat), i ≤ g.ands.length → ∀ (v : List Bool) (k : Nat), 1 + g.inn.length + g.regs.length + i ≤ k + 1 → (coneDown g i v).getD k false = v.getD k false
  | 0, _, _, _, _ => rfl
  | i + 1, hi, v, k, hk => by
    rw [coneDown, coneDown_high i (by omega) _ k (by omega), coneStep_high hg v i (by omega) k (by omega)]
theorem coneDown_closed : ∀ (i : Nat), i ≤ g.ands.length → ∀ (v : List Bool), v.length = nodesN g → ∀ (j : Nat) (p : Int × Int), j < i → g.ands[j]? = some p → (coneDown g i v).getD (1 + g.inn.length + g.regs.length + j) false = true →
    (coneDown g i v).getD (p.1 / 2).toNat false = true ∧ (coneDown g i v).getD (p.2 / 2).toNat false = true
  | 0, _, _, _, j, _, h, _, _ => absurd h (by omega)
  | i + 1, hi, v, hv, j, p, hj, hp, hn => by
    rw [coneDown] at hn ⊢
    by_cases hji : j < i
    · exact coneDown_closed i (by omega) _ (by rw [coneStep_len, hv]) j p hji hp hn
    have : j = i := by omega
    subst this
    rw [coneDown_high hg j (by omega) _ _ (by omega), coneStep_high hg v j (by omega) _ (by omega)] at hn
    have hlt := (List.getElem?_eq_some_iff.1 hp).1
    obtain ⟨⟨p1, p2⟩, p3, p4⟩ := hg.ands j p hp
    have e : g.ands.getD j (0, 0) = p := by simp [hp]
    have hs : coneStep g v j = (v.set (p.1 / 2).toNat true).set (p.2 / 2).toNat true := by rw [coneStep, if_pos hn, e]
    unfold nodesN at hv
    refine ⟨coneDown_mono g j ?_, coneDown_mono g j ?_⟩
    · rw [hs]
      exact set_mono (by rw [set_getD, if_pos ⟨rfl, by omega⟩])
    · rw [hs, set_getD, if_pos ⟨rfl, by rw [List.length_set]; omega⟩]
/-- What the graph shows needs. -/
theorem cone_closed (j : Nat) (p : Int × Int) (hp : g.ands[j]? = some p) (hn : (coneV g (rootsG g)).getD (1 + g.inn.length + g.regs.length + j) false = true) :
    (coneV g (rootsG g)).getD (p.1 / 2).toNat false = true ∧ (coneV g (rootsG g)).getD (p.2 / 2).toNat false = true :=
  coneDown_closed hg _ (Nat.le_refl _) _ (by rw [coneRoots_len]; simp) j p (List.getElem?_eq_some_iff.1 hp).1 hp hn
theorem cone_root (l : Int) (h : l ∈ rootsG g) : (coneV g (rootsG g)).getD (l / 2).toNat false = true := by
  have := roots_in hg l h
  exact coneDown_mono g _ (coneRoots_in _ l h (by simp [nodesN]; omega))
end

/- Clean. -/
abbrev keptN (g : LGraph) (k : Nat) : Prop := k < 1 + g.inn.length + g.regs.length ∨ (coneV g (rootsG g)).getD k false = true
theorem getD_left {v w : List Int} {k : Nat} (h : k < v.length) : (v ++ w).getD k 0 = v.getD k 0 := by
  simp only [List.getD_eq_getElem?_getD]
  rw [List.getElem?_append_left h]
theorem getD_end (v : List Int) (x : Int) : (v ++ [x]).getD v.length 0 = x := by simp
theorem cleanN_range (g : LGraph) (need : List Bool) : ∀ i : Nat, ((cleanN g need i).1.length ≤ i - (1 + g.inn.length + g.regs.length)) ∧ (∀ x ∈ (cleanN g need i).2.1, 0 ≤ x ∧ x < 2 * (1 + (g.inn.length : Int) + g.regs.length + (cleanN g need i).1.length)) ∧
    ∀ (j : Nat) (p : Int × Int), (cleanN g need i).1[j]? = some p → (0 ≤ p.1 ∧ p.1 < 2 * (1 + (g.inn.length : Int) + g.regs.length + j)) ∧ 0 ≤ p.2 ∧ p.2 < 2 * (1 + (g.inn.length : Int) + g.regs.length + j)
  | 0 => ⟨by simp [cleanN], fun x hx => by simp [cleanN] at hx, fun j p h => by simp [cleanN] at h⟩
  | i + 1 => by
    obtain ⟨h1, h2, h3⟩ := cleanN_range g need i
    rw [cleanN]
    generalize cleanN g need i = C at h1 h2 h3
    obtain ⟨A, T, P⟩ := C
    simp only at h1 h2 h3
    unfold cleanStep
    split
    · refine ⟨by simp only; omega, fun x hx => ?_, h3⟩
      simp only [List.mem_append, List.mem_singleton] at hx ⊢
      rcases hx with hx | rfl
      · exact h2 x hx
      · omega
    · split
      · have hr := fun l => atV_range h2 (by omega) l
        refine ⟨by simp only [List.length_append, List.length_cons, List.length_nil]; omega, fun x hx => ?_, fun j p hp => ?_⟩
        · simp only [List.mem_append, List.mem_singleton, List.length_append, List.length_cons, List.length_nil] at hx ⊢
          rcases hx with hx | rfl
          · have := h2 x hx
            omega
          · omega
        · simp only [List.getElem?_append] at hp
          split at hp
          · exact h3 j p hp
          · rename_i hj
            have hj0 : j - A.length = 0 := by
              have := (List.getElem?_eq_some_iff.1 hp).1
              simp at this
              omega
            rw [hj0] at hp
            simp only [List.getElem?_cons_zero, Option.some.injEq] at hp
            subst hp
            have e1 := hr (g.ands.getD (i - (1 + g.inn.length + g.regs.length)) (0, 0)).1
            have e2 := hr (g.ands.getD (i - (1 + g.inn.length + g.regs.length)) (0, 0)).2
            simp only
            omega
      · refine ⟨by simp only; omega, fun x hx => ?_, h3⟩
        simp only [List.mem_append, List.mem_singleton] at hx ⊢
        rcases hx with hx | rfl
        · exact h2 x hx
        · omega
theorem cleanL_ok {g : LGraph} (hg : GraphOk g) : GraphOk (cleanL g) := by
  obtain ⟨h1, h2, h3⟩ := cleanN_range g (coneV g (rootsG g)) (nodesN g)
  have := hg.small.ands
  exact movedG_ok hg _ _ (by unfold cleanG; unfold nodesN at h1 ⊢; omega) h3 h2
theorem cleanL_less (g : LGraph) : (cleanL g).ands.length ≤ g.ands.length := by
  obtain ⟨h1, h2, h3⟩ := cleanN_range g (coneV g (rootsG g)) (nodesN g)
  show (cleanG g).1.length ≤ _
  unfold cleanG
  unfold nodesN at h1 ⊢
  omega
section
variable {g : LGraph} (hg : GraphOk g) {inn st : List Int} (h1 : inn.length = g.inn.length) (h2 : st.length = g.regs.length)
include hg h1 h2
theorem clean_sim : ∀ i : Nat, i ≤ nodesN g → ∀ k, k < i → keptN g k → lb (valsA (cleanN g (coneV g (rootsG g)) i).1 ([0] ++ inn ++ st)) ((cleanN g (coneV g (rootsG g)) i).2.1.getD k 0) = bit0 ((graphVals g inn st).getD k 0)
  | 0, _, k, h, _ => absurd h (by omega)
  | i + 1, hi, k, hk, hkept => by
    have ih := clean_sim i (by omega)
    obtain ⟨a1, a2, a3⟩ := cleanN_range g (coneV g (rootsG g)) i
    obtain ⟨b1, b2, b3⟩ := cleanN_len g (coneV g (rootsG g)) i
    rw [cleanN]
    generalize cleanN g (coneV g (rootsG g)) i = C at ih a1 a2 a3 b1 b2 b3
    obtain ⟨A, T, P⟩ := C
    simp only at ih a1 a2 a3 b1 b2 b3
    have hbl : ([0] ++ inn ++ st).length = 1 + g.inn.length + g.regs.length := by simp; omega
    have hw : (valsA A ([0] ++ inn ++ st)).length = 1 + g.inn.length + g.regs.length + A.length := by rw [valsA_len, hbl]
    unfold nodesN at hi
    unfold cleanStep
    split
    · rename_i hF
      simp only
      by_cases hki : k < i
      · rw [getD_left (by omega)]
        exact ih k hki hkept
      · have : k = i := by omega
        subst this
        have e : (T ++ [2 * (k : Int)]).getD k 0 = 2 * (k : Int) := by rw [← b2]; exact getD_end T _
        rw [e, lb_even, valsA_pre _ _ _ (by omega), graphVals, valsA_pre _ _ _ (by omega)]
    · rename_i hF
      split
      · rename_i hnd
        simp only
        rw [valsA_snoc]
        by_cases hki : k < i
        · rw [getD_left (by omega)]
          have hx : T.getD k 0 ∈ T := by
            rw [List.getD_eq_getElem?_getD, List.getElem?_eq_getElem (by omega)]
            exact List.getElem_mem _
          have := a2 _ hx
          rw [lb_app _ _ _ this.1 (by rw [hw]; omega)]
          exact ih k hki hkept
        · have hk2 : k = i := by omega
          subst hk2
          have e : (T ++ [2 * (1 + (g.inn.length : Int) + g.regs.length + A.length)]).getD k 0 = 2 * ((valsA A ([0] ++ inn ++ st)).length : Int) := by
            rw [← b2, getD_end, hw]
            omega
          rw [e, lb_last]
          obtain ⟨j, hj⟩ : ∃ j, k = 1 + g.inn.length + g.regs.length + j := ⟨k - (1 + g.inn.length + g.regs.length), by omega⟩
          obtain ⟨p, hp, _, _⟩ := node_at g.ands j (by omega)
          obtain ⟨⟨p1, p2⟩, p3, p4⟩ := hg.ands j p hp
          have hgd : g.ands.getD (k - (1 + g.inn.length + g.regs.length)) (0, 0) = p := by rw [show k - (1 + g.inn.length + g.regs.length) = j by omega]; simp [hp]
          rw [hgd]
          have hcl := cone_closed hg j p hp (by rw [← hj]; exact hnd)
          have hT : ∀ q : Nat, 0 ≤ T.getD q 0 := fun q => by
            rw [List.getD_eq_getElem?_getD]
            cases hq : T[q]? with
            | none => simp
            | some x => exact (a2 x (List.mem_of_getElem? hq)).1
          rw [lb_at p.1 (hT _) (ih _ (by omega) (.inr hcl.1)), lb_at p.2 (hT _) (ih _ (by omega) (.inr hcl.2)), hj]
          exact (node_lb hg h1 h2 j p hp).symm
      · rename_i hnd
        simp only
        by_cases hki : k < i
        · rw [getD_left (by omega)]
          exact ih k hki hkept
        · have : k = i := by omega
          subst this
          rcases hkept with h | h
          · exact absurd h hF
          · exact absurd h hnd
end
theorem cleanL_run {g : LGraph} (hg : GraphOk g) (tr : List (List Bool)) (hr : ∀ r ∈ tr, r.length = g.inn.length) : runI (cleanL g) tr = runI g tr := by
  refine runI_moved g _ _ (fun inn st h1 h2 l hl => ?_) tr hr
  have hroot : l ∈ rootsG g := by
    simp only [rootsG, List.mem_append, List.mem_map]
    rcases hl with h | ⟨r, h, rfl⟩
    · exact .inl h
    · exact .inr ⟨r, h, rfl⟩
  obtain ⟨r1, r2⟩ := roots_in hg l hroot
  have hs := clean_sim hg h1 h2 (nodesN g) (Nat.le_refl _) (l / 2).toNat (by unfold nodesN; omega) (.inr (cone_root hg l hroot))
  obtain ⟨a1, a2, a3⟩ := cleanN_range g (coneV g (rootsG g)) (nodesN g)
  refine lb_at l ?_ hs
  show 0 ≤ (cleanN g (coneV g (rootsG g)) (nodesN g)).2.1.getD _ 0
  rw [List.getD_eq_getElem?_getD]
  cases hq : (cleanN g (coneV g (rootsG g)) (nodesN g)).2.1[(l / 2).toNat]? with
  | none => simp
  | some x => exact (a2 x (List.mem_of_getElem? hq)).1
end Go.Proofs.YtdgpmopcmacicaaDoorPi

/- Plain law: Strash of graphs keeps what a graph shows; done again Clean and Strash change nothing. -/
set_option linter.unusedVariables false
set_option linter.unusedSimpArgs false
namespace Go.Proofs.YtdgpmopcmacicaaDoorPi

section
variable {g : LGraph} {inn st : List Int} (h1 : inn.length = g.inn.length) (h2 : st.length = g.regs.length)
include h1 h2
end
end Go.Proofs.YtdgpmopcmacicaaDoorPi

/- Plain law: a table has its values over any literals. -/
set_option linter.unusedVariables false
set_option linter.unusedSimpArgs false
namespace Go.Proofs.YtdgpmopcmacicaaDoorPi

abbrev vl (base : List Int) (m : LMk) (l : Int) : Bool := lb (valsA m.ands base) l
section
variable {g : LGraph} {inn st : List Int} (h1 : inn.length = g.inn.length) (h2 : st.length = g.regs.length)
include h1 h2
end
section
variable {g : LGraph} {inn st : List Int} (h1 : inn.length = g.inn.length) (h2 : st.length = g.regs.length)
include h1 h2
end
end Go.Proofs.YtdgpmopcmacicaaDoorPi

/- Plain law: what a graph shows, by the bits of its nodes; runs of two graphs whose states are related. -/
set_option linter.unusedVariables false
set_option linter.unusedSimpArgs false
namespace Go.Proofs.YtdgpmopcmacicaaDoorPi
/-- A literal's bit. -/
def lbit (b : Nat → Bool) (l : Int) : Bool := if l % 2 = 1 then !b (l / 2).toNat else b (l / 2).toNat
theorem lb_lbit (v : List Int) (l : Int) : lb v l = lbit (fun k => bit0 (v.getD k 0)) l := lb_def v l
theorem lbit_congr {b b' : Nat → Bool} {n : Nat} (h : ∀ k, k < n → b k = b' k) (l : Int) (l0 : 0 ≤ l) (l1 : l < 2 * (n : Int)) : lbit b l = lbit b' l := by
  unfold lbit
  rw [h _ (by omega)]
/-- The bits of the nodes are what the inputs and the state make of them. -/
structure Sat (g : LGraph) (r s : List Bool) (b : Nat → Bool) : Prop where
  zero : b 0 = false
  inn : ∀ i, i < g.inn.length → b (1 + i) = r.getD i false
  regs : ∀ k, k < g.regs.length → b (1 + g.inn.length + k) = s.getD k false
  ands : ∀ (j : Nat) (p : Int × Int), g.ands[j]? = some p → b (1 + g.inn.length + g.regs.length + j) = (lbit b p.1 && lbit b p.2)
theorem sat_uniq {g : LGraph} (hg : GraphOk g) {r s : List Bool} {b b' : Nat → Bool} (h : Sat g r s b) (h' : Sat g r s b') : ∀ k, k < 1 + g.inn.length + g.regs.length + g.ands.length → b k = b' k := by
  intro k
  induction k using Nat.strongRecOn with
  | _ k ih =>
    intro hk
    by_cases c0 : k = 0
    · subst c0
      rw [h.zero, h'.zero]
    by_cases c1 : k < 1 + g.inn.length
    · obtain ⟨i, rfl⟩ : ∃ i, k = 1 + i := ⟨k - 1, by omega⟩
      rw [h.inn i (by omega), h'.inn i (by omega)]
    by_cases c2 : k < 1 + g.inn.length + g.regs.length
    · obtain ⟨i, rfl⟩ : ∃ i, k = 1 + g.inn.length + i := ⟨k - (1 + g.inn.length), by omega⟩
      rw [h.regs i (by omega), h'.regs i (by omega)]
    · obtain ⟨j, rfl⟩ : ∃ j, k = 1 + g.inn.length + g.regs.length + j := ⟨k - (1 + g.inn.length + g.regs.length), by omega⟩
      obtain ⟨p, hp, _, _⟩ := node_at g.ands j (by omega)
      obtain ⟨⟨p0, p1⟩, p2, p3⟩ := hg.ands j p hp
      rw [h.ands j p hp, h'.ands j p hp, lbit_congr (n := 1 + g.inn.length + g.regs.length + j) (fun q hq => ih q hq (by omega)) p.1 p0 (by omega), lbit_congr (n := 1 + g.inn.length + g.regs.length + j) (fun q hq => ih q hq (by omega)) p.2 p2 (by omega)]
abbrev bitsG (g : LGraph) (r s : List Bool) : Nat → Bool := fun k => bit0 ((graphVals g (lanes0 r) (lanes0 s)).getD k 0)
theorem sat_bits {g : LGraph} (hg : GraphOk g) {r s : List Bool} (h1 : r.length = g.inn.length) (h2 : s.length = g.regs.length) : Sat g r s (bitsG g r s) := by
  have hb : ([0] ++ lanes0 r ++ lanes0 s).length = 1 + g.inn.length + g.regs.length := by simp; omega
  have pre : ∀ k, k < 1 + g.inn.length + g.regs.length → bitsG g r s k = bit0 (([0] ++ lanes0 r ++ lanes0 s).getD k 0) := fun k hk => by
    show bit0 ((graphVals g (lanes0 r) (lanes0 s)).getD k 0) = _
    rw [graphVals, valsA_pre _ _ _ (by omega)]
  have lane : ∀ (t : List Bool) i, bit0 ((lanes0 t).getD i 0) = t.getD i false := fun t i => by
    have h := (lane_same0 (lanes0 t)).2 i
    simp only [List.getD_eq_getElem?_getD, List.getElem?_map]
    cases t[i]? with
    | none => rfl
    | some x => cases x <;> rfl
  refine ⟨?_, fun i hi => ?_, fun k hk => ?_, fun j p hp => ?_⟩
  · rw [pre 0 (by omega)]
    show bit0 0 = false
    decide
  · rw [pre _ (by omega), ← lane r i]
    congr 1
    simp only [List.getD_eq_getElem?_getD]
    rw [List.append_assoc, List.getElem?_append_right (by simp), List.getElem?_append_left (by simp; omega)]
    simp
  · rw [pre _ (by omega), ← lane s k]
    congr 1
    simp only [List.getD_eq_getElem?_getD]
    rw [List.getElem?_append_right (by simp; omega)]
    simp only [List.length_append, List.length_cons, List.length_nil, List.length_map]
    rw [show 1 + g.inn.length + k - (0 + 1 + r.length) = k by omega]
  · have := node_lb hg (inn := lanes0 r) (st := lanes0 s) (by simp [h1]) (by simp [h2]) j p hp
    rw [← lb_lbit, ← lb_lbit]
    exact this
theorem runG_sim {g h : LGraph} (hg : GraphOk g) (hh : GraphOk h) (hin : h.inn.length = g.inn.length) (Rel : List Bool → List Bool → Prop)
    (step : ∀ r s s', r.length = g.inn.length → s.length = g.regs.length → s'.length = h.regs.length → Rel s s' → ∀ b, Sat g r s b → ∃ b', Sat h r s' b' ∧ h.outs.map (lbit b') = g.outs.map (lbit b) ∧ Rel (g.regs.map fun x => lbit b x.next) (h.regs.map fun x => lbit b' x.next)) :
    ∀ (tr : List (List Bool)) (s s' : List Bool), (∀ r ∈ tr, r.length = g.inn.length) → s.length = g.regs.length → s'.length = h.regs.length → Rel s s' → runG h (lanes0 s') tr = runG g (lanes0 s) tr
  | [], _, _, _, _, _, _ => rfl
  | r :: t, s, s', hr, hs, hs', hR => by
    have hr0 := hr r (by simp)
    have hb := sat_bits hg hr0 hs
    obtain ⟨b', h1, h2, h3⟩ := step r s s' hr0 hs hs' hR _ hb
    have hb' := sat_bits hh (r := r) (s := s') (by omega) hs'
    have hu := sat_uniq hh h1 hb'
    have eo : ∀ (g : LGraph) (v : List Int), laneB (outsG g v) = g.outs.map (lb v) := fun g v => by
      rw [laneB_bit0]
      simp only [outsG, List.map_map]
      rfl
    have en : ∀ (g : LGraph) (v : List Int), laneB (nextsG g v) = g.regs.map fun x => lb v x.next := fun g v => by
      rw [laneB_bit0]
      simp only [nextsG, List.map_map]
      rfl
    have lo : h.outs.map (lb (graphVals h (lanes0 r) (lanes0 s'))) = h.outs.map (lbit b') := List.map_congr_left fun x hx => by
      have := hh.outs x hx
      rw [lb_lbit]
      exact (lbit_congr hu x this.1 (by omega)).symm
    have ln : (h.regs.map fun x => lb (graphVals h (lanes0 r) (lanes0 s')) x.next) = h.regs.map fun x => lbit b' x.next := List.map_congr_left fun x hx => by
      have := hh.regs x hx
      rw [lb_lbit]
      exact (lbit_congr hu x.next this.1 (by omega)).symm
    simp only [runG]
    rw [eo, eo, lo, h2, runG_lane h t, runG_lane g t (nextsG g _), en, en, ln, runG_sim hg hh hin Rel step t _ _ (fun x hx => hr x (by simp [hx])) (by simp) (by simp) h3]
    have elb : lb (graphVals g (lanes0 r) (lanes0 s)) = lbit (bitsG g r s) := funext fun l => lb_lbit _ l
    simp only [elb]
theorem runI_sim {g h : LGraph} (hg : GraphOk g) (hh : GraphOk h) (hin : h.inn.length = g.inn.length) (Rel : List Bool → List Bool → Prop) (init : Rel (initG g) (initG h))
    (step : ∀ r s s', r.length = g.inn.length → s.length = g.regs.length → s'.length = h.regs.length → Rel s s' → ∀ b, Sat g r s b → ∃ b', Sat h r s' b' ∧ h.outs.map (lbit b') = g.outs.map (lbit b) ∧ Rel (g.regs.map fun x => lbit b x.next) (h.regs.map fun x => lbit b' x.next))
    (tr : List (List Bool)) (hr : ∀ r ∈ tr, r.length = g.inn.length) : runI h tr = runI g tr :=
  runG_sim hg hh hin Rel step tr _ _ hr (by simp) (by simp) init
end Go.Proofs.YtdgpmopcmacicaaDoorPi

/- The walks of small numbers as text, of the closures of insert and swap, of delay, of Copy with rows of the caller's. -/
set_option linter.unusedVariables false
set_option linter.unusedSimpArgs false
set_option maxRecDepth 100000
namespace Go.Proofs.YtdgpmopcmacicaaDoorPi
set_option maxHeartbeats 4000000
section
variable {α : Type} (f : α → α) (l : List α)
/-- The first i elements are changed. -/
def stpL (i : Nat) : List α := (l.take i).map f ++ l.drop i
theorem stpL_zero : stpL f l 0 = l := by simp [stpL]
theorem stpL_all : stpL f l l.length = l.map f := by simp [stpL]
theorem stpL_len (i : Nat) : (stpL f l i).length = l.length := by simp [stpL]; omega
theorem stpL_get (i : Nat) (x : α) (h : l[i]? = some x) : (stpL f l i)[i]? = some x := by
  have hi := (List.getElem?_eq_some_iff.1 h).1
  unfold stpL
  rw [List.getElem?_append_right (by simp; omega)]
  simp only [List.length_map, List.length_take, List.getElem?_drop]
  rw [show i + (i - min i l.length) = i by omega]
  exact h
theorem stpL_set (i : Nat) (x : α) (h : l[i]? = some x) : (stpL f l i).set i (f x) = stpL f l (i + 1) := by
  have hi := (List.getElem?_eq_some_iff.1 h).1
  unfold stpL
  rw [List.set_append_right _ _ (by simp; omega)]
  simp only [List.length_map, List.length_take]
  rw [show i - min i l.length = 0 by omega, List.take_add_one, h]
  obtain ⟨hi2, e⟩ := List.getElem?_eq_some_iff.1 h
  have e3 : (l.drop i).set 0 (f x) = f x :: l.drop (i + 1) := by rw [List.drop_eq_getElem_cons hi, List.set_cons_zero]
  rw [e3]
  simp
end
/-- The text of a number below 100. -/
def itoaN (k : Nat) : ByteArray := if k < 10 then ⟨#[48 + k.toUInt8]⟩ else ⟨#[48 + (k / 10).toUInt8, 48 + (k % 10).toUInt8]⟩
def toI (f l : Int) : Int := if f ≤ l / 2 then l + 2 else l
/-- A literal, inverted as another is. -/
def xl (a p : Int) : Int := if p % 2 = 1 then flipL a else a
def toS (node l x : Int) : Int := if x / 2 = node then xl l x else x
theorem xor_xl (a p : Int) (h0 : 0 ≤ a) (h1 : a ≤ 1000000000) : bits .xor .i64 a (p % 2) = xl a p := by
  unfold xl
  by_cases h2 : p % 2 = 1
  · rw [if_pos h2, h2, xor_one _ h0 h1]
  · rw [if_neg h2, show p % 2 = 0 by omega, xor_zero _ h0 h1]
theorem insT_ok (f l : Int) (h0 : 0 ≤ l) (h1 : l ≤ 1000000) (up : Frs) (k : Nat) (hk : fget up 0 k = some (.box [.i f])) : ACalls Tryd.prog 46 [.i l, .ptr 0 k 0] up fun v u => v = .i (toI f l) ∧ u = up := by
  have hd := tdiv2 l h0 (by omega)
  have wl : IntKind.i64.wrap (l + 2) = l + 2 := wrap64 (by omega)
  refine ACalls.code Tryd.func46 rfl 11 rfl (by simp) [.tmp 3] rfl fun Q hQ => ?_
  simp only [ups, PV.up, argEnv]
  have ft := And.intro ty_3 (And.intro ty_4 (And.intro ty_51 trivial))
  refine Run.seq ?_
  have fx := And.intro (@ge_iff_le Int _) (And.intro wl (And.intro hd (And.intro hk ft)))
  refine Run.go ?_
  refine End.kp [0, 1] ?_
  refine Run.seq ?_
  refine Run.seq ?_
  refine Run.go ?_
  refine End.kp [0, 7] ?_
  refine Run.cond _ rfl (fun hb => ?_) (fun hb => ?_)
  · have hb2 := of_decide_eq_true hb
    have ht : toI f l = l + 2 := if_pos hb2
    refine Run.seq ?_
    have fx := And.intro (@ge_iff_le Int _) (And.intro wl (And.intro hd (And.intro hk ft)))
    refine Run.go ?_
    refine End.kp [3] ?_
    refine Run.ret (hQ _ _ ⟨.inr rfl, _, rfl, _, rfl, ?_⟩)
    exact ⟨by rw [ht], rfl⟩
  · have hb2 := of_decide_eq_false hb
    have ht : toI f l = l := if_neg hb2
    refine Run.skip ?_
    refine End.kp [0] ?_
    refine Run.seq ?_
    have fx := And.intro (@ge_iff_le Int _) (And.intro wl (And.intro hd (And.intro hk ft)))
    refine Run.go ?_
    refine End.kp [3] ?_
    refine Run.ret (hQ _ _ ⟨.inr rfl, _, rfl, _, rfl, ?_⟩)
    exact ⟨by rw [ht], rfl⟩
theorem swT_ok (node l x : Int) (h0 : 0 ≤ x) (h1 : x ≤ 1000000) (l0 : 0 ≤ l) (l1 : l ≤ 1000000) (up : Frs) (k q : Nat) (hk : fget up 0 k = some (.box [.i node])) (hq : fget up 0 q = some (.box [.i l])) : ACalls Tryd.prog 51 [.i x, .ptr 0 k 0, .ptr 0 q 0] up fun v u => v = .i (toS node l x) ∧ u = up := by
  have hd := tdiv2 x h0 (by omega)
  have hm : x.tmod 2 = x % 2 := tmod2 x h0
  have wm : IntKind.i64.wrap (x % 2) = x % 2 := wrap64 (by omega)
  have hx := xor_xl l x l0 (by omega)
  refine ACalls.code Tryd.func51 rfl 14 rfl (by simp) [.tmp 4] rfl fun Q hQ => ?_
  simp only [ups, PV.up, argEnv]
  have ft := And.intro ty_3 (And.intro ty_4 (And.intro ty_51 trivial))
  refine Run.seq ?_
  have fx := And.intro hx (And.intro wm (And.intro hm (And.intro hd (And.intro hq (And.intro hk ft)))))
  refine Run.go ?_
  refine End.kp [0, 1, 2] ?_
  refine Run.seq ?_
  refine Run.seq ?_
  refine Run.go ?_
  refine End.kp [0, 2, 8] ?_
  refine Run.cond _ rfl (fun hb => ?_) (fun hb => ?_)
  · have hb2 : x / 2 = node := by simpa using hb
    have ht : toS node l x = xl l x := if_pos hb2
    refine Run.seq ?_
    have fx := And.intro hx (And.intro wm (And.intro hm (And.intro hd (And.intro hq (And.intro hk ft)))))
    refine Run.go ?_
    refine End.kp [4] ?_
    refine Run.ret (hQ _ _ ⟨.inr rfl, _, rfl, _, rfl, ?_⟩)
    exact ⟨by rw [ht], rfl⟩
  · have hb2 : ¬ (x / 2 = node) := by simpa using hb
    have ht : toS node l x = x := if_neg hb2
    refine Run.skip ?_
    refine End.kp [0] ?_
    refine Run.seq ?_
    have fx := And.intro hx (And.intro wm (And.intro hm (And.intro hd (And.intro hq (And.intro hk ft)))))
    refine Run.go ?_
    refine End.kp [4] ?_
    refine Run.ret (hQ _ _ ⟨.inr rfl, _, rfl, _, rfl, ?_⟩)
    exact ⟨by rw [ht], rfl⟩
theorem noF_ok (k : Int) (up : Frs) : ACalls Tryd.prog 52 [.i k] up fun v u => v = .im (.bool false) ∧ u = up := by
  refine ACalls.code Tryd.func52 rfl 3 rfl (by simp) [.tmp 2] rfl fun Q hQ => ?_
  simp only [ups, PV.up, argEnv]
  have ft := And.intro ty_4 trivial
  refine Run.seq ?_
  have fx := ft
  refine Run.go ?_
  refine End.kp [] ?_
  refine Run.seq ?_
  refine Run.go ?_
  refine End.kp [2] ?_
  refine Run.ret (hQ _ _ ⟨.inr rfl, _, rfl, _, rfl, ?_⟩)
  exact ⟨rfl, rfl⟩
/-- The literal one cycle before, and the initial value. -/
def delayG (g : LGraph) (l : Int) : Int × Bool × Bool :=
  if l < 2 then (l, l == 1, true)
  else if l / 2 - 1 - (g.inn.length : Int) < 0 then (0, false, false)
  else match g.regs[(l / 2 - 1 - (g.inn.length : Int)).toNat]? with
    | some r => (xl r.next l, r.init != (l % 2 == 1), true)
    | none => (0, false, false)
abbrev delayPV (g : LGraph) (l : Int) : PV := .tup [.i (delayG g l).1, .im (.bool (delayG g l).2.1), .im (.bool (delayG g l).2.2)]
theorem delay_ok (g : LGraph) (hg : GraphOk g) (l : Int) (h0 : 0 ≤ l) (h1 : l ≤ 1000000) (up : Frs) : ACalls Tryd.prog 30 [g.pv, .i l] up fun v u => v = delayPV g l ∧ u = up := by
  obtain ⟨z1, z2, z3, z4, z5⟩ := hg.small
  have hd := tdiv2 l h0 (by omega)
  have hm : l.tmod 2 = l % 2 := tmod2 l h0
  have wm : IntKind.i64.wrap (l % 2) = l % 2 := wrap64 (by omega)
  have w1 : IntKind.i64.wrap (l / 2 - 1) = l / 2 - 1 := wrap64 (by omega)
  have w2 : IntKind.i64.wrap (l / 2 - 1 - (g.inn.length : Int)) = l / 2 - 1 - (g.inn.length : Int) := wrap64 (by omega)
  refine ACalls.code Tryd.func30 rfl 50 rfl (by simp) [.tmp 4, .tmp 5, .tmp 6] rfl fun Q hQ => ?_
  simp only [ups, PV.up, argEnv]
  have ft := And.intro ty_2 (And.intro ty_3 (And.intro ty_4 (And.intro ty_9 (And.intro ty_26 (And.intro ty_27 (And.intro ty_31 (And.intro ty_51 (And.intro ty_56 trivial))))))))
  refine Run.seq ?_
  have fx := And.intro (@ge_iff_le Int _) (And.intro w2 (And.intro w1 (And.intro wm (And.intro hm (And.intro hd (And.intro rim_len (And.intro strs_len ft)))))))
  refine Run.go ?_
  refine End.kp [1, 2] ?_
  refine Run.seq ?_
  refine Run.go ?_
  refine End.kp [1, 2, 7] ?_
  refine Run.seq ?_
  refine Run.block ?_
  refine Run.seq ?_
  refine Run.go ?_
  refine End.kp [1, 2, 7, 15] ?_
  refine Run.cond _ rfl (fun hb => ?_) (fun hb => ?_)
  · have hb2 := of_decide_eq_true hb
    have ht : delayG g l = (l, l == 1, true) := if_pos hb2
    refine Run.seq ?_
    have fx := And.intro (@ge_iff_le Int _) (And.intro w2 (And.intro w1 (And.intro wm (And.intro hm (And.intro hd (And.intro rim_len (And.intro strs_len ft)))))))
    refine Run.go ?_
    refine End.kp [4, 5, 6] ?_
    refine Run.ret (hQ _ _ ⟨.inr rfl, _, rfl, _, rfl, ?_⟩)
    exact ⟨by rw [delayPV, ht], rfl⟩
  · have hb2 := of_decide_eq_false hb
    refine Run.seq ?_
    rcases Bool.eq_false_or_eq_true (decide (l / 2 - 1 - (g.inn.length : Int) < 0)) with hs4 | hs4
    · skip
      have fx := And.intro hs4 (And.intro (@ge_iff_le Int _) (And.intro w2 (And.intro w1 (And.intro wm (And.intro hm (And.intro hd (And.intro rim_len (And.intro strs_len ft))))))))
      refine Run.go ?_
      refine End.kp [1, 2, 7, 21] ?_
      refine Run.cond _ rfl (fun hb => ?_) (fun hb => ?_)
      · have hb3 := of_decide_eq_true hs4
        have ht : delayG g l = (0, false, false) := by rw [delayG, if_neg hb2, if_pos hb3]
        refine Run.seq ?_
        have fx := And.intro hs4 (And.intro (@ge_iff_le Int _) (And.intro w2 (And.intro w1 (And.intro wm (And.intro hm (And.intro hd (And.intro rim_len (And.intro strs_len ft))))))))
        refine Run.go ?_
        refine End.kp [4, 5, 6] ?_
        refine Run.ret (hQ _ _ ⟨.inr rfl, _, rfl, _, rfl, ?_⟩)
        exact ⟨by rw [delayPV, ht], rfl⟩
      · have hb9 := hb
        simp at hb
    · skip
      have fx := And.intro hs4 (And.intro (@ge_iff_le Int _) (And.intro w2 (And.intro w1 (And.intro wm (And.intro hm (And.intro hd (And.intro rim_len (And.intro strs_len ft))))))))
      refine Run.go ?_
      refine End.kp [1, 2, 7, 21] ?_
      refine Run.cond _ rfl (fun hb => ?_) (fun hb => ?_)
      · have hb3 := of_decide_eq_false hs4
        have hb4 := of_decide_eq_true hb
        have ht : delayG g l = (0, false, false) := by rw [delayG, if_neg hb2, if_neg hb3, List.getElem?_eq_none (by omega)]
        refine Run.seq ?_
        have fx := And.intro hs4 (And.intro (@ge_iff_le Int _) (And.intro w2 (And.intro w1 (And.intro wm (And.intro hm (And.intro hd (And.intro rim_len (And.intro strs_len ft))))))))
        refine Run.go ?_
        refine End.kp [4, 5, 6] ?_
        refine Run.ret (hQ _ _ ⟨.inr rfl, _, rfl, _, rfl, ?_⟩)
        exact ⟨by rw [delayPV, ht], rfl⟩
      · have hb3 := of_decide_eq_false hs4
        have hb4 := of_decide_eq_false hb
        obtain ⟨r, hr, hrm, hgt⟩ := reg_at g.regs (l / 2 - 1 - (g.inn.length : Int)).toNat (by omega)
        have i0 : 0 ≤ l / 2 - 1 - (g.inn.length : Int) := by omega
        have i1 : l / 2 - 1 - (g.inn.length : Int) < (g.regs.length : Int) := by omega
        have hrx := hg.regs r hrm
        have hx := xor_xl r.next l hrx.1 (by omega)
        have ht : delayG g l = (xl r.next l, r.init != (l % 2 == 1), true) := by rw [delayG, if_neg hb2, if_neg hb3, hr]
        refine Run.skip ?_
        refine End.blk ?_
        refine End.kp [1, 2, 7] ?_
        refine Run.seq ?_
        have fx := And.intro hx (And.intro i1 (And.intro i0 (And.intro hgt (And.intro hs4 (And.intro (@ge_iff_le Int _) (And.intro w2 (And.intro w1 (And.intro wm (And.intro hm (And.intro hd (And.intro rim_len (And.intro strs_len ft))))))))))))
        refine Run.drawA fun K hK => ?_
        refine DOps.sim ?_
        refine DOps.nil (metAll_quiet rfl) (hK _ ?_); clear hK K
        refine End.kp [4, 5, 6] ?_
        refine Run.ret (hQ _ _ ⟨.inr rfl, _, rfl, _, rfl, ?_⟩)
        exact ⟨by rw [delayPV, ht]; rfl, rfl⟩
end Go.Proofs.YtdgpmopcmacicaaDoorPi

/- The walks of small numbers as text, of fresh. -/
set_option linter.unusedVariables false
set_option linter.unusedSimpArgs false
set_option maxRecDepth 100000
namespace Go.Proofs.YtdgpmopcmacicaaDoorPi
set_option maxHeartbeats 4000000
theorem ext_one {S : ByteArray} (h : (List.range 10).all (fun k => (S.extract k (k + 1)).data.toList == (itoaN k).data.toList) = true) (k : Nat) (hk : k < 10) : S.extract k (k + 1) = itoaN k := by
  have h1 := List.all_eq_true.1 h k (List.mem_range.2 hk)
  have h2 := eq_of_beq h1
  exact ByteArray.ext (Array.toList_inj.1 h2)
theorem ext_two {S : ByteArray} (h : (List.range 100).all (fun k => k < 10 || (S.extract (k * 2) (k * 2 + 2)).data.toList == (itoaN k).data.toList) = true) (k : Nat) (hk : k < 100) (h10 : ¬ k < 10) : S.extract (k * 2) (k * 2 + 2) = itoaN k := by
  have h1 := List.all_eq_true.1 h k (List.mem_range.2 hk)
  simp only [h10, decide_false, Bool.false_or] at h1
  have h2 := eq_of_beq h1
  exact ByteArray.ext (Array.toList_inj.1 h2)
theorem smallN_ok (k : Nat) (hk : k < 100) (up : Frs) : ACalls Tryd.prog 82 [.i k] up fun v u => v = .im (.str (itoaN k)) ∧ u = up := by
  have w1 : IntKind.i64.wrap ((k : Int) + 1) = (k : Int) + 1 := wrap64 (by omega)
  have w2 : IntKind.i64.wrap ((k : Int) * 2) = (k : Int) * 2 := wrap64 (by omega)
  have w3 : IntKind.i64.wrap ((k : Int) * 2 + 2) = (k : Int) * 2 + 2 := wrap64 (by omega)
  refine ACalls.code Tryd.func82 rfl 15 rfl (by simp) [.tmp 2] rfl fun Q hQ => ?_
  simp only [ups, PV.up, argEnv]
  have ft := And.intro ty_3 (And.intro ty_4 (And.intro ty_9 trivial))
  refine Run.seq ?_
  have fx := And.intro w3 (And.intro w2 (And.intro w1 ft))
  refine Run.go ?_
  refine End.kp [0] ?_
  refine Run.seq ?_
  refine Run.seq ?_
  refine Run.go ?_
  refine End.kp [0, 4] ?_
  refine Run.cond _ rfl (fun hb => ?_) (fun hb => ?_)
  · have hb2 := of_decide_eq_true hb
    refine Run.seq ?_
    have fx := And.intro w3 (And.intro w2 (And.intro w1 ft))
    refine Run.region rfl fun K hK => GOps.simK 3 ?_
    refine GOps.strSlice k (k + 1) (itoaN k) ?_ (Nat.le_trans (m := 10) (by omega) (by decide)) (ext_one (by decide +kernel) k (by omega)) (by omega) rfl (by rfl)
    refine GOps.sim ?_
    refine GOps.done (hK _ ?_); clear hK K
    refine End.kp [2] ?_
    refine Run.ret (hQ _ _ ⟨.inr rfl, _, rfl, _, rfl, ?_⟩)
    exact ⟨rfl, rfl⟩
  · have hb2 := of_decide_eq_false hb
    refine Run.skip ?_
    refine End.kp [0] ?_
    refine Run.seq ?_
    have fx := And.intro w3 (And.intro w2 (And.intro w1 ft))
    refine Run.region rfl fun K hK => GOps.simK 5 ?_
    refine GOps.strSlice (k * 2) (k * 2 + 2) (itoaN k) ?_ (Nat.le_trans (m := 200) (by omega) (by decide)) (ext_two (by decide +kernel) k hk (by omega)) (by omega) rfl (by rfl)
    refine GOps.sim ?_
    refine GOps.done (hK _ ?_); clear hK K
    refine End.kp [2] ?_
    refine Run.ret (hQ _ _ ⟨.inr rfl, _, rfl, _, rfl, ?_⟩)
    exact ⟨rfl, rfl⟩
theorem fmtN_ok (k : Nat) (hk : k < 100) (up : Frs) : ACalls Tryd.prog 78 [.i k, .i 10] up fun v u => v = .im (.str (itoaN k)) ∧ u = up := by
  have d1 : decide ((0 : Int) ≤ (k : Int)) = true := decide_eq_true (by omega)
  have d2 : decide ((k : Int) < 100) = true := decide_eq_true (by omega)
  refine ACalls.code Tryd.func78 rfl 54 rfl (by simp) [.tmp 4] rfl fun Q hQ => ?_
  simp only [ups, PV.up, argEnv]
  have ft := And.intro ty_2 (And.intro ty_3 (And.intro ty_4 (And.intro ty_5 (And.intro ty_9 (And.intro ty_126 (And.intro ty_131 (And.intro ty_140 trivial)))))))
  refine Run.seq ?_
  have fx := And.intro d2 (And.intro d1 ft)
  refine Run.go ?_
  refine End.kp [0, 1] ?_
  refine Run.seq ?_
  refine Run.seq ?_
  refine Run.go ?_
  refine End.kp [0, 1, 11] ?_
  refine Run.cond _ rfl (fun hb => ?_) (fun hb => ?_)
  · have hb2 := hb
    refine Run.seq ?_
    refine Run.seq ?_
    have fx := And.intro d2 (And.intro d1 ft)
    refine Run.go ?_
    refine End.kp [0, 17] ?_
    refine Run.cond _ rfl (fun hb => ?_) (fun hb => ?_)
    · have hb2 := hb
      refine Run.seq ?_
      have fx := And.intro d2 (And.intro d1 ft)
      refine Run.region rfl fun K hK => GOps.sim ?_
      refine GOps.call rfl rfl rfl rfl (by kernel_rfl) (ACalls.sim ?_)
      refine (smallN_ok k hk _).mono fun v u hv => ?_
      obtain ⟨rfl, rfl⟩ := hv
      refine ⟨_, _, rfl, GOps.sim ?_⟩
      refine GOps.done (hK _ ?_); clear hK K
      refine End.kp [4] ?_
      refine Run.ret (hQ _ _ ⟨.inr rfl, _, rfl, _, rfl, ?_⟩)
      exact ⟨rfl, rfl⟩
    · have hb2 := hb
      simp at hb
  · have hb2 := hb
    simp at hb
theorem itoaI_ok (k : Nat) (hk : k < 100) (up : Frs) : ACalls Tryd.prog 70 [.i k] up fun v u => v = .im (.str (itoaN k)) ∧ u = up := by
  refine ACalls.code Tryd.func70 rfl 5 rfl (by simp) [.tmp 2] rfl fun Q hQ => ?_
  simp only [ups, PV.up, argEnv]
  have ft := And.intro ty_2 (And.intro ty_3 (And.intro ty_9 trivial))
  refine Run.seq ?_
  have fx := ft
  refine Run.go ?_
  refine End.kp [0] ?_
  refine Run.seq ?_
  refine Run.region rfl fun K hK => GOps.sim ?_
  refine GOps.call rfl rfl rfl rfl (by kernel_rfl) (ACalls.sim ?_)
  refine (fmtN_ok k hk _).mono fun v u hv => ?_
  obtain ⟨rfl, rfl⟩ := hv
  refine ⟨_, _, rfl, GOps.sim ?_⟩
  refine GOps.done (hK _ ?_); clear hK K
  refine End.kp [2] ?_
  refine Run.ret (hQ _ _ ⟨.inr rfl, _, rfl, _, rfl, ?_⟩)
  exact ⟨rfl, rfl⟩
theorem itoa_ok (k : Nat) (hk : k < 100) (up : Frs) : ACalls Tryd.prog 48 [.i k] up fun v u => v = .im (.str (itoaN k)) ∧ u = up := by
  refine ACalls.code Tryd.func48 rfl 5 rfl (by simp) [.tmp 2] rfl fun Q hQ => ?_
  simp only [ups, PV.up, argEnv]
  have ft := And.intro ty_3 (And.intro ty_9 trivial)
  refine Run.seq ?_
  have fx := ft
  refine Run.go ?_
  refine End.kp [0] ?_
  refine Run.seq ?_
  refine Run.region rfl fun K hK => GOps.sim ?_
  refine GOps.call rfl rfl rfl rfl (by kernel_rfl) (ACalls.sim ?_)
  refine (itoaI_ok k hk _).mono fun v u hv => ?_
  obtain ⟨rfl, rfl⟩ := hv
  refine ⟨_, _, rfl, GOps.sim ?_⟩
  refine GOps.done (hK _ ?_); clear hK K
  refine End.kp [2] ?_
  refine Run.ret (hQ _ _ ⟨.inr rfl, _, rfl, _, rfl, ?_⟩)
  exact ⟨rfl, rfl⟩
abbrev nameK (k : Nat) : ByteArray := (⟨#[109, 111, 118, 101, 100, 46]⟩ : ByteArray) ++ itoaN k
def decN (s : ByteArray) : Nat := (s.data.toList.drop 6).foldl (fun a b => a * 10 + (b.toNat - 48)) 0
theorem decN_ok (k : Nat) (hk : k < 100) : decN (nameK k) = k := by
  have h : (List.range 100).all (fun k => decN (nameK k) == k) = true := by decide +kernel
  exact eq_of_beq (List.all_eq_true.1 h k (List.mem_range.2 hk))
theorem nameK_inj {i j : Nat} (hi : i < 100) (hj : j < 100) (h : nameK i = nameK j) : i = j := by
  rw [← decN_ok i hi, ← decN_ok j hj, h]
theorem nameK_ok (k : Nat) (hk : k < 100) : NameOk (nameK k) := by
  have h : (List.range 100).all (fun k => decide (1 ≤ (nameK k).size) && decide ((nameK k).size ≤ 128) && (nameK k).data.toList.all (fun b => decide (33 ≤ b.toNat) && decide (b.toNat ≤ 126))) = true := by decide +kernel
  have h1 := List.all_eq_true.1 h k (List.mem_range.2 hk)
  simp only [Bool.and_eq_true, decide_eq_true_eq, List.all_eq_true] at h1
  exact ⟨h1.1.1, h1.1.2, fun b hb => h1.2 b hb⟩
theorem pigeon {α : Type} [DecidableEq α] : ∀ (l m : List α), l.Nodup → (∀ x ∈ l, x ∈ m) → l.length ≤ m.length
  | [], m, _, _ => Nat.zero_le _
  | x :: l, m, hn, hs => by
    have hx := hs x List.mem_cons_self
    obtain ⟨hx2, hn2⟩ := List.nodup_cons.1 hn
    have := pigeon l (m.erase x) hn2 fun y hy => (List.mem_erase_of_ne (fun e => hx2 (by rw [← e]; exact hy))).2 (hs y (List.mem_cons_of_mem _ hy))
    rw [List.length_erase_of_mem hx] at this
    have hp := List.length_pos_of_mem hx
    simp only [List.length_cons]
    omega
theorem name_free (l : List ByteArray) (hl : l.length < 99) : ∃ k, k ≤ l.length ∧ nameK k ∉ l := by
  refine Classical.byContradiction fun hno => ?_
  have hall : ∀ k, k ≤ l.length → nameK k ∈ l := fun k hk => Classical.byContradiction fun h => hno ⟨k, hk, h⟩
  have hn : ((List.range (l.length + 1)).map nameK).Nodup := by
    unfold List.Nodup; rw [List.pairwise_map]
    refine List.Pairwise.imp_of_mem (R := (· ≠ ·)) (fun {a b} ha hb hne e => hne (nameK_inj ?_ ?_ e)) (List.nodup_range (n := l.length + 1))
    · have := List.mem_range.1 ha; omega
    · have := List.mem_range.1 hb; omega
  have := pigeon _ l hn (fun x hx => by
    obtain ⟨k, hk, rfl⟩ := List.mem_map.1 hx
    have := List.mem_range.1 hk
    exact hall k (by omega))
  simp only [List.length_map, List.length_range] at this
  omega
instance decMemB (v : ByteArray) (l : List ByteArray) : Decidable (v ∈ l) := decidable_of_iff (l.any (fun x => decide (v = x)) = true) (by simp)
/-- The least number, from k on, whose name is not among l. -/
def freshFrom (l : List ByteArray) : Nat → Nat → Nat
  | 0, k => k
  | f + 1, k => if nameK k ∈ l then freshFrom l f (k + 1) else k
theorem freshFrom_eq (l : List ByteArray) : ∀ (f k m : Nat), (∀ j, k ≤ j → j < m → nameK j ∈ l) → nameK m ∉ l → k ≤ m → m ≤ k + f → freshFrom l f k = m
  | 0, k, m, _, _, h1, h2 => by simp only [freshFrom]; omega
  | f + 1, k, m, hj, hm, h1, h2 => by
    simp only [freshFrom]
    by_cases e : k = m
    · subst e
      rw [if_neg hm]
    · rw [if_pos (hj k (Nat.le_refl _) (by omega))]
      exact freshFrom_eq l f (k + 1) m (fun j h3 h4 => hj j (by omega) h4) hm (by omega) (by omega)
abbrev namesG (g : LGraph) : List ByteArray := g.inn ++ g.regs.map LReg.name
def freshG (g : LGraph) : ByteArray := nameK (freshFrom (namesG g) (namesG g).length 0)
theorem least_free (l : List ByteArray) (m : Nat) (hm : nameK m ∉ l) : ∃ k, k ≤ m ∧ nameK k ∉ l ∧ ∀ j, j < k → nameK j ∈ l := by
  induction m using Nat.strongRecOn with
  | _ m ih =>
    by_cases h : ∃ j, j < m ∧ nameK j ∉ l
    · obtain ⟨j, hj, hn⟩ := h
      obtain ⟨k, h1, h2, h3⟩ := ih j hj hn
      exact ⟨k, by omega, h2, h3⟩
    · exact ⟨m, Nat.le_refl _, hm, fun j hj => Classical.byContradiction fun hn => h ⟨j, hj, hn⟩⟩
theorem freshG_at (g : LGraph) (hl : (namesG g).length < 99) : ∃ k, k ≤ (namesG g).length ∧ freshG g = nameK k ∧ nameK k ∉ namesG g ∧ ∀ j, j < k → nameK j ∈ namesG g := by
  obtain ⟨m, h1, h2⟩ := name_free (namesG g) hl
  obtain ⟨k, h3, h4, h5⟩ := least_free _ m h2
  exact ⟨k, by omega, by rw [freshG, freshFrom_eq _ _ 0 k (fun j _ hj => h5 j hj) h4 (by omega) (by omega)], h4, h5⟩
def entT (l : List ByteArray) : List (List Im × Im) := l.map fun s => ([.str s], .bool true)
theorem findT_none (s : ByteArray) : ∀ (l : List ByteArray) (i : Nat), s ∉ l → findIm Tryd.prog 9 (.str s) (entT l) i = some none
  | [], i, _ => rfl
  | x :: xs, i, h => by
    simp only [List.mem_cons, not_or] at h
    simp only [entT, List.map_cons, findIm, same_ne s x (fun e => h.1 e.symm)]
    exact findT_none s xs (i + 1) h.2
theorem findT_some (s : ByteArray) : ∀ (l : List ByteArray) (i : Nat), s ∈ l → ∃ k, findIm Tryd.prog 9 (.str s) (entT l) i = some (some (k, .bool true))
  | [], i, h => by simp at h
  | x :: xs, i, h => by
    have hss : sameIm Tryd.prog 9 (.str s) (.str s) = some true := by
      simp only [sameIm, ty_9, if_true, Option.some.injEq]
      exact (MapKept.bytes_beq s s).2 rfl
    by_cases e : x = s
    · subst e
      exact ⟨i, by simp only [entT, List.map_cons, findIm, hss]⟩
    · rcases List.mem_cons.1 h with h | h
      · exact absurd h.symm e
      · obtain ⟨k, h1⟩ := findT_some s xs (i + 1) h
        refine ⟨k, ?_⟩
        simp only [entT, List.map_cons, findIm, same_ne s x e]
        simpa only [entT] using h1
end Go.Proofs.YtdgpmopcmacicaaDoorPi

/- The walk of fresh. -/
set_option linter.unusedVariables false
set_option linter.unusedSimpArgs false
set_option maxRecDepth 100000
namespace Go.Proofs.YtdgpmopcmacicaaDoorPi
set_option maxHeartbeats 4000000
theorem gnms_new (g : LGraph) (hd : (namesG g).Nodup) (i : Nat) (r : LReg) (h : g.regs[i]? = some r) : r.name ∉ gnms g i := by
  obtain ⟨hi, rfl⟩ := List.getElem?_eq_some_iff.1 h
  have hs : namesG g = gnms g i ++ (g.regs.drop i).map LReg.name := by
    simp only [namesG, gnms, List.append_assoc]
    rw [← List.map_append, List.take_append_drop]
  rw [hs] at hd
  have h2 := (List.nodup_append.1 hd).2.2
  intro hm
  exact h2 _ hm _ (List.mem_map.2 ⟨g.regs[i], by rw [List.drop_eq_getElem_cons hi]; exact List.mem_cons_self, rfl⟩) rfl
theorem inn_new (g : LGraph) (hd : (namesG g).Nodup) : g.inn.Nodup := (List.nodup_append.1 hd).1
theorem itoaN_size (k : Nat) : (itoaN k).size ≤ 2 := by
  unfold itoaN
  split
  · exact (by decide : 1 ≤ 2)
  · exact (by decide : 2 ≤ 2)
theorem fresh_ok (g : LGraph) (hg : GraphOk g) (hl : (namesG g).length < 99) (up : Frs) : ACalls Tryd.prog 22 [g.pv] up fun v u => v = .im (.str (freshG g)) ∧ u = up := by
  obtain ⟨z1, z2, z3, z4, z5⟩ := hg.small
  have hnd : (namesG g).Nodup := hg.nodup
  have hin0 := inn_new g hnd
  obtain ⟨k0, k1, k2, k3, k4⟩ := freshG_at g hl
  rw [k2]
  refine ACalls.code Tryd.func22 rfl 42 rfl (by simp) [.tmp 2] rfl fun Q hQ => ?_
  simp only [ups, PV.up, argEnv]
  have ft := And.intro ty_2 (And.intro ty_3 (And.intro ty_4 (And.intro ty_9 (And.intro ty_26 (And.intro ty_27 (And.intro ty_31 (And.intro ty_56 (And.intro ty_97 trivial))))))))
  refine Run.seq ?_
  have fx := And.intro rim_len (And.intro strs_len ft)
  refine Run.go ?_
  refine End.kp [1] ?_
  refine Run.seq ?_
  refine Run.go ?_
  refine End.kp [1, 3] ?_
  refine Run.seq ?_
  refine Run.seq ?_
  refine Run.go ?_
  refine End.kp [1, 3, 12, 13, 14] ?_
  refine Run.block ?_
  refine Run.ghost (Ghost.form [(1, .ptr 0 0 0), (3, .map 0 1), (12, .im (.sl (strs g.inn))), (13, .i g.inn.length), (14, .i (0 : Nat))] 2 ⟨rfl, rfl, rfl, rfl, rfl, trivial⟩ rfl rfl) ?_
  refine Run.loop (fun m st => ∃ (i : Nat), m = g.inn.length - i ∧ i ≤ g.inn.length ∧ st = ⟨[(1, .ptr 0 0 0), (3, .map 0 1), (12, .im (.sl (strs g.inn))), (13, .i g.inn.length), (14, .i (i : Nat))], [.box [.im (.sl (strs g.inn)), .im (.sl (strs g.out)), .im (.sl (g.regs.map LReg.im)), .im (.sl (g.ands.map nd)), .im (.sl (ints g.outs))], .map (entT (g.inn.take i))], up⟩) g.inn.length ⟨0, rfl, by omega, rfl⟩ fun m st hI => ?_
  obtain ⟨i, rfl, hi, rfl⟩ := hI
  refine Run.seq ?_
  have fx := And.intro rim_len (And.intro strs_len ft)
  refine Run.go ?_
  refine End.kp [1, 3, 12, 13, 14, 15] ?_
  refine Run.seq ?_
  refine Run.cond _ rfl (fun hb => ?_) (fun hb => ?_)
  · have hb2 := of_decide_eq_true hb
    have hin : i < g.inn.length := by omega
    have wi := wsucc hin (by omega)
    have hgt := strs_get g.inn i hin
    have hno := nodup_take hin0 i hin
    have htk := take_snoc g.inn i ByteArray.empty hin
    generalize g.inn.getD i ByteArray.empty = s at hgt hno htk
    have hf1 := findT_none s (g.inn.take i) 0 hno
    refine Run.skip ?_
    refine End.kp [1, 3, 12, 13, 14] ?_
    refine Run.seq ?_
    refine Run.block ?_
    refine Run.seq ?_
    have fx := And.intro (@Int.toNat_natCast) (And.intro (@Int.natCast_nonneg) (And.intro hf1 (And.intro hgt (And.intro wi (And.intro rim_len (And.intro strs_len ft))))))
    refine Run.go ?_
    refine End.kp [1, 3, 5, 12, 13, 14] ?_
    refine Run.go ?_
    refine End.blk ?_
    refine End.kp [1, 3, 12, 13, 14] ?_
    refine Run.go ?_
    refine End.lp ?_
    refine ⟨g.inn.length - (i + 1), _, by omega, Ghost.form [(1, .ptr 0 0 0), (3, .map 0 1), (12, .im (.sl (strs g.inn))), (13, .i g.inn.length), (14, .i (i + 1 : Nat))] 2 ⟨rfl, rfl, rfl, rfl, rfl, trivial⟩ rfl rfl, i + 1, rfl, by omega, ?_⟩
    rw [htk]
    simp [entT, putIm]
  · have hb2 := of_decide_eq_false hb
    have hiN : i = g.inn.length := by omega
    subst hiN
    rw [List.take_length]
    refine Run.exit rfl ?_
    refine End.kp [1, 3] ?_
    refine Run.seq ?_
    refine Run.seq ?_
    have fx := And.intro rim_len (And.intro strs_len ft)
    refine Run.go ?_
    refine End.kp [3, 22, 23, 24] ?_
    refine Run.block ?_
    refine Run.ghost (Ghost.form [(3, .map 0 1), (22, .im (.sl (g.regs.map LReg.im))), (23, .i g.regs.length), (24, .i (0 : Nat))] 2 ⟨rfl, rfl, rfl, rfl, trivial⟩ rfl rfl) ?_
    refine Run.loop (fun m st => ∃ (i : Nat), m = g.regs.length - i ∧ i ≤ g.regs.length ∧ st = ⟨[(3, .map 0 1), (22, .im (.sl (g.regs.map LReg.im))), (23, .i g.regs.length), (24, .i (i : Nat))], [.box [.im (.sl (strs g.inn)), .im (.sl (strs g.out)), .im (.sl (g.regs.map LReg.im)), .im (.sl (g.ands.map nd)), .im (.sl (ints g.outs))], .map (entT (gnms g i))], up⟩) g.regs.length ⟨0, rfl, by omega, by simp [gnms]⟩ fun m st hI => ?_
    obtain ⟨i, rfl, hi, rfl⟩ := hI
    refine Run.seq ?_
    have fx := And.intro rim_len (And.intro strs_len ft)
    refine Run.go ?_
    refine End.kp [3, 22, 23, 24, 25] ?_
    refine Run.seq ?_
    refine Run.cond _ rfl (fun hb => ?_) (fun hb => ?_)
    · have hb2 := of_decide_eq_true hb
      have hin : i < g.regs.length := by omega
      have wi := wsucc hin (by omega)
      obtain ⟨r, hr, hrm, hgt⟩ := reg_at g.regs i hin
      have hno := gnms_new g hnd i r hr
      have hf1 := findT_none r.name (gnms g i) 0 hno
      refine Run.skip ?_
      refine End.kp [3, 22, 23, 24] ?_
      refine Run.seq ?_
      refine Run.block ?_
      refine Run.seq ?_
      have fx := And.intro (@Int.toNat_natCast) (And.intro (@Int.natCast_nonneg) (And.intro hf1 (And.intro hgt (And.intro wi (And.intro rim_len (And.intro strs_len ft))))))
      refine Run.go ?_
      refine End.kp [3, 7, 22, 23, 24] ?_
      refine Run.go ?_
      refine End.blk ?_
      refine End.kp [3, 22, 23, 24] ?_
      refine Run.go ?_
      refine End.lp ?_
      refine ⟨g.regs.length - (i + 1), _, by omega, Ghost.form [(3, .map 0 1), (22, .im (.sl (g.regs.map LReg.im))), (23, .i g.regs.length), (24, .i (i + 1 : Nat))] 2 ⟨rfl, rfl, rfl, rfl, trivial⟩ rfl rfl, i + 1, rfl, by omega, ?_⟩
      rw [gnms_next g i r hr]
      simp [entT, putIm]
    · have hb2 := of_decide_eq_false hb
      have hiN : i = g.regs.length := by omega
      subst hiN
      have hall : gnms g g.regs.length = namesG g := by simp [gnms, namesG]
      rw [hall]
      refine Run.exit rfl ?_
      refine End.kp [3] ?_
      refine Run.seq ?_
      have fx := And.intro rim_len (And.intro strs_len ft)
      refine Run.go ?_
      refine End.kp [3, 8] ?_
      refine Run.block ?_
      refine Run.ghost (Ghost.form [(3, .map 0 1), (8, .i (0 : Nat))] 2 ⟨rfl, rfl, trivial⟩ rfl rfl) ?_
      refine Run.loop (fun m st => ∃ (k : Nat), m = k0 - k ∧ k ≤ k0 ∧ st = ⟨[(3, .map 0 1), (8, .i (k : Nat))], [.box [.im (.sl (strs g.inn)), .im (.sl (strs g.out)), .im (.sl (g.regs.map LReg.im)), .im (.sl (g.ands.map nd)), .im (.sl (ints g.outs))], .map (entT (namesG g))], up⟩) k0 ⟨0, rfl, by omega, rfl⟩ fun m st hI => ?_
      obtain ⟨k, rfl, hk, rfl⟩ := hI
      have wk : IntKind.i64.wrap ((k : Int) + 1) = ((k + 1 : Nat) : Int) := by rw [wrap64 (by omega)]; rfl
      have hsz : (⟨#[109, 111, 118, 101, 100, 46]⟩ : ByteArray).size + (itoaN k).size ≤ 9223372036854775807 := Nat.le_trans (Nat.add_le_add (by decide : _ ≤ 6) (itoaN_size k)) (by decide)
      refine Run.seq ?_
      refine Run.block ?_
      refine Run.seq ?_
      have fx := And.intro hsz (And.intro wk (And.intro rim_len (And.intro strs_len ft)))
      refine Run.region rfl fun K hK => GOps.sim ?_
      refine GOps.call rfl rfl rfl rfl (by kernel_rfl) (ACalls.sim ?_)
      refine (itoa_ok k (by omega) _).mono fun v u hv => ?_
      obtain ⟨rfl, rfl⟩ := hv
      refine ⟨_, _, rfl, GOps.sim ?_⟩
      refine GOps.done (hK _ ?_); clear hK K
      refine End.kp [3, 8, 9] ?_
      refine Run.seq ?_
      rcases Bool.eq_false_or_eq_true (decide (k = k0)) with hs15 | hs15
      · skip
        have hkk := of_decide_eq_true hs15
        subst hkk
        have hf1 : findIm Tryd.prog 9 (.str ((⟨#[109, 111, 118, 101, 100, 46]⟩ : ByteArray) ++ itoaN k)) (entT (namesG g)) 0 = some none := findT_none (nameK k) (namesG g) 0 k3
        have fx := And.intro hf1 (And.intro hs15 (And.intro hsz (And.intro wk (And.intro rim_len (And.intro strs_len ft)))))
        refine Run.go ?_
        refine End.kp [3, 8, 9, 40] ?_
        refine Run.cond _ rfl (fun hb => ?_) (fun hb => ?_)
        · have hb2 := hb
          refine Run.seq ?_
          have fx := And.intro hf1 (And.intro hs15 (And.intro hsz (And.intro wk (And.intro rim_len (And.intro strs_len ft)))))
          refine Run.go ?_
          refine End.kp [2] ?_
          refine Run.ret (hQ _ _ ⟨.inr rfl, _, rfl, _, rfl, ?_⟩)
          exact ⟨rfl, rfl⟩
        · have hb2 := hb
          simp at hb
      · skip
        have hkk := of_decide_eq_false hs15
        have hmm := k4 k (by omega)
        obtain ⟨q, hf1'⟩ := findT_some (nameK k) (namesG g) 0 hmm
        have hf1 : findIm Tryd.prog 9 (.str ((⟨#[109, 111, 118, 101, 100, 46]⟩ : ByteArray) ++ itoaN k)) (entT (namesG g)) 0 = some (some (q, .bool true)) := hf1'
        have fx := And.intro hf1 (And.intro hs15 (And.intro hsz (And.intro wk (And.intro rim_len (And.intro strs_len ft)))))
        refine Run.go ?_
        refine End.kp [3, 8, 9, 40] ?_
        refine Run.cond _ rfl (fun hb => ?_) (fun hb => ?_)
        · have hb2 := hb
          simp at hb
        · have hb2 := hb
          refine Run.skip ?_
          refine End.blk ?_
          refine End.kp [3, 8] ?_
          have fx := And.intro hf1 (And.intro hs15 (And.intro hsz (And.intro wk (And.intro rim_len (And.intro strs_len ft)))))
          refine Run.go ?_
          refine End.lp ?_
          refine ⟨k0 - (k + 1), _, by omega, Ghost.form [(3, .map 0 1), (8, .i (k + 1 : Nat))] 2 ⟨rfl, rfl, trivial⟩ rfl rfl, k + 1, rfl, by omega, rfl⟩
end Go.Proofs.YtdgpmopcmacicaaDoorPi

/- The walks of Copy with three rows of the caller's, of insert. -/
set_option linter.unusedVariables false
set_option linter.unusedSimpArgs false
set_option maxRecDepth 100000
namespace Go.Proofs.YtdgpmopcmacicaaDoorPi
set_option maxHeartbeats 4000000
theorem CloneNI_nil (k : Nat) (up : Frs) (hk : fget up 0 k = some .dead) : ACalls Tryd.prog 62 [.im (.sl (([] : List (Int × Int)).map nd))] up fun v u => v = .ms 0 k 0 ∧ u = fset up 0 k (.row 54 2 (([] : List (Int × Int)).map nd) 0) := by
  refine ACalls.codeI Tryd.func62 rfl 8 rfl (by simp) [.tmp 2] rfl k fun Q hQ => ?_
  simp only [ups, PV.up, argEnv]
  have ft := And.intro ty_4 (And.intro ty_28 (And.intro ty_54 trivial))
  refine Run.seq ?_
  have fx := And.intro (@List.map_nil.{0, 0}) ft
  refine Run.go ?_
  refine End.kp [0] ?_
  refine Run.seq ?_
  refine Run.seq ?_
  refine Run.go ?_
  refine End.kp [0, 4] ?_
  refine Run.cond_any rfl ?_ ?_
  · skip
    refine Run.seq ?_
    have fx := And.intro (@List.map_nil.{0, 0}) ft
    refine Run.go ?_
    refine End.move (Ghost.thaw (u := 2) 54 2 (by decide) rfl) ?_
    refine End.kp [2] ?_
    have fx := And.intro (@List.map_nil.{0, 0}) ft
    refine Run.resI 0 hQ hk ?_
    exact ⟨rfl, rfl⟩
  · skip
    refine Run.skip ?_
    refine End.kp [0] ?_
    refine Run.seq ?_
    have fx := And.intro (@List.map_nil.{0, 0}) ft
    refine Run.go ?_
    refine End.kp [2] ?_
    refine Run.resI 0 hQ hk ?_
    exact ⟨rfl, rfl⟩
theorem CloneNI_cons (k : Nat) (x : (Int × Int)) (xs : List (Int × Int)) (h : xs.length ≤ 1000000) (up : Frs) (hk : fget up 0 k = some .dead) : ACalls Tryd.prog 62 [.im (.sl ((x :: xs).map nd))] up fun v u => v = .ms 0 k (x :: xs).length ∧ u = fset up 0 k (.row 54 2 ((x :: xs).map nd) 0) := by
  have hall : (xs.map nd).all (fun r => r.length == 2) = true := by simp
  have hlen : (xs.length + 1) * 16 ≤ 140737488355328 := by omega
  refine ACalls.codeI Tryd.func62 rfl 8 rfl (by simp) [.tmp 2] rfl k fun Q hQ => ?_
  simp only [ups, PV.up, argEnv]
  have ft := And.intro ty_4 (And.intro ty_28 (And.intro ty_54 trivial))
  refine Run.seq ?_
  have fx := And.intro (@List.length_map.{0, 0}) (And.intro hlen (And.intro hall (And.intro (@List.map_cons.{0, 0}) ft)))
  refine Run.go ?_
  refine End.kp [0] ?_
  refine Run.seq ?_
  refine Run.seq ?_
  refine Run.go ?_
  refine End.kp [0, 4] ?_
  refine Run.cond _ rfl (fun hb => ?_) (fun hb => ?_)
  · have hb := hb
    simp at hb
  · have hb := hb
    refine Run.skip ?_
    refine End.kp [0] ?_
    refine Run.seq ?_
    have fx := And.intro (@List.length_map.{0, 0}) (And.intro hlen (And.intro hall (And.intro (@List.map_cons.{0, 0}) ft)))
    refine Run.go ?_
    refine End.kp [2] ?_
    refine Run.resI 0 hQ hk ?_
    exact ⟨rfl, rfl⟩
theorem CloneNI_ok (q : List (Int × Int)) (h : q.length ≤ 1000000) (k : Nat) (up : Frs) (hk : fget up 0 k = some .dead) : ACalls Tryd.prog 62 [.im (.sl (q.map nd))] up fun v u => v = .ms 0 k q.length ∧ u = fset up 0 k (.row 54 2 (q.map nd) 0) := by
  cases q with
  | nil => exact CloneNI_nil k up hk
  | cons x xs => exact CloneNI_cons k x xs (by simp at h; omega) up hk
theorem CloneLI_nil (k : Nat) (up : Frs) (hk : fget up 0 k = some .dead) : ACalls Tryd.prog 27 [.im (.sl (([] : List Int).map iI))] up fun v u => v = .ms 0 k 0 ∧ u = fset up 0 k (.row 51 1 (([] : List Int).map iI) 0) := by
  refine ACalls.codeI Tryd.func27 rfl 8 rfl (by simp) [.tmp 2] rfl k fun Q hQ => ?_
  simp only [ups, PV.up, argEnv]
  have ft := And.intro ty_4 (And.intro ty_29 (And.intro ty_51 trivial))
  refine Run.seq ?_
  have fx := And.intro (@List.map_nil.{0, 0}) ft
  refine Run.go ?_
  refine End.kp [0] ?_
  refine Run.seq ?_
  refine Run.seq ?_
  refine Run.go ?_
  refine End.kp [0, 4] ?_
  refine Run.cond_any rfl ?_ ?_
  · skip
    refine Run.seq ?_
    have fx := And.intro (@List.map_nil.{0, 0}) ft
    refine Run.go ?_
    refine End.move (Ghost.thaw (u := 2) 51 1 (by decide) rfl) ?_
    refine End.kp [2] ?_
    have fx := And.intro (@List.map_nil.{0, 0}) ft
    refine Run.resI 0 hQ hk ?_
    exact ⟨rfl, rfl⟩
  · skip
    refine Run.skip ?_
    refine End.kp [0] ?_
    refine Run.seq ?_
    have fx := And.intro (@List.map_nil.{0, 0}) ft
    refine Run.go ?_
    refine End.kp [2] ?_
    refine Run.resI 0 hQ hk ?_
    exact ⟨rfl, rfl⟩
theorem CloneLI_cons (k : Nat) (x : Int) (xs : List Int) (h : xs.length ≤ 1000000) (up : Frs) (hk : fget up 0 k = some .dead) : ACalls Tryd.prog 27 [.im (.sl ((x :: xs).map iI))] up fun v u => v = .ms 0 k (x :: xs).length ∧ u = fset up 0 k (.row 51 1 ((x :: xs).map iI) 0) := by
  have hall : (xs.map iI).all (fun r => r.length == 1) = true := by simp
  have hlen : (xs.length + 1) * 8 ≤ 140737488355328 := by omega
  refine ACalls.codeI Tryd.func27 rfl 8 rfl (by simp) [.tmp 2] rfl k fun Q hQ => ?_
  simp only [ups, PV.up, argEnv]
  have ft := And.intro ty_4 (And.intro ty_29 (And.intro ty_51 trivial))
  refine Run.seq ?_
  have fx := And.intro (@List.length_map.{0, 0}) (And.intro hlen (And.intro hall (And.intro (@List.map_cons.{0, 0}) ft)))
  refine Run.go ?_
  refine End.kp [0] ?_
  refine Run.seq ?_
  refine Run.seq ?_
  refine Run.go ?_
  refine End.kp [0, 4] ?_
  refine Run.cond _ rfl (fun hb => ?_) (fun hb => ?_)
  · have hb := hb
    simp at hb
  · have hb := hb
    refine Run.skip ?_
    refine End.kp [0] ?_
    refine Run.seq ?_
    have fx := And.intro (@List.length_map.{0, 0}) (And.intro hlen (And.intro hall (And.intro (@List.map_cons.{0, 0}) ft)))
    refine Run.go ?_
    refine End.kp [2] ?_
    refine Run.resI 0 hQ hk ?_
    exact ⟨rfl, rfl⟩
theorem CloneLI_ok (q : List Int) (h : q.length ≤ 1000000) (k : Nat) (up : Frs) (hk : fget up 0 k = some .dead) : ACalls Tryd.prog 27 [.im (.sl (q.map iI))] up fun v u => v = .ms 0 k q.length ∧ u = fset up 0 k (.row 51 1 (q.map iI) 0) := by
  cases q with
  | nil => exact CloneLI_nil k up hk
  | cons x xs => exact CloneLI_cons k x xs (by simp at h; omega) up hk
theorem CopyL_ok (g : LGraph) (hg : GSmall g) (k0 k1 k2 : Nat) (up : Frs) (hk0 : fget up 0 k0 = some .dead) (hk1 : fget up 0 k1 = some .dead) (hk2 : fget up 0 k2 = some .dead) (m01 : k0 ≠ k1) (m02 : k0 ≠ k2) (m12 : k1 ≠ k2) : ACalls Tryd.prog 47 [g.pv] up fun v u => v = .agg [.im (.sl (strs g.inn)), .im (.sl (strs g.out)), .ms 0 k0 g.regs.length, .ms 0 k1 g.ands.length, .ms 0 k2 g.outs.length] ∧ u = fset (fset (fset up 0 k0 (.row 56 3 (g.regs.map LReg.im) 0)) 0 k1 (.row 54 2 (g.ands.map nd) 0)) 0 k2 (.row 51 1 (ints g.outs) 0) := by
  obtain ⟨z1, z2, z3, z4, z5⟩ := hg
  refine ACalls.codeL Tryd.func47 rfl 19 rfl (by simp) [.cell 2 31] rfl [(0, k0), (1, k1), (2, k2)] fun Q hQ => ?_
  simp only [ups, PV.up, argEnv]
  have ft := And.intro ty_2 (And.intro ty_3 (And.intro ty_4 (And.intro ty_9 (And.intro ty_26 (And.intro ty_27 (And.intro ty_28 (And.intro ty_29 (And.intro ty_31 (And.intro ty_51 (And.intro ty_54 (And.intro ty_56 trivial)))))))))))
  refine Run.ghost (.spares 3) ?_
  simp only [ASt.pushN, ASt.push, List.append_assoc, List.cons_append, List.nil_append]
  refine Run.seq ?_
  have fx := ft
  refine Run.go ?_
  refine End.kp [1, 2] ?_
  refine Run.seq ?_
  refine Run.drawA fun K hK => ?_
  refine DOps.sim ?_
  refine DOps.call (.im (.sl (strs g.inn))) [] [] rfl rfl rfl rfl (by kernel_rfl) (by simp [Agree]) (fun u hu => CloneS_ok g.inn (by omega) u) ?_
  refine DOps.sim ?_
  refine DOps.call (.im (.sl (strs g.out))) [] [] rfl rfl rfl rfl (by kernel_rfl) (by simp [Agree]) (fun u hu => CloneS_ok g.out (by omega) u) ?_
  refine DOps.sim ?_
  refine DOps.call (.ms 0 0 g.regs.length) [((0, 0), .dead)] [((0, 0), .row 56 3 (g.regs.map LReg.im) 0)] rfl rfl rfl rfl (by kernel_rfl) (by simp [Agree, ASt.fr]) (fun u hu => CloneRI_ok g.regs (by omega) 0 u (hu ((0, 0), .dead) (by simp))) ?_
  refine DOps.sim ?_
  refine DOps.call (.ms 0 1 g.ands.length) [((0, 1), .dead)] [((0, 1), .row 54 2 (g.ands.map nd) 0)] rfl rfl rfl rfl (by kernel_rfl) (by simp [Agree, ASt.fr]) (fun u hu => CloneNI_ok g.ands (by omega) 1 u (hu ((0, 1), .dead) (by simp))) ?_
  refine DOps.sim ?_
  refine DOps.call (.ms 0 2 g.outs.length) [((0, 2), .dead)] [((0, 2), .row 51 1 (ints g.outs) 0)] rfl rfl rfl rfl (by kernel_rfl) (by simp [Agree, ASt.fr]) (fun u hu => CloneLI_ok g.outs (by omega) 2 u (hu ((0, 2), .dead) (by simp))) ?_
  refine DOps.sim ?_
  refine DOps.nil (by rfl) (hK _ ?_); clear hK K
  refine End.kp [2] ?_
  refine Run.resL (j0 := 0) (j1 := 1) (j2 := 2) hQ hk0 hk1 hk2 m01 m02 m12 ?_
  exact ⟨rfl, rfl⟩
abbrev inR (f : Int) (r : LReg) : LReg := { r with next := toI f r.next }
abbrev inA (f : Int) (p : Int × Int) : Int × Int := (toI f p.1, toI f p.2)
/-- A graph with a register more, behind all others. -/
def insG (g : LGraph) (r : LReg) : LGraph := ⟨g.inn, g.out, (g.regs ++ [r]).map (inR (firstG g)), g.ands.map (inA (firstG g)), g.outs.map (toI (firstG g))⟩
theorem insert_ok (g : LGraph) (hg : GraphOk g) (r : LReg) (r0 : 0 ≤ r.next) (r1 : r.next ≤ 100000) (k0 k1 k2 : Nat) (up : Frs) (hk0 : fget up 0 k0 = some .dead) (hk1 : fget up 0 k1 = some .dead) (hk2 : fget up 0 k2 = some .dead) (m01 : k0 ≠ k1) (m02 : k0 ≠ k2) (m12 : k1 ≠ k2) : ACalls Tryd.prog 21 [g.pv, .agg [.im (.str r.name), .i r.next, .im (.bool r.init)]] up fun v u =>
    v = .tup [.agg [.im (.sl (strs g.inn)), .im (.sl (strs g.out)), .ms 0 k0 (g.regs.length + 1), .ms 0 k1 g.ands.length, .ms 0 k2 g.outs.length], .i (2 * firstG g)] ∧
    u = fset (fset (fset up 0 k0 (.row 56 3 ((insG g r).regs.map LReg.im) 0)) 0 k1 (.row 54 2 ((insG g r).ands.map nd) 0)) 0 k2 (.row 51 1 (ints (insG g r).outs) 0) := by
  have hsm := hg.small
  obtain ⟨z1, z2, z3, z4, z5⟩ := hg.small
  have f0 : 0 ≤ firstG g ∧ firstG g ≤ 1000 := by unfold firstG; omega
  have w9 : IntKind.i64.wrap (2 * firstG g) = 2 * firstG g := wrap64 (by omega)
  have hff : (1 + (g.inn.length : Int) + g.regs.length) = firstG g := rfl
  unfold insG
  have hF := GFirst_ok g hsm
  rw [hff] at hF
  generalize firstG g = f at *
  have hap : (g.regs.length + 1) * 32 ≤ 140737488355328 := by omega
  refine ACalls.codeL Tryd.func21 rfl 86 rfl (by simp) [.cell 4 31, .tmp 5] rfl [(4, k0), (5, k1), (6, k2)] fun Q hQ => ?_
  simp only [ups, PV.up, argEnv]
  have ft := And.intro ty_2 (And.intro ty_3 (And.intro ty_4 (And.intro ty_27 (And.intro ty_28 (And.intro ty_29 (And.intro ty_31 (And.intro ty_51 (And.intro ty_54 (And.intro ty_56 trivial)))))))))
  refine Run.seq ?_
  have fx := And.intro ints_len (And.intro nd_len (And.intro rim_len (And.intro w9 (And.intro hap ft))))
  refine Run.go ?_
  refine End.kp [2, 3, 4] ?_
  refine Run.seq ?_
  refine Run.region rfl fun K hK => GOps.sim ?_
  refine GOps.call rfl rfl rfl rfl (by kernel_rfl) (ACalls.sim ?_)
  refine (hF _).mono fun v u hv => ?_
  obtain ⟨rfl, rfl⟩ := hv
  refine ⟨_, _, rfl, GOps.sim ?_⟩
  refine GOps.done (hK _ ?_); clear hK K
  refine End.kp [2, 3, 4, 6] ?_
  refine Run.seq ?_
  refine Run.go ?_
  refine End.kp [2, 3, 4, 6, 7] ?_
  refine Run.seq ?_
  refine Run.ghost (.spares 3) ?_
  simp only [ASt.pushN, ASt.push, List.append_assoc, List.cons_append, List.nil_append]
  have fx := And.intro ints_len (And.intro nd_len (And.intro rim_len (And.intro w9 (And.intro hap ft))))
  refine Run.region rfl fun K hK => GOps.sim ?_
  refine GOps.call rfl rfl rfl rfl (by kernel_rfl) (ACalls.sim ?_)
  refine (CopyL_ok g hsm 4 5 6 _ rfl rfl rfl (by decide) (by decide) (by decide)).mono fun v u hv => ?_
  obtain ⟨rfl, rfl⟩ := hv
  refine ⟨_, _, rfl, GOps.sim ?_⟩
  refine GOps.done (hK _ ?_); clear hK K
  refine End.kp [3, 4, 6, 7, 8] ?_
  refine Run.seq ?_
  refine Run.go ?_
  refine End.kp [4, 6, 7, 8] ?_
  refine Run.seq ?_
  refine Run.seq ?_
  refine Run.go ?_
  refine End.kp [4, 6, 7, 8, 26, 27, 28] ?_
  refine Run.block ?_
  refine Run.ghost (Ghost.form [(4, .ptr 0 2 0), (6, .ptr 0 3 0), (7, .fn 46 [.ptr 0 3 0]), (8, .ptr 0 7 0), (26, .ms 0 5 g.ands.length), (27, .i g.ands.length), (28, .i (0 : Nat))] 8 ⟨rfl, rfl, rfl, rfl, rfl, rfl, rfl, trivial⟩ rfl rfl) ?_
  refine Run.loop (fun m st => ∃ (i : Nat), m = g.ands.length - i ∧ i ≤ g.ands.length ∧ st = ⟨[(4, .ptr 0 2 0), (6, .ptr 0 3 0), (7, .fn 46 [.ptr 0 3 0]), (8, .ptr 0 7 0), (26, .ms 0 5 g.ands.length), (27, .i g.ands.length), (28, .i (i : Nat))], [.box [.im (.sl (strs g.inn)), .im (.sl (strs g.out)), .im (.sl (g.regs.map LReg.im)), .im (.sl (g.ands.map nd)), .im (.sl (ints g.outs))], .box [.im (.str r.name), .i r.next, .im (.bool r.init)], .box [.nils, .nils, .nils, .nils, .nils], .box [.i f], .row 56 3 ((stpL (inR f) (g.regs ++ [r]) 0).map LReg.im) 0, .row 54 2 ((stpL (inA f) g.ands i).map nd) 0, .row 51 1 (ints (stpL (toI f) g.outs 0)) 0, .box [.im (.sl (strs g.inn)), .im (.sl (strs g.out)), .ms 0 4 (g.regs.length + 1), .ms 0 5 g.ands.length, .ms 0 6 g.outs.length]], up⟩) g.ands.length ⟨0, rfl, by omega, by simp only [stpL_zero, List.map_append]; rfl⟩ fun m st hI => ?_
  obtain ⟨i, rfl, hi, rfl⟩ := hI
  have hal : ((stpL (inA f) g.ands i).map nd).length = g.ands.length := by rw [nd_len, stpL_len]
  refine Run.seq ?_
  have fx := And.intro hal (And.intro ints_len (And.intro nd_len (And.intro rim_len (And.intro w9 (And.intro hap ft)))))
  refine Run.go ?_
  refine End.kp [4, 6, 7, 8, 26, 27, 28, 29] ?_
  refine Run.seq ?_
  refine Run.cond _ rfl (fun hb => ?_) (fun hb => ?_)
  · have hb2 := of_decide_eq_true hb
    have hin : i < g.ands.length := by omega
    have hil : (i : Int) < (g.ands.length : Int) := by omega
    have wi := wsucc hin (by omega)
    obtain ⟨p, hp, hpm, hgt⟩ := node_at g.ands i hin
    obtain ⟨⟨x1, x2⟩, x3, x4⟩ := hg.ands i p hp
    have hpi := stpL_get (inA f) g.ands i p hp
    have hps := stpL_set (inA f) g.ands i p hp
    have hgi : ((stpL (inA f) g.ands i).map nd)[i]? = some [.int .i64 p.1, .int .i64 p.2] := by rw [List.getElem?_map, hpi]; rfl
    refine Run.skip ?_
    refine End.kp [4, 6, 7, 8, 26, 27, 28] ?_
    refine Run.seq ?_
    refine Run.block ?_
    refine Run.seq ?_
    have fx := And.intro (@Int.toNat_natCast) (And.intro (@Int.natCast_nonneg) (And.intro hil (And.intro hgi (And.intro wi (And.intro hal (And.intro ints_len (And.intro nd_len (And.intro rim_len (And.intro w9 (And.intro hap ft))))))))))
    refine Run.go ?_
    refine End.kp [4, 6, 7, 8, 9, 10, 26, 27, 28] ?_
    refine Run.drawA fun K hK => ?_
    refine DOps.sim ?_
    refine DOps.call (.i (toI f p.1)) [((0, 3), .box [.i f])] [] rfl rfl rfl rfl (by kernel_rfl) (by simp [Agree, ASt.fr]) (fun u hu => insT_ok f p.1 x1 (by omega) u 3 (hu (((0, 3), .box [.i f])) (by simp))) ?_
    refine DOps.sim ?_
    refine DOps.call (.i (toI f p.2)) [((0, 3), .box [.i f])] [] rfl rfl rfl rfl (by kernel_rfl) (by simp [Agree, ASt.fr]) (fun u hu => insT_ok f p.2 x3 (by omega) u 3 (hu (((0, 3), .box [.i f])) (by simp))) ?_
    refine DOps.sim ?_
    refine DOps.nil (by rfl) (hK _ ?_); clear hK K
    refine End.blk ?_
    refine End.kp [4, 6, 7, 8, 26, 27, 28] ?_
    refine Run.go ?_
    refine End.lp ?_
    refine ⟨g.ands.length - (i + 1), _, by omega, Ghost.form [(4, .ptr 0 2 0), (6, .ptr 0 3 0), (7, .fn 46 [.ptr 0 3 0]), (8, .ptr 0 7 0), (26, .ms 0 5 g.ands.length), (27, .i g.ands.length), (28, .i (i + 1 : Nat))] 8 ⟨rfl, rfl, rfl, rfl, rfl, rfl, rfl, trivial⟩ rfl rfl, i + 1, rfl, by omega, ?_⟩
    rw [← hps, List.map_set]
    rfl
  · have hb2 := of_decide_eq_false hb
    have hiN : i = g.ands.length := by omega
    subst hiN
    refine Run.exit rfl ?_
    refine End.kp [4, 6, 7, 8] ?_
    refine Run.seq ?_
    refine Run.seq ?_
    have fx := And.intro hal (And.intro ints_len (And.intro nd_len (And.intro rim_len (And.intro w9 (And.intro hap ft)))))
    refine Run.go ?_
    refine End.kp [4, 6, 7, 8, 49, 50] ?_
    refine Run.block ?_
    refine Run.ghost (Ghost.form [(4, .ptr 0 2 0), (6, .ptr 0 3 0), (7, .fn 46 [.ptr 0 3 0]), (8, .ptr 0 7 0), (49, .i (g.regs.length + 1 : Nat)), (50, .i (0 : Nat))] 8 ⟨rfl, rfl, rfl, rfl, rfl, rfl, trivial⟩ rfl rfl) ?_
    refine Run.loop (fun m st => ∃ (i : Nat), m = g.regs.length + 1 - i ∧ i ≤ g.regs.length + 1 ∧ st = ⟨[(4, .ptr 0 2 0), (6, .ptr 0 3 0), (7, .fn 46 [.ptr 0 3 0]), (8, .ptr 0 7 0), (49, .i (g.regs.length + 1 : Nat)), (50, .i (i : Nat))], [.box [.im (.sl (strs g.inn)), .im (.sl (strs g.out)), .im (.sl (g.regs.map LReg.im)), .im (.sl (g.ands.map nd)), .im (.sl (ints g.outs))], .box [.im (.str r.name), .i r.next, .im (.bool r.init)], .box [.nils, .nils, .nils, .nils, .nils], .box [.i f], .row 56 3 ((stpL (inR f) (g.regs ++ [r]) i).map LReg.im) 0, .row 54 2 ((stpL (inA f) g.ands g.ands.length).map nd) 0, .row 51 1 (ints (stpL (toI f) g.outs 0)) 0, .box [.im (.sl (strs g.inn)), .im (.sl (strs g.out)), .ms 0 4 (g.regs.length + 1), .ms 0 5 g.ands.length, .ms 0 6 g.outs.length]], up⟩) (g.regs.length + 1) ⟨0, rfl, by omega, rfl⟩ fun m st hI => ?_
    obtain ⟨i, rfl, hi, rfl⟩ := hI
    have hrl : ((stpL (inR f) (g.regs ++ [r]) i).map LReg.im).length = g.regs.length + 1 := by rw [rim_len, stpL_len]; simp
    refine Run.seq ?_
    have fx := And.intro hrl (And.intro hal (And.intro ints_len (And.intro nd_len (And.intro rim_len (And.intro w9 (And.intro hap ft))))))
    refine Run.go ?_
    refine End.kp [4, 6, 7, 8, 49, 50, 51] ?_
    refine Run.seq ?_
    refine Run.cond _ rfl (fun hb => ?_) (fun hb => ?_)
    · have hb2 := of_decide_eq_true hb
      have hin : i < g.regs.length + 1 := by omega
      have hil : (i : Int) < ((g.regs.length + 1 : Nat) : Int) := by omega
      have wi := wsucc hin (by omega)
      obtain ⟨s, hs, hsm2, hgt⟩ := reg_at (g.regs ++ [r]) i (by simp; omega)
      have x1 : 0 ≤ s.next ∧ s.next ≤ 100000 := by
        rcases List.mem_append.1 hsm2 with h | h
        · have := hg.regs s h
          omega
        · rw [List.mem_singleton.1 h]
          exact ⟨r0, r1⟩
      have hsi := stpL_get (inR f) (g.regs ++ [r]) i s hs
      have hss := stpL_set (inR f) (g.regs ++ [r]) i s hs
      have hgi : ((stpL (inR f) (g.regs ++ [r]) i).map LReg.im)[i]? = some [.str s.name, .int .i64 s.next, .bool s.init] := by rw [List.getElem?_map, hsi]; rfl
      refine Run.skip ?_
      refine End.kp [4, 6, 7, 8, 49, 50] ?_
      refine Run.seq ?_
      refine Run.block ?_
      refine Run.seq ?_
      have fx := And.intro (@Int.toNat_natCast) (And.intro (@Int.natCast_nonneg) (And.intro hil (And.intro hgi (And.intro wi (And.intro hrl (And.intro hal (And.intro ints_len (And.intro nd_len (And.intro rim_len (And.intro w9 (And.intro hap ft)))))))))))
      refine Run.go ?_
      refine End.kp [4, 6, 7, 8, 11, 49, 50] ?_
      refine Run.drawA fun K hK => ?_
      refine DOps.sim ?_
      refine DOps.call (.i (toI f s.next)) [((0, 3), .box [.i f])] [] rfl rfl rfl rfl (by kernel_rfl) (by simp [Agree, ASt.fr]) (fun u hu => insT_ok f s.next x1.1 (by omega) u 3 (hu (((0, 3), .box [.i f])) (by simp))) ?_
      refine DOps.sim ?_
      refine DOps.nil (by rfl) (hK _ ?_); clear hK K
      refine End.blk ?_
      refine End.kp [4, 6, 7, 8, 49, 50] ?_
      refine Run.go ?_
      refine End.lp ?_
      refine ⟨g.regs.length + 1 - (i + 1), _, by omega, Ghost.form [(4, .ptr 0 2 0), (6, .ptr 0 3 0), (7, .fn 46 [.ptr 0 3 0]), (8, .ptr 0 7 0), (49, .i (g.regs.length + 1 : Nat)), (50, .i (i + 1 : Nat))] 8 ⟨rfl, rfl, rfl, rfl, rfl, rfl, trivial⟩ rfl rfl, i + 1, rfl, by omega, ?_⟩
      rw [← hss, List.map_set]
      rfl
    · have hb2 := of_decide_eq_false hb
      have hiN : i = (g.regs ++ [r]).length := by simp; omega
      subst hiN
      refine Run.exit rfl ?_
      refine End.kp [4, 6, 7, 8] ?_
      refine Run.seq ?_
      refine Run.seq ?_
      have fx := And.intro hrl (And.intro hal (And.intro ints_len (And.intro nd_len (And.intro rim_len (And.intro w9 (And.intro hap ft))))))
      refine Run.go ?_
      refine End.kp [4, 6, 7, 8, 68, 69, 70] ?_
      refine Run.block ?_
      refine Run.ghost (Ghost.form [(4, .ptr 0 2 0), (6, .ptr 0 3 0), (7, .fn 46 [.ptr 0 3 0]), (8, .ptr 0 7 0), (68, .ms 0 6 g.outs.length), (69, .i g.outs.length), (70, .i (0 : Nat))] 8 ⟨rfl, rfl, rfl, rfl, rfl, rfl, rfl, trivial⟩ rfl rfl) ?_
      refine Run.loop (fun m st => ∃ (i : Nat), m = g.outs.length - i ∧ i ≤ g.outs.length ∧ st = ⟨[(4, .ptr 0 2 0), (6, .ptr 0 3 0), (7, .fn 46 [.ptr 0 3 0]), (8, .ptr 0 7 0), (68, .ms 0 6 g.outs.length), (69, .i g.outs.length), (70, .i (i : Nat))], [.box [.im (.sl (strs g.inn)), .im (.sl (strs g.out)), .im (.sl (g.regs.map LReg.im)), .im (.sl (g.ands.map nd)), .im (.sl (ints g.outs))], .box [.im (.str r.name), .i r.next, .im (.bool r.init)], .box [.nils, .nils, .nils, .nils, .nils], .box [.i f], .row 56 3 ((stpL (inR f) (g.regs ++ [r]) (g.regs ++ [r]).length).map LReg.im) 0, .row 54 2 ((stpL (inA f) g.ands g.ands.length).map nd) 0, .row 51 1 (ints (stpL (toI f) g.outs i)) 0, .box [.im (.sl (strs g.inn)), .im (.sl (strs g.out)), .ms 0 4 (g.regs.length + 1), .ms 0 5 g.ands.length, .ms 0 6 g.outs.length]], up⟩) g.outs.length ⟨0, rfl, by omega, rfl⟩ fun m st hI => ?_
      obtain ⟨i, rfl, hi, rfl⟩ := hI
      have hol : (ints (stpL (toI f) g.outs i)).length = g.outs.length := by rw [ints_len, stpL_len]
      refine Run.seq ?_
      have fx := And.intro hol (And.intro hrl (And.intro hal (And.intro ints_len (And.intro nd_len (And.intro rim_len (And.intro w9 (And.intro hap ft)))))))
      refine Run.go ?_
      refine End.kp [4, 6, 7, 8, 68, 69, 70, 71] ?_
      refine Run.seq ?_
      refine Run.cond _ rfl (fun hb => ?_) (fun hb => ?_)
      · have hb2 := of_decide_eq_true hb
        have hin : i < g.outs.length := by omega
        have hil : (i : Int) < (g.outs.length : Int) := by omega
        have wi := wsucc hin (by omega)
        obtain ⟨x, hxi, hxm, hx⟩ := int_at g.outs i hin
        obtain ⟨x1, x2⟩ := hg.outs x hxm
        have hxi2 := stpL_get (toI f) g.outs i x hxi
        have hxs := stpL_set (toI f) g.outs i x hxi
        have hsx : ints ((stpL (toI f) g.outs i).set i (toI f x)) = (ints (stpL (toI f) g.outs i)).set i [.int .i64 (toI f x)] := by simp [ints, List.map_set]
        have hgi : (ints (stpL (toI f) g.outs i))[i]? = some [.int .i64 x] := by rw [List.getElem?_map, hxi2]; rfl
        refine Run.skip ?_
        refine End.kp [4, 6, 7, 8, 68, 69, 70] ?_
        refine Run.seq ?_
        refine Run.block ?_
        refine Run.seq ?_
        have fx := And.intro (@Int.toNat_natCast) (And.intro (@Int.natCast_nonneg) (And.intro hil (And.intro hgi (And.intro wi (And.intro hol (And.intro hrl (And.intro hal (And.intro ints_len (And.intro nd_len (And.intro rim_len (And.intro w9 (And.intro hap ft))))))))))))
        refine Run.go ?_
        refine End.kp [4, 6, 7, 8, 12, 13, 68, 69, 70] ?_
        refine Run.drawA fun K hK => ?_
        refine DOps.sim ?_
        refine DOps.call (.i (toI f x)) [((0, 3), .box [.i f])] [] rfl rfl rfl rfl (by kernel_rfl) (by simp [Agree, ASt.fr]) (fun u hu => insT_ok f x x1 (by omega) u 3 (hu (((0, 3), .box [.i f])) (by simp))) ?_
        refine DOps.sim ?_
        refine DOps.nil (by rfl) (hK _ ?_); clear hK K
        refine End.blk ?_
        refine End.kp [4, 6, 7, 8, 68, 69, 70] ?_
        refine Run.go ?_
        refine End.lp ?_
        refine ⟨g.outs.length - (i + 1), _, by omega, Ghost.form [(4, .ptr 0 2 0), (6, .ptr 0 3 0), (7, .fn 46 [.ptr 0 3 0]), (8, .ptr 0 7 0), (68, .ms 0 6 g.outs.length), (69, .i g.outs.length), (70, .i (i + 1 : Nat))] 8 ⟨rfl, rfl, rfl, rfl, rfl, rfl, rfl, trivial⟩ rfl rfl, i + 1, rfl, by omega, ?_⟩
        rw [← hxs, hsx]
        rfl
      · have hb2 := of_decide_eq_false hb
        have hiN : i = g.outs.length := by omega
        subst hiN
        refine Run.exit rfl ?_
        refine End.kp [4, 6, 8] ?_
        refine Run.seq ?_
        rw [stpL_all, stpL_all, stpL_all]
        have fx := And.intro hol (And.intro hrl (And.intro hal (And.intro ints_len (And.intro nd_len (And.intro rim_len (And.intro w9 (And.intro hap ft)))))))
        refine Run.drawA fun K hK => ?_
        refine DOps.sim ?_
        refine DOps.nil (by rfl) (hK _ ?_); clear hK K
        refine End.kp [4, 5] ?_
        refine Run.resL (j0 := 4) (j1 := 5) (j2 := 6) hQ hk0 hk1 hk2 m01 m02 m12 ?_
        exact ⟨rfl, rfl⟩
end Go.Proofs.YtdgpmopcmacicaaDoorPi

