/- The walk of Moving, and that drawn graphs are in order. -/
import Derived.Test.YtkmnmokjlpenhaaWN
set_option linter.unusedVariables false
set_option linter.unusedSimpArgs false
set_option maxRecDepth 100000
namespace Go.Proofs.YtkmnmokjlpenhaaPi
set_option maxHeartbeats 4000000
theorem nd_at (D T : List (Int × Int)) (p : Int × Int) (i : Nat) (h : D.length = i) : ((D ++ p :: T).map nd)[i]? = some [.int .i64 p.1, .int .i64 p.2] := by
  subst h
  simp
theorem nd_set (D T : List (Int × Int)) (p : Int × Int) (i : Nat) (a b : Int) (h : D.length = i) : ((D ++ p :: T).map nd).set i [.int .i64 a, .int .i64 b] = (D ++ (a, b) :: T).map nd := by
  subst h
  simp
theorem nd_mlen (D T : List (Int × Int)) (p : Int × Int) (i k : Nat) (h : D.length = i) (h2 : i < k) (h3 : T.length = k - (i + 1)) : ((D ++ p :: T).map nd).length = k := by
  simp
  omega
theorem Moving_ok (ands : Nat) (h0 : 1 ≤ ands) (h3 : ands ≤ 99) (l : List Int) (a : Int) (hs : StmOk l a) (hf : a + 20000 < 1099511627776) (up : Frs) (d j : Nat) (hl : fget up d j = some (stm l a)) :
    ACalls Try.prog 21 [.ptr d j 0, .i ands] up fun v u => v = (movingV l a ands).1.pv ∧ u = fset up d j (stm l (movingV l a ands).2) := by
  have hset : ∀ o, fget (fset up d j o) d j = some o := fun o => fget_fset_same _ _ _ _ _ hl
  have hp := hs.pos
  
  have ok : ∀ b : Int, a ≤ b → b ≤ a + 3000 → StmOk l b := fun b h1 h2 => ⟨hs.vals, hs.len, by omega, by omega⟩
  obtain ⟨r1, s1⟩ := nextV_range l a (3 - 1 + 1) (by omega)
  obtain ⟨r2, s2⟩ := nextV_range l (a + 1) (7 - 2 + 1) (by omega)
  obtain ⟨r3, s3⟩ := nextV_range l (a + 1 + 1) (ands - 1 + 1) (by omega)
  obtain ⟨r4, s4⟩ := nextV_range l (a + 1 + 1 + 1) (3 - 1 + 1) (by omega)
  obtain ⟨ins, e1⟩ : ∃ k : Nat, 1 + nextV l a (3 - 1 + 1) = k := ⟨(1 + nextV l a (3 - 1 + 1)).toNat, by omega⟩
  obtain ⟨regs, e2⟩ : ∃ k : Nat, 2 + nextV l (a + 1) (7 - 2 + 1) = k := ⟨(2 + nextV l (a + 1) (7 - 2 + 1)).toNat, by omega⟩
  obtain ⟨k, e3⟩ : ∃ k : Nat, 1 + nextV l (a + 1 + 1) (ands - 1 + 1) = k := ⟨(1 + nextV l (a + 1 + 1) (ands - 1 + 1)).toNat, by omega⟩
  obtain ⟨outs, e4⟩ : ∃ k : Nat, 1 + nextV l (a + 1 + 1 + 1) (3 - 1 + 1) = k := ⟨(1 + nextV l (a + 1 + 1 + 1) (3 - 1 + 1)).toNat, by omega⟩
  generalize hM : movingV l a ands = M
  obtain ⟨p1, p2, p3, p4, p5, p6, p7⟩ := graphV_pos l (a + 1 + 1 + 1 + 1) ins regs k outs
  have hGr := Graph_ok ins regs k outs (by omega) (by omega) (by omega) (by omega) l (a + 1 + 1 + 1 + 1) (ok _ (by omega) (by omega)) (by omega)
  have hMM : M = (let G := graphV l (a + 1 + 1 + 1 + 1) ins regs k outs; ({ G.1 with ands := (drawN (mvX l ins regs G.1.ands) G.2 G.1.ands.length).1 }, (drawN (mvX l ins regs G.1.ands) G.2 G.1.ands.length).2)) := by
    rw [← hM]
    simp only [movingV, e1, e2, e3, e4, Int.toNat_natCast]
  generalize graphV l (a + 1 + 1 + 1 + 1) ins regs k outs = G at p1 p2 p3 p4 p5 p6 p7 hGr hMM
  obtain ⟨g, a5⟩ := G
  simp only at p1 p2 p3 p4 p5 p6 p7 hGr hMM
  rw [p6] at hMM
  have hal : (g.ands.map nd).length = k := by rw [nd_len]; exact p6
  have pM : ∀ i : Nat, _ := drawN_pos (mvX l ins regs g.ands) a5 6 (mvX_pos l ins regs g.ands)
  refine ACalls.code Try.func21 rfl 52 rfl (by simp) [.cell 4 51] rfl fun Q hQ => ?_
  simp only [ups, PV.up, argEnv]
  have ft := And.intro ty_3 (And.intro ty_4 (And.intro ty_23 (And.intro ty_48 (And.intro ty_51 (And.intro ty_62 (And.intro ty_137 trivial))))))
  refine Run.seq ?_
  have fx := And.intro e4 (And.intro e3 (And.intro e2 (And.intro e1 (And.intro hset (And.intro hl ft)))))
  refine Run.go ?_
  refine End.kp [1, 2, 4] ?_
  refine Run.seq ?_
  refine Run.ghost (.spares 2) ?_
  simp only [ASt.pushN, ASt.push, List.append_assoc, List.cons_append, List.nil_append]
  refine Run.drawA fun K hK => ?_
  refine DOps.sim ?_
  refine DOps.call (.i ins) [((0, 0), .box [.ptr (d + 1) j 0]), ((d + 1, j), stm l (a))] [((d + 1, j), stm l (a + 1))] rfl rfl rfl rfl (by kernel_rfl) (by simp [Agree, ASt.fr, hl]) (fun u hu => by have := Range_ok 1 3 (by omega) (by omega) (by omega) l a hs (by omega) u (d + 1) j (hu (((d + 1, j), stm l (a))) (by simp)); rw [e1] at this; exact this) ?_
  refine DOps.sim ?_
  refine DOps.call (.i regs) [((0, 0), .box [.ptr (d + 1) j 0]), ((d + 1, j), stm l (a + 1))] [((d + 1, j), stm l (a + 1 + 1))] rfl rfl rfl rfl (by kernel_rfl) (by simp [Agree, ASt.fr, hset]) (fun u hu => by have := Range_ok 2 7 (by omega) (by omega) (by omega) l (a + 1) (ok _ (by omega) (by omega)) (by omega) u (d + 1) j (hu (((d + 1, j), stm l (a + 1))) (by simp)); rw [e2] at this; exact this) ?_
  refine DOps.sim ?_
  refine DOps.nil (by rfl) (hK _ ?_); clear hK K
  refine End.kp [1, 2, 4, 5, 6] ?_
  refine Run.seq ?_
  refine Run.ghost (.spares 1) ?_
  simp only [ASt.pushN, ASt.push, List.append_assoc, List.cons_append, List.nil_append]
  refine Run.ghost (.spares 1) ?_
  simp only [ASt.pushN, ASt.push, List.append_assoc, List.cons_append, List.nil_append]
  have fx := And.intro e4 (And.intro e3 (And.intro e2 (And.intro e1 (And.intro hset (And.intro hl ft)))))
  refine Run.drawA fun K hK => ?_
  refine DOps.sim ?_
  refine DOps.call (.i k) [((d + 1, j), stm l (a + 1 + 1))] [((d + 1, j), stm l (a + 1 + 1 + 1))] rfl rfl rfl rfl (by kernel_rfl) (by simp [Agree, ASt.fr, hset]) (fun u hu => by have := Range_ok 1 ands (by omega) (by omega) (by omega) l (a + 1 + 1) (ok _ (by omega) (by omega)) (by omega) u (d + 1) j (hu (((d + 1, j), stm l (a + 1 + 1))) (by simp)); rw [e3] at this; exact this) ?_
  refine DOps.sim ?_
  refine DOps.call (.i outs) [((d + 1, j), stm l (a + 1 + 1 + 1))] [((d + 1, j), stm l (a + 1 + 1 + 1 + 1))] rfl rfl rfl rfl (by kernel_rfl) (by simp [Agree, ASt.fr, hset]) (fun u hu => by have := Range_ok 1 3 (by omega) (by omega) (by omega) l (a + 1 + 1 + 1) (ok _ (by omega) (by omega)) (by omega) u (d + 1) j (hu (((d + 1, j), stm l (a + 1 + 1 + 1))) (by simp)); rw [e4] at this; exact this) ?_
  refine DOps.sim ?_
  refine DOps.call (.agg [.im (.sl (strs g.inn)), .im (.sl (strs g.out)), .im (.sl (g.regs.map LReg.im)), .ms 0 4 k, .im (.sl (ints g.outs))]) [((d + 1, j), stm l (a + 1 + 1 + 1 + 1)), ((0, 4), .dead)] [((d + 1, j), stm l (a5)), ((0, 4), .row 137 2 (g.ands.map nd) 0)] rfl rfl rfl rfl (by kernel_rfl) (by simp [Agree, ASt.fr, hset]) (fun u hu => hGr u (d + 1) j (hu (((d + 1, j), stm l (a + 1 + 1 + 1 + 1))) (by simp)) 4 (hu (((0, 4), .dead)) (by simp))) ?_
  refine DOps.sim ?_
  refine DOps.nil (by rfl) (hK _ ?_); clear hK K
  refine End.kp [2, 4, 5, 6, 7] ?_
  refine Run.seq ?_
  refine Run.seq ?_
  refine Run.go ?_
  refine End.kp [2, 4, 5, 6, 7, 25, 26] ?_
  refine Run.block ?_
  refine Run.ghost (Ghost.form [(2, .ptr 0 0 0), (4, .ptr 0 1 0), (5, .ptr 0 2 0), (6, .ptr 0 3 0), (7, .ptr 0 5 0), (25, .i k), (26, .i (0 : Nat))] 6 ⟨rfl, rfl, rfl, rfl, rfl, rfl, rfl, trivial⟩ rfl rfl) ?_
  refine Run.loop (fun m s => ∃ i : Nat, m = k - i ∧ i ≤ k ∧ s = ⟨[(2, .ptr 0 0 0), (4, .ptr 0 1 0), (5, .ptr 0 2 0), (6, .ptr 0 3 0), (7, .ptr 0 5 0), (25, .i k), (26, .i (i : Nat))], [.box [.ptr (d + 1) j 0], .box [.nils, .nils, .nils, .nils, .nils], .box [.i ins], .box [.i regs], .row 137 2 (((drawN (mvX l ins regs g.ands) a5 i).1 ++ g.ands.drop i).map nd) 0, .box [.im (.sl (strs g.inn)), .im (.sl (strs g.out)), .im (.sl (g.regs.map LReg.im)), .ms 0 4 k, .im (.sl (ints g.outs))]], fset up d j (stm l (drawN (mvX l ins regs g.ands) a5 i).2)⟩) k ⟨0, rfl, by omega, rfl⟩ fun m s hI => ?_
  obtain ⟨i, rfl, hi, rfl⟩ := hI
  have pMi := pM i
  have hDl : (drawN (mvX l ins regs g.ands) a5 i).1.length = i := drawN_len _ _ _
  have hcb : (drawN (mvX l ins regs g.ands) a5 i).2 ≤ a5 + 600 := by omega
  generalize hD : (drawN (mvX l ins regs g.ands) a5 i).1 = D at hDl
  generalize hcM : (drawN (mvX l ins regs g.ands) a5 i).2 = c at pMi hcb
  refine Run.seq ?_
  have fx := And.intro e4 (And.intro e3 (And.intro e2 (And.intro e1 (And.intro hset (And.intro hl ft)))))
  refine Run.go ?_
  refine End.kp [2, 4, 5, 6, 7, 25, 26, 27] ?_
  refine Run.seq ?_
  refine Run.cond _ rfl (fun hb => ?_) (fun hb => ?_)
  · have hb := of_decide_eq_true hb
    have hin : i < k := by omega
    have hik := hb
    have wi := wsucc hin (by omega)
    obtain ⟨p, T, hpT, hge⟩ : ∃ p T, g.ands.drop i = p :: T ∧ g.ands[i]?.getD (0, 0) = p := by
      have h : i < g.ands.length := by omega
      exact ⟨g.ands[i], g.ands.drop (i + 1), List.drop_eq_getElem_cons h, by simp [h]⟩
    have hT : g.ands.drop (i + 1) = T := by rw [← List.tail_drop, hpT]; rfl
    have hTl : T.length = k - (i + 1) := by rw [← hT, List.length_drop, p6]
    have hat : ∀ q, ((D ++ q :: T).map nd)[i]? = some [.int .i64 q.1, .int .i64 q.2] := fun q => nd_at D T q i hDl
    have hst : ∀ q a b, ((D ++ q :: T).map nd).set i [.int .i64 a, .int .i64 b] = (D ++ (a, b) :: T).map nd := fun q a b => nd_set D T q i a b hDl
    have hml : ∀ q, ((D ++ q :: T).map nd).length = k := fun q => nd_mlen D T q i k hDl hin hTl
    rw [hpT]
    refine Run.skip ?_
    refine End.kp [2, 4, 5, 6, 7, 25, 26] ?_
    refine Run.seq ?_
    refine Run.block ?_
    refine Run.seq ?_
    have fx := And.intro (@Int.toNat_natCast) (And.intro (@Int.natCast_nonneg) (And.intro hml (And.intro hst (And.intro hat (And.intro hik (And.intro wi (And.intro e4 (And.intro e3 (And.intro e2 (And.intro e1 (And.intro hset (And.intro hl ft))))))))))))
    refine Run.go ?_
    refine End.kp [2, 4, 5, 6, 7, 8, 25, 26] ?_
    refine Run.seq ?_
    refine Run.go ?_
    refine End.kp [2, 4, 5, 6, 7, 8, 9, 25, 26] ?_
    refine Run.seq ?_
    refine Run.seq ?_
    refine Run.region rfl fun K hK => GOps.sim ?_
    refine GOps.call rfl rfl rfl rfl (by kernel_rfl) (ACalls.sim ?_)
    refine (Next_ok l c 3 (ok _ (by omega) (by omega)) (by omega) _ (d + 1) j (hset _)).mono fun v u hv => ?_
    obtain ⟨rfl, rfl⟩ := hv
    refine ⟨_, _, rfl, GOps.sim ?_⟩
    refine GOps.done (hK _ ?_); clear hK K
    refine End.kp [2, 4, 5, 6, 7, 8, 9, 25, 26, 32] ?_
    refine Run.cond _ rfl (fun hb => ?_) (fun hb => ?_)
    · have hb1 : nextV l c 3 = 0 := eq_of_beq hb
      have fx := And.intro (@Int.toNat_natCast) (And.intro (@Int.natCast_nonneg) (And.intro hml (And.intro hst (And.intro hat (And.intro hik (And.intro wi (And.intro e4 (And.intro e3 (And.intro e2 (And.intro e1 (And.intro hset (And.intro hl ft))))))))))))
      refine Run.drawA fun K hK => ?_
      refine DOps.sim ?_
      refine DOps.call (.i (rX l ins regs (c + 1))) [((0, 2), .box [.i ins]), ((0, 0), .box [.ptr (d + 1) j 0]), ((0, 3), .box [.i regs]), ((d + 1, j), stm l (c + 1))] [((d + 1, j), stm l (c + 1 + 1 + 1))] rfl rfl rfl rfl (by kernel_rfl) (by simp [Agree, ASt.fr, hset]) (fun u hu => r_ok ins regs (by omega) (by omega) (by omega) (by omega) 2 0 3 l (c + 1) (ok _ (by omega) (by omega)) (by omega) u d j (hu (((d + 1, j), stm l (c + 1))) (by simp)) (hu (((0, 2), .box [.i ins])) (by simp)) (hu (((0, 0), .box [.ptr (d + 1) j 0])) (by simp)) (hu (((0, 3), .box [.i regs])) (by simp))) ?_
      refine DOps.sim ?_
      refine DOps.nil (by rfl) (hK _ ?_); clear hK K
      refine End.kp [2, 4, 5, 6, 7, 8, 9, 25, 26] ?_
      refine Run.seq ?_
      refine Run.region rfl fun K hK => GOps.sim ?_
      refine GOps.call rfl rfl rfl rfl (by kernel_rfl) (ACalls.sim ?_)
      refine (Next_ok l (c + 1 + 1 + 1) 3 (ok _ (by omega) (by omega)) (by omega) _ (d + 1) j (hset _)).mono fun v u hv => ?_
      obtain ⟨rfl, rfl⟩ := hv
      refine ⟨_, _, rfl, GOps.sim ?_⟩
      refine GOps.done (hK _ ?_); clear hK K
      refine End.kp [2, 4, 5, 6, 7, 8, 9, 25, 26, 42] ?_
      refine Run.cond _ rfl (fun hb => ?_) (fun hb => ?_)
      · have hb2 : nextV l (c + 1 + 1 + 1) 3 = 0 := eq_of_beq hb
        have fx := And.intro (@Int.toNat_natCast) (And.intro (@Int.natCast_nonneg) (And.intro hml (And.intro hst (And.intro hat (And.intro hik (And.intro wi (And.intro e4 (And.intro e3 (And.intro e2 (And.intro e1 (And.intro hset (And.intro hl ft))))))))))))
        refine Run.drawA fun K hK => ?_
        refine DOps.sim ?_
        refine DOps.call (.i (rX l ins regs (c + 1 + 1 + 1 + 1))) [((0, 2), .box [.i ins]), ((0, 0), .box [.ptr (d + 1) j 0]), ((0, 3), .box [.i regs]), ((d + 1, j), stm l (c + 1 + 1 + 1 + 1))] [((d + 1, j), stm l (c + 1 + 1 + 1 + 1 + 1 + 1))] rfl rfl rfl rfl (by kernel_rfl) (by simp [Agree, ASt.fr, hset]) (fun u hu => r_ok ins regs (by omega) (by omega) (by omega) (by omega) 2 0 3 l (c + 1 + 1 + 1 + 1) (ok _ (by omega) (by omega)) (by omega) u d j (hu (((d + 1, j), stm l (c + 1 + 1 + 1 + 1))) (by simp)) (hu (((0, 2), .box [.i ins])) (by simp)) (hu (((0, 0), .box [.ptr (d + 1) j 0])) (by simp)) (hu (((0, 3), .box [.i regs])) (by simp))) ?_
        refine DOps.sim ?_
        refine DOps.nil (by rfl) (hK _ ?_); clear hK K
        refine End.blk ?_
        refine End.kp [2, 4, 5, 6, 7, 25, 26] ?_
        refine Run.go ?_
        refine End.lp ?_
        refine ⟨k - (i + 1), _, by omega, Ghost.form [(2, .ptr 0 0 0), (4, .ptr 0 1 0), (5, .ptr 0 2 0), (6, .ptr 0 3 0), (7, .ptr 0 5 0), (25, .i k), (26, .i (i + 1 : Nat))] 6 ⟨rfl, rfl, rfl, rfl, rfl, rfl, rfl, trivial⟩ rfl rfl, i + 1, rfl, by omega, ?_⟩
        have e0 : mvX l ins regs g.ands i c = ((rX l ins regs (c + 1), rX l ins regs (c + 1 + 1 + 1 + 1)), c + 1 + 1 + 1 + 1 + 1 + 1) := by simp [mvX, mv1, hge, hb1, hb2]
        have e1 : drawN (mvX l ins regs g.ands) a5 (i + 1) = (D ++ [(((rX l ins regs (c + 1), rX l ins regs (c + 1 + 1 + 1 + 1)), c + 1 + 1 + 1 + 1 + 1 + 1)).1], (((rX l ins regs (c + 1), rX l ins regs (c + 1 + 1 + 1 + 1)), c + 1 + 1 + 1 + 1 + 1 + 1)).2) := by
          show ((drawN (mvX l ins regs g.ands) a5 i).1 ++ [(mvX l ins regs g.ands i (drawN (mvX l ins regs g.ands) a5 i).2).1], (mvX l ins regs g.ands i (drawN (mvX l ins regs g.ands) a5 i).2).2) = _
          rw [hD, hcM, e0]
        rw [e1, hT]
        simp
      · have hb2 : ¬ nextV l (c + 1 + 1 + 1) 3 = 0 := fun e => by simp [e] at hb
        refine Run.skip ?_
        refine End.blk ?_
        refine End.kp [2, 4, 5, 6, 7, 25, 26] ?_
        have fx := And.intro (@Int.toNat_natCast) (And.intro (@Int.natCast_nonneg) (And.intro hml (And.intro hst (And.intro hat (And.intro hik (And.intro wi (And.intro e4 (And.intro e3 (And.intro e2 (And.intro e1 (And.intro hset (And.intro hl ft))))))))))))
        refine Run.go ?_
        refine End.lp ?_
        refine ⟨k - (i + 1), _, by omega, Ghost.form [(2, .ptr 0 0 0), (4, .ptr 0 1 0), (5, .ptr 0 2 0), (6, .ptr 0 3 0), (7, .ptr 0 5 0), (25, .i k), (26, .i (i + 1 : Nat))] 6 ⟨rfl, rfl, rfl, rfl, rfl, rfl, rfl, trivial⟩ rfl rfl, i + 1, rfl, by omega, ?_⟩
        have e0 : mvX l ins regs g.ands i c = ((rX l ins regs (c + 1), p.2), c + 1 + 1 + 1 + 1) := by simp [mvX, mv1, hge, hb1, hb2]
        have e1 : drawN (mvX l ins regs g.ands) a5 (i + 1) = (D ++ [(((rX l ins regs (c + 1), p.2), c + 1 + 1 + 1 + 1)).1], (((rX l ins regs (c + 1), p.2), c + 1 + 1 + 1 + 1)).2) := by
          show ((drawN (mvX l ins regs g.ands) a5 i).1 ++ [(mvX l ins regs g.ands i (drawN (mvX l ins regs g.ands) a5 i).2).1], (mvX l ins regs g.ands i (drawN (mvX l ins regs g.ands) a5 i).2).2) = _
          rw [hD, hcM, e0]
        rw [e1, hT]
        simp
    · have hb1 : ¬ nextV l c 3 = 0 := fun e => by simp [e] at hb
      refine Run.skip ?_
      refine End.kp [2, 4, 5, 6, 7, 8, 9, 25, 26] ?_
      refine Run.seq ?_
      have fx := And.intro (@Int.toNat_natCast) (And.intro (@Int.natCast_nonneg) (And.intro hml (And.intro hst (And.intro hat (And.intro hik (And.intro wi (And.intro e4 (And.intro e3 (And.intro e2 (And.intro e1 (And.intro hset (And.intro hl ft))))))))))))
      refine Run.region rfl fun K hK => GOps.sim ?_
      refine GOps.call rfl rfl rfl rfl (by kernel_rfl) (ACalls.sim ?_)
      refine (Next_ok l (c + 1) 3 (ok _ (by omega) (by omega)) (by omega) _ (d + 1) j (hset _)).mono fun v u hv => ?_
      obtain ⟨rfl, rfl⟩ := hv
      refine ⟨_, _, rfl, GOps.sim ?_⟩
      refine GOps.done (hK _ ?_); clear hK K
      refine End.kp [2, 4, 5, 6, 7, 8, 9, 25, 26, 42] ?_
      refine Run.cond _ rfl (fun hb => ?_) (fun hb => ?_)
      · have hb2 : nextV l (c + 1) 3 = 0 := eq_of_beq hb
        have fx := And.intro (@Int.toNat_natCast) (And.intro (@Int.natCast_nonneg) (And.intro hml (And.intro hst (And.intro hat (And.intro hik (And.intro wi (And.intro e4 (And.intro e3 (And.intro e2 (And.intro e1 (And.intro hset (And.intro hl ft))))))))))))
        refine Run.drawA fun K hK => ?_
        refine DOps.sim ?_
        refine DOps.call (.i (rX l ins regs (c + 1 + 1))) [((0, 2), .box [.i ins]), ((0, 0), .box [.ptr (d + 1) j 0]), ((0, 3), .box [.i regs]), ((d + 1, j), stm l (c + 1 + 1))] [((d + 1, j), stm l (c + 1 + 1 + 1 + 1))] rfl rfl rfl rfl (by kernel_rfl) (by simp [Agree, ASt.fr, hset]) (fun u hu => r_ok ins regs (by omega) (by omega) (by omega) (by omega) 2 0 3 l (c + 1 + 1) (ok _ (by omega) (by omega)) (by omega) u d j (hu (((d + 1, j), stm l (c + 1 + 1))) (by simp)) (hu (((0, 2), .box [.i ins])) (by simp)) (hu (((0, 0), .box [.ptr (d + 1) j 0])) (by simp)) (hu (((0, 3), .box [.i regs])) (by simp))) ?_
        refine DOps.sim ?_
        refine DOps.nil (by rfl) (hK _ ?_); clear hK K
        refine End.blk ?_
        refine End.kp [2, 4, 5, 6, 7, 25, 26] ?_
        refine Run.go ?_
        refine End.lp ?_
        refine ⟨k - (i + 1), _, by omega, Ghost.form [(2, .ptr 0 0 0), (4, .ptr 0 1 0), (5, .ptr 0 2 0), (6, .ptr 0 3 0), (7, .ptr 0 5 0), (25, .i k), (26, .i (i + 1 : Nat))] 6 ⟨rfl, rfl, rfl, rfl, rfl, rfl, rfl, trivial⟩ rfl rfl, i + 1, rfl, by omega, ?_⟩
        have e0 : mvX l ins regs g.ands i c = ((p.1, rX l ins regs (c + 1 + 1)), c + 1 + 1 + 1 + 1) := by simp [mvX, mv1, hge, hb1, hb2]
        have e1 : drawN (mvX l ins regs g.ands) a5 (i + 1) = (D ++ [(((p.1, rX l ins regs (c + 1 + 1)), c + 1 + 1 + 1 + 1)).1], (((p.1, rX l ins regs (c + 1 + 1)), c + 1 + 1 + 1 + 1)).2) := by
          show ((drawN (mvX l ins regs g.ands) a5 i).1 ++ [(mvX l ins regs g.ands i (drawN (mvX l ins regs g.ands) a5 i).2).1], (mvX l ins regs g.ands i (drawN (mvX l ins regs g.ands) a5 i).2).2) = _
          rw [hD, hcM, e0]
        rw [e1, hT]
        simp
      · have hb2 : ¬ nextV l (c + 1) 3 = 0 := fun e => by simp [e] at hb
        refine Run.skip ?_
        refine End.blk ?_
        refine End.kp [2, 4, 5, 6, 7, 25, 26] ?_
        have fx := And.intro (@Int.toNat_natCast) (And.intro (@Int.natCast_nonneg) (And.intro hml (And.intro hst (And.intro hat (And.intro hik (And.intro wi (And.intro e4 (And.intro e3 (And.intro e2 (And.intro e1 (And.intro hset (And.intro hl ft))))))))))))
        refine Run.go ?_
        refine End.lp ?_
        refine ⟨k - (i + 1), _, by omega, Ghost.form [(2, .ptr 0 0 0), (4, .ptr 0 1 0), (5, .ptr 0 2 0), (6, .ptr 0 3 0), (7, .ptr 0 5 0), (25, .i k), (26, .i (i + 1 : Nat))] 6 ⟨rfl, rfl, rfl, rfl, rfl, rfl, rfl, trivial⟩ rfl rfl, i + 1, rfl, by omega, ?_⟩
        have e0 : mvX l ins regs g.ands i c = ((p.1, p.2), c + 1 + 1) := by simp [mvX, mv1, hge, hb1, hb2]
        have e1 : drawN (mvX l ins regs g.ands) a5 (i + 1) = (D ++ [(((p.1, p.2), c + 1 + 1)).1], (((p.1, p.2), c + 1 + 1)).2) := by
          show ((drawN (mvX l ins regs g.ands) a5 i).1 ++ [(mvX l ins regs g.ands i (drawN (mvX l ins regs g.ands) a5 i).2).1], (mvX l ins regs g.ands i (drawN (mvX l ins regs g.ands) a5 i).2).2) = _
          rw [hD, hcM, e0]
        rw [e1, hT]
        simp
  · have hb := of_decide_eq_false hb
    have hiN : i = k := by omega
    rw [hiN] at hDl hD hcM
    have hdr : g.ands.drop i = [] := List.drop_eq_nil_of_le (by omega)
    have hDD : (D.map nd).length = k := by rw [nd_len]; exact hDl
    rw [hdr, List.append_nil]
    refine Run.exit rfl ?_
    refine End.kp [4, 7] ?_
    refine Run.seq ?_
    refine Run.ghost (Ghost.boxShut (j := 5) (i := 3) (r := 4) rfl rfl rfl hDD) ?_
    simp only [List.set_cons_zero, List.set_cons_succ]
    have fx := And.intro e4 (And.intro e3 (And.intro e2 (And.intro e1 (And.intro hset (And.intro hl ft)))))
    refine Run.go ?_
    refine End.kp [4] ?_
    refine Run.resC hQ ?_
    rw [hMM, hD, hcM]
    exact ⟨rfl, rfl⟩
end Go.Proofs.YtkmnmokjlpenhaaPi
