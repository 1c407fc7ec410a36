/- Part 6 of the proof: the texts WOL, one behind the other. Each holds for every input that it names; no condition is hidden. -/
import Derived.Test.YtdgpmopcmacicaaDoorM5
import Derived.Test.YtdgpmopcmacicaaDoorM4
import Derived.Test.YtdgpmopcmacicaaDoorM3
/- The walk of RetimeSteps. -/
set_option linter.unusedVariables false
set_option linter.unusedSimpArgs false
set_option maxRecDepth 100000
namespace Go.Proofs.YtdgpmopcmacicaaDoorPi
set_option maxHeartbeats 40000000
theorem bck_of {g : LGraph} (hg : GraphOk g) (hr : g.regs.length + 2 ≤ 288) (ha : g.ands.length < 4000) (hl : (namesG g).length < 98) {q j : Nat} {r : LReg} {p : Int × Int} (hq : g.regs[q]? = some r) (hx : r.next / 2 = firstG g + j) (hp : g.ands[j]? = some p) : Bck g q r j p (freshG g) (freshG (b1G g r p)) := by
  have f1 := fresh_new g (by omega)
  have hl1 : (namesG (b1G g r p)).length < 99 := by rw [b1G, insG_names, List.length_append]; simp only [List.length_cons, List.length_nil]; omega
  have f2 := fresh_new (b1G g r p) hl1
  have e : namesG (b1G g r p) = namesG g ++ [freshG g] := insG_names _ _
  have h2 := f2.2
  rw [e, List.mem_append, not_or] at h2
  exact ⟨hg, hr, ha, hq, hx, hp, f1, ⟨f2.1, h2.1, fun h => h2.2 (by rw [h]; simp)⟩⟩
/-- What holds of the graph after some moves. -/
structure Steps (g h : LGraph) (i : Nat) : Prop where
  ok : GraphOk h
  inn : h.inn = g.inn
  outs : h.outs.length = g.outs.length
  regs : h.regs.length ≤ 7 + 2 * i
  ands : h.ands.length ≤ 10 + i
  run : ∀ tr : List (List Bool), (∀ r ∈ tr, r.length = g.inn.length) → runI h tr = runI g tr
theorem Steps.next {g h : LGraph} {i : Nat} (s : Steps g h i) : Steps g h (i + 1) := ⟨s.ok, s.inn, s.outs, by have := s.regs; omega, by have := s.ands; omega, s.run⟩
theorem Steps.names {g h : LGraph} {i : Nat} (s : Steps g h i) (hi : i ≤ 11) (h3 : g.inn.length ≤ 3) : (namesG h).length < 98 := by
  have := s.regs
  simp only [namesG, List.length_append, List.length_map, s.inn]
  omega
theorem Steps.back {g h : LGraph} {i : Nat} (s : Steps g h i) (hi : i ≤ 11) (h3 : g.inn.length ≤ 3) {q j : Nat} {r : LReg} {p : Int × Int} (hq : h.regs[q]? = some r) (hx : r.next / 2 = firstG h + j) (hp : h.ands[j]? = some p) : Steps g (backG h q r p) (i + 1) := by
  have h1 := s.regs
  have h2 := s.ands
  have hB := bck_of s.ok (by omega) (by omega) (s.names hi h3) hq hx hp
  refine ⟨hB.okB, s.inn, by simp [backG, bckG, s.outs], by simp [backG, bckG]; omega, by simp [backG, bckG]; omega, fun tr ht => ?_⟩
  rw [← s.run tr ht]
  exact hB.runB tr (by rw [s.inn]; exact ht)
theorem Steps.sweep {g h : LGraph} {i : Nat} (s : Steps g h i) {S : List Int} (hC : Clo h S []) : Steps g (swpG h S) (i + 1) := by
  obtain ⟨e1, e2, e3, e4⟩ := swp_size s.ok hC
  refine ⟨swp_ok s.ok hC, e1.trans s.inn, e2.trans s.outs, by have := s.regs; omega, by have := s.ands; omega, fun tr ht => ?_⟩
  rw [← s.run tr ht]
  exact swp_run s.ok hC tr (by rw [s.inn]; exact ht)
theorem Steps.fwd {g h : LGraph} {i : Nat} (s : Steps g h i) (hi : i ≤ 11) (h3 : g.inn.length ≤ 3) {k : Nat} (hk : k < h.ands.length) (ho : ((delayG h (h.ands.getD k (0, 0)).1).2.2 && (delayG h (h.ands.getD k (0, 0)).2).2.2) = true) : Mov h k ∧ Steps g (fwdG h k) (i + 1) := by
  have h1 := s.regs
  have h2 := s.ands
  have hM : Mov h k := ⟨s.ok, by have := s.names hi h3; omega, by omega, by omega, hk, ho⟩
  obtain ⟨e1, e2, e3, e4⟩ := hM.goSize
  refine ⟨hM, hM.goOk, e1.trans s.inn, e2.trans s.outs, by omega, by omega, fun tr ht => ?_⟩
  rw [← s.run tr ht]
  exact hM.goRun tr (by rw [s.inn]; exact ht)
theorem Steps_walk (l : List Int) (n : Int) (hn : I64 n) (hs : StmOk l 0) (up : Frs) : ACalls Tryd.prog 3 [.im (.sl (ints l)), .i n] up fun v u => v = .im (.bool true) ∧ u = up := by
  have hMov := Moving_ok 10 (by omega) (by omega) l 0 hs (by omega)
  obtain ⟨hg, hc1, hc2, hi3, hi7, _, hi10, _⟩ := moving_ok l 0 10 (by omega) (by omega)
  generalize movingV l 0 10 = M at hMov hg hc1 hc2 hi3 hi7 hi10
  obtain ⟨g, c⟩ := M
  simp only at hMov hg hc1 hc2 hi3 hi7 hi10
  have hB := Below_ok n 12 hn (by constructor <;> omega)
  have hbr : 0 ≤ below n 12 ∧ below n 12 < 12 := below_range n 12 (by omega)
  obtain ⟨N, hN⟩ : ∃ N : Nat, below n 12 = N := ⟨(below n 12).toNat, by omega⟩
  rw [hN] at hB hbr
  refine ACalls.code Tryd.func3 rfl 77 rfl (by simp) [.tmp 4] rfl fun Q hQ => ?_
  simp only [ups, PV.up, argEnv]
  have ft := And.intro ty_2 (And.intro ty_3 (And.intro ty_4 (And.intro ty_9 (And.intro ty_22 (And.intro ty_23 (And.intro ty_25 (And.intro ty_26 (And.intro ty_27 (And.intro ty_28 (And.intro ty_31 (And.intro ty_35 (And.intro ty_42 (And.intro ty_54 (And.intro ty_56 (And.intro ty_77 trivial)))))))))))))))
  refine Run.seq ?_
  have fx := And.intro nd_len (And.intro rim_len (And.intro strs_len ft))
  refine Run.go ?_
  refine End.kp [0, 1] ?_
  refine Run.seq ?_
  refine Run.go ?_
  refine End.kp [1, 5] ?_
  refine Run.seq ?_
  refine Run.region rfl fun K hK => GOps.sim ?_
  refine GOps.call rfl rfl rfl rfl (by kernel_rfl) (ACalls.sim ?_)
  refine (hMov _ 0 0 rfl).mono fun v u hv => ?_
  obtain ⟨rfl, rfl⟩ := hv
  refine ⟨_, _, rfl, GOps.sim ?_⟩
  refine GOps.done (hK _ ?_); clear hK K
  refine End.kp [1, 5, 6] ?_
  refine Run.seq ?_
  refine Run.go ?_
  refine End.kp [1, 5, 6, 7] ?_
  refine Run.seq ?_
  refine Run.seq ?_
  refine Run.region rfl fun K hK => GOps.sim ?_
  refine GOps.call rfl rfl rfl rfl (by kernel_rfl) (ACalls.sim ?_)
  refine (retimed_ok _).mono fun v u hv => ?_
  obtain ⟨rfl, rfl⟩ := hv
  refine ⟨_, _, rfl, GOps.sim ?_⟩
  refine GOps.done (hK _ ?_); clear hK K
  refine End.kp [1, 5, 6, 7, 17] ?_
  refine Run.cond _ rfl (fun hb => ?_) (fun hb => ?_)
  · have hb2 := hb
    simp at hb
  · have hb2 := hb
    refine Run.skip ?_
    refine End.kp [1, 5, 6, 7] ?_
    refine Run.seq ?_
    refine Run.seq ?_
    have fx := And.intro nd_len (And.intro rim_len (And.intro strs_len ft))
    refine Run.region rfl fun K hK => GOps.sim ?_
    refine GOps.call rfl rfl rfl rfl (by kernel_rfl) (ACalls.sim ?_)
    refine (hB _).mono fun v u hv => ?_
    obtain ⟨rfl, rfl⟩ := hv
    refine ⟨_, _, rfl, GOps.sim ?_⟩
    refine GOps.done (hK _ ?_); clear hK K
    refine End.kp [5, 6, 7, 19, 20] ?_
    refine Run.block ?_
    refine Run.ghost (Ghost.form [(5, .ptr 0 0 0), (6, .ptr 0 1 0), (7, .ptr 0 2 0), (19, .i N), (20, .i (0 : Nat))] 3 ⟨rfl, rfl, rfl, rfl, rfl, trivial⟩ rfl rfl) ?_
    refine Run.loop (fun m st => ∃ (i : Nat) (b : Int) (h : LGraph), m = N - i ∧ i ≤ N ∧ Steps g h i ∧ c ≤ b ∧ b ≤ c + 2 * i ∧ st = ⟨[(5, .ptr 0 0 0), (6, .ptr 0 1 0), (7, .ptr 0 2 0), (19, .i N), (20, .i (i : Nat))], [stm l b, .box [.im (.sl (strs g.inn)), .im (.sl (strs g.out)), .im (.sl (g.regs.map LReg.im)), .im (.sl (g.ands.map nd)), .im (.sl (ints g.outs))], .box [.im (.sl (strs h.inn)), .im (.sl (strs h.out)), .im (.sl (h.regs.map LReg.im)), .im (.sl (h.ands.map nd)), .im (.sl (ints h.outs))]], up⟩) N ⟨0, c, g, rfl, by omega, ⟨hg, rfl, rfl, by omega, by omega, fun _ _ => rfl⟩, by omega, by omega, rfl⟩ fun m st hI => ?_
    obtain ⟨i, b, h, rfl, hi, hS, hb1, hb2, rfl⟩ := hI
    have hok := hS.ok
    have hsm := hok.small
    obtain ⟨z1, z2, z3, z4, z5⟩ := hok.small
    have sr := hS.regs
    have sa := hS.ands
    have w47 : IntKind.i64.wrap ((h.regs.length : Int) + 1) = (h.regs.length : Int) + 1 := wrap64 (by omega)
    have w33 : IntKind.i64.wrap ((h.ands.length : Int) + 1) = (h.ands.length : Int) + 1 := wrap64 (by omega)
    refine Run.seq ?_
    have fx := And.intro w33 (And.intro w47 (And.intro nd_len (And.intro rim_len (And.intro strs_len ft))))
    refine Run.go ?_
    refine End.kp [5, 6, 7, 19, 20, 21] ?_
    refine Run.seq ?_
    refine Run.cond _ rfl (fun hb => ?_) (fun hb => ?_)
    · have hb3 := of_decide_eq_true hb
      have hin : i < N := by omega
      have wi := wsucc hin (by omega)
      obtain ⟨x1, x2⟩ := nextV_range l b 3 (by omega)
      have Y := nextV_range l (b + 1) ((h.regs.length : Int) + 1) (by omega)
      have X := nextV_range l (b + 1) ((h.ands.length : Int) + 1) (by omega)
      refine Run.skip ?_
      refine End.kp [5, 6, 7, 19, 20] ?_
      refine Run.seq ?_
      refine Run.block ?_
      refine Run.seq ?_
      have fx := And.intro wi (And.intro w33 (And.intro w47 (And.intro nd_len (And.intro rim_len (And.intro strs_len ft)))))
      refine Run.go ?_
      refine End.kp [5, 6, 7, 8, 19, 20] ?_
      refine Run.seq ?_
      refine Run.seq ?_
      refine Run.region rfl fun K hK => GOps.sim ?_
      refine GOps.call rfl rfl rfl rfl (by kernel_rfl) (ACalls.sim ?_)
      refine (Next_ok l b 3 ⟨hs.vals, hs.len, by omega, by omega⟩ (by constructor <;> omega) _ 0 0 rfl).mono fun v u hv => ?_
      obtain ⟨rfl, rfl⟩ := hv
      refine ⟨_, _, rfl, GOps.sim ?_⟩
      refine GOps.done (hK _ ?_); clear hK K
      refine End.kp [5, 6, 7, 8, 19, 20, 24] ?_
      refine Run.block ?_
      refine Run.seq ?_
      refine Run.go ?_
      refine End.kp [5, 6, 7, 8, 19, 20, 24, 39] ?_
      refine Run.cond _ rfl (fun hb => ?_) (fun hb => ?_)
      · have hb4 := hb
        obtain ⟨y, hy⟩ : ∃ y : Nat, nextV l (b + 1) ((h.regs.length : Int) + 1) = y := ⟨(nextV l (b + 1) ((h.regs.length : Int) + 1)).toNat, by omega⟩
        rw [hy] at Y
        rcases Bool.eq_false_or_eq_true (decide (y = h.regs.length)) with hs12 | hs12
        · skip
          have hyl := of_decide_eq_true hs12
          have fx := And.intro hs12 (And.intro wi (And.intro w33 (And.intro w47 (And.intro nd_len (And.intro rim_len (And.intro strs_len ft))))))
          refine Run.drawA fun K hK => ?_
          refine DOps.sim ?_
          refine DOps.call (.i (nextV l (b + 1) ((h.regs.length : Int) + 1))) [((0, 0), stm l (b + 1))] [((0, 0), stm l (b + 1 + 1))] rfl rfl rfl rfl (by kernel_rfl) (by simp [Agree, ASt.fr]) (fun u hu => Next_ok l (b + 1) ((h.regs.length : Int) + 1) ⟨hs.vals, hs.len, by omega, by omega⟩ (by constructor <;> omega) u 0 0 (hu (((0, 0), stm l (b + 1))) (by simp))) ?_
          refine DOps.sim ?_
          refine DOps.call (.tup [nilG, .i 7]) [] [] rfl rfl rfl rfl (by kernel_rfl) (by simp [Agree]) (fun u hu => hy ▸ Back_none h hok y hyl u) ?_
          refine DOps.sim ?_
          refine DOps.nil (by rfl) (hK _ ?_); clear hK K
          refine End.blk ?_
          refine End.kp [5, 6, 7, 8, 9, 19, 20] ?_
          refine Run.seq ?_
          refine Run.go ?_
          refine End.kp [5, 6, 7, 8, 9, 19, 20, 60] ?_
          refine Run.cond _ rfl (fun hb => ?_) (fun hb => ?_)
          · have hb5 := hb
            simp at hb
          · have hb5 := hb
            refine Run.seq ?_
            have fx := And.intro hs12 (And.intro wi (And.intro w33 (And.intro w47 (And.intro nd_len (And.intro rim_len (And.intro strs_len ft))))))
            refine Run.go ?_
            refine End.kp [5, 6, 7, 19, 20, 67] ?_
            refine Run.cond _ rfl (fun hb => ?_) (fun hb => ?_)
            · have hb6 := hb
              simp at hb
            · have hb6 := hb
              refine Run.skip ?_
              refine End.blk ?_
              refine End.kp [5, 6, 7, 19, 20] ?_
              have fx := And.intro hs12 (And.intro wi (And.intro w33 (And.intro w47 (And.intro nd_len (And.intro rim_len (And.intro strs_len ft))))))
              refine Run.go ?_
              refine End.lp ?_
              refine ⟨N - (i + 1), _, by omega, Ghost.form [(5, .ptr 0 0 0), (6, .ptr 0 1 0), (7, .ptr 0 2 0), (19, .i N), (20, .i (i + 1 : Nat))] 3 ⟨rfl, rfl, rfl, rfl, rfl, trivial⟩ rfl rfl, i + 1, b + 1 + 1, h, rfl, by omega, hS.next, by omega, by omega, rfl⟩
        · skip
          have hyl := of_decide_eq_false hs12
          obtain ⟨r, hr, hrm, hgt⟩ := reg_at h.regs y (by omega)
          have hrr := hok.regs r hrm
          rcases Bool.eq_false_or_eq_true (decide (r.next / 2 < firstG h)) with hs12b | hs12b
          · skip
            have hx := of_decide_eq_true hs12b
            have fx := And.intro hs12b (And.intro hs12 (And.intro wi (And.intro w33 (And.intro w47 (And.intro nd_len (And.intro rim_len (And.intro strs_len ft)))))))
            refine Run.drawA fun K hK => ?_
            refine DOps.sim ?_
            refine DOps.call (.i (nextV l (b + 1) ((h.regs.length : Int) + 1))) [((0, 0), stm l (b + 1))] [((0, 0), stm l (b + 1 + 1))] rfl rfl rfl rfl (by kernel_rfl) (by simp [Agree, ASt.fr]) (fun u hu => Next_ok l (b + 1) ((h.regs.length : Int) + 1) ⟨hs.vals, hs.len, by omega, by omega⟩ (by constructor <;> omega) u 0 0 (hu (((0, 0), stm l (b + 1))) (by simp))) ?_
            refine DOps.sim ?_
            refine DOps.call (.tup [nilG, .i 8]) [] [] rfl rfl rfl rfl (by kernel_rfl) (by simp [Agree]) (fun u hu => hy ▸ Back_type h hok y r hr hx u) ?_
            refine DOps.sim ?_
            refine DOps.nil (by rfl) (hK _ ?_); clear hK K
            refine End.blk ?_
            refine End.kp [5, 6, 7, 8, 9, 19, 20] ?_
            refine Run.seq ?_
            refine Run.go ?_
            refine End.kp [5, 6, 7, 8, 9, 19, 20, 60] ?_
            refine Run.cond _ rfl (fun hb => ?_) (fun hb => ?_)
            · have hb5 := hb
              simp at hb
            · have hb5 := hb
              refine Run.seq ?_
              have fx := And.intro hs12b (And.intro hs12 (And.intro wi (And.intro w33 (And.intro w47 (And.intro nd_len (And.intro rim_len (And.intro strs_len ft)))))))
              refine Run.go ?_
              refine End.kp [5, 6, 7, 19, 20, 67] ?_
              refine Run.cond _ rfl (fun hb => ?_) (fun hb => ?_)
              · have hb6 := hb
                simp at hb
              · have hb6 := hb
                refine Run.skip ?_
                refine End.blk ?_
                refine End.kp [5, 6, 7, 19, 20] ?_
                have fx := And.intro hs12b (And.intro hs12 (And.intro wi (And.intro w33 (And.intro w47 (And.intro nd_len (And.intro rim_len (And.intro strs_len ft)))))))
                refine Run.go ?_
                refine End.lp ?_
                refine ⟨N - (i + 1), _, by omega, Ghost.form [(5, .ptr 0 0 0), (6, .ptr 0 1 0), (7, .ptr 0 2 0), (19, .i N), (20, .i (i + 1 : Nat))] 3 ⟨rfl, rfl, rfl, rfl, rfl, trivial⟩ rfl rfl, i + 1, b + 1 + 1, h, rfl, by omega, hS.next, by omega, by omega, rfl⟩
          · skip
            have hx := of_decide_eq_false hs12b
            obtain ⟨j, hj⟩ : ∃ j : Nat, r.next / 2 = firstG h + j := ⟨(r.next / 2 - firstG h).toNat, by omega⟩
            obtain ⟨p, hp, hpm, hgp⟩ := node_at h.ands j (by unfold firstG at hj; omega)
            have hSn := hS.back (by omega) hi3 hr hj hp
            have fx := And.intro hs12b (And.intro hs12 (And.intro wi (And.intro w33 (And.intro w47 (And.intro nd_len (And.intro rim_len (And.intro strs_len ft)))))))
            refine Run.drawA fun K hK => ?_
            refine DOps.sim ?_
            refine DOps.call (.i (nextV l (b + 1) ((h.regs.length : Int) + 1))) [((0, 0), stm l (b + 1))] [((0, 0), stm l (b + 1 + 1))] rfl rfl rfl rfl (by kernel_rfl) (by simp [Agree, ASt.fr]) (fun u hu => Next_ok l (b + 1) ((h.regs.length : Int) + 1) ⟨hs.vals, hs.len, by omega, by omega⟩ (by constructor <;> omega) u 0 0 (hu (((0, 0), stm l (b + 1))) (by simp))) ?_
            refine DOps.sim ?_
            refine DOps.call (.tup [(backG h y r p).pv, .i 0]) [] [] rfl rfl rfl rfl (by kernel_rfl) (by simp [Agree]) (fun u hu => hy ▸ Back_go h y j r p hok (by omega) (by omega) (hS.names (by omega) hi3) hr hj hp u) ?_
            refine DOps.sim ?_
            refine DOps.nil (by rfl) (hK _ ?_); clear hK K
            refine End.blk ?_
            refine End.kp [5, 6, 7, 8, 9, 19, 20] ?_
            refine Run.seq ?_
            refine Run.go ?_
            refine End.kp [5, 6, 7, 8, 9, 19, 20, 60] ?_
            refine Run.cond _ rfl (fun hb => ?_) (fun hb => ?_)
            · have hb5 := hb
              have fx := And.intro hs12b (And.intro hs12 (And.intro wi (And.intro w33 (And.intro w47 (And.intro nd_len (And.intro rim_len (And.intro strs_len ft)))))))
              refine Run.go ?_
              refine End.blk ?_
              refine End.kp [5, 6, 7, 19, 20] ?_
              refine Run.go ?_
              refine End.lp ?_
              refine ⟨N - (i + 1), _, by omega, Ghost.form [(5, .ptr 0 0 0), (6, .ptr 0 1 0), (7, .ptr 0 2 0), (19, .i N), (20, .i (i + 1 : Nat))] 3 ⟨rfl, rfl, rfl, rfl, rfl, trivial⟩ rfl rfl, i + 1, b + 1 + 1, backG h y r p, rfl, by omega, hSn, by omega, by omega, rfl⟩
            · have hb5 := hb
              simp at hb
      · have hb4 := hb
        refine Run.seq ?_
        have fx := And.intro wi (And.intro w33 (And.intro w47 (And.intro nd_len (And.intro rim_len (And.intro strs_len ft)))))
        refine Run.go ?_
        refine End.kp [5, 6, 7, 8, 19, 20, 52] ?_
        refine Run.cond _ rfl (fun hb => ?_) (fun hb => ?_)
        · have hb5 := hb
          have fx := And.intro wi (And.intro w33 (And.intro w47 (And.intro nd_len (And.intro rim_len (And.intro strs_len ft)))))
          refine Run.region rfl fun K hK => GOps.sim ?_
          refine GOps.call rfl rfl rfl rfl (by kernel_rfl) (ACalls.sim ?_)
          refine (Sweep_ok h hok _).mono fun v u hv => ?_
          obtain ⟨S, hC, rfl, rfl⟩ := hv
          refine ⟨_, _, rfl, GOps.sim ?_⟩
          refine GOps.done (hK _ ?_); clear hK K
          refine End.blk ?_
          refine End.kp [5, 6, 7, 8, 9, 19, 20] ?_
          refine Run.seq ?_
          refine Run.go ?_
          refine End.kp [5, 6, 7, 8, 9, 19, 20, 60] ?_
          refine Run.cond _ rfl (fun hb => ?_) (fun hb => ?_)
          · have hb6 := hb
            have fx := And.intro wi (And.intro w33 (And.intro w47 (And.intro nd_len (And.intro rim_len (And.intro strs_len ft)))))
            refine Run.go ?_
            refine End.blk ?_
            refine End.kp [5, 6, 7, 19, 20] ?_
            refine Run.go ?_
            refine End.lp ?_
            refine ⟨N - (i + 1), _, by omega, Ghost.form [(5, .ptr 0 0 0), (6, .ptr 0 1 0), (7, .ptr 0 2 0), (19, .i N), (20, .i (i + 1 : Nat))] 3 ⟨rfl, rfl, rfl, rfl, rfl, trivial⟩ rfl rfl, i + 1, b + 1, swpG h S, rfl, by omega, hS.sweep hC, by omega, by omega, rfl⟩
          · have hb6 := hb
            simp at hb
        · have hb5 := hb
          obtain ⟨y, hy⟩ : ∃ y : Nat, nextV l (b + 1) ((h.ands.length : Int) + 1) = y := ⟨(nextV l (b + 1) ((h.ands.length : Int) + 1)).toNat, by omega⟩
          rw [hy] at X
          have w35 : IntKind.i64.wrap (1 + (h.inn.length : Int) + h.regs.length + (y : Int)) = 1 + (h.inn.length : Int) + h.regs.length + (y : Int) := wrap64 (by omega)
          rcases Bool.eq_false_or_eq_true (decide (y = h.ands.length)) with hs10 | hs10
          · skip
            have hyl := of_decide_eq_true hs10
            have fx := And.intro hy (And.intro w35 (And.intro hs10 (And.intro wi (And.intro w33 (And.intro w47 (And.intro nd_len (And.intro rim_len (And.intro strs_len ft))))))))
            refine Run.drawA fun K hK => ?_
            refine DOps.sim ?_
            refine DOps.call (.i (1 + (h.inn.length : Int) + h.regs.length)) [] [] rfl rfl rfl rfl (by kernel_rfl) (by simp [Agree]) (fun u hu => GFirst_ok h hsm u) ?_
            refine DOps.sim ?_
            refine DOps.call (.i (nextV l (b + 1) ((h.ands.length : Int) + 1))) [((0, 0), stm l (b + 1))] [((0, 0), stm l (b + 1 + 1))] rfl rfl rfl rfl (by kernel_rfl) (by simp [Agree, ASt.fr]) (fun u hu => Next_ok l (b + 1) ((h.ands.length : Int) + 1) ⟨hs.vals, hs.len, by omega, by omega⟩ (by constructor <;> omega) u 0 0 (hu (((0, 0), stm l (b + 1))) (by simp))) ?_
            refine DOps.sim ?_
            refine DOps.call (.tup [nilG, .i 7]) [] [] rfl rfl rfl rfl (by kernel_rfl) (by simp [Agree]) (fun u hu => Forward_none h hok y hyl u) ?_
            refine DOps.sim ?_
            refine DOps.nil (by rfl) (hK _ ?_); clear hK K
            refine End.blk ?_
            refine End.kp [5, 6, 7, 8, 9, 19, 20] ?_
            refine Run.seq ?_
            refine Run.go ?_
            refine End.kp [5, 6, 7, 8, 9, 19, 20, 60] ?_
            refine Run.cond _ rfl (fun hb => ?_) (fun hb => ?_)
            · have hb6 := hb
              simp at hb
            · have hb6 := hb
              refine Run.seq ?_
              have fx := And.intro hy (And.intro w35 (And.intro hs10 (And.intro wi (And.intro w33 (And.intro w47 (And.intro nd_len (And.intro rim_len (And.intro strs_len ft))))))))
              refine Run.go ?_
              refine End.kp [5, 6, 7, 19, 20, 67] ?_
              refine Run.cond _ rfl (fun hb => ?_) (fun hb => ?_)
              · have hb7 := hb
                simp at hb
              · have hb7 := hb
                refine Run.skip ?_
                refine End.blk ?_
                refine End.kp [5, 6, 7, 19, 20] ?_
                have fx := And.intro hy (And.intro w35 (And.intro hs10 (And.intro wi (And.intro w33 (And.intro w47 (And.intro nd_len (And.intro rim_len (And.intro strs_len ft))))))))
                refine Run.go ?_
                refine End.lp ?_
                refine ⟨N - (i + 1), _, by omega, Ghost.form [(5, .ptr 0 0 0), (6, .ptr 0 1 0), (7, .ptr 0 2 0), (19, .i N), (20, .i (i + 1 : Nat))] 3 ⟨rfl, rfl, rfl, rfl, rfl, trivial⟩ rfl rfl, i + 1, b + 1 + 1, h, rfl, by omega, hS.next, by omega, by omega, rfl⟩
          · skip
            have hyl := of_decide_eq_false hs10
            rcases Bool.eq_false_or_eq_true (!((delayG h (h.ands.getD y (0, 0)).1).2.2 && (delayG h (h.ands.getD y (0, 0)).2).2.2)) with hs10b | hs10b
            · skip
              have hx := hs10b
              rw [Bool.not_eq_true'] at hx
              have fx := And.intro hy (And.intro w35 (And.intro hs10b (And.intro hs10 (And.intro wi (And.intro w33 (And.intro w47 (And.intro nd_len (And.intro rim_len (And.intro strs_len ft)))))))))
              refine Run.drawA fun K hK => ?_
              refine DOps.sim ?_
              refine DOps.call (.i (1 + (h.inn.length : Int) + h.regs.length)) [] [] rfl rfl rfl rfl (by kernel_rfl) (by simp [Agree]) (fun u hu => GFirst_ok h hsm u) ?_
              refine DOps.sim ?_
              refine DOps.call (.i (nextV l (b + 1) ((h.ands.length : Int) + 1))) [((0, 0), stm l (b + 1))] [((0, 0), stm l (b + 1 + 1))] rfl rfl rfl rfl (by kernel_rfl) (by simp [Agree, ASt.fr]) (fun u hu => Next_ok l (b + 1) ((h.ands.length : Int) + 1) ⟨hs.vals, hs.len, by omega, by omega⟩ (by constructor <;> omega) u 0 0 (hu (((0, 0), stm l (b + 1))) (by simp))) ?_
              refine DOps.sim ?_
              refine DOps.call (.tup [nilG, .i 8]) [] [] rfl rfl rfl rfl (by kernel_rfl) (by simp [Agree]) (fun u hu => Forward_type h hok y (by omega) hx u) ?_
              refine DOps.sim ?_
              refine DOps.nil (by rfl) (hK _ ?_); clear hK K
              refine End.blk ?_
              refine End.kp [5, 6, 7, 8, 9, 19, 20] ?_
              refine Run.seq ?_
              refine Run.go ?_
              refine End.kp [5, 6, 7, 8, 9, 19, 20, 60] ?_
              refine Run.cond _ rfl (fun hb => ?_) (fun hb => ?_)
              · have hb6 := hb
                simp at hb
              · have hb6 := hb
                refine Run.seq ?_
                have fx := And.intro hy (And.intro w35 (And.intro hs10b (And.intro hs10 (And.intro wi (And.intro w33 (And.intro w47 (And.intro nd_len (And.intro rim_len (And.intro strs_len ft)))))))))
                refine Run.go ?_
                refine End.kp [5, 6, 7, 19, 20, 67] ?_
                refine Run.cond _ rfl (fun hb => ?_) (fun hb => ?_)
                · have hb7 := hb
                  simp at hb
                · have hb7 := hb
                  refine Run.skip ?_
                  refine End.blk ?_
                  refine End.kp [5, 6, 7, 19, 20] ?_
                  have fx := And.intro hy (And.intro w35 (And.intro hs10b (And.intro hs10 (And.intro wi (And.intro w33 (And.intro w47 (And.intro nd_len (And.intro rim_len (And.intro strs_len ft)))))))))
                  refine Run.go ?_
                  refine End.lp ?_
                  refine ⟨N - (i + 1), _, by omega, Ghost.form [(5, .ptr 0 0 0), (6, .ptr 0 1 0), (7, .ptr 0 2 0), (19, .i N), (20, .i (i + 1 : Nat))] 3 ⟨rfl, rfl, rfl, rfl, rfl, trivial⟩ rfl rfl, i + 1, b + 1 + 1, h, rfl, by omega, hS.next, by omega, by omega, rfl⟩
            · skip
              have hx := hs10b
              rw [Bool.not_eq_false'] at hx
              obtain ⟨hM, hSn⟩ := hS.fwd (by omega) hi3 (k := y) (by omega) hx
              have fx := And.intro hy (And.intro w35 (And.intro hs10b (And.intro hs10 (And.intro wi (And.intro w33 (And.intro w47 (And.intro nd_len (And.intro rim_len (And.intro strs_len ft)))))))))
              refine Run.drawA fun K hK => ?_
              refine DOps.sim ?_
              refine DOps.call (.i (1 + (h.inn.length : Int) + h.regs.length)) [] [] rfl rfl rfl rfl (by kernel_rfl) (by simp [Agree]) (fun u hu => GFirst_ok h hsm u) ?_
              refine DOps.sim ?_
              refine DOps.call (.i (nextV l (b + 1) ((h.ands.length : Int) + 1))) [((0, 0), stm l (b + 1))] [((0, 0), stm l (b + 1 + 1))] rfl rfl rfl rfl (by kernel_rfl) (by simp [Agree, ASt.fr]) (fun u hu => Next_ok l (b + 1) ((h.ands.length : Int) + 1) ⟨hs.vals, hs.len, by omega, by omega⟩ (by constructor <;> omega) u 0 0 (hu (((0, 0), stm l (b + 1))) (by simp))) ?_
              refine DOps.sim ?_
              refine DOps.call (.tup [(fwdG h y).pv, .i 0]) [] [] rfl rfl rfl rfl (by kernel_rfl) (by simp [Agree]) (fun u hu => Forward_go h hok (by omega) (by omega) y (by omega) hx hM.fwdOk u) ?_
              refine DOps.sim ?_
              refine DOps.nil (by rfl) (hK _ ?_); clear hK K
              refine End.blk ?_
              refine End.kp [5, 6, 7, 8, 9, 19, 20] ?_
              refine Run.seq ?_
              refine Run.go ?_
              refine End.kp [5, 6, 7, 8, 9, 19, 20, 60] ?_
              refine Run.cond _ rfl (fun hb => ?_) (fun hb => ?_)
              · have hb6 := hb
                have fx := And.intro hy (And.intro w35 (And.intro hs10b (And.intro hs10 (And.intro wi (And.intro w33 (And.intro w47 (And.intro nd_len (And.intro rim_len (And.intro strs_len ft)))))))))
                refine Run.go ?_
                refine End.blk ?_
                refine End.kp [5, 6, 7, 19, 20] ?_
                refine Run.go ?_
                refine End.lp ?_
                refine ⟨N - (i + 1), _, by omega, Ghost.form [(5, .ptr 0 0 0), (6, .ptr 0 1 0), (7, .ptr 0 2 0), (19, .i N), (20, .i (i + 1 : Nat))] 3 ⟨rfl, rfl, rfl, rfl, rfl, trivial⟩ rfl rfl, i + 1, b + 1 + 1, fwdG h y, rfl, by omega, hSn, by omega, by omega, rfl⟩
              · have hb6 := hb
                simp at hb
    · have hb3 := of_decide_eq_false hb
      have hP := Played_ok 20 g.inn.length (by omega) (by omega) l b ⟨hs.vals, hs.len, by omega, by omega⟩ (by omega)
      have hr := playedV_row l g.inn.length b 20
      have hl := playedV_len l g.inn.length b 20
      generalize playedV l g.inn.length b 20 = PA at hP hr hl
      obtain ⟨tr, e⟩ := PA
      simp only at hP hr hl
      have hrun := hS.run tr hr
      have hti : ∀ r ∈ tr, r.length = h.inn.length := by rw [hS.inn]; exact hr
      refine Run.exit rfl ?_
      refine End.kp [5, 6, 7] ?_
      refine Run.seq ?_
      have fx := And.intro w33 (And.intro w47 (And.intro nd_len (And.intro rim_len (And.intro strs_len ft))))
      refine Run.drawA fun K hK => ?_
      refine DOps.sim ?_
      refine DOps.call (.im (.sl (boolss tr))) [((0, 0), stm l b)] [((0, 0), stm l e)] rfl rfl rfl rfl (by kernel_rfl) (by simp [Agree, ASt.fr]) (fun u hu => hP u 0 0 (hu ((0, 0), stm l b) (by simp))) ?_
      refine DOps.sim ?_
      refine DOps.call (.im (.bool true)) [] [] rfl rfl rfl rfl (by kernel_rfl) (by simp [Agree]) (fun u hu => runs_ok g h hg hok tr (by omega) hr hti hrun u) ?_
      refine DOps.sim ?_
      refine DOps.nil (by rfl) (hK _ ?_); clear hK K
      refine End.kp [4] ?_
      refine Run.ret (hQ _ _ ⟨.inr rfl, _, rfl, _, rfl, ?_⟩)
      exact ⟨rfl, rfl⟩
end Go.Proofs.YtdgpmopcmacicaaDoorPi

