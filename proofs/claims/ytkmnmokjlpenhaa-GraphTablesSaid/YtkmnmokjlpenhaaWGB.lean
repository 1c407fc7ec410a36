/- The walks of moved$1, moved of graphs. -/
import Derived.Test.YtkmnmokjlpenhaaWGA
set_option linter.unusedVariables false
set_option linter.unusedSimpArgs false
set_option maxRecDepth 100000
namespace Go.Proofs.YtkmnmokjlpenhaaPi
set_option maxHeartbeats 4000000
abbrev mvR (to : List Int) (r : LReg) : LReg := { r with next := atV to r.next }
def mvRegs (g : LGraph) (to : List Int) (i : Nat) : List LReg := (g.regs.take i).map (mvR to) ++ g.regs.drop i
theorem mvRegs_len (g : LGraph) (to : List Int) (i : Nat) (h : i ≤ g.regs.length) : (mvRegs g to i).length = g.regs.length := by simp [mvRegs]; omega
theorem mvRegs_get (g : LGraph) (to : List Int) (i : Nat) (r : LReg) (h : g.regs[i]? = some r) : (mvRegs g to i)[i]? = some r := by
  have hi : i < g.regs.length := (List.getElem?_eq_some_iff.1 h).1
  have hl : ((g.regs.take i).map (mvR to)).length = i := by simp; omega
  rw [mvRegs, List.getElem?_append_right (by omega), hl, Nat.sub_self, List.getElem?_drop, Nat.add_zero, h]
theorem mvRegs_set (g : LGraph) (to : List Int) (i : Nat) (r : LReg) (h : g.regs[i]? = some r) : (mvRegs g to i).set i (mvR to r) = mvRegs g to (i + 1) := by
  obtain ⟨hi, hr⟩ := List.getElem?_eq_some_iff.1 h
  have hl : ((g.regs.take i).map (mvR to)).length = i := by simp; omega
  rw [mvRegs, List.set_append_right _ _ (by omega), hl, Nat.sub_self, List.drop_eq_getElem_cons hi, List.set_cons_zero, mvRegs, reg_snoc g.regs i r h]
  simp
theorem mvRegs_all (g : LGraph) (to : List Int) : mvRegs g to g.regs.length = g.regs.map (mvR to) := by simp [mvRegs]
theorem mvd_ok (to : List Int) (ht : ToOk to) (l : Int) (h0 : 0 ≤ l) (h1 : l < 2 * (to.length : Int)) (hn : to.length ≤ 100000) (up : Frs) (k : Nat) (hk : fget up 0 k = some (.box [.im (.sl (ints to))])) : ACalls Try.prog 151 [.i l, .ptr 0 k 0] up fun v u => v = .i (atV to l) ∧ u = up := by
  have hd := tdiv2 l h0 (by omega)
  have hm : l.tmod 2 = l % 2 := tmod2 l h0
  have hd0 : 0 ≤ l / 2 := by omega
  have hdl : l / 2 < (to.length : Int) := by omega
  have hv := ints_get to (l / 2).toNat (by omega)
  have hx := ht.get (l / 2).toNat
  have hxo := xor_at to l (by omega)
  have wm : IntKind.i64.wrap (l % 2) = l % 2 := wrap64 (by omega)
  refine ACalls.code Try.func151 rfl 12 rfl (by simp) [.tmp 3] rfl fun Q hQ => ?_
  simp only [ups, PV.up, argEnv]
  have ft := And.intro ty_49 (And.intro ty_62 trivial)
  refine Run.seq ?_
  have fx := And.intro hxo (And.intro wm (And.intro hv (And.intro hdl (And.intro hd0 (And.intro hm (And.intro hd (And.intro hk (And.intro ints_len ft))))))))
  refine Run.go ?_
  refine End.kp [0, 1] ?_
  refine Run.seq ?_
  refine Run.go ?_
  refine End.kp [3] ?_
  refine Run.ret (hQ _ _ ⟨.inr rfl, _, rfl, _, rfl, ?_⟩)
  exact ⟨rfl, rfl⟩
theorem moved_ok (g : LGraph) (hg : GraphOk g) (ands : List (Int × Int)) (hna : ands.length ≤ 100000) (to : List Int) (ht : ToOk to) (hn : to.length ≤ 100000) (hl : (to.length : Int) = 1 + (g.inn.length : Int) + g.regs.length + g.ands.length) (up : Frs) : ACalls Try.prog 121 [g.pv, .im (.sl (ands.map nd)), .im (.sl (ints to))] up fun v u => v = (movedG g ands to).pv ∧ u = up := by
  obtain ⟨z1, z2, z3, z4, z5⟩ := hg.small
  refine ACalls.code Try.func121 rfl 61 rfl (by simp) [.cell 6 51] rfl fun Q hQ => ?_
  simp only [ups, PV.up, argEnv]
  have ft := And.intro ty_2 (And.intro ty_3 (And.intro ty_4 (And.intro ty_9 (And.intro ty_26 (And.intro ty_47 (And.intro ty_48 (And.intro ty_49 (And.intro ty_51 (And.intro ty_62 (And.intro ty_69 (And.intro ty_137 trivial)))))))))))
  refine Run.seq ?_
  have fx := And.intro rim_len (And.intro strs_len (And.intro ints_len ft))
  refine Run.go ?_
  refine End.kp [1, 3, 5, 6] ?_
  refine Run.seq ?_
  refine Run.go ?_
  refine End.kp [1, 3, 6, 7] ?_
  refine Run.seq ?_
  refine Run.ghost (Ghost.spares 1) ?_
  simp only [ASt.pushN, ASt.push, List.append_assoc, List.cons_append, List.nil_append]
  refine Run.ghost (.spares 1) ?_
  simp only [ASt.pushN, ASt.push, List.append_assoc, List.cons_append, List.nil_append]
  have fx := And.intro rim_len (And.intro strs_len (And.intro ints_len ft))
  refine Run.drawA fun K hK => ?_
  refine DOps.sim ?_
  refine DOps.call (.im (.sl (strs g.inn))) [] [] rfl rfl rfl rfl (by kernel_rfl) (by simp [Agree]) (fun u hu => CloneS_ok g.inn (by omega) u) ?_
  refine DOps.sim ?_
  refine DOps.call (.im (.sl (strs g.out))) [] [] rfl rfl rfl rfl (by kernel_rfl) (by simp [Agree]) (fun u hu => CloneS_ok g.out (by omega) u) ?_
  refine DOps.sim ?_
  refine DOps.call (.ms 0 3 g.regs.length) [((0, 3), .dead)] [((0, 3), .row 69 3 (g.regs.map LReg.im) 0)] rfl rfl rfl rfl (by kernel_rfl) (by simp [Agree, ASt.fr]) (fun u hu => CloneRI_ok g.regs (by omega) 3 u (hu ((0, 3), .dead) (by simp))) ?_
  refine DOps.sim ?_
  refine DOps.nil (by rfl) (hK _ ?_); clear hK K
  refine End.kp [3, 6, 7, 8] ?_
  refine Run.seq ?_
  refine Run.seq ?_
  refine Run.go ?_
  refine End.kp [3, 6, 7, 8, 26, 27] ?_
  refine Run.block ?_
  refine Run.ghost (Ghost.form [(3, .ptr 0 0 0), (6, .ptr 0 2 0), (7, .fn 151 [.ptr 0 1 0]), (8, .ptr 0 4 0), (26, .i g.regs.length), (27, .i (0 : Nat))] 5 ⟨rfl, rfl, rfl, rfl, rfl, rfl, trivial⟩ rfl rfl) ?_
  refine Run.loop (fun m st => ∃ (i : Nat), m = g.regs.length - i ∧ i ≤ g.regs.length ∧ st = ⟨[(3, .ptr 0 0 0), (6, .ptr 0 2 0), (7, .fn 151 [.ptr 0 1 0]), (8, .ptr 0 4 0), (26, .i g.regs.length), (27, .i (i : Nat))], [.box [.im (.sl (strs g.inn)), .im (.sl (strs g.out)), .im (.sl (g.regs.map LReg.im)), .im (.sl (g.ands.map nd)), .im (.sl (ints g.outs))], .box [.im (.sl (ints to))], .box [.nils, .nils, .nils, .nils, .nils], .row 69 3 ((mvRegs g to (i)).map LReg.im) 0, .box [.im (.sl (strs g.inn)), .im (.sl (strs g.out)), .ms 0 3 g.regs.length, .im (.sl (ands.map nd)), .nils]], up⟩) g.regs.length ⟨0, rfl, by omega, by simp [mvRegs]⟩ fun m st hI => ?_
  obtain ⟨i, rfl, hi, rfl⟩ := hI
  have hrl := mvRegs_len g to i hi
  have hrm : ((mvRegs g to i).map LReg.im).length = g.regs.length := by rw [rim_len, hrl]
  refine Run.seq ?_
  have fx := And.intro hrm (And.intro rim_len (And.intro strs_len (And.intro ints_len ft)))
  refine Run.go ?_
  refine End.kp [3, 6, 7, 8, 26, 27, 28] ?_
  refine Run.seq ?_
  refine Run.cond _ rfl (fun hb => ?_) (fun hb => ?_)
  · have hb2 := of_decide_eq_true hb
    have hin : i < g.regs.length := by omega
    have hil : (i : Int) < (g.regs.length : Int) := by omega
    have wi := wsucc hin (by omega)
    obtain ⟨r, hr, hrm2, hgt⟩ := reg_at g.regs i hin
    obtain ⟨x1, x2⟩ := hg.regs r hrm2
    have hri := mvRegs_get g to i r hr
    have hrs := mvRegs_set g to i r hr
    have hgi : ((mvRegs g to i).map LReg.im)[i]? = some [.str r.name, .int .i64 r.next, .bool r.init] := by rw [List.getElem?_map, hri]; rfl
    refine Run.skip ?_
    refine End.kp [3, 6, 7, 8, 26, 27] ?_
    refine Run.seq ?_
    refine Run.block ?_
    refine Run.seq ?_
    have fx := And.intro (@Int.toNat_natCast) (And.intro (@Int.natCast_nonneg) (And.intro hil (And.intro hgi (And.intro wi (And.intro hrm (And.intro rim_len (And.intro strs_len (And.intro ints_len ft))))))))
    refine Run.go ?_
    refine End.kp [3, 6, 7, 8, 9, 26, 27] ?_
    refine Run.drawA fun K hK => ?_
    refine DOps.sim ?_
    refine DOps.call (.i (atV to r.next)) [((0, 1), .box [.im (.sl (ints to))])] [] rfl rfl rfl rfl (by kernel_rfl) (by simp [Agree, ASt.fr]) (fun u hu => mvd_ok to ht r.next x1 (by omega) hn u 1 (hu (((0, 1), .box [.im (.sl (ints to))])) (by simp))) ?_
    refine DOps.sim ?_
    refine DOps.nil (by rfl) (hK _ ?_); clear hK K
    refine End.blk ?_
    refine End.kp [3, 6, 7, 8, 26, 27] ?_
    refine Run.go ?_
    refine End.lp ?_
    refine ⟨g.regs.length - (i + 1), _, by omega, Ghost.form [(3, .ptr 0 0 0), (6, .ptr 0 2 0), (7, .fn 151 [.ptr 0 1 0]), (8, .ptr 0 4 0), (26, .i g.regs.length), (27, .i (i + 1 : Nat))] 5 ⟨rfl, rfl, rfl, rfl, rfl, rfl, trivial⟩ rfl rfl, i + 1, rfl, by omega, ?_⟩
    rw [← hrs, List.map_set]
    rfl
  · have hb2 := of_decide_eq_false hb
    have hiN : i = g.regs.length := by omega
    subst hiN
    refine Run.exit rfl ?_
    refine End.kp [3, 6, 7, 8] ?_
    refine Run.seq ?_
    refine Run.seq ?_
    have fx := And.intro hrm (And.intro rim_len (And.intro strs_len (And.intro ints_len ft)))
    refine Run.go ?_
    refine End.kp [6, 7, 8, 45, 46, 47] ?_
    refine Run.block ?_
    refine Run.ghost (.thawBox (j := 4) (i := 4) 62 1 (by decide) rfl rfl) ?_
    refine Run.ghost (Ghost.form [(6, .ptr 0 2 0), (7, .fn 151 [.ptr 0 1 0]), (8, .ptr 0 4 0), (45, .im (.sl (ints g.outs))), (46, .i g.outs.length), (47, .i (0 : Nat))] 6 ⟨rfl, rfl, rfl, rfl, rfl, rfl, trivial⟩ rfl rfl) ?_
    refine Run.loop (fun m st => ∃ (i : Nat), m = g.outs.length - i ∧ i ≤ g.outs.length ∧ st = ⟨[(6, .ptr 0 2 0), (7, .fn 151 [.ptr 0 1 0]), (8, .ptr 0 4 0), (45, .im (.sl (ints g.outs))), (46, .i g.outs.length), (47, .i (i : Nat))], [.box [.im (.sl (strs g.inn)), .im (.sl (strs g.out)), .im (.sl (g.regs.map LReg.im)), .im (.sl (g.ands.map nd)), .im (.sl (ints g.outs))], .box [.im (.sl (ints to))], .box [.nils, .nils, .nils, .nils, .nils], .row 69 3 ((mvRegs g to (g.regs.length)).map LReg.im) 0, .box [.im (.sl (strs g.inn)), .im (.sl (strs g.out)), .ms 0 3 g.regs.length, .im (.sl (ands.map nd)), .ms 0 5 i], .row 62 1 (ints ((g.outs.take (i)).map (atV to))) 0], up⟩) g.outs.length ⟨0, rfl, by omega, rfl⟩ fun m st hI => ?_
    obtain ⟨i, rfl, hi, rfl⟩ := hI
    have hol : (ints ((g.outs.take i).map (atV to))).length = i := by simp; omega
    have hap : (i + 1) * 8 ≤ 140737488355328 := by omega
    refine Run.seq ?_
    have fx := And.intro hap (And.intro hol (And.intro hrm (And.intro rim_len (And.intro strs_len (And.intro ints_len ft)))))
    refine Run.go ?_
    refine End.kp [6, 7, 8, 45, 46, 47, 48] ?_
    refine Run.seq ?_
    refine Run.cond _ rfl (fun hb => ?_) (fun hb => ?_)
    · have hb2 := of_decide_eq_true hb
      have hin : i < g.outs.length := by omega
      have hil : (i : Int) < (g.outs.length : Int) := by omega
      have wi := wsucc hin (by omega)
      obtain ⟨x, hxi, hxm, hx⟩ := int_at g.outs i hin
      obtain ⟨x1, x2⟩ := hg.outs x hxm
      have htk := int_snoc g.outs i x hxi
      refine Run.skip ?_
      refine End.kp [6, 7, 8, 45, 46, 47] ?_
      refine Run.seq ?_
      refine Run.block ?_
      refine Run.seq ?_
      have fx := And.intro (@Int.toNat_natCast) (And.intro (@Int.natCast_nonneg) (And.intro hil (And.intro hx (And.intro wi (And.intro hap (And.intro hol (And.intro hrm (And.intro rim_len (And.intro strs_len (And.intro ints_len ft))))))))))
      refine Run.go ?_
      refine End.kp [6, 7, 8, 11, 45, 46, 47] ?_
      refine Run.ghost (.spares 1) ?_
      simp only [ASt.pushN, ASt.push, List.append_assoc, List.cons_append, List.nil_append]
      refine Run.drawA fun K hK => ?_
      refine DOps.sim ?_
      refine DOps.call (.i (atV to x)) [((0, 1), .box [.im (.sl (ints to))])] [] rfl rfl rfl rfl (by kernel_rfl) (by simp [Agree, ASt.fr]) (fun u hu => mvd_ok to ht x x1 (by omega) hn u 1 (hu (((0, 1), .box [.im (.sl (ints to))])) (by simp))) ?_
      refine DOps.sim ?_
      refine DOps.nil (by rfl) (hK _ ?_); clear hK K
      refine End.blk ?_
      refine End.kp [6, 7, 8, 45, 46, 47] ?_
      refine Run.go ?_
      refine End.lp ?_
      refine ⟨g.outs.length - (i + 1), _, by omega, Ghost.form [(6, .ptr 0 2 0), (7, .fn 151 [.ptr 0 1 0]), (8, .ptr 0 4 0), (45, .im (.sl (ints g.outs))), (46, .i g.outs.length), (47, .i (i + 1 : Nat))] 6 ⟨rfl, rfl, rfl, rfl, rfl, rfl, trivial⟩ rfl rfl, i + 1, rfl, by omega, ?_⟩
      rw [htk]
      simp
    · have hb2 := of_decide_eq_false hb
      have hiN : i = g.outs.length := by omega
      subst hiN
      rw [List.take_length] at hol ⊢
      refine Run.exit rfl ?_
      refine End.kp [6, 8] ?_
      refine Run.seq ?_
      rw [mvRegs_all]
      refine Run.ghost (Ghost.boxShut (j := 4) (i := 2) (r := 3) rfl rfl rfl (by simp)) ?_
      refine Run.ghost (Ghost.boxShut (j := 4) (i := 4) (r := 5) rfl rfl rfl hol) ?_
      simp only [List.set_cons_zero, List.set_cons_succ]
      have fx := And.intro hap (And.intro hol (And.intro hrm (And.intro rim_len (And.intro strs_len (And.intro ints_len ft)))))
      refine Run.go ?_
      refine End.kp [6] ?_
      refine Run.resC hQ ?_
      exact ⟨rfl, rfl⟩
end Go.Proofs.YtkmnmokjlpenhaaPi
