/- The walks of Enables, gated and the literal's value; drawn graphs are in order. -/
import Derived.Test.YtkmnmokjlpenhaaWT
import Derived.Test.YtkmnmokjlpenhaaWO
import Derived.Test.YtkmnmokjlpenhaaPNames
set_option linter.unusedVariables false
set_option linter.unusedSimpArgs false
set_option maxRecDepth 100000
namespace Go.Proofs.YtkmnmokjlpenhaaPi
set_option maxHeartbeats 4000000
theorem words_mem (l : List Int) (k i : Nat) (a : Int) : ∀ s ∈ (wordsV l k i a).1, NameOk s := (words_ok l k i a).1
theorem drawnG_ok (l : List Int) (a : Int) (ins regs ands outs : Nat) (h1 : ins + regs ≤ 26) (h2 : ands ≤ 100) (h3 : outs ≤ 26) : GraphOk (graphV l a ins regs ands outs).1 := by
  obtain ⟨p1, p2, p3, p4, p5, p6, p7⟩ := graphV_pos l a ins regs ands outs
  have hw := (wordsV_pos l (ins + regs) 0 a).2.2
  have hnames : ((graphV l a ins regs ands outs).1.inn ++ (graphV l a ins regs ands outs).1.regs.map LReg.name) = (wordsV l (ins + regs) 0 a).1 := by
    have hr : (graphV l a ins regs ands outs).1.regs.map LReg.name = (wordsV l (ins + regs) 0 a).1.drop ins := by
      refine List.ext_getElem? fun i => ?_
      rw [List.getElem?_map]
      by_cases hi : i < regs
      · have hg : (graphV l a ins regs ands outs).1.regs[i]? = some (graphV l a ins regs ands outs).1.regs[i] := List.getElem?_eq_getElem (by omega)
        have := drawN_mem (regX l (((1 + ins + regs : Nat) : Int) + ands) ((wordsV l (ins + regs) 0 a).1.drop ins)) (drawN (andX l ((1 + ins + regs : Nat) : Int)) (wordsV l outs 0 (wordsV l (ins + regs) 0 a).2).2 ands).2 (fun i r => r.name = ((wordsV l (ins + regs) 0 a).1.drop ins).getD i ByteArray.empty) (fun i b => rfl) regs i _ hg
        rw [hg, Option.map_some, this, List.getD_eq_getElem?_getD]
        have hlt : i < ((wordsV l (ins + regs) 0 a).1.drop ins).length := by rw [List.length_drop, hw]; omega
        rw [List.getElem?_eq_getElem hlt]
        rfl
      · rw [List.getElem?_eq_none (by omega), List.getElem?_eq_none (by rw [List.length_drop, hw]; omega)]
        rfl
    rw [hr]
    exact List.take_append_drop ins _
  refine ⟨⟨by omega, by omega, by omega, by omega, by omega⟩, ?_, ?_, ?_, ?_, by omega, ?_, ?_, ?_⟩
  · rw [hnames]
    exact words_mem l _ _ _
  · rw [hnames]
    exact words_nodup l _ _ (by omega)
  · exact words_mem l _ _ _
  · exact words_nodup l _ _ (by omega)
  · intro i p hp
    rw [p3, p5]
    have := drawN_mem (andX l ((1 + ins + regs : Nat) : Int)) (wordsV l outs 0 (wordsV l (ins + regs) 0 a).2).2 (fun i p => (0 ≤ p.1 ∧ p.1 < 2 * (((1 + ins + regs : Nat) : Int) + i)) ∧ 0 ≤ p.2 ∧ p.2 < 2 * (((1 + ins + regs : Nat) : Int) + i))
      (fun i b => ⟨litX_range l b _ (by omega), litX_range l _ _ (by omega)⟩) ands i p hp
    omega
  · intro r hr
    rw [p3, p5, p6]
    obtain ⟨i, hi⟩ := List.mem_iff_getElem?.1 hr
    have := drawN_mem (regX l (((1 + ins + regs : Nat) : Int) + ands) ((wordsV l (ins + regs) 0 a).1.drop ins)) (drawN (andX l ((1 + ins + regs : Nat) : Int)) (wordsV l outs 0 (wordsV l (ins + regs) 0 a).2).2 ands).2 (fun i r => 0 ≤ r.next ∧ r.next < 2 * (((1 + ins + regs : Nat) : Int) + ands)) (fun i b => litX_range l b _ (by omega)) regs i r hi
    omega
  · intro x hx
    rw [p3, p5, p6]
    obtain ⟨i, hi⟩ := List.mem_iff_getElem?.1 hx
    have := drawN_mem (fun _ b => litX l b (((1 + ins + regs : Nat) : Int) + ands)) (drawN (regX l (((1 + ins + regs : Nat) : Int) + ands) ((wordsV l (ins + regs) 0 a).1.drop ins)) (drawN (andX l ((1 + ins + regs : Nat) : Int)) (wordsV l outs 0 (wordsV l (ins + regs) 0 a).2).2 ands).2 regs).2 (fun i x => 0 ≤ x ∧ x < 2 * (((1 + ins + regs : Nat) : Int) + ands)) (fun i b => litX_range l b _ (by omega)) outs i x hi
    omega
theorem small_ok (l : List Int) (a : Int) (ands : Nat) (h : ands ≤ 99) : GraphOk (smallV l a ands).1 ∧ a ≤ (smallV l a ands).2 ∧ (smallV l a ands).2 ≤ a + 1000 := by
  obtain ⟨r1, s1⟩ := nextV_range l a 5 (by omega)
  obtain ⟨r2, s2⟩ := nextV_range l (a + 1) 4 (by omega)
  obtain ⟨r3, s3⟩ := nextV_range l (a + 1 + 1) (ands + 1) (by omega)
  obtain ⟨r4, s4⟩ := nextV_range l (a + 1 + 1 + 1) (4 - 1 + 1) (by omega)
  have h2 := graphV_pos l (a + 1 + 1 + 1 + 1) (nextV l a 5).toNat (nextV l (a + 1) 4).toNat (nextV l (a + 1 + 1) (ands + 1)).toNat (1 + nextV l (a + 1 + 1 + 1) (4 - 1 + 1)).toNat
  refine ⟨drawnG_ok l _ _ _ _ _ (by omega) (by omega) (by omega), ?_, ?_⟩
  · simp only [smallV]; omega
  · simp only [smallV]; omega
theorem mv1_range (l : List Int) (ins regs x b n : Int) (hr : 1 ≤ regs) (h0 : 0 ≤ ins) (hn : 1 + ins + regs ≤ n) (hx : 0 ≤ x ∧ x < 2 * n) : 0 ≤ (mv1 l ins regs x b).1 ∧ (mv1 l ins regs x b).1 < 2 * n := by
  unfold mv1
  split
  · have h1 := nextV_range l (b + 1) regs hr
    have h2 := nextV_range l (b + 1 + 1) 2 (by omega)
    simp only [rX]
    omega
  · exact hx
theorem moving_ok (l : List Int) (a : Int) (ands : Nat) (h0 : 1 ≤ ands) (h : ands ≤ 99) : GraphOk (movingV l a ands).1 ∧ a ≤ (movingV l a ands).2 ∧ (movingV l a ands).2 ≤ a + 2000 ∧ (movingV l a ands).1.inn.length ≤ 3 ∧ (movingV l a ands).1.regs.length ≤ 7 ∧ 2 ≤ (movingV l a ands).1.regs.length ∧ (movingV l a ands).1.ands.length ≤ ands ∧ 1 ≤ (movingV l a ands).1.ands.length := by
  obtain ⟨r1, s1⟩ := nextV_range l a (3 - 1 + 1) (by omega)
  obtain ⟨r2, s2⟩ := nextV_range l (a + 1) (7 - 2 + 1) (by omega)
  obtain ⟨r3, s3⟩ := nextV_range l (a + 1 + 1) (ands - 1 + 1) (by omega)
  obtain ⟨r4, s4⟩ := nextV_range l (a + 1 + 1 + 1) (3 - 1 + 1) (by omega)
  simp only [movingV]
  obtain ⟨ins, e1⟩ : ∃ k : Nat, 1 + nextV l a (3 - 1 + 1) = k := ⟨(1 + nextV l a (3 - 1 + 1)).toNat, by omega⟩
  obtain ⟨regs, e2⟩ : ∃ k : Nat, 2 + nextV l (a + 1) (7 - 2 + 1) = k := ⟨(2 + nextV l (a + 1) (7 - 2 + 1)).toNat, by omega⟩
  obtain ⟨k, e3⟩ : ∃ k : Nat, 1 + nextV l (a + 1 + 1) (ands - 1 + 1) = k := ⟨(1 + nextV l (a + 1 + 1) (ands - 1 + 1)).toNat, by omega⟩
  obtain ⟨outs, e4⟩ : ∃ k : Nat, 1 + nextV l (a + 1 + 1 + 1) (3 - 1 + 1) = k := ⟨(1 + nextV l (a + 1 + 1 + 1) (3 - 1 + 1)).toNat, by omega⟩
  simp only [e1, e2, e3, e4, Int.toNat_natCast]
  have hok := drawnG_ok l (a + 1 + 1 + 1 + 1) ins regs k outs (by omega) (by omega) (by omega)
  obtain ⟨p1, p2, p3, p4, p5, p6, p7⟩ := graphV_pos l (a + 1 + 1 + 1 + 1) ins regs k outs
  generalize graphV l (a + 1 + 1 + 1 + 1) ins regs k outs = G at hok p1 p2 p3 p4 p5 p6 p7
  obtain ⟨g, a5⟩ := G
  simp only at hok p1 p2 p3 p4 p5 p6 p7 ⊢
  have pM := drawN_pos (mvX l ins regs g.ands) a5 6 (mvX_pos l ins regs g.ands) g.ands.length
  have hl : (drawN (mvX l ins regs g.ands) a5 g.ands.length).1.length = g.ands.length := drawN_len _ _ _
  obtain ⟨⟨z1, z2, z3, z4, z5⟩, k1, k2, k3, k4, k5, k6, k7, k8⟩ := hok
  refine ⟨⟨⟨z1, z2, z3, by simp only [hl]; exact z4, z5⟩, k1, k2, k3, k4, k5, ?_, ?_, ?_⟩, by omega, by omega, by omega, by omega, by omega, by omega, by omega⟩
  · intro i p hp
    simp only at hp ⊢
    have hi : i < g.ands.length := by have := (List.getElem?_eq_some_iff.1 hp).1; omega
    have hb := k6 i g.ands[i] (List.getElem?_eq_getElem hi)
    have := drawN_mem (mvX l ins regs g.ands) a5 (fun i p => i < g.ands.length → (0 ≤ p.1 ∧ p.1 < 2 * (1 + (g.inn.length : Int) + g.regs.length + i)) ∧ 0 ≤ p.2 ∧ p.2 < 2 * (1 + (g.inn.length : Int) + g.regs.length + i)) (fun i b hi => by
      have hb := k6 i g.ands[i] (List.getElem?_eq_getElem hi)
      have hd : g.ands.getD i (0, 0) = g.ands[i] := by simp [hi]
      simp only [mvX, hd]
      exact ⟨mv1_range l ins regs _ _ _ (by omega) (by omega) (by omega) hb.1, mv1_range l ins regs _ _ _ (by omega) (by omega) (by omega) hb.2⟩) _ i p hp hi
    exact this
  · intro r hr
    have := k7 r hr
    simp only
    omega
  · intro x hx
    have := k8 x hx
    simp only
    omega
abbrev regD : LReg := ⟨ByteArray.empty, 0, false⟩
def enV (g : LGraph) (i : Nat) : Int × Int := findV g ((g.regs.getD i regD).next) (2 * (1 + (g.inn.length : Int) + i))
def enablesV (g : LGraph) : List (Int × Int) := (List.range g.regs.length).map (enV g)
theorem Enables_ok (g : LGraph) (hg : GraphOk g) (up : Frs) : ACalls Try.prog 22 [g.pv] up fun v u => v = .tup [.im (.sl ((enablesV g).map nd)), .i 0] ∧ u = up := by
  obtain ⟨z1, z2, z3, z4, z5⟩ := hg.small
  refine ACalls.code Try.func22 rfl 37 rfl (by simp) [.tmp 2, .tmp 3] rfl fun Q hQ => ?_
  simp only [ups, PV.up, argEnv]
  have ft := And.intro ty_2 (And.intro ty_3 (And.intro ty_4 (And.intro ty_9 (And.intro ty_26 (And.intro ty_34 (And.intro ty_47 (And.intro ty_51 (And.intro ty_53 (And.intro ty_62 (And.intro ty_67 (And.intro ty_69 trivial)))))))))))
  refine Run.seq ?_
  have fx := And.intro strs_len (And.intro rim_len ft)
  refine Run.go ?_
  refine End.kp [1] ?_
  refine Run.seq ?_
  refine Run.seq ?_
  refine Run.region rfl fun K hK => GOps.sim ?_
  refine GOps.call rfl rfl rfl rfl (by kernel_rfl) (ACalls.sim ?_)
  refine (Check_ok g hg _).mono fun v u hv => ?_
  obtain ⟨rfl, rfl⟩ := hv
  refine ⟨_, _, rfl, GOps.sim ?_⟩
  refine GOps.done (hK _ ?_); clear hK K
  refine End.kp [1, 4] ?_
  refine Run.seq ?_
  refine Run.go ?_
  refine End.kp [1, 4, 11] ?_
  refine Run.cond _ rfl (fun hb => ?_) (fun hb => ?_)
  · have hb2 := hb
    simp at hb
  · have hb2 := hb
    refine Run.skip ?_
    refine End.kp [1] ?_
    refine Run.seq ?_
    have fx := And.intro strs_len (And.intro rim_len ft)
    refine Run.go ?_
    refine End.kp [1, 5] ?_
    refine Run.seq ?_
    refine Run.seq ?_
    refine Run.go ?_
    refine End.kp [1, 5, 14, 15, 16] ?_
    refine Run.block ?_
    refine Run.ghost (Ghost.thaw (u := 5) 67 2 (by decide) rfl) ?_
    refine Run.ghost (Ghost.form [(1, .ptr 0 0 0), (5, .ms 0 1 0), (14, .im (.sl (g.regs.map LReg.im))), (15, .i g.regs.length), (16, .i (0 : Nat))] 2 ⟨rfl, rfl, rfl, rfl, rfl, trivial⟩ rfl rfl) ?_
    refine Run.loop (fun m s => ∃ (i : Nat), m = g.regs.length - i ∧ i ≤ g.regs.length ∧ s = ⟨[(1, .ptr 0 0 0), (5, .ms 0 1 i), (14, .im (.sl (g.regs.map LReg.im))), (15, .i g.regs.length), (16, .i (i : Nat))], [.box [.im (.sl (strs g.inn)), .im (.sl (strs g.out)), .im (.sl (g.regs.map LReg.im)), .im (.sl (g.ands.map nd)), .im (.sl (ints g.outs))], .row 67 2 (((List.range i).map (enV g)).map nd) 0], up⟩) g.regs.length ⟨0, rfl, by omega, rfl⟩ fun m s hI => ?_
    obtain ⟨i, rfl, hi, rfl⟩ := hI
    have hdn : (((List.range i).map (enV g)).map nd).length = i := by simp
    have hap : (i + 1) * 16 ≤ 140737488355328 := by omega
    refine Run.seq ?_
    have fx := And.intro hap (And.intro hdn (And.intro strs_len (And.intro rim_len ft)))
    refine Run.go ?_
    refine End.kp [1, 5, 14, 15, 16, 17] ?_
    refine Run.seq ?_
    refine Run.cond _ rfl (fun hb => ?_) (fun hb => ?_)
    · have hb2 := of_decide_eq_true hb
      have hin : i < g.regs.length := by omega
      have wi := wsucc hin (by omega)
      obtain ⟨r, hri, hrm, hr⟩ := reg_at g.regs i hin
      obtain ⟨x1, x2⟩ := hg.regs r hrm
      have w1 : IntKind.i64.wrap (1 + (g.inn.length : Int)) = 1 + (g.inn.length : Int) := wrap64 (by omega)
      have w2 : IntKind.i64.wrap (1 + (g.inn.length : Int) + i) = 1 + (g.inn.length : Int) + i := wrap64 (by omega)
      have hen : enV g i = findV g r.next (2 * (1 + (g.inn.length : Int) + i)) := by simp [enV, hri]
      refine Run.skip ?_
      refine End.kp [1, 5, 14, 15, 16] ?_
      refine Run.seq ?_
      refine Run.block ?_
      refine Run.seq ?_
      have fx := And.intro (@Int.toNat_natCast) (And.intro (@Int.natCast_nonneg) (And.intro w2 (And.intro w1 (And.intro hr (And.intro wi (And.intro hap (And.intro hdn (And.intro strs_len (And.intro rim_len ft)))))))))
      refine Run.go ?_
      refine End.kp [1, 5, 6, 7, 14, 15, 16] ?_
      refine Run.ghost (.spares 1) ?_
      simp only [ASt.pushN, ASt.push, List.append_assoc, List.cons_append, List.nil_append]
      refine Run.drawA fun K hK => ?_
      refine DOps.sim ?_
      refine DOps.call (.i (2 * (1 + (g.inn.length : Int) + i))) [] [] rfl rfl rfl rfl (by kernel_rfl) (by simp [Agree]) (fun u hu => Make_ok (1 + (g.inn.length : Int) + i) (by omega) (by omega) u) ?_
      refine DOps.sim ?_
      refine DOps.call (.agg [.i (findV g r.next (2 * (1 + (g.inn.length : Int) + i))).1, .i (findV g r.next (2 * (1 + (g.inn.length : Int) + i))).2]) [] [] rfl rfl rfl rfl (by kernel_rfl) (by simp [Agree]) (fun u hu => find_ok g hg r.next (2 * (1 + (g.inn.length : Int) + i)) x1 x2 (by omega) (by omega) u) ?_
      refine DOps.sim ?_
      refine DOps.nil (by rfl) (hK _ ?_); clear hK K
      refine End.blk ?_
      refine End.kp [1, 5, 14, 15, 16] ?_
      refine Run.go ?_
      refine End.lp ?_
      refine ⟨g.regs.length - (i + 1), _, by omega, Ghost.form [(1, .ptr 0 0 0), (5, .ms 0 1 (i + 1)), (14, .im (.sl (g.regs.map LReg.im))), (15, .i g.regs.length), (16, .i (i + 1 : Nat))] 2 ⟨rfl, rfl, rfl, rfl, rfl, trivial⟩ rfl rfl, i + 1, rfl, by omega, ?_⟩
      rw [List.range_succ, ← hen]
      simp
    · have hb2 := of_decide_eq_false hb
      have hiN : i = g.regs.length := by omega
      subst hiN
      refine Run.exit rfl ?_
      refine End.kp [5] ?_
      refine Run.seq ?_
      refine Run.ghost (Ghost.shut (t := 5) (j := 1) rfl rfl hdn) ?_
      simp only [eput, edel]
      have fx := And.intro hap (And.intro hdn (And.intro strs_len (And.intro rim_len ft)))
      refine Run.go ?_
      refine End.kp [2, 3] ?_
      refine Run.ret (hQ _ _ ⟨.inr rfl, _, rfl, _, rfl, ?_⟩)
      exact ⟨rfl, rfl⟩
abbrev strB (n : UInt8) : ByteArray := ⟨#[n]⟩
abbrev gateG : LGraph := ⟨[], [], [⟨strB 114, 2, false⟩, ⟨strB 113, 3, false⟩], [], []⟩
theorem strB_ok (n : UInt8) (h : 33 ≤ n.toNat) (h2 : n.toNat ≤ 126) : NameOk (strB n) := by
  refine ⟨by simp [ByteArray.size], by simp [ByteArray.size], fun b hb => ?_⟩
  simp at hb
  subst hb
  exact ⟨h, h2⟩
theorem gateG_ok : GraphOk gateG := by
  refine ⟨⟨by simp, by simp, by simp, by simp, by simp⟩, ?_, ?_, by simp, by simp, rfl, by simp, ?_, by simp⟩
  · intro s hs
    simp at hs
    rcases hs with rfl | rfl
    · exact strB_ok 114 (by decide) (by decide)
    · exact strB_ok 113 (by decide) (by decide)
  · simp
  · intro r hr
    simp at hr
    rcases hr with rfl | rfl <;> simp
theorem gateG_en : enablesV gateG = [(0, 0), (1, 3)] := by decide
theorem gated_ok (up : Frs) : ACalls Try.prog 26 [] up fun v u => v = .im (.bool true) ∧ u = up := by
  have h22 : (((2 : Nat) : Int) == 2) = true := rfl
  have h02 : (0 : Int) < ((2 : Nat) : Int) := by omega
  have h12 : (1 : Int) < ((2 : Nat) : Int) := by omega
  have h00 : ((0 : Int) == 0) = true := rfl
  refine ACalls.code Try.func26 rfl 32 rfl (by simp) [.tmp 0] rfl fun Q hQ => ?_
  simp only [ups, PV.up, argEnv]
  have ft := And.intro ty_2 (And.intro ty_3 (And.intro ty_4 (And.intro ty_34 (And.intro ty_47 (And.intro ty_51 (And.intro ty_53 (And.intro ty_62 (And.intro ty_67 (And.intro ty_69 trivial)))))))))
  refine Run.seq ?_
  have fx := And.intro h00 (And.intro h12 (And.intro h02 (And.intro h22 ft)))
  refine Run.go ?_
  refine End.kp [] ?_
  refine Run.seq ?_
  refine Run.region rfl fun K hK => GOps.sim ?_
  refine GOps.call rfl rfl rfl rfl (by kernel_rfl) (ACalls.sim ?_)
  refine (Enables_ok gateG gateG_ok _).mono fun v u hv => ?_
  obtain ⟨rfl, rfl⟩ := hv
  rw [gateG_en]
  have fx := And.intro h00 (And.intro h12 (And.intro h02 (And.intro h22 ft)))
  refine ⟨_, _, rfl, GOps.sim ?_⟩
  refine GOps.done (hK _ ?_); clear hK K
  refine End.kp [1, 2] ?_
  refine Run.seq ?_
  refine Run.go ?_
  refine End.kp [0] ?_
  refine Run.ret (hQ _ _ ⟨.inr rfl, _, rfl, _, rfl, ?_⟩)
  exact ⟨rfl, rfl⟩
theorem gat_ok (v : List Int) (l : Int) (h0 : 0 ≤ l) (h1 : l < 2 * (v.length : Int)) (hv2 : v.length ≤ 100000) (up : Frs) (k : Nat) (hk : fget up 0 k = some (.box [.im (.sl (us v))])) : ACalls Try.prog 27 [.i l, .ptr 0 k 0] up fun r u => r = .u (ofV v l) ∧ u = up := by
  have hd0 : 0 ≤ l / 2 := by omega
  have hdl : l / 2 < (v.length : Int) := by omega
  have hv := us_get v (l / 2).toNat (by omega)
  refine ACalls.code Try.func27 rfl 17 rfl (by simp) [.tmp 3] rfl fun Q hQ => ?_
  simp only [ups, PV.up, argEnv]
  have ft := And.intro ty_3 (And.intro ty_4 (And.intro ty_37 (And.intro ty_56 (And.intro ty_62 trivial))))
  refine Run.seq ?_
  have fx := And.intro hv (And.intro hdl (And.intro hd0 (And.intro hk (And.intro us_len ft))))
  refine Run.go ?_
  refine End.kp [0, 1] ?_
  refine Run.seq ?_
  refine Run.seq ?_
  refine Run.region rfl fun K hK => GOps.sim ?_
  refine GOps.call rfl rfl rfl rfl (by kernel_rfl) (ACalls.sim ?_)
  refine (Inverted_ok l h0 _).mono fun v u hv => ?_
  obtain ⟨rfl, rfl⟩ := hv
  refine ⟨_, _, rfl, GOps.sim ?_⟩
  refine GOps.done (hK _ ?_); clear hK K
  refine End.kp [0, 1, 5] ?_
  refine Run.cond _ rfl (fun hb => ?_) (fun hb => ?_)
  · have hb2 := eq_of_beq hb
    refine Run.seq ?_
    have fx := And.intro hv (And.intro hdl (And.intro hd0 (And.intro hk (And.intro us_len ft))))
    refine Run.drawA fun K hK => ?_
    refine DOps.sim ?_
    refine DOps.call (.i (l / 2)) [] [] rfl rfl rfl rfl (by kernel_rfl) (by simp [Agree]) (fun u hu => Node_ok l h0 (by omega) u) ?_
    refine DOps.sim ?_
    refine DOps.nil (metAll_quiet rfl) (hK _ ?_); clear hK K
    refine End.kp [3] ?_
    refine Run.ret (hQ _ _ ⟨.inr rfl, _, rfl, _, rfl, ?_⟩)
    exact ⟨by simp [ofV, hb2], rfl⟩
  · have hb2 : ¬ l % 2 = 1 := fun e => by simp [e] at hb
    refine Run.skip ?_
    refine End.kp [0, 1] ?_
    refine Run.seq ?_
    have fx := And.intro hv (And.intro hdl (And.intro hd0 (And.intro hk (And.intro us_len ft))))
    refine Run.drawA fun K hK => ?_
    refine DOps.sim ?_
    refine DOps.call (.i (l / 2)) [] [] rfl rfl rfl rfl (by kernel_rfl) (by simp [Agree]) (fun u hu => Node_ok l h0 (by omega) u) ?_
    refine DOps.sim ?_
    refine DOps.nil (metAll_quiet rfl) (hK _ ?_); clear hK K
    refine End.kp [3] ?_
    refine Run.ret (hQ _ _ ⟨.inr rfl, _, rfl, _, rfl, ?_⟩)
    exact ⟨by simp [ofV, hb2], rfl⟩
end Go.Proofs.YtkmnmokjlpenhaaPi
