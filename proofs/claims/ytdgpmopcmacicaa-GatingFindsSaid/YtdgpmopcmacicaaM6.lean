/- Part 6 of the proof: the texts WND, one behind the other. Each holds for every input that it names; no condition is hidden. -/
import Derived.Test.YtdgpmopcmacicaaM5
import Derived.Test.YtdgpmopcmacicaaPiSim
/- The walks of gating.Gate and GatingFinds. -/
set_option linter.unusedVariables false
set_option linter.unusedSimpArgs false
set_option maxRecDepth 100000
namespace Go.Proofs.YtdgpmopcmacicaaPi
set_option maxHeartbeats 4000000
theorem en_at (l : List (Int × Int)) (i : Nat) (h : i < l.length) : ∃ p, l[i]? = some p ∧ (l.map nd)[i]? = some [.int .i64 p.1, .int .i64 p.2] := ⟨l[i], by simp [h], by simp [h]⟩
theorem Gate_ok (g : LGraph) (hg : GraphOk g) (b1 : g.inn.length ≤ 100) (b2 : g.out.length ≤ 100) (b3 : g.regs.length ≤ 20) (b4 : g.ands.length + g.outs.length + 2 * g.regs.length ≤ 100) (up : Frs) : ACalls Try.prog 26 [g.pv] up fun v u => v = .tup [(cleanNV (withV g (enD g) (enE g))).pv, .i 0] ∧ u = up := by
  have hw := gate_law hg b1 b2 b3 b4
  have hel : ((enablesV g).map nd).length = g.regs.length := by simp [enablesV]
  have hel2 : (enablesV g).length = g.regs.length := by simp [enablesV]
  have k1 := With_ok g hg (by omega) (enD g) (enE g) (enD_len g) (enE_len g) (en_range hg) hw.ok
  have k2 := NClean_ok _ hw.ok
  refine ACalls.code Try.func26 rfl 56 rfl (by simp) [.cell 2 60, .tmp 3] rfl fun Q hQ => ?_
  simp only [ups, PV.up, argEnv]
  have ft := And.intro ty_2 (And.intro ty_3 (And.intro ty_4 (And.intro ty_22 (And.intro ty_31 (And.intro ty_33 (And.intro ty_34 (And.intro ty_39 (And.intro ty_54 (And.intro ty_60 (And.intro ty_69 trivial))))))))))
  refine Run.seq ?_
  have fx := And.intro hel ft
  refine Run.go ?_
  refine End.kp [1, 2] ?_
  refine Run.seq ?_
  refine Run.region rfl fun K hK => GOps.sim ?_
  refine GOps.call rfl rfl rfl rfl (by kernel_rfl) (ACalls.sim ?_)
  refine (Enables_ok g hg _).mono fun v u hv => ?_
  obtain ⟨rfl, rfl⟩ := hv
  refine ⟨_, _, rfl, GOps.sim ?_⟩
  refine GOps.done (hK _ ?_); clear hK K
  refine End.kp [1, 2, 4, 5] ?_
  refine Run.seq ?_
  refine Run.seq ?_
  refine Run.go ?_
  refine End.kp [1, 2, 4, 5, 17] ?_
  refine Run.cond _ rfl (fun hb => ?_) (fun hb => ?_)
  · have hb2 := hb
    simp at hb
  · have hb2 := hb
    refine Run.skip ?_
    refine End.kp [1, 2, 4] ?_
    refine Run.seq ?_
    have fx := And.intro hel ft
    refine Run.go ?_
    refine End.kp [1, 2, 4, 6, 7] ?_
    refine Run.seq ?_
    refine Run.seq ?_
    refine Run.go ?_
    refine End.kp [1, 2, 6, 7, 20, 21, 22] ?_
    refine Run.block ?_
    refine Run.ghost (Ghost.thaw (u := 6) 34 1 (by decide) rfl) ?_
    refine Run.ghost (Ghost.thaw (u := 7) 34 1 (by decide) rfl) ?_
    refine Run.ghost (Ghost.form [(1, .ptr 0 0 0), (2, .ptr 0 1 0), (6, .ms 0 2 (0)), (7, .ms 0 3 (0)), (20, .im (.sl ((enablesV g).map nd))), (21, .i g.regs.length), (22, .i (0 : Nat))] 4 ⟨rfl, rfl, rfl, rfl, rfl, rfl, rfl, trivial⟩ rfl rfl) ?_
    refine Run.loop (fun m s => ∃ i : Nat, m = g.regs.length - i ∧ i ≤ g.regs.length ∧ s = ⟨[(1, .ptr 0 0 0), (2, .ptr 0 1 0), (6, .ms 0 2 (i)), (7, .ms 0 3 (i)), (20, .im (.sl ((enablesV g).map nd))), (21, .i g.regs.length), (22, .i (i : Nat))], [.box [.im (.sl (strs g.inn)), .im (.sl (strs g.out)), .im (.sl (g.regs.map LReg.im)), .im (.sl (g.ands.map nd)), .im (.sl (ints g.outs))], .box [.nils, .nils, .nils, .nils, .nils], .row 34 1 (ints ((enD g).take i)) 0, .row 34 1 (ints ((enE g).take i)) 0], up⟩) g.regs.length ⟨0, rfl, by omega, rfl⟩ fun m s hI => ?_
    obtain ⟨i, rfl, hi, rfl⟩ := hI
    have hl1 : (ints ((enD g).take i)).length = i := by rw [ints_len, List.length_take, enD_len]; omega
    have hl2 : (ints ((enE g).take i)).length = i := by rw [ints_len, List.length_take, enE_len]; omega
    have hap : (i + 1) * 8 ≤ 140737488355328 := by omega
    refine Run.seq ?_
    have fx := And.intro hap (And.intro hl2 (And.intro hl1 (And.intro hel ft)))
    refine Run.go ?_
    refine End.kp [1, 2, 6, 7, 20, 21, 22, 23] ?_
    refine Run.seq ?_
    refine Run.cond _ rfl (fun hb => ?_) (fun hb => ?_)
    · have hb3 := of_decide_eq_true hb
      have hin : i < g.regs.length := by omega
      have wi := wsucc hin (by omega)
      obtain ⟨p, hpi, hp⟩ := en_at (enablesV g) i (by omega)
      have n1 : ints ((enD g).take (i + 1)) = ints ((enD g).take i) ++ [[.int .i64 p.2]] := by simp [enD, List.take_add_one, hpi]
      have n2 : ints ((enE g).take (i + 1)) = ints ((enE g).take i) ++ [[.int .i64 p.1]] := by simp [enE, List.take_add_one, hpi]
      refine Run.skip ?_
      refine End.kp [1, 2, 6, 7, 20, 21, 22] ?_
      refine Run.seq ?_
      refine Run.block ?_
      refine Run.seq ?_
      have fx := And.intro (@Int.toNat_natCast) (And.intro (@Int.natCast_nonneg) (And.intro hp (And.intro wi (And.intro hap (And.intro hl2 (And.intro hl1 (And.intro hel ft)))))))
      refine Run.go ?_
      refine End.kp [1, 2, 6, 7, 9, 20, 21, 22] ?_
      refine Run.ghost (.spares 2) ?_
      simp only [ASt.pushN, ASt.push, List.append_assoc, List.cons_append, List.nil_append]
      refine Run.drawA fun K hK => ?_
      refine DOps.sim ?_
      refine DOps.nil (by rfl) (hK _ ?_); clear hK K
      refine End.blk ?_
      refine End.kp [1, 2, 6, 7, 20, 21, 22] ?_
      refine Run.go ?_
      refine End.lp ?_
      refine ⟨g.regs.length - (i + 1), _, by omega, Ghost.form [(1, .ptr 0 0 0), (2, .ptr 0 1 0), (6, .ms 0 2 (i + 1)), (7, .ms 0 3 (i + 1)), (20, .im (.sl ((enablesV g).map nd))), (21, .i g.regs.length), (22, .i (i + 1 : Nat))] 4 ⟨rfl, rfl, rfl, rfl, rfl, rfl, rfl, trivial⟩ rfl rfl, i + 1, rfl, by omega, by rw [n1, n2]; rfl⟩
    · have hb3 := of_decide_eq_false hb
      have hie : i = g.regs.length := by omega
      subst hie
      rw [List.take_of_length_le (Nat.le_of_eq (enD_len g))] at hl1 ⊢
      rw [List.take_of_length_le (Nat.le_of_eq (enE_len g))] at hl2 ⊢
      refine Run.exit rfl ?_
      refine End.kp [1, 2, 6, 7] ?_
      refine Run.seq ?_
      refine Run.ghost (Ghost.shut (t := 6) (j := 2) rfl rfl hl1) ?_
      refine Run.ghost (Ghost.shut (t := 7) (j := 3) rfl rfl hl2) ?_
      simp only [eput, edel]
      have fx := And.intro hap (And.intro hl2 (And.intro hl1 (And.intro hel ft)))
      refine Run.region rfl fun K hK => GOps.sim ?_
      refine GOps.call rfl rfl rfl rfl (by kernel_rfl) (ACalls.sim ?_)
      refine (k1 _).mono fun v u hv => ?_
      obtain ⟨rfl, rfl⟩ := hv
      refine ⟨_, _, rfl, GOps.sim ?_⟩
      refine GOps.done (hK _ ?_); clear hK K
      refine End.kp [2, 5, 10] ?_
      refine Run.seq ?_
      refine Run.seq ?_
      refine Run.go ?_
      refine End.kp [2, 5, 10, 45] ?_
      refine Run.cond _ rfl (fun hb => ?_) (fun hb => ?_)
      · have hb2 := hb
        simp at hb
      · have hb2 := hb
        refine Run.skip ?_
        refine End.kp [2, 10] ?_
        refine Run.seq ?_
        have fx := And.intro hap (And.intro hl2 (And.intro hl1 (And.intro hel ft)))
        refine Run.region rfl fun K hK => GOps.sim ?_
        refine GOps.call rfl rfl rfl rfl (by kernel_rfl) (ACalls.sim ?_)
        refine (k2 _).mono fun v u hv => ?_
        obtain ⟨rfl, rfl⟩ := hv
        refine ⟨_, _, rfl, GOps.sim ?_⟩
        refine GOps.done (hK _ ?_); clear hK K
        refine End.kp [2, 5, 10] ?_
        refine Run.seq ?_
        refine Run.go ?_
        refine End.kp [2, 3] ?_
        refine Run.resC hQ ?_
        exact ⟨rfl, rfl⟩
/-- The graph of GatingFinds. -/
def nmE : List ByteArray := [⟨#[101]⟩, ⟨#[100]⟩, ⟨#[102]⟩]
def rgF (b : Bool) : List LReg := [⟨⟨#[113]⟩, 0, b⟩, ⟨⟨#[114]⟩, 0, false⟩]
def mF (b : Bool) (a1 a2 : Int) (k : Nat) : LMk := ⟨nmE, rgF b, ([(2, 6 + a1), (4 + a2, 12), (8, 13), (15, 17)] : List (Int × Int)).take k, 0⟩
def gF (b : Bool) (a1 a2 : Int) : LGraph := ⟨nmE, [⟨#[111]⟩], [⟨⟨#[113]⟩, 19, b⟩, ⟨⟨#[114]⟩, 4, false⟩], [(2, 6 + a1), (4 + a2, 12), (8, 13), (15, 17)], [8]⟩
theorem mF_1 (b : Bool) {a1 : Int} (a2 : Int) (h : a1 = 0 ∨ a1 = 1) : mkAnd (mF b a1 a2 0) 2 (6 + a1) = (12, mF b a1 a2 1) := by rcases h with rfl | rfl <;> rfl
theorem mF_2 (b : Bool) {a1 a2 : Int} (h1 : a1 = 0 ∨ a1 = 1) (h2 : a2 = 0 ∨ a2 = 1) : mkAnd (mF b a1 a2 1) 12 (4 + a2) = (14, mF b a1 a2 2) := by rcases h1 with rfl | rfl <;> rcases h2 with rfl | rfl <;> rfl
theorem mF_3 (b : Bool) {a1 a2 : Int} (h1 : a1 = 0 ∨ a1 = 1) (h2 : a2 = 0 ∨ a2 = 1) : mkAnd (mF b a1 a2 2) 13 8 = (16, mF b a1 a2 3) := by rcases h1 with rfl | rfl <;> rcases h2 with rfl | rfl <;> rfl
theorem mF_4 (b : Bool) {a1 a2 : Int} (h1 : a1 = 0 ∨ a1 = 1) (h2 : a2 = 0 ∨ a2 = 1) : mkAnd (mF b a1 a2 3) 15 17 = (18, mF b a1 a2 4) := by rcases h1 with rfl | rfl <;> rcases h2 with rfl | rfl <;> rfl
theorem gF_en (b : Bool) {a1 a2 : Int} (h1 : a1 = 0 ∨ a1 = 1) (h2 : a2 = 0 ∨ a2 = 1) : enablesV (gF b a1 a2) = [(12, 4 + a2), (1, 4)] := by cases b <;> rcases h1 with rfl | rfl <;> rcases h2 with rfl | rfl <;> decide
theorem gF_len (b : Bool) (a1 a2 : Int) : (gF b a1 a2).inn.length = 3 ∧ (gF b a1 a2).out.length = 1 ∧ (gF b a1 a2).regs.length = 2 ∧ (gF b a1 a2).ands.length = 4 ∧ (gF b a1 a2).outs.length = 1 := ⟨rfl, rfl, rfl, rfl, rfl⟩
theorem gF_ok (b : Bool) {a1 a2 : Int} (h1 : a1 = 0 ∨ a1 = 1) (h2 : a2 = 0 ∨ a2 = 1) : GraphOk (gF b a1 a2) := by
  obtain ⟨l1, l2, l3, l4, l5⟩ := gF_len b a1 a2
  refine ⟨⟨by omega, by omega, by omega, by omega, by omega⟩, fun s hs => ?_, ?_, fun s hs => ?_, by simp [gF], rfl, fun i p hp => ?_, fun r hr => ?_, fun x hx => ?_⟩
  · simp only [gF, nmE, List.map_cons, List.map_nil, List.cons_append, List.nil_append, List.mem_cons, List.not_mem_nil, or_false] at hs
    rcases hs with rfl | rfl | rfl | rfl | rfl <;> exact strB_ok _ (by decide) (by decide)
  · show ([⟨#[101]⟩, ⟨#[100]⟩, ⟨#[102]⟩, ⟨#[113]⟩, ⟨#[114]⟩] : List ByteArray).Nodup
    decide
  · simp only [gF, List.mem_cons, List.not_mem_nil, or_false] at hs
    subst hs
    exact strB_ok _ (by decide) (by decide)
  · have hi := (List.getElem?_eq_some_iff.1 hp).1
    simp only [gF, List.length_cons, List.length_nil] at hi
    have : i = 0 ∨ i = 1 ∨ i = 2 ∨ i = 3 := by omega
    simp only [gF, nmE, List.length_cons, List.length_nil]
    rcases this with rfl | rfl | rfl | rfl <;> simp only [gF, List.getElem?_cons_zero, List.getElem?_cons_succ, Option.some.injEq] at hp <;> subst hp <;> simp only <;> omega
  · simp only [gF, List.mem_cons, List.not_mem_nil, or_false] at hr
    simp only [gF, nmE, List.length_cons, List.length_nil]
    rcases hr with rfl | rfl <;> simp only <;> omega
  · simp only [gF, List.mem_cons, List.not_mem_nil, or_false] at hx
    simp only [gF, nmE, List.length_cons, List.length_nil]
    omega
theorem mF_small (b : Bool) (a1 a2 : Int) (k : Nat) : MkSmall (mF b a1 a2 k) := ⟨by simp [mF, nmE], by simp [mF, rgF], by simp [mF]; omega⟩
theorem xor_01 {x a : Int} (hx : x = 4 ∨ x = 6) (h : a = 0 ∨ a = 1) : bits .xor .i64 x a = x + a := by rcases hx with rfl | rfl <;> rcases h with rfl | rfl <;> decide
theorem mF_len (b : Bool) (a1 a2 : Int) (k : Nat) (h : k ≤ 4) : (mF b a1 a2 k).ands.length = k ∧ (mF b a1 a2 k).inn.length = 3 ∧ (mF b a1 a2 k).regs.length = 2 := ⟨by simp [mF]; omega, rfl, rfl⟩
theorem mF_and (b : Bool) {a1 a2 : Int} (h1 : a1 = 0 ∨ a1 = 1) (h2 : a2 = 0 ∨ a2 = 1) (k : Nat) (hk : k < 4) (x y z : Int) (e : mkAnd (mF b a1 a2 k) x y = (z, mF b a1 a2 (k + 1))) (hx : 0 ≤ x ∧ x < 12 + 2 * (k : Int)) (hy : 0 ≤ y ∧ y < 12 + 2 * (k : Int)) (up : Frs) (hm : MkAt up 0 4 5 3 (mF b a1 a2 k)) : ACalls Try.prog 20 [.ptr 0 4 0, .i x, .i y] up fun v u => v = .i z ∧ u = setMk up 0 4 5 3 (mF b a1 a2 (k + 1)) := by
  obtain ⟨l1, l2, l3⟩ := mF_len b a1 a2 k (by omega)
  have := mAnd_ok x y (mF b a1 a2 k) (mF_small b a1 a2 k) up 0 4 5 3 hm (by omega) (by rw [l1, l2, l3]; omega) (by rw [l1, l2, l3]; omega)
  rw [e] at this
  exact this
theorem mF_in (b : Bool) (a1 a2 : Int) (k i : Nat) (z : Int) (hi : i < 3) (hz : 2 * (1 + (i : Int)) = z) (up : Frs) (hm : MkAt up 0 4 5 3 (mF b a1 a2 k)) : ACalls Try.prog 21 [.ptr 0 4 0, .i i] up fun v u => v = .i z ∧ u = up := by
  rw [← hz]
  exact mIn_ok i (mF b a1 a2 k) (mF_small _ _ _ _) up 0 4 5 3 hm hi
theorem mF_reg (b : Bool) (a1 a2 : Int) (k : Nat) (up : Frs) (hm : MkAt up 0 4 5 3 (mF b a1 a2 k)) : ACalls Try.prog 23 [.ptr 0 4 0, .i 0] up fun v u => v = .i 8 ∧ u = up :=
  mReg_ok 0 (mF b a1 a2 k) (mF_small _ _ _ _) up 0 4 5 3 hm (by show (0 : Nat) < 2; omega)
theorem not_in (x z : Int) (h0 : 0 ≤ x) (h1 : x ≤ 1000000000) (hz : flipL x = z) (up : Frs) : ACalls Try.prog 22 [.i x] up fun v u => v = .i z ∧ u = up := by
  rw [← hz]
  exact Not_ok x h0 h1 up
theorem Finds_walk (l : List Int) (hs : StmOk l 0) (up : Frs) : ACalls Try.prog 4 [.im (.sl (ints l))] up fun v u => v = .im (.bool true) ∧ u = up := by
  have ok : ∀ b : Int, 0 ≤ b → b ≤ 100000 → StmOk l b := fun b h1 h2 => ⟨hs.vals, hs.len, h1, by omega⟩
  obtain ⟨r0, s0⟩ := nextV_range l 0 2 (by omega)
  obtain ⟨r1, s1⟩ := nextV_range l (0 + 1) 2 (by omega)
  obtain ⟨r2, s2⟩ := nextV_range l (0 + 1 + 1) 2 (by omega)
  obtain ⟨a1, e1⟩ : ∃ a1, a1 = nextV l (0 + 1) 2 := ⟨_, rfl⟩
  obtain ⟨a2, e2⟩ : ∃ a2, a2 = nextV l (0 + 1 + 1) 2 := ⟨_, rfl⟩
  obtain ⟨b, eb⟩ : ∃ b : Bool, b = (nextV l 0 2 == 0) := ⟨_, rfl⟩
  have h1 : a1 = 0 ∨ a1 = 1 := by omega
  have h2 : a2 = 0 ∨ a2 = 1 := by omega
  have x1 := xor_01 (x := 6) (.inr rfl) h1
  have x2 := xor_01 (x := 4) (.inl rfl) h2
  have hP := Played_ok 15 3 (by omega) (by omega) l (0 + 1 + 1 + 1) (ok _ (by omega) (by omega)) (by omega)
  have hr := playedV_row l 3 (0 + 1 + 1 + 1) 15
  have hl := playedV_len l 3 (0 + 1 + 1 + 1) 15
  generalize playedV l 3 (0 + 1 + 1 + 1) 15 = PA at hP hr hl
  obtain ⟨tr, c⟩ := PA
  simp only at hP hr hl
  have hg := gF_ok b h1 h2
  have hen := gF_en b h1 h2
  have k1 : ∀ up, ACalls Try.prog 25 [(gF b a1 a2).pv] up fun v u => v = .tup [.im (.sl [[.int .i64 12, .int .i64 (4 + a2)], [.int .i64 1, .int .i64 4]]), .i 0] ∧ u = up := fun up => by
    have := Enables_ok (gF b a1 a2) hg up
    rw [hen] at this
    exact this
  have d4 : (((2 : Nat) : Int) == 2) = true := rfl
  have d2 : ((12 : Int) == 12) = true := rfl
  have d3 : (4 + a2 == 4 + a2) = true := by simp
  obtain ⟨l1, l2, l3, l4, l5⟩ := gF_len b a1 a2
  have k2 := Gate_ok (gF b a1 a2) hg (by omega) (by omega) (by omega) (by omega)
  have k3 := NRun_ok _ (cleanNV_ok (gate_law hg (by omega) (by omega) (by omega) (by omega)).ok) tr (by omega) hr
  rw [gate_run hg (by omega) (by omega) (by omega) (by omega) tr hr] at k3
  have k4 := GRun_ok (gF b a1 a2) hg tr (by omega) hr
  rw [show runG (gF b a1 a2) (lanes0 (initG (gF b a1 a2))) tr = runI (gF b a1 a2) tr from rfl] at k4
  have hl2 := runG_len (gF b a1 a2) tr (lanes0 (initG (gF b a1 a2)))
  have hr2 := runG_row (gF b a1 a2) tr (lanes0 (initG (gF b a1 a2)))
  rw [show runG (gF b a1 a2) (lanes0 (initG (gF b a1 a2))) tr = runI (gF b a1 a2) tr from rfl] at hl2 hr2
  generalize cleanNV (withV (gF b a1 a2) (enD (gF b a1 a2)) (enE (gF b a1 a2))) = CN at k2 k3
  generalize runI (gF b a1 a2) tr = O at k3 k4 hl2 hr2
  have hl3 : (boolss O).length = 15 := by rw [boolss_len, hl2, hl]
  have d1 : (((15 : Nat) : Int) == 15) = true := rfl
  have hGS : GSmall ⟨nmE, [⟨#[111]⟩], rgF b, (mF b a1 a2 4).ands, [8]⟩ := ⟨by simp [nmE], by simp, by simp [rgF], by simp [mF], by simp⟩
  refine ACalls.code Try.func4 rfl 148 rfl (by simp) [.tmp 2] rfl fun Q hQ => ?_
  simp only [ups, PV.up, argEnv]
  have ft := And.intro ty_2 (And.intro ty_3 (And.intro ty_4 (And.intro ty_9 (And.intro ty_22 (And.intro ty_23 (And.intro ty_25 (And.intro ty_27 (And.intro ty_29 (And.intro ty_31 (And.intro ty_33 (And.intro ty_34 (And.intro ty_39 (And.intro ty_47 (And.intro ty_48 (And.intro ty_54 (And.intro ty_60 (And.intro ty_63 (And.intro ty_69 (And.intro ty_71 trivial)))))))))))))))))))
  refine Run.seq ?_
  have fx := And.intro d4 (And.intro d3 (And.intro d2 (And.intro d1 (And.intro hl3 ft))))
  refine Run.go ?_
  refine End.kp [0] ?_
  refine Run.seq ?_
  refine Run.go ?_
  refine End.kp [3] ?_
  refine Run.seq ?_
  refine Run.region rfl fun K hK => GOps.sim ?_
  refine GOps.call rfl rfl rfl rfl (by kernel_rfl) (ACalls.sim ?_)
  refine (Next_ok l 0 2 hs (by omega) _ 0 0 rfl).mono fun v u hv => ?_
  obtain ⟨rfl, rfl⟩ := hv
  refine ⟨_, _, rfl, GOps.sim ?_⟩
  refine GOps.done (hK _ ?_); clear hK K
  refine End.kp [3, 4] ?_
  refine Run.seq ?_
  refine Run.region rfl fun K hK => GOps.sim ?_
  refine GOps.call rfl rfl rfl rfl (by kernel_rfl) (ACalls.sim ?_)
  refine (New_ok nmE (rgF (nextV l 0 2 == 0)) (by show (3 : Nat) ≤ 1000; omega) (by show (2 : Nat) ≤ 1000; omega) _ _).mono fun v u hv => ?_
  obtain ⟨rfl, rfl⟩ := hv
  rw [← eb]
  have fx := And.intro d4 (And.intro d3 (And.intro d2 (And.intro d1 (And.intro hl3 ft))))
  refine ⟨_, _, rfl, GOps.sim ?_⟩
  refine GOps.done (hK _ ?_); clear hK K
  refine End.kp [3, 5] ?_
  refine Run.seq ?_
  refine Run.seq ?_
  refine Run.region rfl fun K hK => GOps.sim ?_
  refine GOps.call rfl rfl rfl rfl (by kernel_rfl) (ACalls.sim ?_)
  refine (gated_ok _).mono fun v u hv => ?_
  obtain ⟨rfl, rfl⟩ := hv
  refine ⟨_, _, rfl, GOps.sim ?_⟩
  refine GOps.done (hK _ ?_); clear hK K
  refine End.kp [3, 5, 38] ?_
  refine Run.cond _ rfl (fun hb => ?_) (fun hb => ?_)
  · have hb2 := hb
    simp at hb
  · have hb2 := hb
    refine Run.skip ?_
    refine End.kp [3, 5] ?_
    refine Run.seq ?_
    have fx := And.intro d4 (And.intro d3 (And.intro d2 (And.intro d1 (And.intro hl3 ft))))
    refine Run.region rfl fun K hK => GOps.sim ?_
    refine GOps.call rfl rfl rfl rfl (by kernel_rfl) (ACalls.sim ?_)
    refine (mF_in b a1 a2 0 0 2 (by omega) (by rfl) _ ⟨rfl, rfl, rfl⟩).mono fun v u hv => ?_
    obtain ⟨rfl, rfl⟩ := hv
    refine ⟨_, _, rfl, GOps.sim ?_⟩
    refine GOps.call rfl rfl rfl rfl (by kernel_rfl) (ACalls.sim ?_)
    refine (mF_in b a1 a2 0 2 6 (by omega) (by rfl) _ ⟨rfl, rfl, rfl⟩).mono fun v u hv => ?_
    obtain ⟨rfl, rfl⟩ := hv
    refine ⟨_, _, rfl, GOps.sim ?_⟩
    refine GOps.call rfl rfl rfl rfl (by kernel_rfl) (ACalls.sim ?_)
    refine (Next_ok l (0 + 1) 2 (ok _ (by omega) (by omega)) (by omega) _ 0 0 rfl).mono fun v u hv => ?_
    obtain ⟨rfl, rfl⟩ := hv
    rw [← e1]
    have fx := And.intro x1 (And.intro d4 (And.intro d3 (And.intro d2 (And.intro d1 (And.intro hl3 ft)))))
    refine ⟨_, _, rfl, GOps.sim ?_⟩
    refine GOps.call rfl rfl rfl rfl (by kernel_rfl) (ACalls.sim ?_)
    refine (mF_and b h1 h2 0 (by omega) (2) (6 + a1) 12 (mF_1 b a2 h1) (by omega) (by omega) _ ⟨rfl, rfl, rfl⟩).mono fun v u hv => ?_
    obtain ⟨rfl, rfl⟩ := hv
    refine ⟨_, _, rfl, GOps.sim ?_⟩
    refine GOps.call rfl rfl rfl rfl (by kernel_rfl) (ACalls.sim ?_)
    refine (mF_in b a1 a2 1 1 4 (by omega) (by rfl) _ ⟨rfl, rfl, rfl⟩).mono fun v u hv => ?_
    obtain ⟨rfl, rfl⟩ := hv
    refine ⟨_, _, rfl, GOps.sim ?_⟩
    refine GOps.call rfl rfl rfl rfl (by kernel_rfl) (ACalls.sim ?_)
    refine (Next_ok l (0 + 1 + 1) 2 (ok _ (by omega) (by omega)) (by omega) _ 0 0 rfl).mono fun v u hv => ?_
    obtain ⟨rfl, rfl⟩ := hv
    rw [← e2]
    have fx := And.intro x2 (And.intro x1 (And.intro d4 (And.intro d3 (And.intro d2 (And.intro d1 (And.intro hl3 ft))))))
    refine ⟨_, _, rfl, GOps.sim ?_⟩
    refine GOps.done (hK _ ?_); clear hK K
    refine End.kp [3, 5, 6, 7] ?_
    refine Run.seq ?_
    refine Run.region rfl fun K hK => GOps.sim ?_
    refine GOps.call rfl rfl rfl rfl (by kernel_rfl) (ACalls.sim ?_)
    refine (mF_and b h1 h2 1 (by omega) (12) (4 + a2) 14 (mF_2 b h1 h2) (by omega) (by omega) _ ⟨rfl, rfl, rfl⟩).mono fun v u hv => ?_
    obtain ⟨rfl, rfl⟩ := hv
    refine ⟨_, _, rfl, GOps.sim ?_⟩
    refine GOps.call rfl rfl rfl rfl (by kernel_rfl) (ACalls.sim ?_)
    refine (not_in 12 13 (by omega) (by omega) (by rfl) _).mono fun v u hv => ?_
    obtain ⟨rfl, rfl⟩ := hv
    refine ⟨_, _, rfl, GOps.sim ?_⟩
    refine GOps.call rfl rfl rfl rfl (by kernel_rfl) (ACalls.sim ?_)
    refine (mF_reg b a1 a2 2 _ ⟨rfl, rfl, rfl⟩).mono fun v u hv => ?_
    obtain ⟨rfl, rfl⟩ := hv
    refine ⟨_, _, rfl, GOps.sim ?_⟩
    refine GOps.call rfl rfl rfl rfl (by kernel_rfl) (ACalls.sim ?_)
    refine (mF_and b h1 h2 2 (by omega) (13) (8) 16 (mF_3 b h1 h2) (by omega) (by omega) _ ⟨rfl, rfl, rfl⟩).mono fun v u hv => ?_
    obtain ⟨rfl, rfl⟩ := hv
    refine ⟨_, _, rfl, GOps.sim ?_⟩
    refine GOps.done (hK _ ?_); clear hK K
    refine End.kp [3, 5, 6, 7, 8, 9] ?_
    refine Run.seq ?_
    refine Run.region rfl fun K hK => GOps.sim ?_
    refine GOps.call rfl rfl rfl rfl (by kernel_rfl) (ACalls.sim ?_)
    refine (mF_reg b a1 a2 3 _ ⟨rfl, rfl, rfl⟩).mono fun v u hv => ?_
    obtain ⟨rfl, rfl⟩ := hv
    refine ⟨_, _, rfl, GOps.sim ?_⟩
    refine GOps.call rfl rfl rfl rfl (by kernel_rfl) (ACalls.sim ?_)
    refine (not_in 14 15 (by omega) (by omega) (by rfl) _).mono fun v u hv => ?_
    obtain ⟨rfl, rfl⟩ := hv
    refine ⟨_, _, rfl, GOps.sim ?_⟩
    refine GOps.call rfl rfl rfl rfl (by kernel_rfl) (ACalls.sim ?_)
    refine (not_in 16 17 (by omega) (by omega) (by rfl) _).mono fun v u hv => ?_
    obtain ⟨rfl, rfl⟩ := hv
    refine ⟨_, _, rfl, GOps.sim ?_⟩
    refine GOps.call rfl rfl rfl rfl (by kernel_rfl) (ACalls.sim ?_)
    refine (mF_and b h1 h2 3 (by omega) (15) (17) 18 (mF_4 b h1 h2) (by omega) (by omega) _ ⟨rfl, rfl, rfl⟩).mono fun v u hv => ?_
    obtain ⟨rfl, rfl⟩ := hv
    refine ⟨_, _, rfl, GOps.sim ?_⟩
    refine GOps.call rfl rfl rfl rfl (by kernel_rfl) (ACalls.sim ?_)
    refine (not_in 18 19 (by omega) (by omega) (by rfl) _).mono fun v u hv => ?_
    obtain ⟨rfl, rfl⟩ := hv
    refine ⟨_, _, rfl, GOps.sim ?_⟩
    refine GOps.call rfl rfl rfl rfl (by kernel_rfl) (ACalls.sim ?_)
    refine (mF_in b a1 a2 4 1 4 (by omega) (by rfl) _ ⟨rfl, rfl, rfl⟩).mono fun v u hv => ?_
    obtain ⟨rfl, rfl⟩ := hv
    refine ⟨_, _, rfl, GOps.sim ?_⟩
    refine GOps.ghost (Ghost.boxShut (j := 4) (i := 2) (r := 5) rfl rfl rfl (nd_len _)) ?_
    simp only [List.set_cons_succ, List.set_cons_zero]
    have fx := And.intro x2 (And.intro x1 (And.intro d4 (And.intro d3 (And.intro d2 (And.intro d1 (And.intro hl3 ft))))))
    refine GOps.call rfl rfl rfl rfl (by kernel_rfl) (ACalls.sim ?_)
    refine (mGraphR_ok ⟨nmE, [⟨#[111]⟩], rgF b, (mF b a1 a2 4).ands, [8]⟩ hGS [19, 4] rfl hg _ 0 4 3 rfl).mono fun v u hv => ?_
    obtain ⟨rfl, rfl⟩ := hv
    refine ⟨_, _, rfl, GOps.sim ?_⟩
    refine GOps.done (hK _ ?_); clear hK K
    refine End.kp [3, 6, 7, 10, 11] ?_
    refine Run.seq ?_
    refine Run.region rfl fun K hK => GOps.sim ?_
    refine GOps.call rfl rfl rfl rfl (by kernel_rfl) (ACalls.sim ?_)
    refine (k1 _).mono fun v u hv => ?_
    obtain ⟨rfl, rfl⟩ := hv
    refine ⟨_, _, rfl, GOps.sim ?_⟩
    refine GOps.done (hK _ ?_); clear hK K
    refine End.kp [3, 6, 7, 10, 11, 12, 13] ?_
    refine Run.seq ?_
    refine Run.region rfl fun K hK => GOps.sim ?_
    refine GOps.call rfl rfl rfl rfl (by kernel_rfl) (ACalls.sim ?_)
    refine (k2 _).mono fun v u hv => ?_
    obtain ⟨rfl, rfl⟩ := hv
    refine ⟨_, _, rfl, GOps.sim ?_⟩
    refine GOps.done (hK _ ?_); clear hK K
    refine End.kp [3, 6, 7, 10, 11, 12, 13, 14, 15] ?_
    refine Run.seq ?_
    refine Run.region rfl fun K hK => GOps.sim ?_
    refine GOps.call rfl rfl rfl rfl (by kernel_rfl) (ACalls.sim ?_)
    refine (hP _ 0 0 rfl).mono fun v u hv => ?_
    obtain ⟨rfl, rfl⟩ := hv
    refine ⟨_, _, rfl, GOps.sim ?_⟩
    refine GOps.done (hK _ ?_); clear hK K
    refine End.kp [6, 7, 10, 11, 12, 13, 14, 15, 16] ?_
    refine Run.seq ?_
    refine Run.region rfl fun K hK => GOps.sim ?_
    refine GOps.call rfl rfl rfl rfl (by kernel_rfl) (ACalls.sim ?_)
    refine (k4 _).mono fun v u hv => ?_
    obtain ⟨rfl, rfl⟩ := hv
    refine ⟨_, _, rfl, GOps.sim ?_⟩
    refine GOps.done (hK _ ?_); clear hK K
    refine End.kp [6, 7, 11, 12, 13, 14, 15, 16, 17, 18] ?_
    refine Run.seq ?_
    refine Run.region rfl fun K hK => GOps.sim ?_
    refine GOps.call rfl rfl rfl rfl (by kernel_rfl) (ACalls.sim ?_)
    refine (k3 _).mono fun v u hv => ?_
    obtain ⟨rfl, rfl⟩ := hv
    refine ⟨_, _, rfl, GOps.sim ?_⟩
    refine GOps.done (hK _ ?_); clear hK K
    refine End.kp [6, 7, 11, 12, 13, 15, 17, 18, 19, 20] ?_
    refine Run.seq ?_
    refine Run.region rfl fun K hK => GOps.simK 10 ?_
    refine GOps.simK 10 ?_
    refine GOps.simK 10 ?_
    refine GOps.sim ?_
    refine GOps.call rfl rfl rfl rfl (by kernel_rfl) (ACalls.sim ?_)
    refine (EqF_same O (by omega) (fun r h => by rw [hr2 r h]; omega) _).mono fun v u hv => ?_
    obtain ⟨rfl, rfl⟩ := hv
    refine ⟨_, _, rfl, GOps.sim ?_⟩
    refine GOps.done (hK _ ?_); clear hK K
    refine End.kp [2] ?_
    refine Run.ret (hQ _ _ ⟨.inr rfl, _, rfl, _, rfl, ?_⟩)
    exact ⟨rfl, rfl⟩
end Go.Proofs.YtdgpmopcmacicaaPi

