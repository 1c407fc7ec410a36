/- The walks of Roots, cone, moved, Clean of graphs. -/
import Derived.Test.YtkmnmokjlpenhaaWY
set_option linter.unusedVariables false
set_option linter.unusedSimpArgs false
set_option maxRecDepth 100000
namespace Go.Proofs.YtkmnmokjlpenhaaPi
set_option maxHeartbeats 4000000
abbrev iI (x : Int) : List Im := [.int .i64 x]
theorem CloneLX_nil (f : List AObj) (rest : Frs) : ACalls Try.prog 149 [.im (.sl (([] : List Int).map iI))] (f :: rest) fun v u => v = .ms 0 (f.length + 0) 0 ∧ u = (f ++ [.row 62 1 (([] : List Int).map iI) 0]) :: rest := by
  refine ACalls.codeX Try.func149 rfl 8 rfl (by simp) [.tmp 2] rfl fun Q hQ => ?_
  simp only [ups, PV.up, argEnv]
  have ft := And.intro ty_4 (And.intro ty_49 (And.intro ty_62 trivial))
  refine Run.seq ?_
  have fx := And.intro (@List.map_nil.{0, 0}) ft
  refine Run.go ?_
  refine End.kp [0] ?_
  refine Run.seq ?_
  refine Run.seq ?_
  refine Run.go ?_
  refine End.kp [0, 4] ?_
  refine Run.cond_any rfl ?_ ?_
  · skip
    refine Run.seq ?_
    have fx := And.intro (@List.map_nil.{0, 0}) ft
    refine Run.go ?_
    refine End.move (Ghost.thaw (u := 2) 62 1 (by decide) rfl) ?_
    refine End.kp [2] ?_
    refine Run.ret (hQ _ _ ⟨.inr rfl, _, rfl, _, _, rfl, ?_⟩)
    exact ⟨rfl, rfl⟩
  · skip
    refine Run.skip ?_
    refine End.kp [0] ?_
    refine Run.seq ?_
    have fx := And.intro (@List.map_nil.{0, 0}) ft
    refine Run.go ?_
    refine End.kp [2] ?_
    refine Run.ret (hQ _ _ ⟨.inr rfl, _, rfl, _, _, rfl, ?_⟩)
    exact ⟨rfl, rfl⟩
theorem CloneLX_cons (x : Int) (xs : List Int) (h : xs.length ≤ 1000000) (f : List AObj) (rest : Frs) : ACalls Try.prog 149 [.im (.sl ((x :: xs).map iI))] (f :: rest) fun v u => v = .ms 0 (f.length + 0) (x :: xs).length ∧ u = (f ++ [.row 62 1 ((x :: xs).map iI) 0]) :: rest := by
  have hall : (xs.map iI).all (fun r => r.length == 1) = true := by simp
  have hlen : (xs.length + 1) * 8 ≤ 140737488355328 := by omega
  refine ACalls.codeX Try.func149 rfl 8 rfl (by simp) [.tmp 2] rfl fun Q hQ => ?_
  simp only [ups, PV.up, argEnv]
  have ft := And.intro ty_4 (And.intro ty_49 (And.intro ty_62 trivial))
  refine Run.seq ?_
  have fx := And.intro (@List.length_map.{0, 0}) (And.intro hlen (And.intro hall (And.intro (@List.map_cons.{0, 0}) ft)))
  refine Run.go ?_
  refine End.kp [0] ?_
  refine Run.seq ?_
  refine Run.seq ?_
  refine Run.go ?_
  refine End.kp [0, 4] ?_
  refine Run.cond _ rfl (fun hb => ?_) (fun hb => ?_)
  · have hb := hb
    simp at hb
  · have hb := hb
    refine Run.skip ?_
    refine End.kp [0] ?_
    refine Run.seq ?_
    have fx := And.intro (@List.length_map.{0, 0}) (And.intro hlen (And.intro hall (And.intro (@List.map_cons.{0, 0}) ft)))
    refine Run.go ?_
    refine End.kp [2] ?_
    refine Run.ret (hQ _ _ ⟨.inr rfl, _, rfl, _, _, rfl, ?_⟩)
    exact ⟨rfl, rfl⟩
theorem CloneLX_ok (q : List Int) (h : q.length ≤ 1000000) (f : List AObj) (rest : Frs) : ACalls Try.prog 149 [.im (.sl (q.map iI))] (f :: rest) fun v u => v = .ms 0 (f.length + 0) q.length ∧ u = (f ++ [.row 62 1 (q.map iI) 0]) :: rest := by
  cases q with
  | nil => exact CloneLX_nil f rest
  | cons x xs => exact CloneLX_cons x xs (by simp at h; omega) f rest
theorem CloneRI_nil (k : Nat) (up : Frs) (hk : fget up 0 k = some .dead) : ACalls Try.prog 112 [.im (.sl (([] : List LReg).map LReg.im))] up fun v u => v = .ms 0 k 0 ∧ u = fset up 0 k (.row 69 3 (([] : List LReg).map LReg.im) 0) := by
  refine ACalls.codeI Try.func112 rfl 8 rfl (by simp) [.tmp 2] rfl k fun Q hQ => ?_
  simp only [ups, PV.up, argEnv]
  have ft := And.intro ty_4 (And.intro ty_47 (And.intro ty_69 trivial))
  refine Run.seq ?_
  have fx := And.intro (@List.map_nil.{0, 0}) ft
  refine Run.go ?_
  refine End.kp [0] ?_
  refine Run.seq ?_
  refine Run.seq ?_
  refine Run.go ?_
  refine End.kp [0, 4] ?_
  refine Run.cond_any rfl ?_ ?_
  · skip
    refine Run.seq ?_
    have fx := And.intro (@List.map_nil.{0, 0}) ft
    refine Run.go ?_
    refine End.move (Ghost.thaw (u := 2) 69 3 (by decide) rfl) ?_
    refine End.kp [2] ?_
    have fx := And.intro (@List.map_nil.{0, 0}) ft
    refine Run.resI 0 hQ hk ?_
    exact ⟨rfl, rfl⟩
  · skip
    refine Run.skip ?_
    refine End.kp [0] ?_
    refine Run.seq ?_
    have fx := And.intro (@List.map_nil.{0, 0}) ft
    refine Run.go ?_
    refine End.kp [2] ?_
    refine Run.resI 0 hQ hk ?_
    exact ⟨rfl, rfl⟩
theorem CloneRI_cons (k : Nat) (x : LReg) (xs : List LReg) (h : xs.length ≤ 1000000) (up : Frs) (hk : fget up 0 k = some .dead) : ACalls Try.prog 112 [.im (.sl ((x :: xs).map LReg.im))] up fun v u => v = .ms 0 k (x :: xs).length ∧ u = fset up 0 k (.row 69 3 ((x :: xs).map LReg.im) 0) := by
  have hall : (xs.map LReg.im).all (fun r => r.length == 3) = true := by simp
  have hlen : (xs.length + 1) * 32 ≤ 140737488355328 := by omega
  refine ACalls.codeI Try.func112 rfl 8 rfl (by simp) [.tmp 2] rfl k fun Q hQ => ?_
  simp only [ups, PV.up, argEnv]
  have ft := And.intro ty_4 (And.intro ty_47 (And.intro ty_69 trivial))
  refine Run.seq ?_
  have fx := And.intro (@List.length_map.{0, 0}) (And.intro hlen (And.intro hall (And.intro (@List.map_cons.{0, 0}) ft)))
  refine Run.go ?_
  refine End.kp [0] ?_
  refine Run.seq ?_
  refine Run.seq ?_
  refine Run.go ?_
  refine End.kp [0, 4] ?_
  refine Run.cond _ rfl (fun hb => ?_) (fun hb => ?_)
  · have hb := hb
    simp at hb
  · have hb := hb
    refine Run.skip ?_
    refine End.kp [0] ?_
    refine Run.seq ?_
    have fx := And.intro (@List.length_map.{0, 0}) (And.intro hlen (And.intro hall (And.intro (@List.map_cons.{0, 0}) ft)))
    refine Run.go ?_
    refine End.kp [2] ?_
    refine Run.resI 0 hQ hk ?_
    exact ⟨rfl, rfl⟩
theorem CloneRI_ok (q : List LReg) (h : q.length ≤ 1000000) (k : Nat) (up : Frs) (hk : fget up 0 k = some .dead) : ACalls Try.prog 112 [.im (.sl (q.map LReg.im))] up fun v u => v = .ms 0 k q.length ∧ u = fset up 0 k (.row 69 3 (q.map LReg.im) 0) := by
  cases q with
  | nil => exact CloneRI_nil k up hk
  | cons x xs => exact CloneRI_cons k x xs (by simp at h; omega) up hk
theorem CloneN_nil (up : Frs) : ACalls Try.prog 122 [.im (.sl (([] : List (Int × Int)).map nd))] up fun v u => v = .im (.sl (([] : List (Int × Int)).map nd)) ∧ u = up := by
  refine ACalls.code Try.func122 rfl 8 rfl (by simp) [.tmp 2] rfl fun Q hQ => ?_
  simp only [ups, PV.up, argEnv]
  have ft := And.intro ty_4 (And.intro ty_48 (And.intro ty_137 trivial))
  refine Run.seq ?_
  have fx := And.intro (@List.map_nil.{0, 0}) ft
  refine Run.go ?_
  refine End.kp [0] ?_
  refine Run.seq ?_
  refine Run.seq ?_
  refine Run.go ?_
  refine End.kp [0, 4] ?_
  refine Run.cond_any rfl ?_ ?_
  · skip
    refine Run.seq ?_
    have fx := And.intro (@List.map_nil.{0, 0}) ft
    refine Run.go ?_
    refine End.kp [2] ?_
    refine Run.resC hQ ?_
    exact ⟨rfl, rfl⟩
  · skip
    refine Run.skip ?_
    refine End.kp [0] ?_
    refine Run.seq ?_
    have fx := And.intro (@List.map_nil.{0, 0}) ft
    refine Run.go ?_
    refine End.kp [2] ?_
    refine Run.resC hQ ?_
    exact ⟨rfl, rfl⟩
theorem CloneN_cons (x : (Int × Int)) (xs : List (Int × Int)) (h : xs.length ≤ 1000000) (up : Frs) : ACalls Try.prog 122 [.im (.sl ((x :: xs).map nd))] up fun v u => v = .im (.sl ((x :: xs).map nd)) ∧ u = up := by
  have hall : (xs.map nd).all (fun r => r.length == 2) = true := by simp
  have hlen : ((xs.map nd).length + 1) * 16 ≤ 140737488355328 := by rw [List.length_map]; omega
  refine ACalls.code Try.func122 rfl 8 rfl (by simp) [.tmp 2] rfl fun Q hQ => ?_
  simp only [ups, PV.up, argEnv]
  have ft := And.intro ty_4 (And.intro ty_48 (And.intro ty_137 trivial))
  refine Run.seq ?_
  have fx := And.intro hlen (And.intro hall (And.intro (@List.map_cons.{0, 0}) ft))
  refine Run.go ?_
  refine End.kp [0] ?_
  refine Run.seq ?_
  refine Run.seq ?_
  refine Run.go ?_
  refine End.kp [0, 4] ?_
  refine Run.cond _ rfl (fun hb => ?_) (fun hb => ?_)
  · have hb := hb
    simp at hb
  · have hb := hb
    refine Run.skip ?_
    refine End.kp [0] ?_
    refine Run.seq ?_
    have fx := And.intro hlen (And.intro hall (And.intro (@List.map_cons.{0, 0}) ft))
    refine Run.go ?_
    refine End.move (Ghost.shut (t := 2) (j := 0) rfl rfl rfl) ?_
    simp only [eput, edel]
    refine End.kp [2] ?_
    refine Run.ret (hQ _ _ ⟨.inr rfl, _, rfl, _, rfl, ?_⟩)
    exact ⟨rfl, rfl⟩
theorem CloneN_ok (q : List (Int × Int)) (h : q.length ≤ 1000000) (up : Frs) : ACalls Try.prog 122 [.im (.sl (q.map nd))] up fun v u => v = .im (.sl (q.map nd)) ∧ u = up := by
  cases q with
  | nil => exact CloneN_nil up
  | cons x xs => exact CloneN_cons x xs (by simp at h; omega) up
def rootsG (g : LGraph) : List Int := g.outs ++ g.regs.map LReg.next
theorem bools_set (q : List Bool) (i : Nat) (b : Bool) : (bools q).set i [.bool b] = bools (q.set i b) := by simp [List.map_set]
def coneRoots (v : List Bool) (roots : List Int) : List Bool := roots.foldl (fun v l => v.set (l / 2).toNat true) v
def coneStep (g : LGraph) (v : List Bool) (i : Nat) : List Bool :=
  if v.getD (1 + g.inn.length + g.regs.length + i) false then (v.set ((g.ands.getD i (0, 0)).1 / 2).toNat true).set ((g.ands.getD i (0, 0)).2 / 2).toNat true else v
def coneDown (g : LGraph) : Nat → List Bool → List Bool
  | 0, v => v
  | i + 1, v => coneDown g i (coneStep g v i)
def nodesN (g : LGraph) : Nat := 1 + g.inn.length + g.regs.length + g.ands.length
def coneV (g : LGraph) (roots : List Int) : List Bool := coneDown g g.ands.length (coneRoots (List.replicate (nodesN g) false) roots)
theorem coneRoots_len : ∀ (roots : List Int) (v : List Bool), (coneRoots v roots).length = v.length
  | [], v => rfl
  | l :: t, v => by
    have := coneRoots_len t (v.set (l / 2).toNat true)
    simp only [coneRoots, List.foldl_cons] at this ⊢
    rw [this]
    simp
theorem coneStep_len (g : LGraph) (v : List Bool) (i : Nat) : (coneStep g v i).length = v.length := by
  unfold coneStep
  split <;> simp
theorem coneDown_len (g : LGraph) : ∀ (i : Nat) (v : List Bool), (coneDown g i v).length = v.length
  | 0, v => rfl
  | i + 1, v => by rw [coneDown, coneDown_len g i, coneStep_len]
theorem coneV_len (g : LGraph) (roots : List Int) : (coneV g roots).length = nodesN g := by rw [coneV, coneDown_len, coneRoots_len]; simp
/-- A literal over new literals of the nodes. -/
def atV (to : List Int) (l : Int) : Int := if l % 2 = 1 then flipL (to.getD (l / 2).toNat 0) else to.getD (l / 2).toNat 0
theorem xor_zero (l : Int) (h0 : 0 ≤ l) (h1 : l ≤ 1000000000) : bits .xor .i64 l 0 = l := by
  obtain ⟨n, rfl⟩ : ∃ n : Nat, l = n := ⟨l.toNat, by omega⟩
  have e : bits .xor .i64 (n : Int) 0 = IntKind.i64.wrap ((n ^^^ 0 : Nat) : Int) := by
    show IntKind.i64.wrap ((BitVec.ofInt 64 (n : Int) ^^^ BitVec.ofInt 64 0).toNat : Int) = _
    rw [BitVec.toNat_xor]
    have a1 : (BitVec.ofInt 64 (n : Int)).toNat = n := by
      rw [BitVec.toNat_ofInt]
      omega
    have a2 : (BitVec.ofInt 64 0).toNat = 0 := by decide
    rw [a1, a2]
  rw [e, Nat.xor_zero]
  exact wrap64 (by omega)
theorem xor_at (to : List Int) (l : Int) (h : 0 ≤ to.getD (l / 2).toNat 0 ∧ to.getD (l / 2).toNat 0 ≤ 1000000000) : bits .xor .i64 (to.getD (l / 2).toNat 0) (l % 2) = atV to l := by
  unfold atV
  by_cases h2 : l % 2 = 1
  · rw [if_pos h2, h2, xor_one _ h.1 h.2]
  · rw [if_neg h2, show l % 2 = 0 by omega, xor_zero _ h.1 h.2]
def movedG (g : LGraph) (ands : List (Int × Int)) (to : List Int) : LGraph := ⟨g.inn, g.out, g.regs.map (fun r => { r with next := atV to r.next }), ands, g.outs.map (atV to)⟩
/-- Literals that may stand for nodes. -/
def ToOk (to : List Int) : Prop := ∀ x ∈ to, 0 ≤ x ∧ x ≤ 1000000
theorem ToOk.get {to : List Int} (h : ToOk to) (k : Nat) : 0 ≤ to.getD k 0 ∧ to.getD k 0 ≤ 1000000 := by
  rw [List.getD_eq_getElem?_getD]
  cases hk : to[k]? with
  | none => simp
  | some x => exact h x (List.mem_of_getElem? hk)
theorem Roots_ok (g : LGraph) (hg : GSmall g) (up : Frs) : ACalls Try.prog 119 [g.pv] up fun v u => v = .im (.sl (ints (rootsG g))) ∧ u = up := by
  obtain ⟨z1, z2, z3, z4, z5⟩ := hg
  refine ACalls.code Try.func119 rfl 23 rfl (by simp) [.tmp 2] rfl fun Q hQ => ?_
  simp only [ups, PV.up, argEnv]
  have ft := And.intro ty_2 (And.intro ty_3 (And.intro ty_4 (And.intro ty_47 (And.intro ty_49 (And.intro ty_51 (And.intro ty_62 (And.intro ty_69 trivial)))))))
  refine Run.seq ?_
  have fx := And.intro rim_len ft
  refine Run.go ?_
  refine End.kp [1] ?_
  refine Run.seq ?_
  refine Run.region rfl fun K hK => GOps.sim ?_
  refine GOps.call rfl rfl rfl rfl (by kernel_rfl) (ACalls.sim ?_)
  refine (CloneLX_ok g.outs (by omega) _ _).mono fun v u hv => ?_
  obtain ⟨rfl, rfl⟩ := hv
  refine ⟨_, _, rfl, GOps.sim ?_⟩
  refine GOps.done (hK _ ?_); clear hK K
  refine End.kp [1, 3] ?_
  refine Run.seq ?_
  refine Run.seq ?_
  refine Run.go ?_
  refine End.kp [3, 10, 11, 12] ?_
  refine Run.block ?_
  refine Run.ghost (Ghost.form [(3, .ms 0 1 (g.outs.length + 0)), (10, .im (.sl (g.regs.map LReg.im))), (11, .i g.regs.length), (12, .i (0 : Nat))] 2 ⟨rfl, rfl, rfl, rfl, trivial⟩ rfl rfl) ?_
  refine Run.loop (fun m st => ∃ (i : Nat), m = g.regs.length - i ∧ i ≤ g.regs.length ∧ st = ⟨[(3, .ms 0 1 (g.outs.length + i)), (10, .im (.sl (g.regs.map LReg.im))), (11, .i g.regs.length), (12, .i (i : Nat))], [.box [.im (.sl (strs g.inn)), .im (.sl (strs g.out)), .im (.sl (g.regs.map LReg.im)), .im (.sl (g.ands.map nd)), .im (.sl (ints g.outs))], .row 62 1 (ints (g.outs ++ (g.regs.take i).map LReg.next)) 0], up⟩) g.regs.length ⟨0, rfl, by omega, by simp⟩ fun m st hI => ?_
  obtain ⟨i, rfl, hi, rfl⟩ := hI
  have hsl : (ints (g.outs ++ (g.regs.take i).map LReg.next)).length = g.outs.length + i := by simp; omega
  have hap : (g.outs.length + i + 1) * 8 ≤ 140737488355328 := by omega
  refine Run.seq ?_
  have fx := And.intro hap (And.intro hsl (And.intro rim_len ft))
  refine Run.go ?_
  refine End.kp [3, 10, 11, 12, 13] ?_
  refine Run.seq ?_
  refine Run.cond _ rfl (fun hb => ?_) (fun hb => ?_)
  · have hb2 := of_decide_eq_true hb
    have hin : i < g.regs.length := by omega
    have wi := wsucc hin (by omega)
    obtain ⟨f, hf, hfm, hgt⟩ := reg_at g.regs i hin
    have htk := reg_snoc g.regs i f hf
    refine Run.skip ?_
    refine End.kp [3, 10, 11, 12] ?_
    refine Run.seq ?_
    refine Run.block ?_
    refine Run.seq ?_
    have fx := And.intro (@Int.toNat_natCast) (And.intro (@Int.natCast_nonneg) (And.intro hgt (And.intro wi (And.intro hap (And.intro hsl (And.intro rim_len ft))))))
    refine Run.go ?_
    refine End.kp [3, 5, 10, 11, 12] ?_
    refine Run.go ?_
    refine End.blk ?_
    refine End.kp [3, 10, 11, 12] ?_
    refine Run.go ?_
    refine End.lp ?_
    refine ⟨g.regs.length - (i + 1), _, by omega, Ghost.form [(3, .ms 0 1 (g.outs.length + (i + 1))), (10, .im (.sl (g.regs.map LReg.im))), (11, .i g.regs.length), (12, .i (i + 1 : Nat))] 2 ⟨rfl, rfl, rfl, rfl, trivial⟩ rfl rfl, i + 1, rfl, by omega, ?_⟩
    rw [htk]
    simp
  · have hb2 := of_decide_eq_false hb
    have hiN : i = g.regs.length := by omega
    subst hiN
    rw [List.take_length] at hsl ⊢
    refine Run.exit rfl ?_
    refine End.kp [3] ?_
    refine Run.seq ?_
    refine Run.ghost (Ghost.shut (t := 3) (j := 1) rfl rfl hsl) ?_
    simp only [eput, edel]
    have fx := And.intro hap (And.intro hsl (And.intro rim_len ft))
    refine Run.go ?_
    refine End.kp [2] ?_
    refine Run.ret (hQ _ _ ⟨.inr rfl, _, rfl, _, rfl, ?_⟩)
    exact ⟨rfl, rfl⟩
theorem GNodes_ok (g : LGraph) (hg : GSmall g) (up : Frs) : ACalls Try.prog 150 [g.pv] up fun v u => v = .i (1 + g.inn.length + g.regs.length + g.ands.length) ∧ u = up := by
  have hg2 := hg
  obtain ⟨z1, z2, z3, z4, z5⟩ := hg
  have w1 : IntKind.i64.wrap (1 + (g.inn.length : Int) + g.regs.length + g.ands.length) = 1 + (g.inn.length : Int) + g.regs.length + g.ands.length := wrap64 (by omega)
  refine ACalls.code Try.func150 rfl 9 rfl (by simp) [.tmp 2] rfl fun Q hQ => ?_
  simp only [ups, PV.up, argEnv]
  have ft := And.intro ty_3 (And.intro ty_48 (And.intro ty_51 (And.intro ty_137 trivial)))
  refine Run.seq ?_
  have fx := And.intro w1 (And.intro nd_len ft)
  refine Run.go ?_
  refine End.kp [1] ?_
  refine Run.seq ?_
  refine Run.drawA fun K hK => ?_
  refine DOps.sim ?_
  refine DOps.call (.i (1 + (g.inn.length : Int) + g.regs.length)) [] [] rfl rfl rfl rfl (by kernel_rfl) (by simp [Agree]) (fun u hu => GFirst_ok g hg2 u) ?_
  refine DOps.sim ?_
  refine DOps.nil (metAll_quiet rfl) (hK _ ?_); clear hK K
  refine End.kp [2] ?_
  refine Run.ret (hQ _ _ ⟨.inr rfl, _, rfl, _, rfl, ?_⟩)
  exact ⟨rfl, rfl⟩
theorem cone_ok (g : LGraph) (hg : GraphOk g) (roots : List Int) (hr : ∀ x ∈ roots, 0 ≤ x ∧ x < 2 * (1 + (g.inn.length : Int) + g.regs.length + g.ands.length)) (hrn : roots.length ≤ 100000) (up : Frs) : ACalls Try.prog 118 [g.pv, .im (.sl (ints roots))] up fun v u => v = .im (.sl (bools (coneV g roots))) ∧ u = up := by
  obtain ⟨z1, z2, z3, z4, z5⟩ := hg.small
  obtain ⟨N, hN⟩ : ∃ N, N = nodesN g := ⟨_, rfl⟩
  have hNi : 1 + (g.inn.length : Int) + g.regs.length + g.ands.length = (N : Int) := by rw [hN, nodesN]; omega
  have hc : (0 : Int) ≤ (N : Int) := by omega
  have hm1 : ((1 : Nat) : Int) * (N : Int) ≤ 281474976710656 := by omega
  have hm2 : (N : Int) ≤ 9223372036854775807 := by omega
  have wa : IntKind.i64.wrap ((g.ands.length : Int) - 1) = (g.ands.length : Int) - 1 := wrap64 (by omega)
  refine ACalls.code Try.func118 rfl 59 rfl (by simp) [.tmp 4] rfl fun Q hQ => ?_
  simp only [ups, PV.up, argEnv]
  have ft := And.intro ty_3 (And.intro ty_4 (And.intro ty_48 (And.intro ty_49 (And.intro ty_51 (And.intro ty_62 (And.intro ty_71 (And.intro ty_137 trivial)))))))
  refine Run.seq ?_
  have fx := And.intro wa (And.intro hm2 (And.intro hm1 (And.intro hc (And.intro hNi (And.intro nd_len (And.intro ints_len ft))))))
  refine Run.go ?_
  refine End.kp [1, 2] ?_
  refine Run.seq ?_
  refine Run.region rfl fun K hK => GOps.sim ?_
  refine GOps.call rfl rfl rfl rfl (by kernel_rfl) (ACalls.sim ?_)
  refine (GNodes_ok g hg.small _).mono fun v u hv => ?_
  obtain ⟨rfl, rfl⟩ := hv
  refine ⟨_, _, rfl, GOps.sim ?_⟩
  refine GOps.done (hK _ ?_); clear hK K
  refine End.kp [1, 2, 5] ?_
  refine Run.seq ?_
  refine Run.seq ?_
  refine Run.go ?_
  refine End.kp [2, 5, 13, 14, 15] ?_
  refine Run.block ?_
  refine Run.ghost (Ghost.form [(2, .ptr 0 0 0), (5, .ms 0 1 N), (13, .im (.sl (ints roots))), (14, .i roots.length), (15, .i (0 : Nat))] 2 ⟨rfl, rfl, rfl, rfl, rfl, trivial⟩ rfl rfl) ?_
  refine Run.loop (fun m st => ∃ (i : Nat), m = roots.length - i ∧ i ≤ roots.length ∧ st = ⟨[(2, .ptr 0 0 0), (5, .ms 0 1 N), (13, .im (.sl (ints roots))), (14, .i roots.length), (15, .i (i : Nat))], [.box [.im (.sl (strs g.inn)), .im (.sl (strs g.out)), .im (.sl (g.regs.map LReg.im)), .im (.sl (g.ands.map nd)), .im (.sl (ints g.outs))], .row 4 1 (bools (coneRoots (List.replicate N false) (roots.take i))) 0], up⟩) roots.length ⟨0, rfl, by omega, by simp [coneRoots]⟩ fun m st hI => ?_
  obtain ⟨i, rfl, hi, rfl⟩ := hI
  have hvl : (coneRoots (List.replicate N false) (roots.take i)).length = N := by rw [coneRoots_len]; simp
  refine Run.seq ?_
  have fx := And.intro wa (And.intro hm2 (And.intro hm1 (And.intro hc (And.intro hNi (And.intro nd_len (And.intro ints_len ft))))))
  refine Run.go ?_
  refine End.kp [2, 5, 13, 14, 15, 16] ?_
  refine Run.seq ?_
  refine Run.cond _ rfl (fun hb => ?_) (fun hb => ?_)
  · have hb2 := of_decide_eq_true hb
    have hin : i < roots.length := by omega
    have wi := wsucc hin (by omega)
    obtain ⟨x, hxi, hxm, hx⟩ := int_at roots i hin
    obtain ⟨x1, x2⟩ := hr x hxm
    have hd := tdiv2 x x1 (by omega)
    have hx0 : 0 ≤ x / 2 := by omega
    have hxl : x / 2 < (N : Int) := by omega
    have htk : roots.take (i + 1) = roots.take i ++ [x] := int_snoc roots i x hxi
    have hstep : coneRoots (List.replicate N false) (roots.take (i + 1)) = (coneRoots (List.replicate N false) (roots.take i)).set (x / 2).toNat true := by rw [htk]; simp [coneRoots]
    generalize coneRoots (List.replicate N false) (roots.take i) = v at hvl hstep
    have hvb : (bools v).length = N := by rw [bools_len, hvl]
    have hvx := bools_get v (x / 2).toNat (by omega)
    have hst := bools_set v
    refine Run.skip ?_
    refine End.kp [2, 5, 13, 14, 15] ?_
    refine Run.seq ?_
    refine Run.block ?_
    refine Run.seq ?_
    have fx := And.intro (@Int.toNat_natCast) (And.intro (@Int.natCast_nonneg) (And.intro hst (And.intro hvx (And.intro hvb (And.intro hxl (And.intro hx0 (And.intro hd (And.intro hx (And.intro wi (And.intro wa (And.intro hm2 (And.intro hm1 (And.intro hc (And.intro hNi (And.intro nd_len (And.intro ints_len ft))))))))))))))))
    refine Run.go ?_
    refine End.kp [2, 5, 7, 13, 14, 15] ?_
    refine Run.go ?_
    refine End.blk ?_
    refine End.kp [2, 5, 13, 14, 15] ?_
    refine Run.go ?_
    refine End.lp ?_
    refine ⟨roots.length - (i + 1), _, by omega, Ghost.form [(2, .ptr 0 0 0), (5, .ms 0 1 N), (13, .im (.sl (ints roots))), (14, .i roots.length), (15, .i (i + 1 : Nat))] 2 ⟨rfl, rfl, rfl, rfl, rfl, trivial⟩ rfl rfl, i + 1, rfl, by omega, ?_⟩
    rw [hstep]
    rfl
  · have hb2 := of_decide_eq_false hb
    have hiN : i = roots.length := by omega
    subst hiN
    rw [List.take_length] at hvl ⊢
    have hV : coneDown g g.ands.length (coneRoots (List.replicate N false) roots) = coneV g roots := by rw [coneV, hN]
    generalize coneRoots (List.replicate N false) roots = v0 at hvl hV
    refine Run.exit rfl ?_
    refine End.kp [2, 5] ?_
    refine Run.seq ?_
    have fx := And.intro wa (And.intro hm2 (And.intro hm1 (And.intro hc (And.intro hNi (And.intro nd_len (And.intro ints_len ft))))))
    refine Run.region rfl fun K hK => GOps.sim ?_
    refine GOps.call rfl rfl rfl rfl (by kernel_rfl) (ACalls.sim ?_)
    refine (GFirst_ok g hg.small _).mono fun v u hv => ?_
    obtain ⟨rfl, rfl⟩ := hv
    refine ⟨_, _, rfl, GOps.sim ?_⟩
    refine GOps.done (hK _ ?_); clear hK K
    refine End.kp [2, 5, 8] ?_
    refine Run.seq ?_
    refine Run.seq ?_
    refine Run.go ?_
    refine End.kp [2, 5, 8, 9] ?_
    refine Run.block ?_
    refine Run.ghost (Ghost.form [(2, .ptr 0 0 0), (5, .ms 0 1 N), (8, .i (1 + g.inn.length + g.regs.length)), (9, .i ((g.ands.length : Int) - 1))] 2 ⟨rfl, rfl, rfl, rfl, trivial⟩ rfl rfl) ?_
    refine Run.loop (fun m st => ∃ (k : Nat) (v : List Bool), k = m ∧ k ≤ g.ands.length ∧ v.length = N ∧ coneDown g k v = coneV g roots ∧ st = ⟨[(2, .ptr 0 0 0), (5, .ms 0 1 N), (8, .i (1 + g.inn.length + g.regs.length)), (9, .i ((k : Int) - 1))], [.box [.im (.sl (strs g.inn)), .im (.sl (strs g.out)), .im (.sl (g.regs.map LReg.im)), .im (.sl (g.ands.map nd)), .im (.sl (ints g.outs))], .row 4 1 (bools v) 0], up⟩) g.ands.length ⟨_, _, rfl, Nat.le_refl _, hvl, hV, rfl⟩ fun m st hI => ?_
    obtain ⟨k, v, rfl, hk, hvl2, hV2, rfl⟩ := hI
    have hvb : (bools v).length = N := by rw [bools_len, hvl2]
    refine Run.seq ?_
    refine Run.seq ?_
    have fx := And.intro hvb (And.intro wa (And.intro hm2 (And.intro hm1 (And.intro hc (And.intro hNi (And.intro nd_len (And.intro ints_len ft)))))))
    refine Run.go ?_
    refine End.kp [2, 5, 8, 9, 31] ?_
    refine Run.cond _ rfl (fun hb => ?_) (fun hb => ?_)
    · have hb2 := of_decide_eq_true hb
      obtain ⟨i, rfl⟩ : ∃ i, k = i + 1 := ⟨k - 1, by omega⟩
      have ei : ((i + 1 : Nat) : Int) - 1 = (i : Int) := by omega
      have wf : IntKind.i64.wrap (1 + (g.inn.length : Int) + g.regs.length + i) = ((1 + g.inn.length + g.regs.length + i : Nat) : Int) := by rw [wrap64 (by omega)]; omega
      have wd : IntKind.i64.wrap ((i : Int) - 1) = (i : Int) - 1 := wrap64 (by omega)
      have hfl : ((1 + g.inn.length + g.regs.length + i : Nat) : Int) < (N : Int) := by omega
      have hvf := bools_get v (1 + g.inn.length + g.regs.length + i) (by omega)
      obtain ⟨p, hpi, hpm, hp⟩ := node_at g.ands i (by omega)
      obtain ⟨⟨p1, p2⟩, p3, p4⟩ := hg.ands i p hpi
      have hd1 := tdiv2 p.1 p1 (by omega)
      have hd2 := tdiv2 p.2 p3 (by omega)
      have q1 : 0 ≤ p.1 / 2 := by omega
      have q2 : 0 ≤ p.2 / 2 := by omega
      have q3 : p.1 / 2 < (N : Int) := by omega
      have q4 : p.2 / 2 < (N : Int) := by omega
      have hgd : g.ands.getD i (0, 0) = p := by simp [hpi]
      have hv1 := bools_get v (p.1 / 2).toNat (by omega)
      have hv2 := bools_get (v.set (p.1 / 2).toNat true) (p.2 / 2).toNat (by rw [List.length_set]; omega)
      have hst := bools_set v
      have hst2 := bools_set (v.set (p.1 / 2).toNat true)
      have hl2 : (bools (v.set (p.1 / 2).toNat true)).length = N := by rw [bools_len, List.length_set, hvl2]
      have hil : (i : Int) < (g.ands.length : Int) := by omega
      rw [coneDown, coneStep, hgd] at hV2
      refine Run.skip ?_
      refine End.kp [2, 5, 8, 9] ?_
      refine Run.seq ?_
      refine Run.block ?_
      refine Run.seq ?_
      have fx := And.intro (@Int.toNat_natCast) (And.intro (@Int.natCast_nonneg) (And.intro hil (And.intro hl2 (And.intro hst2 (And.intro hst (And.intro hv2 (And.intro hv1 (And.intro q4 (And.intro q3 (And.intro q2 (And.intro q1 (And.intro hd2 (And.intro hd1 (And.intro hp (And.intro hvf (And.intro hfl (And.intro wd (And.intro wf (And.intro ei (And.intro hvb (And.intro wa (And.intro hm2 (And.intro hm1 (And.intro hc (And.intro hNi (And.intro nd_len (And.intro ints_len ft)))))))))))))))))))))))))))
      refine Run.go ?_
      refine End.kp [2, 5, 8, 9, 39] ?_
      refine Run.cond _ rfl (fun hb => ?_) (fun hb => ?_)
      · have hb2 := hb
        rw [if_pos hb2] at hV2
        have fx := And.intro (@Int.toNat_natCast) (And.intro (@Int.natCast_nonneg) (And.intro hil (And.intro hl2 (And.intro hst2 (And.intro hst (And.intro hv2 (And.intro hv1 (And.intro q4 (And.intro q3 (And.intro q2 (And.intro q1 (And.intro hd2 (And.intro hd1 (And.intro hp (And.intro hvf (And.intro hfl (And.intro wd (And.intro wf (And.intro ei (And.intro hvb (And.intro wa (And.intro hm2 (And.intro hm1 (And.intro hc (And.intro hNi (And.intro nd_len (And.intro ints_len ft)))))))))))))))))))))))))))
        refine Run.drawA fun K hK => ?_
        refine DOps.sim ?_
        refine DOps.nil (by rfl) (hK _ ?_); clear hK K
        refine End.blk ?_
        refine End.kp [2, 5, 8, 9] ?_
        refine Run.go ?_
        refine End.lp ?_
        refine ⟨i, _, by omega, Ghost.form [(2, .ptr 0 0 0), (5, .ms 0 1 N), (8, .i (1 + g.inn.length + g.regs.length)), (9, .i ((i : Int) - 1))] 2 ⟨rfl, rfl, rfl, rfl, trivial⟩ rfl rfl, i, _, rfl, by omega, by simp [hvl2], hV2, rfl⟩
      · have hb2 := hb
        rw [if_neg (by rw [hb2]; simp)] at hV2
        refine Run.skip ?_
        refine End.blk ?_
        refine End.kp [2, 5, 8, 9] ?_
        have fx := And.intro (@Int.toNat_natCast) (And.intro (@Int.natCast_nonneg) (And.intro hil (And.intro hl2 (And.intro hst2 (And.intro hst (And.intro hv2 (And.intro hv1 (And.intro q4 (And.intro q3 (And.intro q2 (And.intro q1 (And.intro hd2 (And.intro hd1 (And.intro hp (And.intro hvf (And.intro hfl (And.intro wd (And.intro wf (And.intro ei (And.intro hvb (And.intro wa (And.intro hm2 (And.intro hm1 (And.intro hc (And.intro hNi (And.intro nd_len (And.intro ints_len ft)))))))))))))))))))))))))))
        refine Run.go ?_
        refine End.lp ?_
        refine ⟨i, _, by omega, Ghost.form [(2, .ptr 0 0 0), (5, .ms 0 1 N), (8, .i (1 + g.inn.length + g.regs.length)), (9, .i ((i : Int) - 1))] 2 ⟨rfl, rfl, rfl, rfl, trivial⟩ rfl rfl, i, _, rfl, by omega, hvl2, hV2, rfl⟩
    · have hb2 := of_decide_eq_false hb
      have hk0 : k = 0 := by omega
      subst hk0
      rw [coneDown] at hV2
      refine Run.exit rfl ?_
      refine End.kp [5] ?_
      refine Run.seq ?_
      refine Run.ghost (Ghost.shut (t := 5) (j := 1) rfl rfl hvb) ?_
      simp only [eput, edel]
      have fx := And.intro hvb (And.intro wa (And.intro hm2 (And.intro hm1 (And.intro hc (And.intro hNi (And.intro nd_len (And.intro ints_len ft)))))))
      refine Run.go ?_
      refine End.kp [4] ?_
      refine Run.ret (hQ _ _ ⟨.inr rfl, _, rfl, _, rfl, ?_⟩)
      exact ⟨by rw [hV2], rfl⟩
end Go.Proofs.YtkmnmokjlpenhaaPi
