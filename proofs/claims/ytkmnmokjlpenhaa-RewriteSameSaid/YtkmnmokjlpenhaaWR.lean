/- The walks of literals and of enables: Inverted, Node, Make, and, mux, find, Enables. -/
import Derived.Test.YtkmnmokjlpenhaaWP
set_option linter.unusedVariables false
set_option linter.unusedSimpArgs false
set_option maxRecDepth 100000
namespace Go.Proofs.YtkmnmokjlpenhaaPi
set_option maxHeartbeats 2000000
/-- The opposite of a literal. -/
def flipL (l : Int) : Int := if l % 2 = 0 then l + 1 else l - 1
theorem xor_one (l : Int) (h0 : 0 ≤ l) (h1 : l ≤ 1000000000) : bits .xor .i64 l 1 = flipL l := by
  obtain ⟨n, rfl⟩ : ∃ n : Nat, l = n := ⟨l.toNat, by omega⟩
  have e : bits .xor .i64 (n : Int) 1 = IntKind.i64.wrap ((n ^^^ 1 : Nat) : Int) := by
    show IntKind.i64.wrap ((BitVec.ofInt 64 (n : Int) ^^^ BitVec.ofInt 64 1).toNat : Int) = _
    rw [BitVec.toNat_xor]
    have a1 : (BitVec.ofInt 64 (n : Int)).toNat = n := by
      rw [BitVec.toNat_ofInt]
      omega
    have a2 : (BitVec.ofInt 64 1).toNat = 1 := by decide
    rw [a1, a2]
  have h2 : n ^^^ 1 = if n % 2 = 0 then n + 1 else n - 1 := by
    have k1 : (n ^^^ 1) / 2 = n / 2 := by
      rw [Nat.xor_div_two]
      simp
    have k2 : (n ^^^ 1) % 2 = 1 ↔ ¬ n % 2 = 1 := by
      rw [Nat.xor_mod_two_eq_one]
      simp
    split <;> omega
  rw [e, h2, flipL]
  by_cases h : n % 2 = 0
  · rw [if_pos h, if_pos (by omega), wrap64 (by omega)]
    omega
  · rw [if_neg h, if_neg (by omega), wrap64 (by omega)]
    omega
theorem flipL_lt (l n : Int) (h0 : 0 ≤ l) (h1 : l < 2 * n) : 0 ≤ flipL l ∧ flipL l < 2 * n := by
  unfold flipL
  split <;> omega
def nodeOf (g : LGraph) (l : Int) : Option (Int × Int) := if 0 ≤ l / 2 - (1 + (g.inn.length : Int) + g.regs.length) ∧ l % 2 = 0 then g.ands[(l / 2 - (1 + (g.inn.length : Int) + g.regs.length)).toNat]? else none
def andPV : Option (Int × Int) → PV
  | some p => .tup [.agg [.i p.1, .i p.2], .im (.bool true)]
  | none => .tup [.agg [.i 0, .i 0], .im (.bool false)]
theorem Inverted_ok (l : Int) (h0 : 0 ≤ l) (up : Frs) : ACalls Try.prog 28 [.i l] up fun v u => v = .im (.bool (l % 2 == 1)) ∧ u = up := by
  have d1 : decide (0 ≤ l) = true := decide_eq_true (by omega)
  have hm := tmod2 l h0
  refine ACalls.code Try.func28 rfl 10 rfl (by simp) [.tmp 2] rfl fun Q hQ => ?_
  simp only [ups, PV.up, argEnv]
  have ft := And.intro ty_4 (And.intro ty_62 trivial)
  refine Run.seq ?_
  have fx := And.intro (@ge_iff_le Int _) (And.intro hm (And.intro d1 ft))
  refine Run.go ?_
  refine End.kp [0] ?_
  refine Run.seq ?_
  refine Run.go ?_
  refine End.kp [2] ?_
  refine Run.ret (hQ _ _ ⟨.inr rfl, _, rfl, _, rfl, ?_⟩)
  exact ⟨rfl, rfl⟩
theorem Node_ok (l : Int) (h0 : 0 ≤ l) (h1 : l ≤ 1000000000) (up : Frs) : ACalls Try.prog 29 [.i l] up fun v u => v = .i (l / 2) ∧ u = up := by
  have d1 : decide (l < 0) = false := decide_eq_false (by omega)
  have hd := tdiv2 l h0 h1
  refine ACalls.code Try.func29 rfl 7 rfl (by simp) [.tmp 2] rfl fun Q hQ => ?_
  simp only [ups, PV.up, argEnv]
  have ft := And.intro ty_3 (And.intro ty_4 (And.intro ty_62 trivial))
  refine Run.seq ?_
  have fx := And.intro hd (And.intro d1 ft)
  refine Run.go ?_
  refine End.kp [0] ?_
  refine Run.seq ?_
  refine Run.seq ?_
  refine Run.go ?_
  refine End.kp [0, 4] ?_
  refine Run.cond _ rfl (fun hb => ?_) (fun hb => ?_)
  · have hb := hb
    simp at hb
  · have hb := hb
    refine Run.skip ?_
    refine End.kp [0] ?_
    refine Run.seq ?_
    have fx := And.intro hd (And.intro d1 ft)
    refine Run.go ?_
    refine End.kp [2] ?_
    refine Run.ret (hQ _ _ ⟨.inr rfl, _, rfl, _, rfl, ?_⟩)
    exact ⟨rfl, rfl⟩
theorem Make_ok (k : Int) (h0 : 0 ≤ k) (h1 : k ≤ 4416) (up : Frs) : ACalls Try.prog 88 [.i k, .im (.bool false)] up fun v u => v = .i (2 * k) ∧ u = up := by
  have d1 : decide (k < 0) = false := decide_eq_false (by omega)
  have d2 : decide (k > 4416) = false := decide_eq_false (by omega)
  have w1 : IntKind.i64.wrap (2 * k) = 2 * k := wrap64 (by omega)
  refine ACalls.code Try.func88 rfl 18 rfl (by simp) [.tmp 4] rfl fun Q hQ => ?_
  simp only [ups, PV.up, argEnv]
  have ft := And.intro ty_3 (And.intro ty_4 (And.intro ty_62 trivial))
  refine Run.seq ?_
  have fx := And.intro w1 (And.intro d2 (And.intro d1 ft))
  refine Run.go ?_
  refine End.kp [0, 1] ?_
  refine Run.seq ?_
  refine Run.seq ?_
  refine Run.go ?_
  refine End.kp [0, 1, 11] ?_
  refine Run.cond _ rfl (fun hb => ?_) (fun hb => ?_)
  · have hb := hb
    simp at hb
  · have hb := hb
    refine Run.skip ?_
    refine End.kp [0, 1] ?_
    refine Run.seq ?_
    have fx := And.intro w1 (And.intro d2 (And.intro d1 ft))
    refine Run.go ?_
    refine End.kp [1, 5] ?_
    refine Run.seq ?_
    refine Run.seq ?_
    refine Run.go ?_
    refine End.kp [5, 14] ?_
    refine Run.cond _ rfl (fun hb => ?_) (fun hb => ?_)
    · have hb := hb
      simp at hb
    · have hb := hb
      refine Run.skip ?_
      refine End.kp [5] ?_
      refine Run.seq ?_
      have fx := And.intro w1 (And.intro d2 (And.intro d1 ft))
      refine Run.go ?_
      refine End.kp [4] ?_
      refine Run.ret (hQ _ _ ⟨.inr rfl, _, rfl, _, rfl, ?_⟩)
      exact ⟨rfl, rfl⟩
theorem nodeOf_mem {g : LGraph} {l : Int} {p : Int × Int} (h : nodeOf g l = some p) : ∃ i : Nat, g.ands[i]? = some p ∧ l = 2 * (1 + (g.inn.length : Int) + g.regs.length + i) := by
  unfold nodeOf at h
  split at h
  · rename_i hc
    exact ⟨_, h, by omega⟩
  · simp at h
theorem gand_no (g : LGraph) (hg : GSmall g) (l : Int) (h0 : 0 ≤ l) (h1 : l < 2 * (1 + (g.inn.length : Int) + g.regs.length + g.ands.length)) (hc : ¬ 0 ≤ l / 2 - (1 + (g.inn.length : Int) + g.regs.length)) (up : Frs) : ACalls Try.prog 139 [g.pv, .i l] up fun v u => v = andPV none ∧ u = up := by
  obtain ⟨z1, z2, z3, z4, z5⟩ := hg
  have hm := tmod2 l h0
  have hd := tdiv2 l h0 (by omega)
  have w1 : IntKind.i64.wrap (l / 2 - (1 + (g.inn.length : Int) + g.regs.length)) = l / 2 - (1 + (g.inn.length : Int) + g.regs.length) := wrap64 (by omega)
  
  have d1 : decide (0 ≤ l / 2 - (1 + (g.inn.length : Int) + g.regs.length)) = false := decide_eq_false hc
  refine ACalls.code Try.func139 rfl 25 rfl (by simp) [.cell 4 137, .tmp 5] rfl fun Q hQ => ?_
  simp only [ups, PV.up, argEnv]
  have ft := And.intro ty_3 (And.intro ty_4 (And.intro ty_48 (And.intro ty_51 (And.intro ty_62 (And.intro ty_137 trivial)))))
  refine Run.seq ?_
  have fx := And.intro (@ge_iff_le Int _) (And.intro d1 (And.intro w1 (And.intro hd (And.intro hm ft))))
  refine Run.go ?_
  refine End.kp [1, 2, 4] ?_
  refine Run.seq ?_
  refine Run.seq ?_
  refine Run.region rfl fun K hK => GOps.sim ?_
  refine GOps.call rfl rfl rfl rfl (by kernel_rfl) (ACalls.sim ?_)
  refine (GFirst_ok g ⟨z1, z2, z3, z4, z5⟩ _).mono fun v u hv => ?_
  obtain ⟨rfl, rfl⟩ := hv
  refine ⟨_, _, rfl, GOps.sim ?_⟩
  refine GOps.done (hK _ ?_); clear hK K
  refine End.kp [1, 2, 4, 6] ?_
  refine Run.seq ?_
  refine Run.go ?_
  refine End.kp [2, 4, 6, 18] ?_
  refine Run.cond _ rfl (fun hb => ?_) (fun hb => ?_)
  · have hb := hb
    simp at hb
  · have hb := hb
    refine Run.skip ?_
    refine End.kp [4] ?_
    refine Run.seq ?_
    have fx := And.intro (@ge_iff_le Int _) (And.intro d1 (And.intro w1 (And.intro hd (And.intro hm ft))))
    refine Run.go ?_
    refine End.kp [4, 5] ?_
    refine Run.resC hQ ?_
    exact ⟨rfl, rfl⟩
theorem gand_odd (g : LGraph) (hg : GSmall g) (l : Int) (h0 : 0 ≤ l) (h1 : l < 2 * (1 + (g.inn.length : Int) + g.regs.length + g.ands.length)) (hc : 0 ≤ l / 2 - (1 + (g.inn.length : Int) + g.regs.length)) (hc2 : ¬ l % 2 = 0) (up : Frs) : ACalls Try.prog 139 [g.pv, .i l] up fun v u => v = andPV none ∧ u = up := by
  obtain ⟨z1, z2, z3, z4, z5⟩ := hg
  have hm := tmod2 l h0
  have hd := tdiv2 l h0 (by omega)
  have w1 : IntKind.i64.wrap (l / 2 - (1 + (g.inn.length : Int) + g.regs.length)) = l / 2 - (1 + (g.inn.length : Int) + g.regs.length) := wrap64 (by omega)
  
  have d1 : decide (0 ≤ l / 2 - (1 + (g.inn.length : Int) + g.regs.length)) = true := decide_eq_true hc
  have d2 : (l % 2 == 0) = false := by simpa using hc2
  refine ACalls.code Try.func139 rfl 25 rfl (by simp) [.cell 4 137, .tmp 5] rfl fun Q hQ => ?_
  simp only [ups, PV.up, argEnv]
  have ft := And.intro ty_3 (And.intro ty_4 (And.intro ty_48 (And.intro ty_51 (And.intro ty_62 (And.intro ty_137 trivial)))))
  refine Run.seq ?_
  have fx := And.intro (@ge_iff_le Int _) (And.intro d2 (And.intro d1 (And.intro w1 (And.intro hd (And.intro hm ft)))))
  refine Run.go ?_
  refine End.kp [1, 2, 4] ?_
  refine Run.seq ?_
  refine Run.seq ?_
  refine Run.region rfl fun K hK => GOps.sim ?_
  refine GOps.call rfl rfl rfl rfl (by kernel_rfl) (ACalls.sim ?_)
  refine (GFirst_ok g ⟨z1, z2, z3, z4, z5⟩ _).mono fun v u hv => ?_
  obtain ⟨rfl, rfl⟩ := hv
  refine ⟨_, _, rfl, GOps.sim ?_⟩
  refine GOps.done (hK _ ?_); clear hK K
  refine End.kp [1, 2, 4, 6] ?_
  refine Run.seq ?_
  refine Run.go ?_
  refine End.kp [2, 4, 6, 18] ?_
  refine Run.cond _ rfl (fun hb => ?_) (fun hb => ?_)
  · have hb := hb
    simp at hb
  · have hb := hb
    refine Run.skip ?_
    refine End.kp [4] ?_
    refine Run.seq ?_
    have fx := And.intro (@ge_iff_le Int _) (And.intro d2 (And.intro d1 (And.intro w1 (And.intro hd (And.intro hm ft)))))
    refine Run.go ?_
    refine End.kp [4, 5] ?_
    refine Run.resC hQ ?_
    exact ⟨rfl, rfl⟩
theorem gand_ok (g : LGraph) (hg : GSmall g) (l : Int) (h0 : 0 ≤ l) (h1 : l < 2 * (1 + (g.inn.length : Int) + g.regs.length + g.ands.length)) (up : Frs) : ACalls Try.prog 139 [g.pv, .i l] up fun v u => v = andPV (nodeOf g l) ∧ u = up := by
  obtain ⟨z1, z2, z3, z4, z5⟩ := hg
  have hm := tmod2 l h0
  have hd := tdiv2 l h0 (by omega)
  have w1 : IntKind.i64.wrap (l / 2 - (1 + (g.inn.length : Int) + g.regs.length)) = l / 2 - (1 + (g.inn.length : Int) + g.regs.length) := wrap64 (by omega)
  by_cases hc : 0 ≤ l / 2 - (1 + (g.inn.length : Int) + g.regs.length)
  case neg =>
    have hnd : nodeOf g l = none := by rw [nodeOf, if_neg (fun h => hc h.1)]
    rw [hnd]
    exact gand_no g ⟨z1, z2, z3, z4, z5⟩ l h0 h1 hc up
  by_cases hc2 : l % 2 = 0
  case neg =>
    have hnd : nodeOf g l = none := by rw [nodeOf, if_neg (fun h => hc2 h.2)]
    rw [hnd]
    exact gand_odd g ⟨z1, z2, z3, z4, z5⟩ l h0 h1 hc hc2 up
  have d1 : decide (0 ≤ l / 2 - (1 + (g.inn.length : Int) + g.regs.length)) = true := decide_eq_true hc
  have d2 : (l % 2 == 0) = true := by simpa using hc2
  obtain ⟨p, hpi, hpm, hp⟩ := node_at g.ands (l / 2 - (1 + (g.inn.length : Int) + g.regs.length)).toNat (by omega)
  have hnd : nodeOf g l = some p := by rw [nodeOf, if_pos ⟨hc, hc2⟩, hpi]
  have hlt : l / 2 - (1 + (g.inn.length : Int) + g.regs.length) < (g.ands.length : Int) := by omega
  rw [hnd]
  refine ACalls.code Try.func139 rfl 25 rfl (by simp) [.cell 4 137, .tmp 5] rfl fun Q hQ => ?_
  simp only [ups, PV.up, argEnv]
  have ft := And.intro ty_3 (And.intro ty_4 (And.intro ty_48 (And.intro ty_51 (And.intro ty_62 (And.intro ty_137 trivial)))))
  refine Run.seq ?_
  have fx := And.intro (@ge_iff_le Int _) (And.intro nd_len (And.intro hlt (And.intro hc (And.intro hp (And.intro d2 (And.intro d1 (And.intro w1 (And.intro hd (And.intro hm ft)))))))))
  refine Run.go ?_
  refine End.kp [1, 2, 4] ?_
  refine Run.seq ?_
  refine Run.seq ?_
  refine Run.region rfl fun K hK => GOps.sim ?_
  refine GOps.call rfl rfl rfl rfl (by kernel_rfl) (ACalls.sim ?_)
  refine (GFirst_ok g ⟨z1, z2, z3, z4, z5⟩ _).mono fun v u hv => ?_
  obtain ⟨rfl, rfl⟩ := hv
  refine ⟨_, _, rfl, GOps.sim ?_⟩
  refine GOps.done (hK _ ?_); clear hK K
  refine End.kp [1, 2, 4, 6] ?_
  refine Run.seq ?_
  refine Run.go ?_
  refine End.kp [2, 4, 6, 18] ?_
  refine Run.cond _ rfl (fun hb => ?_) (fun hb => ?_)
  · have hb := hb
    refine Run.seq ?_
    have fx := And.intro (@ge_iff_le Int _) (And.intro nd_len (And.intro hlt (And.intro hc (And.intro hp (And.intro d2 (And.intro d1 (And.intro w1 (And.intro hd (And.intro hm ft)))))))))
    refine Run.go ?_
    refine End.kp [4, 5] ?_
    refine Run.resC hQ ?_
    exact ⟨rfl, rfl⟩
  · have hb := hb
    simp at hb
end Go.Proofs.YtkmnmokjlpenhaaPi
