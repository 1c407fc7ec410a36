/- The walks of find and Enables. -/
import Derived.Test.YtkmnmokjlpenhaaWS
set_option linter.unusedVariables false
set_option linter.unusedSimpArgs false
set_option maxRecDepth 100000
namespace Go.Proofs.YtkmnmokjlpenhaaPi
set_option maxHeartbeats 4000000
abbrev turnP (x : Int × Int) (i : Nat) : Int × Int := oneOf x (swapP x) i
theorem clear_hit (q : Int) (x : Int × Int) (i : Nat) (hi : i < 2) (h1 : ∀ i', i' < i → (turnP x i').1 ≠ q) (h : (turnP x i).1 = q) : clearV q x = some (flipL (turnP x i).2, 0) := by
  have hi : i = 0 ∨ i = 1 := by omega
  rcases hi with rfl | rfl
  · simp [turnP, turnP, oneOf] at h
    simp [clearV, h, turnP, oneOf]
  · have := h1 0 (by omega)
    simp [turnP, turnP, oneOf] at h this
    simp [clearV, h, this, turnP, oneOf]
theorem clear_none (q : Int) (x : Int × Int) (h1 : ∀ i', i' < 2 → (turnP x i').1 ≠ q) : clearV q x = none := by
  have h0 := h1 0 (by omega)
  have h2 := h1 1 (by omega)
  simp [turnP, turnP, oneOf] at h0 h2
  simp [clearV, h0, h2]
theorem set_hit (q : Int) (x : Int × Int) (i : Nat) (hi : i < 2) (h1 : ∀ i', i' < i → (turnP x i').1 ≠ flipL q) (h : (turnP x i).1 = flipL q) : setV q x = some (flipL (turnP x i).2, 1) := by
  have hi : i = 0 ∨ i = 1 := by omega
  rcases hi with rfl | rfl
  · simp [turnP, turnP, oneOf] at h
    simp [setV, h, turnP, oneOf]
  · have := h1 0 (by omega)
    simp [turnP, turnP, oneOf] at h this
    simp [setV, h, this, turnP, oneOf]
theorem set_none (q : Int) (x : Int × Int) (h1 : ∀ i', i' < 2 → (turnP x i').1 ≠ flipL q) : setV q x = none := by
  have h0 := h1 0 (by omega)
  have h2 := h1 1 (by omega)
  simp [turnP, turnP, oneOf] at h0 h2
  simp [setV, h0, h2]
theorem turn_row (x : Int × Int) (i : Nat) (hi : i < 2) : [[Im.int .i64 x.1, .int .i64 x.2], [.int .i64 x.2, .int .i64 x.1]][i]? = some [Im.int .i64 (turnP x i).1, .int .i64 (turnP x i).2] := by
  have : i = 0 ∨ i = 1 := by omega
  rcases this with rfl | rfl <;> simp [turnP, oneOf]
theorem find_same (g : LGraph) (hg : GraphOk g) (next q : Int) (h0 : 0 ≤ next) (h1 : next < 2 * (1 + (g.inn.length : Int) + g.regs.length + g.ands.length)) (q0 : 0 ≤ q) (q1 : q < 1000000) (hne : next = q) (up : Frs) : ACalls Try.prog 87 [g.pv, .i next, .i q] up fun v u => v = .agg [.i (findV g next q).1, .i (findV g next q).2] ∧ u = up := by
  have hF : findV g next q = (0, 0) := by simp [findV, hne]
  refine ACalls.code Try.func87 rfl 90 rfl (by simp) [.cell 6 67] rfl fun Q hQ => ?_
  simp only [ups, PV.up, argEnv]
  have ft := And.intro ty_2 (And.intro ty_3 (And.intro ty_4 (And.intro ty_48 (And.intro ty_51 (And.intro ty_62 (And.intro ty_67 (And.intro ty_137 trivial)))))))
  refine Run.seq ?_
  have fx := ft
  refine Run.go ?_
  refine End.kp [1, 2, 3, 6] ?_
  refine Run.seq ?_
  refine Run.seq ?_
  refine Run.go ?_
  refine End.kp [1, 2, 3, 6, 19] ?_
  refine Run.cond _ rfl (fun hb => ?_) (fun hb => ?_)
  · have hb2 := hb
    refine Run.seq ?_
    have fx := ft
    refine Run.go ?_
    refine End.kp [6] ?_
    refine Run.resC hQ ?_
    rw [hF]
    exact ⟨rfl, rfl⟩
  · simp [hne] at hb
    skip
theorem find_mux (g : LGraph) (hg : GraphOk g) (next q : Int) (h0 : 0 ≤ next) (h1 : next < 2 * (1 + (g.inn.length : Int) + g.regs.length + g.ands.length)) (q0 : 0 ≤ q) (q1 : q < 1000000) (hne : next ≠ q) (s : Int × Int) (hmx : muxV g next q = some s) (up : Frs) : ACalls Try.prog 87 [g.pv, .i next, .i q] up fun v u => v = .agg [.i (findV g next q).1, .i (findV g next q).2] ∧ u = up := by
  have hsm := hg.small
  obtain ⟨z1, z2, z3, z4, z5⟩ := hg.small
  have f0 := xor_one next h0 (by omega)
  have fq := xor_one q q0 (by omega)
  obtain ⟨k0, k1⟩ := flipL_lt next _ h0 h1
  have cm := mux_ok g hg next q h0 h1
  
  have hF : findV g next q = s := by simp [findV, hne, hmx]
  rw [hmx] at cm
  simp only [muxPV] at cm
  refine ACalls.code Try.func87 rfl 90 rfl (by simp) [.cell 6 67] rfl fun Q hQ => ?_
  simp only [ups, PV.up, argEnv]
  have ft := And.intro ty_2 (And.intro ty_3 (And.intro ty_4 (And.intro ty_48 (And.intro ty_51 (And.intro ty_62 (And.intro ty_67 (And.intro ty_137 trivial)))))))
  refine Run.seq ?_
  have fx := ft
  refine Run.go ?_
  refine End.kp [1, 2, 3, 6] ?_
  refine Run.seq ?_
  refine Run.seq ?_
  refine Run.go ?_
  refine End.kp [1, 2, 3, 6, 19] ?_
  refine Run.cond _ rfl (fun hb => ?_) (fun hb => ?_)
  · simp [hne] at hb
    skip
  · have hb2 := hb
    refine Run.skip ?_
    refine End.kp [1, 2, 3, 6] ?_
    refine Run.seq ?_
    refine Run.seq ?_
    have fx := ft
    refine Run.region rfl fun K hK => GOps.sim ?_
    refine GOps.call rfl rfl rfl rfl (by kernel_rfl) (ACalls.sim ?_)
    refine (cm _).mono fun v u hv => ?_
    obtain ⟨rfl, rfl⟩ := hv
    refine ⟨_, _, rfl, GOps.sim ?_⟩
    refine GOps.done (hK _ ?_); clear hK K
    refine End.kp [1, 2, 3, 6, 7, 8] ?_
    refine Run.seq ?_
    refine Run.go ?_
    refine End.kp [1, 2, 3, 6, 7, 28] ?_
    refine Run.cond _ rfl (fun hb => ?_) (fun hb => ?_)
    · have hb2 := hb
      refine Run.seq ?_
      have fx := ft
      refine Run.go ?_
      refine End.kp [6] ?_
      refine Run.resC hQ ?_
      rw [hF]
      exact ⟨rfl, rfl⟩
    · have hb2 := hb
      simp at hb
theorem find_00 (g : LGraph) (hg : GraphOk g) (next q : Int) (h0 : 0 ≤ next) (h1 : next < 2 * (1 + (g.inn.length : Int) + g.regs.length + g.ands.length)) (q0 : 0 ≤ q) (q1 : q < 1000000) (hne : next ≠ q) (hmx : muxV g next q = none)  (hx : nodeOf g next = none) (hz : nodeOf g (flipL next) = none) (up : Frs) : ACalls Try.prog 87 [g.pv, .i next, .i q] up fun v u => v = .agg [.i (findV g next q).1, .i (findV g next q).2] ∧ u = up := by
  have hsm := hg.small
  obtain ⟨z1, z2, z3, z4, z5⟩ := hg.small
  have f0 := xor_one next h0 (by omega)
  have fq := xor_one q q0 (by omega)
  obtain ⟨k0, k1⟩ := flipL_lt next _ h0 h1
  have cm := mux_ok g hg next q h0 h1
  
  have c1 := gand_ok g hsm next h0 h1
  have c2 := gand_ok g hsm (flipL next) k0 k1
  rw [hmx] at cm
  rw [hx] at c1
  rw [hz] at c2
  simp only [muxPV, andPV] at cm c1 c2
  refine ACalls.code Try.func87 rfl 90 rfl (by simp) [.cell 6 67] rfl fun Q hQ => ?_
  simp only [ups, PV.up, argEnv]
  have ft := And.intro ty_2 (And.intro ty_3 (And.intro ty_4 (And.intro ty_48 (And.intro ty_51 (And.intro ty_62 (And.intro ty_67 (And.intro ty_137 trivial)))))))
  refine Run.seq ?_
  have fx := And.intro fq (And.intro f0 ft)
  refine Run.go ?_
  refine End.kp [1, 2, 3, 6] ?_
  refine Run.seq ?_
  refine Run.seq ?_
  refine Run.go ?_
  refine End.kp [1, 2, 3, 6, 19] ?_
  refine Run.cond _ rfl (fun hb => ?_) (fun hb => ?_)
  · simp [hne] at hb
    skip
  · have hb2 := hb
    refine Run.skip ?_
    refine End.kp [1, 2, 3, 6] ?_
    refine Run.seq ?_
    refine Run.seq ?_
    have fx := And.intro fq (And.intro f0 ft)
    refine Run.region rfl fun K hK => GOps.sim ?_
    refine GOps.call rfl rfl rfl rfl (by kernel_rfl) (ACalls.sim ?_)
    refine (cm _).mono fun v u hv => ?_
    obtain ⟨rfl, rfl⟩ := hv
    refine ⟨_, _, rfl, GOps.sim ?_⟩
    refine GOps.done (hK _ ?_); clear hK K
    refine End.kp [1, 2, 3, 6, 7, 8] ?_
    refine Run.seq ?_
    refine Run.go ?_
    refine End.kp [1, 2, 3, 6, 7, 28] ?_
    refine Run.cond _ rfl (fun hb => ?_) (fun hb => ?_)
    · have hb2 := hb
      simp at hb
    · have hb2 := hb
      refine Run.skip ?_
      refine End.kp [1, 2, 3, 6] ?_
      refine Run.seq ?_
      refine Run.seq ?_
      have fx := And.intro fq (And.intro f0 ft)
      refine Run.region rfl fun K hK => GOps.sim ?_
      refine GOps.call rfl rfl rfl rfl (by kernel_rfl) (ACalls.sim ?_)
      refine (c1 _).mono fun v u hv => ?_
      obtain ⟨rfl, rfl⟩ := hv
      refine ⟨_, _, rfl, GOps.sim ?_⟩
      refine GOps.done (hK _ ?_); clear hK K
      refine End.kp [1, 2, 3, 6, 9, 10] ?_
      refine Run.seq ?_
      refine Run.go ?_
      refine End.kp [1, 2, 3, 6, 9, 36] ?_
      refine Run.cond _ rfl (fun hb => ?_) (fun hb => ?_)
      · have hb2 := hb
        simp at hb
      · have hb2 := hb
        refine Run.skip ?_
        refine End.kp [1, 2, 3, 6] ?_
        refine Run.seq ?_
        refine Run.seq ?_
        have fx := And.intro fq (And.intro f0 ft)
        refine Run.region rfl fun K hK => GOps.sim ?_
        refine GOps.call rfl rfl rfl rfl (by kernel_rfl) (ACalls.sim ?_)
        refine (c2 _).mono fun v u hv => ?_
        obtain ⟨rfl, rfl⟩ := hv
        refine ⟨_, _, rfl, GOps.sim ?_⟩
        refine GOps.done (hK _ ?_); clear hK K
        refine End.kp [1, 2, 6, 13, 14] ?_
        refine Run.seq ?_
        refine Run.go ?_
        refine End.kp [1, 2, 6, 13, 65] ?_
        refine Run.cond _ rfl (fun hb => ?_) (fun hb => ?_)
        · have hb2 := hb
          simp at hb
        · have hb2 := hb
          refine Run.skip ?_
          refine End.kp [1, 6] ?_
          refine Run.seq ?_
          have fx := And.intro fq (And.intro f0 ft)
          refine Run.go ?_
          refine End.kp [6] ?_
          refine Run.resC hQ ?_
          rw [show findV g next q = (1, next) from by simp only [findV, if_neg hne, hmx, hx, hz, Option.bind_none, Option.bind_none]]
          exact ⟨rfl, rfl⟩
theorem find_01 (g : LGraph) (hg : GraphOk g) (next q : Int) (h0 : 0 ≤ next) (h1 : next < 2 * (1 + (g.inn.length : Int) + g.regs.length + g.ands.length)) (q0 : 0 ≤ q) (q1 : q < 1000000) (hne : next ≠ q) (hmx : muxV g next q = none) (z : Int × Int) (hx : nodeOf g next = none) (hz : nodeOf g (flipL next) = some z) (up : Frs) : ACalls Try.prog 87 [g.pv, .i next, .i q] up fun v u => v = .agg [.i (findV g next q).1, .i (findV g next q).2] ∧ u = up := by
  have hsm := hg.small
  obtain ⟨z1, z2, z3, z4, z5⟩ := hg.small
  have f0 := xor_one next h0 (by omega)
  have fq := xor_one q q0 (by omega)
  obtain ⟨k0, k1⟩ := flipL_lt next _ h0 h1
  have cm := mux_ok g hg next q h0 h1
  
  have c1 := gand_ok g hsm next h0 h1
  have c2 := gand_ok g hsm (flipL next) k0 k1
  rw [hmx] at cm
  rw [hx] at c1
  rw [hz] at c2
  simp only [muxPV, andPV] at cm c1 c2
  obtain ⟨iz, hiz, _⟩ := nodeOf_mem hz
  have lz := (List.getElem?_eq_some_iff.1 hiz).1
  obtain ⟨⟨z1, z2⟩, z3, z4⟩ := hg.ands _ z hiz
  
  have fz1 := xor_one z.1 z1 (by omega)
  have fz2 := xor_one z.2 z3 (by omega)
  refine ACalls.code Try.func87 rfl 90 rfl (by simp) [.cell 6 67] rfl fun Q hQ => ?_
  simp only [ups, PV.up, argEnv]
  have ft := And.intro ty_2 (And.intro ty_3 (And.intro ty_4 (And.intro ty_48 (And.intro ty_51 (And.intro ty_62 (And.intro ty_67 (And.intro ty_137 trivial)))))))
  refine Run.seq ?_
  have fx := And.intro fq (And.intro f0 ft)
  refine Run.go ?_
  refine End.kp [1, 2, 3, 6] ?_
  refine Run.seq ?_
  refine Run.seq ?_
  refine Run.go ?_
  refine End.kp [1, 2, 3, 6, 19] ?_
  refine Run.cond _ rfl (fun hb => ?_) (fun hb => ?_)
  · simp [hne] at hb
    skip
  · have hb2 := hb
    refine Run.skip ?_
    refine End.kp [1, 2, 3, 6] ?_
    refine Run.seq ?_
    refine Run.seq ?_
    have fx := And.intro fq (And.intro f0 ft)
    refine Run.region rfl fun K hK => GOps.sim ?_
    refine GOps.call rfl rfl rfl rfl (by kernel_rfl) (ACalls.sim ?_)
    refine (cm _).mono fun v u hv => ?_
    obtain ⟨rfl, rfl⟩ := hv
    refine ⟨_, _, rfl, GOps.sim ?_⟩
    refine GOps.done (hK _ ?_); clear hK K
    refine End.kp [1, 2, 3, 6, 7, 8] ?_
    refine Run.seq ?_
    refine Run.go ?_
    refine End.kp [1, 2, 3, 6, 7, 28] ?_
    refine Run.cond _ rfl (fun hb => ?_) (fun hb => ?_)
    · have hb2 := hb
      simp at hb
    · have hb2 := hb
      refine Run.skip ?_
      refine End.kp [1, 2, 3, 6] ?_
      refine Run.seq ?_
      refine Run.seq ?_
      have fx := And.intro fq (And.intro f0 ft)
      refine Run.region rfl fun K hK => GOps.sim ?_
      refine GOps.call rfl rfl rfl rfl (by kernel_rfl) (ACalls.sim ?_)
      refine (c1 _).mono fun v u hv => ?_
      obtain ⟨rfl, rfl⟩ := hv
      refine ⟨_, _, rfl, GOps.sim ?_⟩
      refine GOps.done (hK _ ?_); clear hK K
      refine End.kp [1, 2, 3, 6, 9, 10] ?_
      refine Run.seq ?_
      refine Run.go ?_
      refine End.kp [1, 2, 3, 6, 9, 36] ?_
      refine Run.cond _ rfl (fun hb => ?_) (fun hb => ?_)
      · have hb2 := hb
        simp at hb
      · have hb2 := hb
        refine Run.skip ?_
        refine End.kp [1, 2, 3, 6] ?_
        refine Run.seq ?_
        refine Run.seq ?_
        have fx := And.intro fq (And.intro f0 ft)
        refine Run.region rfl fun K hK => GOps.sim ?_
        refine GOps.call rfl rfl rfl rfl (by kernel_rfl) (ACalls.sim ?_)
        refine (c2 _).mono fun v u hv => ?_
        obtain ⟨rfl, rfl⟩ := hv
        refine ⟨_, _, rfl, GOps.sim ?_⟩
        refine GOps.done (hK _ ?_); clear hK K
        refine End.kp [1, 2, 6, 13, 14] ?_
        refine Run.seq ?_
        refine Run.go ?_
        refine End.kp [1, 2, 6, 13, 65] ?_
        refine Run.cond _ rfl (fun hb => ?_) (fun hb => ?_)
        · have hb2 := hb
          refine Run.seq ?_
          have fx := And.intro fq (And.intro f0 ft)
          refine Run.go ?_
          refine End.kp [1, 2, 6, 72, 73, 74] ?_
          refine Run.block ?_
          refine Run.ghost (Ghost.form [(1, .i next), (2, .i q), (6, .ptr 0 1 0), (72, .ms 0 5 2), (73, .i 2), (74, .i (0 : Nat))] 6 ⟨rfl, rfl, rfl, rfl, rfl, rfl, trivial⟩ rfl rfl) ?_
          refine Run.loop (fun m st => ∃ i : Nat, m = 2 - i ∧ i ≤ 2 ∧ (∀ i', i' < i → (turnP z i').1 ≠ flipL q) ∧ st = ⟨[(1, .i next), (2, .i q), (6, .ptr 0 1 0), (72, .ms 0 5 2), (73, .i 2), (74, .i (i : Nat))], [.box [.im (.sl (strs g.inn)), .im (.sl (strs g.out)), .im (.sl (g.regs.map LReg.im)), .im (.sl (g.ands.map nd)), .im (.sl (ints g.outs))], .box [.i 0, .i 0], .box [.i 0, .i 0], .box [.i 0, .i 0], .box [.i z.1, .i z.2], .row 137 2 [[.int .i64 z.1, .int .i64 z.2], [.int .i64 z.2, .int .i64 z.1]] 0], up⟩) 2 ⟨0, rfl, by omega, fun i' h => absurd h (by omega), rfl⟩ fun m st hI => ?_
          obtain ⟨i2, rfl, hi2b, hno2, rfl⟩ := hI
          refine Run.seq ?_
          have fx := And.intro fq (And.intro f0 ft)
          refine Run.go ?_
          refine End.kp [1, 2, 6, 72, 73, 74, 75] ?_
          refine Run.seq ?_
          refine Run.cond _ rfl (fun hb => ?_) (fun hb => ?_)
          · have hb2 := of_decide_eq_true hb
            have hin2 : i2 < 2 := by omega
            have wi2 := wsucc hin2 (by omega)
            have hrow2 := turn_row z i2 hin2
            have hil2 : (i2 : Int) < ((2 : Nat) : Int) := by omega
            have hx22 : 0 ≤ (turnP z i2).2 ∧ (turnP z i2).2 ≤ 1000000 := by rcases (show i2 = 0 ∨ i2 = 1 by omega) with e | e <;> simp [e, turnP, oneOf] <;> omega
            have fz := xor_one (turnP z i2).2 hx22.1 (by omega)
            obtain ⟨y2, hy2⟩ : ∃ y, y = turnP z i2 := ⟨_, rfl⟩
            rw [← hy2] at hrow2 fz
            refine Run.skip ?_
            refine End.kp [1, 2, 6, 72, 73, 74] ?_
            refine Run.seq ?_
            refine Run.block ?_
            refine Run.seq ?_
            have fx := And.intro (@Int.toNat_natCast) (And.intro (@Int.natCast_nonneg) (And.intro fz (And.intro hil2 (And.intro hrow2 (And.intro wi2 (And.intro fq (And.intro f0 ft)))))))
            refine Run.go ?_
            refine End.kp [1, 2, 6, 16, 72, 73, 74] ?_
            refine Run.seq ?_
            refine Run.go ?_
            refine End.kp [1, 2, 6, 16, 72, 73, 74, 82] ?_
            refine Run.cond _ rfl (fun hb => ?_) (fun hb => ?_)
            · have hb2 : y2.1 = flipL q := eq_of_beq hb
              have hF : findV g next q = (flipL y2.2, 1) := by
                have := set_hit q z i2 hin2 hno2 (by rw [← hy2]; exact hb2)
                simp only [findV, if_neg hne, hmx, hx, hz, Option.bind_none, Option.bind_some, this, hy2]
              refine Run.seq ?_
              have fx := And.intro (@Int.toNat_natCast) (And.intro (@Int.natCast_nonneg) (And.intro fz (And.intro hil2 (And.intro hrow2 (And.intro wi2 (And.intro fq (And.intro f0 ft)))))))
              refine Run.go ?_
              refine End.kp [6] ?_
              refine Run.resC hQ ?_
              rw [hF]
              exact ⟨rfl, rfl⟩
            · have hb2 : y2.1 ≠ flipL q := fun e => by simp [e] at hb
              refine Run.skip ?_
              refine End.blk ?_
              refine End.kp [1, 2, 6, 72, 73, 74] ?_
              have fx := And.intro (@Int.toNat_natCast) (And.intro (@Int.natCast_nonneg) (And.intro fz (And.intro hil2 (And.intro hrow2 (And.intro wi2 (And.intro fq (And.intro f0 ft)))))))
              refine Run.go ?_
              refine End.lp ?_
              refine ⟨2 - (i2 + 1), _, by omega, Ghost.form [(1, .i next), (2, .i q), (6, .ptr 0 1 0), (72, .ms 0 5 2), (73, .i 2), (74, .i (i2 + 1 : Nat))] 6 ⟨rfl, rfl, rfl, rfl, rfl, rfl, trivial⟩ rfl rfl, i2 + 1, rfl, by omega, ?_, rfl⟩
              intro i' h1
              by_cases e : i' = i2
              · rw [e, ← hy2]
                exact hb2
              · exact hno2 i' (by omega)
          · have hb2 := of_decide_eq_false hb
            have hF : findV g next q = (1, next) := by
              have := set_none q z (fun i' h => hno2 i' (by omega))
              simp only [findV, if_neg hne, hmx, hx, hz, Option.bind_none, Option.bind_some, this]
            refine Run.exit rfl ?_
            refine End.kp [1, 6] ?_
            refine Run.seq ?_
            have fx := And.intro fq (And.intro f0 ft)
            refine Run.go ?_
            refine End.kp [6] ?_
            refine Run.resC hQ ?_
            rw [hF]
            exact ⟨rfl, rfl⟩
        · have hb2 := hb
          simp at hb
theorem find_10 (g : LGraph) (hg : GraphOk g) (next q : Int) (h0 : 0 ≤ next) (h1 : next < 2 * (1 + (g.inn.length : Int) + g.regs.length + g.ands.length)) (q0 : 0 ≤ q) (q1 : q < 1000000) (hne : next ≠ q) (hmx : muxV g next q = none) (x : Int × Int)  (hx : nodeOf g next = some x) (hz : nodeOf g (flipL next) = none) (up : Frs) : ACalls Try.prog 87 [g.pv, .i next, .i q] up fun v u => v = .agg [.i (findV g next q).1, .i (findV g next q).2] ∧ u = up := by
  have hsm := hg.small
  obtain ⟨z1, z2, z3, z4, z5⟩ := hg.small
  have f0 := xor_one next h0 (by omega)
  have fq := xor_one q q0 (by omega)
  obtain ⟨k0, k1⟩ := flipL_lt next _ h0 h1
  have cm := mux_ok g hg next q h0 h1
  
  have c1 := gand_ok g hsm next h0 h1
  have c2 := gand_ok g hsm (flipL next) k0 k1
  rw [hmx] at cm
  rw [hx] at c1
  rw [hz] at c2
  simp only [muxPV, andPV] at cm c1 c2
  obtain ⟨ix, hix, _⟩ := nodeOf_mem hx
  have lx := (List.getElem?_eq_some_iff.1 hix).1
  obtain ⟨⟨x1, x2⟩, x3, x4⟩ := hg.ands _ x hix
  
  have fx1 := xor_one x.1 x1 (by omega)
  have fx2 := xor_one x.2 x3 (by omega)
  refine ACalls.code Try.func87 rfl 90 rfl (by simp) [.cell 6 67] rfl fun Q hQ => ?_
  simp only [ups, PV.up, argEnv]
  have ft := And.intro ty_2 (And.intro ty_3 (And.intro ty_4 (And.intro ty_48 (And.intro ty_51 (And.intro ty_62 (And.intro ty_67 (And.intro ty_137 trivial)))))))
  refine Run.seq ?_
  have fx := And.intro fq (And.intro f0 ft)
  refine Run.go ?_
  refine End.kp [1, 2, 3, 6] ?_
  refine Run.seq ?_
  refine Run.seq ?_
  refine Run.go ?_
  refine End.kp [1, 2, 3, 6, 19] ?_
  refine Run.cond _ rfl (fun hb => ?_) (fun hb => ?_)
  · simp [hne] at hb
    skip
  · have hb2 := hb
    refine Run.skip ?_
    refine End.kp [1, 2, 3, 6] ?_
    refine Run.seq ?_
    refine Run.seq ?_
    have fx := And.intro fq (And.intro f0 ft)
    refine Run.region rfl fun K hK => GOps.sim ?_
    refine GOps.call rfl rfl rfl rfl (by kernel_rfl) (ACalls.sim ?_)
    refine (cm _).mono fun v u hv => ?_
    obtain ⟨rfl, rfl⟩ := hv
    refine ⟨_, _, rfl, GOps.sim ?_⟩
    refine GOps.done (hK _ ?_); clear hK K
    refine End.kp [1, 2, 3, 6, 7, 8] ?_
    refine Run.seq ?_
    refine Run.go ?_
    refine End.kp [1, 2, 3, 6, 7, 28] ?_
    refine Run.cond _ rfl (fun hb => ?_) (fun hb => ?_)
    · have hb2 := hb
      simp at hb
    · have hb2 := hb
      refine Run.skip ?_
      refine End.kp [1, 2, 3, 6] ?_
      refine Run.seq ?_
      refine Run.seq ?_
      have fx := And.intro fq (And.intro f0 ft)
      refine Run.region rfl fun K hK => GOps.sim ?_
      refine GOps.call rfl rfl rfl rfl (by kernel_rfl) (ACalls.sim ?_)
      refine (c1 _).mono fun v u hv => ?_
      obtain ⟨rfl, rfl⟩ := hv
      refine ⟨_, _, rfl, GOps.sim ?_⟩
      refine GOps.done (hK _ ?_); clear hK K
      refine End.kp [1, 2, 3, 6, 9, 10] ?_
      refine Run.seq ?_
      refine Run.go ?_
      refine End.kp [1, 2, 3, 6, 9, 36] ?_
      refine Run.cond _ rfl (fun hb => ?_) (fun hb => ?_)
      · have hb2 := hb
        refine Run.seq ?_
        have fx := And.intro fq (And.intro f0 ft)
        refine Run.go ?_
        refine End.kp [1, 2, 3, 6, 43, 44, 45] ?_
        refine Run.block ?_
        refine Run.ghost (Ghost.form [(1, .i next), (2, .i q), (3, .ptr 0 0 0), (6, .ptr 0 1 0), (43, .ms 0 4 2), (44, .i 2), (45, .i (0 : Nat))] 5 ⟨rfl, rfl, rfl, rfl, rfl, rfl, rfl, trivial⟩ rfl rfl) ?_
        refine Run.loop (fun m st => ∃ i : Nat, m = 2 - i ∧ i ≤ 2 ∧ (∀ i', i' < i → (turnP x i').1 ≠ q) ∧ st = ⟨[(1, .i next), (2, .i q), (3, .ptr 0 0 0), (6, .ptr 0 1 0), (43, .ms 0 4 2), (44, .i 2), (45, .i (i : Nat))], [.box [.im (.sl (strs g.inn)), .im (.sl (strs g.out)), .im (.sl (g.regs.map LReg.im)), .im (.sl (g.ands.map nd)), .im (.sl (ints g.outs))], .box [.i 0, .i 0], .box [.i 0, .i 0], .box [.i x.1, .i x.2], .row 137 2 [[.int .i64 x.1, .int .i64 x.2], [.int .i64 x.2, .int .i64 x.1]] 0], up⟩) 2 ⟨0, rfl, by omega, fun i' h => absurd h (by omega), rfl⟩ fun m st hI => ?_
        obtain ⟨i, rfl, hi, hno, rfl⟩ := hI
        refine Run.seq ?_
        have fx := And.intro fq (And.intro f0 ft)
        refine Run.go ?_
        refine End.kp [1, 2, 3, 6, 43, 44, 45, 46] ?_
        refine Run.seq ?_
        refine Run.cond _ rfl (fun hb => ?_) (fun hb => ?_)
        · have hb2 := of_decide_eq_true hb
          have hin : i < 2 := by omega
          have wi := wsucc hin (by omega)
          have hrow := turn_row x i hin
          have hil : (i : Int) < ((2 : Nat) : Int) := by omega
          have hx2 : 0 ≤ (turnP x i).2 ∧ (turnP x i).2 ≤ 1000000 := by rcases (show i = 0 ∨ i = 1 by omega) with e | e <;> simp [e, turnP, oneOf] <;> omega
          have fx := xor_one (turnP x i).2 hx2.1 (by omega)
          obtain ⟨y, hy⟩ : ∃ y, y = turnP x i := ⟨_, rfl⟩
          rw [← hy] at hrow fx
          refine Run.skip ?_
          refine End.kp [1, 2, 3, 6, 43, 44, 45] ?_
          refine Run.seq ?_
          refine Run.block ?_
          refine Run.seq ?_
          have fx := And.intro (@Int.toNat_natCast) (And.intro (@Int.natCast_nonneg) (And.intro fx (And.intro hil (And.intro hrow (And.intro wi (And.intro fq (And.intro f0 ft)))))))
          refine Run.go ?_
          refine End.kp [1, 2, 3, 6, 12, 43, 44, 45] ?_
          refine Run.seq ?_
          refine Run.go ?_
          refine End.kp [1, 2, 3, 6, 12, 43, 44, 45, 52] ?_
          refine Run.cond _ rfl (fun hb => ?_) (fun hb => ?_)
          · have hb2 : y.1 = q := eq_of_beq hb
            have hF : findV g next q = (flipL y.2, 0) := by
              have := clear_hit q x i hin hno (by rw [← hy]; exact hb2)
              simp only [findV, if_neg hne, hmx, hx, Option.bind_some, this, hy]
            refine Run.seq ?_
            have fx := And.intro (@Int.toNat_natCast) (And.intro (@Int.natCast_nonneg) (And.intro fx (And.intro hil (And.intro hrow (And.intro wi (And.intro fq (And.intro f0 ft)))))))
            refine Run.go ?_
            refine End.kp [6] ?_
            refine Run.resC hQ ?_
            rw [hF]
            exact ⟨rfl, rfl⟩
          · have hb2 : y.1 ≠ q := fun e => by simp [e] at hb
            refine Run.skip ?_
            refine End.blk ?_
            refine End.kp [1, 2, 3, 6, 43, 44, 45] ?_
            have fx := And.intro (@Int.toNat_natCast) (And.intro (@Int.natCast_nonneg) (And.intro fx (And.intro hil (And.intro hrow (And.intro wi (And.intro fq (And.intro f0 ft)))))))
            refine Run.go ?_
            refine End.lp ?_
            refine ⟨2 - (i + 1), _, by omega, Ghost.form [(1, .i next), (2, .i q), (3, .ptr 0 0 0), (6, .ptr 0 1 0), (43, .ms 0 4 2), (44, .i 2), (45, .i (i + 1 : Nat))] 5 ⟨rfl, rfl, rfl, rfl, rfl, rfl, rfl, trivial⟩ rfl rfl, i + 1, rfl, by omega, ?_, rfl⟩
            intro i' h1
            by_cases e : i' = i
            · rw [e, ← hy]
              exact hb2
            · exact hno i' (by omega)
        · have hb2 := of_decide_eq_false hb
          have hi2 : i = 2 := by omega
          have hcl := clear_none q x (fun i' h => hno i' (by omega))
          refine Run.exit rfl ?_
          refine End.kp [1, 2, 3, 6] ?_
          refine Run.seq ?_
          refine Run.seq ?_
          have fx := And.intro fq (And.intro f0 ft)
          refine Run.region rfl fun K hK => GOps.sim ?_
          refine GOps.call rfl rfl rfl rfl (by kernel_rfl) (ACalls.sim ?_)
          refine (c2 _).mono fun v u hv => ?_
          obtain ⟨rfl, rfl⟩ := hv
          refine ⟨_, _, rfl, GOps.sim ?_⟩
          refine GOps.done (hK _ ?_); clear hK K
          refine End.kp [1, 2, 6, 13, 14] ?_
          refine Run.seq ?_
          refine Run.go ?_
          refine End.kp [1, 2, 6, 13, 65] ?_
          refine Run.cond _ rfl (fun hb => ?_) (fun hb => ?_)
          · have hb2 := hb
            simp at hb
          · have hb2 := hb
            refine Run.skip ?_
            refine End.kp [1, 6] ?_
            refine Run.seq ?_
            have fx := And.intro fq (And.intro f0 ft)
            refine Run.go ?_
            refine End.kp [6] ?_
            refine Run.resC hQ ?_
            rw [show findV g next q = (1, next) from by simp only [findV, if_neg hne, hmx, hx, hz, Option.bind_some, hcl, Option.bind_none]]
            exact ⟨rfl, rfl⟩
      · have hb2 := hb
        simp at hb
theorem find_11 (g : LGraph) (hg : GraphOk g) (next q : Int) (h0 : 0 ≤ next) (h1 : next < 2 * (1 + (g.inn.length : Int) + g.regs.length + g.ands.length)) (q0 : 0 ≤ q) (q1 : q < 1000000) (hne : next ≠ q) (hmx : muxV g next q = none) (x : Int × Int) (z : Int × Int) (hx : nodeOf g next = some x) (hz : nodeOf g (flipL next) = some z) (up : Frs) : ACalls Try.prog 87 [g.pv, .i next, .i q] up fun v u => v = .agg [.i (findV g next q).1, .i (findV g next q).2] ∧ u = up := by
  have hsm := hg.small
  obtain ⟨z1, z2, z3, z4, z5⟩ := hg.small
  have f0 := xor_one next h0 (by omega)
  have fq := xor_one q q0 (by omega)
  obtain ⟨k0, k1⟩ := flipL_lt next _ h0 h1
  have cm := mux_ok g hg next q h0 h1
  
  have c1 := gand_ok g hsm next h0 h1
  have c2 := gand_ok g hsm (flipL next) k0 k1
  rw [hmx] at cm
  rw [hx] at c1
  rw [hz] at c2
  simp only [muxPV, andPV] at cm c1 c2
  obtain ⟨ix, hix, _⟩ := nodeOf_mem hx
  have lx := (List.getElem?_eq_some_iff.1 hix).1
  obtain ⟨⟨x1, x2⟩, x3, x4⟩ := hg.ands _ x hix
  
  have fx1 := xor_one x.1 x1 (by omega)
  have fx2 := xor_one x.2 x3 (by omega)
  obtain ⟨iz, hiz, _⟩ := nodeOf_mem hz
  have lz := (List.getElem?_eq_some_iff.1 hiz).1
  obtain ⟨⟨z1, z2⟩, z3, z4⟩ := hg.ands _ z hiz
  
  have fz1 := xor_one z.1 z1 (by omega)
  have fz2 := xor_one z.2 z3 (by omega)
  refine ACalls.code Try.func87 rfl 90 rfl (by simp) [.cell 6 67] rfl fun Q hQ => ?_
  simp only [ups, PV.up, argEnv]
  have ft := And.intro ty_2 (And.intro ty_3 (And.intro ty_4 (And.intro ty_48 (And.intro ty_51 (And.intro ty_62 (And.intro ty_67 (And.intro ty_137 trivial)))))))
  refine Run.seq ?_
  have fx := And.intro fq (And.intro f0 ft)
  refine Run.go ?_
  refine End.kp [1, 2, 3, 6] ?_
  refine Run.seq ?_
  refine Run.seq ?_
  refine Run.go ?_
  refine End.kp [1, 2, 3, 6, 19] ?_
  refine Run.cond _ rfl (fun hb => ?_) (fun hb => ?_)
  · simp [hne] at hb
    skip
  · have hb2 := hb
    refine Run.skip ?_
    refine End.kp [1, 2, 3, 6] ?_
    refine Run.seq ?_
    refine Run.seq ?_
    have fx := And.intro fq (And.intro f0 ft)
    refine Run.region rfl fun K hK => GOps.sim ?_
    refine GOps.call rfl rfl rfl rfl (by kernel_rfl) (ACalls.sim ?_)
    refine (cm _).mono fun v u hv => ?_
    obtain ⟨rfl, rfl⟩ := hv
    refine ⟨_, _, rfl, GOps.sim ?_⟩
    refine GOps.done (hK _ ?_); clear hK K
    refine End.kp [1, 2, 3, 6, 7, 8] ?_
    refine Run.seq ?_
    refine Run.go ?_
    refine End.kp [1, 2, 3, 6, 7, 28] ?_
    refine Run.cond _ rfl (fun hb => ?_) (fun hb => ?_)
    · have hb2 := hb
      simp at hb
    · have hb2 := hb
      refine Run.skip ?_
      refine End.kp [1, 2, 3, 6] ?_
      refine Run.seq ?_
      refine Run.seq ?_
      have fx := And.intro fq (And.intro f0 ft)
      refine Run.region rfl fun K hK => GOps.sim ?_
      refine GOps.call rfl rfl rfl rfl (by kernel_rfl) (ACalls.sim ?_)
      refine (c1 _).mono fun v u hv => ?_
      obtain ⟨rfl, rfl⟩ := hv
      refine ⟨_, _, rfl, GOps.sim ?_⟩
      refine GOps.done (hK _ ?_); clear hK K
      refine End.kp [1, 2, 3, 6, 9, 10] ?_
      refine Run.seq ?_
      refine Run.go ?_
      refine End.kp [1, 2, 3, 6, 9, 36] ?_
      refine Run.cond _ rfl (fun hb => ?_) (fun hb => ?_)
      · have hb2 := hb
        refine Run.seq ?_
        have fx := And.intro fq (And.intro f0 ft)
        refine Run.go ?_
        refine End.kp [1, 2, 3, 6, 43, 44, 45] ?_
        refine Run.block ?_
        refine Run.ghost (Ghost.form [(1, .i next), (2, .i q), (3, .ptr 0 0 0), (6, .ptr 0 1 0), (43, .ms 0 4 2), (44, .i 2), (45, .i (0 : Nat))] 5 ⟨rfl, rfl, rfl, rfl, rfl, rfl, rfl, trivial⟩ rfl rfl) ?_
        refine Run.loop (fun m st => ∃ i : Nat, m = 2 - i ∧ i ≤ 2 ∧ (∀ i', i' < i → (turnP x i').1 ≠ q) ∧ st = ⟨[(1, .i next), (2, .i q), (3, .ptr 0 0 0), (6, .ptr 0 1 0), (43, .ms 0 4 2), (44, .i 2), (45, .i (i : Nat))], [.box [.im (.sl (strs g.inn)), .im (.sl (strs g.out)), .im (.sl (g.regs.map LReg.im)), .im (.sl (g.ands.map nd)), .im (.sl (ints g.outs))], .box [.i 0, .i 0], .box [.i 0, .i 0], .box [.i x.1, .i x.2], .row 137 2 [[.int .i64 x.1, .int .i64 x.2], [.int .i64 x.2, .int .i64 x.1]] 0], up⟩) 2 ⟨0, rfl, by omega, fun i' h => absurd h (by omega), rfl⟩ fun m st hI => ?_
        obtain ⟨i, rfl, hi, hno, rfl⟩ := hI
        refine Run.seq ?_
        have fx := And.intro fq (And.intro f0 ft)
        refine Run.go ?_
        refine End.kp [1, 2, 3, 6, 43, 44, 45, 46] ?_
        refine Run.seq ?_
        refine Run.cond _ rfl (fun hb => ?_) (fun hb => ?_)
        · have hb2 := of_decide_eq_true hb
          have hin : i < 2 := by omega
          have wi := wsucc hin (by omega)
          have hrow := turn_row x i hin
          have hil : (i : Int) < ((2 : Nat) : Int) := by omega
          have hx2 : 0 ≤ (turnP x i).2 ∧ (turnP x i).2 ≤ 1000000 := by rcases (show i = 0 ∨ i = 1 by omega) with e | e <;> simp [e, turnP, oneOf] <;> omega
          have fx := xor_one (turnP x i).2 hx2.1 (by omega)
          obtain ⟨y, hy⟩ : ∃ y, y = turnP x i := ⟨_, rfl⟩
          rw [← hy] at hrow fx
          refine Run.skip ?_
          refine End.kp [1, 2, 3, 6, 43, 44, 45] ?_
          refine Run.seq ?_
          refine Run.block ?_
          refine Run.seq ?_
          have fx := And.intro (@Int.toNat_natCast) (And.intro (@Int.natCast_nonneg) (And.intro fx (And.intro hil (And.intro hrow (And.intro wi (And.intro fq (And.intro f0 ft)))))))
          refine Run.go ?_
          refine End.kp [1, 2, 3, 6, 12, 43, 44, 45] ?_
          refine Run.seq ?_
          refine Run.go ?_
          refine End.kp [1, 2, 3, 6, 12, 43, 44, 45, 52] ?_
          refine Run.cond _ rfl (fun hb => ?_) (fun hb => ?_)
          · have hb2 : y.1 = q := eq_of_beq hb
            have hF : findV g next q = (flipL y.2, 0) := by
              have := clear_hit q x i hin hno (by rw [← hy]; exact hb2)
              simp only [findV, if_neg hne, hmx, hx, Option.bind_some, this, hy]
            refine Run.seq ?_
            have fx := And.intro (@Int.toNat_natCast) (And.intro (@Int.natCast_nonneg) (And.intro fx (And.intro hil (And.intro hrow (And.intro wi (And.intro fq (And.intro f0 ft)))))))
            refine Run.go ?_
            refine End.kp [6] ?_
            refine Run.resC hQ ?_
            rw [hF]
            exact ⟨rfl, rfl⟩
          · have hb2 : y.1 ≠ q := fun e => by simp [e] at hb
            refine Run.skip ?_
            refine End.blk ?_
            refine End.kp [1, 2, 3, 6, 43, 44, 45] ?_
            have fx := And.intro (@Int.toNat_natCast) (And.intro (@Int.natCast_nonneg) (And.intro fx (And.intro hil (And.intro hrow (And.intro wi (And.intro fq (And.intro f0 ft)))))))
            refine Run.go ?_
            refine End.lp ?_
            refine ⟨2 - (i + 1), _, by omega, Ghost.form [(1, .i next), (2, .i q), (3, .ptr 0 0 0), (6, .ptr 0 1 0), (43, .ms 0 4 2), (44, .i 2), (45, .i (i + 1 : Nat))] 5 ⟨rfl, rfl, rfl, rfl, rfl, rfl, rfl, trivial⟩ rfl rfl, i + 1, rfl, by omega, ?_, rfl⟩
            intro i' h1
            by_cases e : i' = i
            · rw [e, ← hy]
              exact hb2
            · exact hno i' (by omega)
        · have hb2 := of_decide_eq_false hb
          have hi2 : i = 2 := by omega
          have hcl := clear_none q x (fun i' h => hno i' (by omega))
          refine Run.exit rfl ?_
          refine End.kp [1, 2, 3, 6] ?_
          refine Run.seq ?_
          refine Run.seq ?_
          have fx := And.intro fq (And.intro f0 ft)
          refine Run.region rfl fun K hK => GOps.sim ?_
          refine GOps.call rfl rfl rfl rfl (by kernel_rfl) (ACalls.sim ?_)
          refine (c2 _).mono fun v u hv => ?_
          obtain ⟨rfl, rfl⟩ := hv
          refine ⟨_, _, rfl, GOps.sim ?_⟩
          refine GOps.done (hK _ ?_); clear hK K
          refine End.kp [1, 2, 6, 13, 14] ?_
          refine Run.seq ?_
          refine Run.go ?_
          refine End.kp [1, 2, 6, 13, 65] ?_
          refine Run.cond _ rfl (fun hb => ?_) (fun hb => ?_)
          · have hb2 := hb
            refine Run.seq ?_
            have fx := And.intro fq (And.intro f0 ft)
            refine Run.go ?_
            refine End.kp [1, 2, 6, 72, 73, 74] ?_
            refine Run.block ?_
            refine Run.ghost (Ghost.form [(1, .i next), (2, .i q), (6, .ptr 0 1 0), (72, .ms 0 6 2), (73, .i 2), (74, .i (0 : Nat))] 7 ⟨rfl, rfl, rfl, rfl, rfl, rfl, trivial⟩ rfl rfl) ?_
            refine Run.loop (fun m st => ∃ i : Nat, m = 2 - i ∧ i ≤ 2 ∧ (∀ i', i' < i → (turnP z i').1 ≠ flipL q) ∧ st = ⟨[(1, .i next), (2, .i q), (6, .ptr 0 1 0), (72, .ms 0 6 2), (73, .i 2), (74, .i (i : Nat))], [.box [.im (.sl (strs g.inn)), .im (.sl (strs g.out)), .im (.sl (g.regs.map LReg.im)), .im (.sl (g.ands.map nd)), .im (.sl (ints g.outs))], .box [.i 0, .i 0], .box [.i 0, .i 0], .box [.i x.1, .i x.2], .row 137 2 [[.int .i64 x.1, .int .i64 x.2], [.int .i64 x.2, .int .i64 x.1]] 0, .box [.i z.1, .i z.2], .row 137 2 [[.int .i64 z.1, .int .i64 z.2], [.int .i64 z.2, .int .i64 z.1]] 0], up⟩) 2 ⟨0, rfl, by omega, fun i' h => absurd h (by omega), rfl⟩ fun m st hI => ?_
            obtain ⟨i2, rfl, hi2b, hno2, rfl⟩ := hI
            refine Run.seq ?_
            have fx := And.intro fq (And.intro f0 ft)
            refine Run.go ?_
            refine End.kp [1, 2, 6, 72, 73, 74, 75] ?_
            refine Run.seq ?_
            refine Run.cond _ rfl (fun hb => ?_) (fun hb => ?_)
            · have hb2 := of_decide_eq_true hb
              have hin2 : i2 < 2 := by omega
              have wi2 := wsucc hin2 (by omega)
              have hrow2 := turn_row z i2 hin2
              have hil2 : (i2 : Int) < ((2 : Nat) : Int) := by omega
              have hx22 : 0 ≤ (turnP z i2).2 ∧ (turnP z i2).2 ≤ 1000000 := by rcases (show i2 = 0 ∨ i2 = 1 by omega) with e | e <;> simp [e, turnP, oneOf] <;> omega
              have fz := xor_one (turnP z i2).2 hx22.1 (by omega)
              obtain ⟨y2, hy2⟩ : ∃ y, y = turnP z i2 := ⟨_, rfl⟩
              rw [← hy2] at hrow2 fz
              refine Run.skip ?_
              refine End.kp [1, 2, 6, 72, 73, 74] ?_
              refine Run.seq ?_
              refine Run.block ?_
              refine Run.seq ?_
              have fx := And.intro (@Int.toNat_natCast) (And.intro (@Int.natCast_nonneg) (And.intro fz (And.intro hil2 (And.intro hrow2 (And.intro wi2 (And.intro fq (And.intro f0 ft)))))))
              refine Run.go ?_
              refine End.kp [1, 2, 6, 16, 72, 73, 74] ?_
              refine Run.seq ?_
              refine Run.go ?_
              refine End.kp [1, 2, 6, 16, 72, 73, 74, 82] ?_
              refine Run.cond _ rfl (fun hb => ?_) (fun hb => ?_)
              · have hb2 : y2.1 = flipL q := eq_of_beq hb
                have hF : findV g next q = (flipL y2.2, 1) := by
                  have := set_hit q z i2 hin2 hno2 (by rw [← hy2]; exact hb2)
                  simp only [findV, if_neg hne, hmx, hx, hz, Option.bind_some, hcl, Option.bind_some, this, hy2]
                refine Run.seq ?_
                have fx := And.intro (@Int.toNat_natCast) (And.intro (@Int.natCast_nonneg) (And.intro fz (And.intro hil2 (And.intro hrow2 (And.intro wi2 (And.intro fq (And.intro f0 ft)))))))
                refine Run.go ?_
                refine End.kp [6] ?_
                refine Run.resC hQ ?_
                rw [hF]
                exact ⟨rfl, rfl⟩
              · have hb2 : y2.1 ≠ flipL q := fun e => by simp [e] at hb
                refine Run.skip ?_
                refine End.blk ?_
                refine End.kp [1, 2, 6, 72, 73, 74] ?_
                have fx := And.intro (@Int.toNat_natCast) (And.intro (@Int.natCast_nonneg) (And.intro fz (And.intro hil2 (And.intro hrow2 (And.intro wi2 (And.intro fq (And.intro f0 ft)))))))
                refine Run.go ?_
                refine End.lp ?_
                refine ⟨2 - (i2 + 1), _, by omega, Ghost.form [(1, .i next), (2, .i q), (6, .ptr 0 1 0), (72, .ms 0 6 2), (73, .i 2), (74, .i (i2 + 1 : Nat))] 7 ⟨rfl, rfl, rfl, rfl, rfl, rfl, trivial⟩ rfl rfl, i2 + 1, rfl, by omega, ?_, rfl⟩
                intro i' h1
                by_cases e : i' = i2
                · rw [e, ← hy2]
                  exact hb2
                · exact hno2 i' (by omega)
            · have hb2 := of_decide_eq_false hb
              have hF : findV g next q = (1, next) := by
                have := set_none q z (fun i' h => hno2 i' (by omega))
                simp only [findV, if_neg hne, hmx, hx, hz, Option.bind_some, hcl, Option.bind_some, this]
              refine Run.exit rfl ?_
              refine End.kp [1, 6] ?_
              refine Run.seq ?_
              have fx := And.intro fq (And.intro f0 ft)
              refine Run.go ?_
              refine End.kp [6] ?_
              refine Run.resC hQ ?_
              rw [hF]
              exact ⟨rfl, rfl⟩
          · have hb2 := hb
            simp at hb
      · have hb2 := hb
        simp at hb
theorem find_ok (g : LGraph) (hg : GraphOk g) (next q : Int) (h0 : 0 ≤ next) (h1 : next < 2 * (1 + (g.inn.length : Int) + g.regs.length + g.ands.length)) (q0 : 0 ≤ q) (q1 : q < 1000000) (up : Frs) : ACalls Try.prog 87 [g.pv, .i next, .i q] up fun v u => v = .agg [.i (findV g next q).1, .i (findV g next q).2] ∧ u = up := by
  by_cases hne : next = q
  · exact find_same g hg next q h0 h1 q0 q1 hne up
  · cases hmx : muxV g next q with
    | some s => exact find_mux g hg next q h0 h1 q0 q1 hne s hmx up
    | none =>
      cases hx : nodeOf g next with
      | none =>
        cases hz : nodeOf g (flipL next) with
        | none => exact find_00 g hg next q h0 h1 q0 q1 hne hmx hx hz up
        | some z => exact find_01 g hg next q h0 h1 q0 q1 hne hmx z hx hz up
      | some x =>
        cases hz : nodeOf g (flipL next) with
        | none => exact find_10 g hg next q h0 h1 q0 q1 hne hmx x hx hz up
        | some z => exact find_11 g hg next q h0 h1 q0 q1 hne hmx x z hx hz up
end Go.Proofs.YtkmnmokjlpenhaaPi
