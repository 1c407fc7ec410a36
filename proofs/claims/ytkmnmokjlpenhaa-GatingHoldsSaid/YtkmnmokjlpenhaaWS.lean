/- The walks of mux, find, Enables. -/
import Derived.Test.YtkmnmokjlpenhaaWR
set_option linter.unusedVariables false
set_option linter.unusedSimpArgs false
set_option maxRecDepth 100000
namespace Go.Proofs.YtkmnmokjlpenhaaPi
set_option maxHeartbeats 4000000
abbrev swapP (p : Int × Int) : Int × Int := (p.2, p.1)
/-- One of two, by number. -/
abbrev oneOf {α : Type} (a b : α) (i : Nat) : α := if i = 0 then a else b
def hitM (q : Int) (p s : Int × Int) : Bool := (p.1 == flipL s.1 && p.2 == q) || (p.1 == q && p.2 == flipL s.1)
/-- What mux tries: which of two ands is the one with D, and which of its literals is the enable. -/
def tryM (a b : Int × Int) (q : Int) (i j : Nat) : Bool := hitM q (oneOf b a i) (oneOf (oneOf a b i) (swapP (oneOf a b i)) j)
def getM (a b : Int × Int) (i j : Nat) : Int × Int := oneOf (oneOf a b i) (swapP (oneOf a b i)) j
def pickM (a b : Int × Int) (q : Int) : Option (Int × Int) :=
  if tryM a b q 0 0 then some (getM a b 0 0) else if tryM a b q 0 1 then some (getM a b 0 1) else if tryM a b q 1 0 then some (getM a b 1 0) else if tryM a b q 1 1 then some (getM a b 1 1) else none
def muxV (g : LGraph) (next q : Int) : Option (Int × Int) :=
  (nodeOf g (flipL next)).bind fun x => (nodeOf g (flipL x.1)).bind fun a => (nodeOf g (flipL x.2)).bind fun b => pickM a b q
def muxPV : Option (Int × Int) → PV
  | some p => .tup [.agg [.i p.1, .i p.2], .im (.bool true)]
  | none => .tup [.agg [.i 0, .i 0], .im (.bool false)]
theorem pickM_hit (a b : Int × Int) (q : Int) (i j : Nat) (hi : i < 2) (hj : j < 2) (h1 : ∀ i' j', i' < i → j' < 2 → tryM a b q i' j' = false) (h2 : ∀ j', j' < j → tryM a b q i j' = false) (h : tryM a b q i j = true) : pickM a b q = some (getM a b i j) := by
  have hi : i = 0 ∨ i = 1 := by omega
  have hj : j = 0 ∨ j = 1 := by omega
  rcases hi with rfl | rfl <;> rcases hj with rfl | rfl
  · simp [pickM, h]
  · simp [pickM, h, h2 0 (by omega)]
  · simp [pickM, h, h1 0 0 (by omega) (by omega), h1 0 1 (by omega) (by omega)]
  · simp [pickM, h, h1 0 0 (by omega) (by omega), h1 0 1 (by omega) (by omega), h2 0 (by omega)]
theorem pickM_none (a b : Int × Int) (q : Int) (h : ∀ i j, i < 2 → j < 2 → tryM a b q i j = false) : pickM a b q = none := by
  simp [pickM, h 0 0 (by omega) (by omega), h 0 1 (by omega) (by omega), h 1 0 (by omega) (by omega), h 1 1 (by omega) (by omega)]
theorem mux_some (g : LGraph) (hg : GraphOk g) (next q : Int) (x a b : Int × Int) (h0 : 0 ≤ next) (h1 : next < 2 * (1 + (g.inn.length : Int) + g.regs.length + g.ands.length)) (hx : nodeOf g (flipL next) = some x) (ha : nodeOf g (flipL x.1) = some a) (hbn : nodeOf g (flipL x.2) = some b) (up : Frs) :
    ACalls Try.prog 138 [g.pv, .i next, .i q] up fun v u => v = muxPV (pickM a b q) ∧ u = up := by
  have hsm := hg.small
  obtain ⟨z1, z2, z3, z4, z5⟩ := hg.small
  obtain ⟨ix, hix, _⟩ := nodeOf_mem hx
  obtain ⟨ia, hia, _⟩ := nodeOf_mem ha
  obtain ⟨ib, hib, _⟩ := nodeOf_mem hbn
  have lx := (List.getElem?_eq_some_iff.1 hix).1
  have la := (List.getElem?_eq_some_iff.1 hia).1
  have lb := (List.getElem?_eq_some_iff.1 hib).1
  obtain ⟨⟨x1, x2⟩, x3, x4⟩ := hg.ands ix x hix
  obtain ⟨⟨a1, a2⟩, a3, a4⟩ := hg.ands ia a hia
  obtain ⟨⟨b1, b2⟩, b3, b4⟩ := hg.ands ib b hib
  have f0 := xor_one next h0 (by omega)
  have f1 := xor_one x.1 x1 (by omega)
  have f2 := xor_one x.2 x3 (by omega)
  obtain ⟨k0, k1⟩ := flipL_lt next _ h0 h1
  obtain ⟨k2, k3⟩ := flipL_lt x.1 (1 + (g.inn.length : Int) + g.regs.length + g.ands.length) x1 (by omega)
  obtain ⟨k4, k5⟩ := flipL_lt x.2 (1 + (g.inn.length : Int) + g.regs.length + g.ands.length) x3 (by omega)
  have c0 := gand_ok g hsm (flipL next) k0 k1
  have c1 := gand_ok g hsm (flipL x.1) k2 k3
  have c2 := gand_ok g hsm (flipL x.2) k4 k5
  rw [hx] at c0
  rw [ha] at c1
  rw [hbn] at c2
  simp only [andPV] at c0 c1 c2
  refine ACalls.code Try.func138 rfl 104 rfl (by simp) [.cell 6 67, .tmp 7] rfl fun Q hQ => ?_
  simp only [ups, PV.up, argEnv]
  have ft := And.intro ty_2 (And.intro ty_3 (And.intro ty_4 (And.intro ty_51 (And.intro ty_53 (And.intro ty_62 (And.intro ty_67 (And.intro ty_137 (And.intro ty_209 (And.intro ty_210 trivial)))))))))
  refine Run.seq ?_
  have fx := And.intro f2 (And.intro f1 (And.intro f0 ft))
  refine Run.go ?_
  refine End.kp [1, 2, 3, 6] ?_
  refine Run.seq ?_
  refine Run.region rfl fun K hK => GOps.sim ?_
  refine GOps.call rfl rfl rfl rfl (by kernel_rfl) (ACalls.sim ?_)
  refine (c0 _).mono fun v u hv => ?_
  obtain ⟨rfl, rfl⟩ := hv
  refine ⟨_, _, rfl, GOps.sim ?_⟩
  refine GOps.done (hK _ ?_); clear hK K
  refine End.kp [2, 3, 6, 8, 9] ?_
  refine Run.seq ?_
  refine Run.seq ?_
  refine Run.go ?_
  refine End.kp [2, 3, 6, 8, 25] ?_
  refine Run.cond _ rfl (fun hb => ?_) (fun hb => ?_)
  · have hb2 := hb
    simp at hb2
  · have hb2 := hb
    refine Run.skip ?_
    refine End.kp [2, 3, 6, 8] ?_
    refine Run.seq ?_
    have fx := And.intro f2 (And.intro f1 (And.intro f0 ft))
    refine Run.region rfl fun K hK => GOps.sim ?_
    refine GOps.call rfl rfl rfl rfl (by kernel_rfl) (ACalls.sim ?_)
    refine (c1 _).mono fun v u hv => ?_
    obtain ⟨rfl, rfl⟩ := hv
    refine ⟨_, _, rfl, GOps.sim ?_⟩
    refine GOps.done (hK _ ?_); clear hK K
    refine End.kp [2, 3, 6, 8, 10, 11] ?_
    refine Run.seq ?_
    refine Run.region rfl fun K hK => GOps.sim ?_
    refine GOps.call rfl rfl rfl rfl (by kernel_rfl) (ACalls.sim ?_)
    refine (c2 _).mono fun v u hv => ?_
    obtain ⟨rfl, rfl⟩ := hv
    refine ⟨_, _, rfl, GOps.sim ?_⟩
    refine GOps.done (hK _ ?_); clear hK K
    refine End.kp [2, 6, 9, 10, 11, 12] ?_
    refine Run.seq ?_
    refine Run.seq ?_
    refine Run.go ?_
    refine End.kp [2, 6, 10, 12, 48] ?_
    refine Run.cond _ rfl (fun hb => ?_) (fun hb => ?_)
    · have hb2 := hb
      simp at hb2
    · have hb2 := hb
      refine Run.skip ?_
      refine End.kp [2, 6, 10, 12] ?_
      refine Run.seq ?_
      refine Run.seq ?_
      have fx := And.intro f2 (And.intro f1 (And.intro f0 ft))
      refine Run.go ?_
      refine End.kp [2, 6, 56, 57, 58] ?_
      refine Run.block ?_
      refine Run.ghost (Ghost.form [(2, .i q), (6, .ptr 0 1 0), (56, .ms 0 5 2), (57, .i 2), (58, .i (0 : Nat))] 6 ⟨rfl, rfl, rfl, rfl, rfl, trivial⟩ rfl rfl) ?_
      refine Run.loop (fun m st => ∃ i : Nat, m = 2 - i ∧ i ≤ 2 ∧ (∀ i' j', i' < i → j' < 2 → tryM a b q i' j' = false) ∧ st = ⟨[(2, .i q), (6, .ptr 0 1 0), (56, .ms 0 5 2), (57, .i 2), (58, .i (i : Nat))], [.box [.im (.sl (strs g.inn)), .im (.sl (strs g.out)), .im (.sl (g.regs.map LReg.im)), .im (.sl (g.ands.map nd)), .im (.sl (ints g.outs))], .box [.i 0, .i 0], .box [.i x.1, .i x.2], .box [.i a.1, .i a.2], .box [.i b.1, .i b.2], .row 209 4 [[.int .i64 a.1, .int .i64 a.2, .int .i64 b.1, .int .i64 b.2], [.int .i64 b.1, .int .i64 b.2, .int .i64 a.1, .int .i64 a.2]] 0], up⟩) 2 ⟨0, rfl, by omega, fun i' j' h => absurd h (by omega), rfl⟩ fun m st hI => ?_
      obtain ⟨i, rfl, hi, hno, rfl⟩ := hI
      refine Run.seq ?_
      have fx := And.intro f2 (And.intro f1 (And.intro f0 ft))
      refine Run.go ?_
      refine End.kp [2, 6, 56, 57, 58, 59] ?_
      refine Run.seq ?_
      refine Run.cond _ rfl (fun hb => ?_) (fun hb => ?_)
      · have hb2 := of_decide_eq_true hb
        have hin : i < 2 := by omega
        have wi := wsucc hin (by omega)
        obtain ⟨P, hP⟩ : ∃ P, P = oneOf a b i := ⟨_, rfl⟩
        obtain ⟨R, hR⟩ : ∃ R, R = oneOf b a i := ⟨_, rfl⟩
        have hrow : [[Im.int .i64 a.1, .int .i64 a.2, .int .i64 b.1, .int .i64 b.2], [.int .i64 b.1, .int .i64 b.2, .int .i64 a.1, .int .i64 a.2]][i]? = some [Im.int .i64 P.1, .int .i64 P.2, .int .i64 R.1, .int .i64 R.2] := by
          have : i = 0 ∨ i = 1 := by omega
          rcases this with rfl | rfl <;> simp [hP, hR, oneOf]
        have h02 : (0 : Int) < ((2 : Nat) : Int) := by omega
        have h12 : (1 : Int) < ((2 : Nat) : Int) := by omega
        have hil : (i : Int) < ((2 : Nat) : Int) := by omega
        have P1 : 0 ≤ P.1 ∧ P.1 < 1000000 := by rw [hP, oneOf]; split <;> omega
        have P2 : 0 ≤ P.2 ∧ P.2 < 1000000 := by rw [hP, oneOf]; split <;> omega
        refine Run.skip ?_
        refine End.kp [2, 6, 56, 57, 58] ?_
        refine Run.seq ?_
        refine Run.block ?_
        refine Run.seq ?_
        have fx := And.intro (@Int.toNat_natCast) (And.intro (@Int.natCast_nonneg) (And.intro hil (And.intro hrow (And.intro h12 (And.intro h02 (And.intro wi (And.intro f2 (And.intro f1 (And.intro f0 ft)))))))))
        refine Run.go ?_
        refine End.kp [2, 6, 14, 56, 57, 58] ?_
        refine Run.seq ?_
        refine Run.go ?_
        refine End.kp [2, 6, 14, 56, 57, 58, 76, 77, 78] ?_
        refine Run.block ?_
        refine Run.ghost (Ghost.form [(2, .i q), (6, .ptr 0 1 0), (14, .ptr 0 6 0), (56, .ms 0 5 2), (57, .i 2), (58, .i (i : Nat)), (76, .ms 0 7 2), (77, .i 2), (78, .i (0 : Nat))] 8 ⟨rfl, rfl, rfl, rfl, rfl, rfl, rfl, rfl, rfl, trivial⟩ rfl rfl) ?_
        refine Run.loop (fun m st => ∃ j : Nat, m = 2 - j ∧ j ≤ 2 ∧ (∀ j', j' < j → tryM a b q i j' = false) ∧ st = ⟨[(2, .i q), (6, .ptr 0 1 0), (14, .ptr 0 6 0), (56, .ms 0 5 2), (57, .i 2), (58, .i (i : Nat)), (76, .ms 0 7 2), (77, .i 2), (78, .i (j : Nat))], [.box [.im (.sl (strs g.inn)), .im (.sl (strs g.out)), .im (.sl (g.regs.map LReg.im)), .im (.sl (g.ands.map nd)), .im (.sl (ints g.outs))], .box [.i 0, .i 0], .box [.i x.1, .i x.2], .box [.i a.1, .i a.2], .box [.i b.1, .i b.2], .row 209 4 [[.int .i64 a.1, .int .i64 a.2, .int .i64 b.1, .int .i64 b.2], [.int .i64 b.1, .int .i64 b.2, .int .i64 a.1, .int .i64 a.2]] 0, .box [.i P.1, .i P.2, .i R.1, .i R.2], .row 67 2 [[.int .i64 P.1, .int .i64 P.2], [.int .i64 P.2, .int .i64 P.1]] 0], up⟩) 2 ⟨0, rfl, by omega, fun j' h => absurd h (by omega), rfl⟩ fun m st hI => ?_
        obtain ⟨j, rfl, hj, hnj, rfl⟩ := hI
        refine Run.seq ?_
        have fx := And.intro (@Int.toNat_natCast) (And.intro (@Int.natCast_nonneg) (And.intro hil (And.intro hrow (And.intro h12 (And.intro h02 (And.intro wi (And.intro f2 (And.intro f1 (And.intro f0 ft)))))))))
        refine Run.go ?_
        refine End.kp [2, 6, 14, 56, 57, 58, 76, 77, 78, 79] ?_
        refine Run.seq ?_
        refine Run.cond _ rfl (fun hb => ?_) (fun hb => ?_)
        · have hb2 := of_decide_eq_true hb
          have hjn : j < 2 := by omega
          have wj := wsucc hjn (by omega)
          obtain ⟨S, hS⟩ : ∃ S, S = oneOf P (swapP P) j := ⟨_, rfl⟩
          have hrow2 : [[Im.int .i64 P.1, .int .i64 P.2], [.int .i64 P.2, .int .i64 P.1]][j]? = some [Im.int .i64 S.1, .int .i64 S.2] := by
            have : j = 0 ∨ j = 1 := by omega
            rcases this with rfl | rfl <;> simp [hS, oneOf]
          have hjl : (j : Int) < ((2 : Nat) : Int) := by omega
          have S1 : 0 ≤ S.1 ∧ S.1 < 1000000 := by rcases (show j = 0 ∨ j = 1 by omega) with e | e <;> simp [hS, e, oneOf] <;> omega
          have fS := xor_one S.1 S1.1 (by omega)
          have hget : getM a b i j = S := by rw [getM, ← hP, ← hS]
          have htry : tryM a b q i j = ((R.1 == flipL S.1 && R.2 == q) || (R.1 == q && R.2 == flipL S.1)) := by rw [tryM, hitM, ← hR, ← hP, ← hS]
          refine Run.skip ?_
          refine End.kp [2, 6, 14, 56, 57, 58, 76, 77, 78] ?_
          refine Run.seq ?_
          refine Run.block ?_
          refine Run.seq ?_
          have fx := And.intro fS (And.intro hjl (And.intro hrow2 (And.intro wj (And.intro (@Int.toNat_natCast) (And.intro (@Int.natCast_nonneg) (And.intro hil (And.intro hrow (And.intro h12 (And.intro h02 (And.intro wi (And.intro f2 (And.intro f1 (And.intro f0 ft)))))))))))))
          refine Run.go ?_
          refine End.kp [2, 6, 14, 16, 56, 57, 58, 76, 77, 78] ?_
          refine Run.seq ?_
          rcases Bool.eq_false_or_eq_true ((R.1 == flipL S.1 && R.2 == q)) with hs14 | hs14
          · skip
            have fx := And.intro hs14 (And.intro fS (And.intro hjl (And.intro hrow2 (And.intro wj (And.intro (@Int.toNat_natCast) (And.intro (@Int.natCast_nonneg) (And.intro hil (And.intro hrow (And.intro h12 (And.intro h02 (And.intro wi (And.intro f2 (And.intro f1 (And.intro f0 ft))))))))))))))
            refine Run.go ?_
            refine End.kp [2, 6, 14, 16, 56, 57, 58, 76, 77, 78, 99] ?_
            refine Run.cond true rfl (fun hb => ?_) (fun hb => ?_)
            · have hb2 := hb
              refine Run.seq ?_
              have fx := And.intro hs14 (And.intro fS (And.intro hjl (And.intro hrow2 (And.intro wj (And.intro (@Int.toNat_natCast) (And.intro (@Int.natCast_nonneg) (And.intro hil (And.intro hrow (And.intro h12 (And.intro h02 (And.intro wi (And.intro f2 (And.intro f1 (And.intro f0 ft))))))))))))))
              refine Run.go ?_
              refine End.kp [6, 7] ?_
              refine Run.resC hQ ?_
              rw [pickM_hit a b q i j hin hjn hno hnj (by rw [htry, hs14]; rfl)]
              rw [hget]
              exact ⟨rfl, rfl⟩
            · have hb2 := hb
              simp at hb
          · skip
            have fx := And.intro hs14 (And.intro fS (And.intro hjl (And.intro hrow2 (And.intro wj (And.intro (@Int.toNat_natCast) (And.intro (@Int.natCast_nonneg) (And.intro hil (And.intro hrow (And.intro h12 (And.intro h02 (And.intro wi (And.intro f2 (And.intro f1 (And.intro f0 ft))))))))))))))
            refine Run.go ?_
            refine End.kp [2, 6, 14, 16, 56, 57, 58, 76, 77, 78, 99] ?_
            refine Run.cond _ rfl (fun hb => ?_) (fun hb => ?_)
            · have hb2 := hb
              refine Run.seq ?_
              have fx := And.intro hs14 (And.intro fS (And.intro hjl (And.intro hrow2 (And.intro wj (And.intro (@Int.toNat_natCast) (And.intro (@Int.natCast_nonneg) (And.intro hil (And.intro hrow (And.intro h12 (And.intro h02 (And.intro wi (And.intro f2 (And.intro f1 (And.intro f0 ft))))))))))))))
              refine Run.go ?_
              refine End.kp [6, 7] ?_
              refine Run.resC hQ ?_
              rw [pickM_hit a b q i j hin hjn hno hnj (by rw [htry, hs14, hb2]; rfl)]
              rw [hget]
              exact ⟨rfl, rfl⟩
            · have hb2 := hb
              refine Run.skip ?_
              refine End.blk ?_
              refine End.kp [2, 6, 14, 56, 57, 58, 76, 77, 78] ?_
              have fx := And.intro hs14 (And.intro fS (And.intro hjl (And.intro hrow2 (And.intro wj (And.intro (@Int.toNat_natCast) (And.intro (@Int.natCast_nonneg) (And.intro hil (And.intro hrow (And.intro h12 (And.intro h02 (And.intro wi (And.intro f2 (And.intro f1 (And.intro f0 ft))))))))))))))
              refine Run.go ?_
              refine End.lp ?_
              refine ⟨2 - (j + 1), _, by omega, Ghost.form [(2, .i q), (6, .ptr 0 1 0), (14, .ptr 0 6 0), (56, .ms 0 5 2), (57, .i 2), (58, .i (i : Nat)), (76, .ms 0 7 2), (77, .i 2), (78, .i (j + 1 : Nat))] 8 ⟨rfl, rfl, rfl, rfl, rfl, rfl, rfl, rfl, rfl, trivial⟩ rfl rfl, j + 1, rfl, by omega, ?_, rfl⟩
              intro j' h1
              by_cases e : j' = j
              · rw [e, htry, hs14, hb2]
                rfl
              · exact hnj j' (by omega)
        · have hb2 := of_decide_eq_false hb
          have hj2 : j = 2 := by omega
          refine Run.exit rfl ?_
          refine End.blk ?_
          refine End.kp [2, 6, 56, 57, 58] ?_
          have fx := And.intro (@Int.toNat_natCast) (And.intro (@Int.natCast_nonneg) (And.intro hil (And.intro hrow (And.intro h12 (And.intro h02 (And.intro wi (And.intro f2 (And.intro f1 (And.intro f0 ft)))))))))
          refine Run.go ?_
          refine End.lp ?_
          refine ⟨2 - (i + 1), _, by omega, Ghost.form [(2, .i q), (6, .ptr 0 1 0), (56, .ms 0 5 2), (57, .i 2), (58, .i (i + 1 : Nat))] 6 ⟨rfl, rfl, rfl, rfl, rfl, trivial⟩ rfl rfl, i + 1, rfl, by omega, ?_, rfl⟩
          intro i' j' h1 h2
          by_cases e : i' = i
          · subst e
            exact hnj j' (by omega)
          · exact hno i' j' (by omega) h2
      · have hb2 := of_decide_eq_false hb
        have hi2 : i = 2 := by omega
        refine Run.exit rfl ?_
        refine End.kp [6] ?_
        refine Run.seq ?_
        have fx := And.intro f2 (And.intro f1 (And.intro f0 ft))
        refine Run.go ?_
        refine End.kp [6, 7] ?_
        refine Run.resC hQ ?_
        rw [pickM_none a b q (fun i2 j2 h1 h2 => hno i2 j2 (by omega) h2)]
        exact ⟨rfl, rfl⟩
theorem mux_no (g : LGraph) (hg : GraphOk g) (next q : Int) (h0 : 0 ≤ next) (h1 : next < 2 * (1 + (g.inn.length : Int) + g.regs.length + g.ands.length)) (hx : nodeOf g (flipL next) = none) (up : Frs) : ACalls Try.prog 138 [g.pv, .i next, .i q] up fun v u => v = muxPV none ∧ u = up := by
  have hsm := hg.small
  obtain ⟨z1, z2, z3, z4, z5⟩ := hg.small
  have f0 := xor_one next h0 (by omega)
  obtain ⟨k0, k1⟩ := flipL_lt next _ h0 h1
  have c0 := gand_ok g hsm (flipL next) k0 k1
  rw [hx] at c0
  simp only [andPV] at c0
  refine ACalls.code Try.func138 rfl 104 rfl (by simp) [.cell 6 67, .tmp 7] rfl fun Q hQ => ?_
  simp only [ups, PV.up, argEnv]
  have ft := And.intro ty_2 (And.intro ty_3 (And.intro ty_4 (And.intro ty_51 (And.intro ty_53 (And.intro ty_62 (And.intro ty_67 (And.intro ty_137 (And.intro ty_209 (And.intro ty_210 trivial)))))))))
  refine Run.seq ?_
  have fx := And.intro f0 ft
  refine Run.go ?_
  refine End.kp [1, 2, 3, 6] ?_
  refine Run.seq ?_
  refine Run.region rfl fun K hK => GOps.sim ?_
  refine GOps.call rfl rfl rfl rfl (by kernel_rfl) (ACalls.sim ?_)
  refine (c0 _).mono fun v u hv => ?_
  obtain ⟨rfl, rfl⟩ := hv
  refine ⟨_, _, rfl, GOps.sim ?_⟩
  refine GOps.done (hK _ ?_); clear hK K
  refine End.kp [2, 3, 6, 8, 9] ?_
  refine Run.seq ?_
  refine Run.seq ?_
  refine Run.go ?_
  refine End.kp [2, 3, 6, 8, 25] ?_
  refine Run.cond _ rfl (fun hb => ?_) (fun hb => ?_)
  · have hb2 := hb
    refine Run.seq ?_
    have fx := And.intro f0 ft
    refine Run.go ?_
    refine End.kp [6, 7] ?_
    refine Run.resC hQ ?_
    exact ⟨rfl, rfl⟩
  · have hb2 := hb
    simp at hb
theorem mux_na (g : LGraph) (hg : GraphOk g) (next q : Int) (h0 : 0 ≤ next) (h1 : next < 2 * (1 + (g.inn.length : Int) + g.regs.length + g.ands.length)) (x : Int × Int) (hx : nodeOf g (flipL next) = some x) (ha : nodeOf g (flipL x.1) = none) (hbn : nodeOf g (flipL x.2) = none) (up : Frs) : ACalls Try.prog 138 [g.pv, .i next, .i q] up fun v u => v = muxPV none ∧ u = up := by
  have hsm := hg.small
  obtain ⟨z1, z2, z3, z4, z5⟩ := hg.small
  have f0 := xor_one next h0 (by omega)
  obtain ⟨k0, k1⟩ := flipL_lt next _ h0 h1
  have c0 := gand_ok g hsm (flipL next) k0 k1
  
  obtain ⟨ix, hix, _⟩ := nodeOf_mem hx
  have lx := (List.getElem?_eq_some_iff.1 hix).1
  obtain ⟨⟨x1, x2⟩, x3, x4⟩ := hg.ands ix x hix
  have f1 := xor_one x.1 x1 (by omega)
  have f2 := xor_one x.2 x3 (by omega)
  obtain ⟨k2, k3⟩ := flipL_lt x.1 (1 + (g.inn.length : Int) + g.regs.length + g.ands.length) x1 (by omega)
  obtain ⟨k4, k5⟩ := flipL_lt x.2 (1 + (g.inn.length : Int) + g.regs.length + g.ands.length) x3 (by omega)
  have c1 := gand_ok g hsm (flipL x.1) k2 k3
  have c2 := gand_ok g hsm (flipL x.2) k4 k5
  rw [hx] at c0
  rw [ha] at c1
  rw [hbn] at c2
  simp only [andPV] at c0 c1 c2
  refine ACalls.code Try.func138 rfl 104 rfl (by simp) [.cell 6 67, .tmp 7] rfl fun Q hQ => ?_
  simp only [ups, PV.up, argEnv]
  have ft := And.intro ty_2 (And.intro ty_3 (And.intro ty_4 (And.intro ty_51 (And.intro ty_53 (And.intro ty_62 (And.intro ty_67 (And.intro ty_137 (And.intro ty_209 (And.intro ty_210 trivial)))))))))
  refine Run.seq ?_
  have fx := And.intro f2 (And.intro f1 (And.intro f0 ft))
  refine Run.go ?_
  refine End.kp [1, 2, 3, 6] ?_
  refine Run.seq ?_
  refine Run.region rfl fun K hK => GOps.sim ?_
  refine GOps.call rfl rfl rfl rfl (by kernel_rfl) (ACalls.sim ?_)
  refine (c0 _).mono fun v u hv => ?_
  obtain ⟨rfl, rfl⟩ := hv
  refine ⟨_, _, rfl, GOps.sim ?_⟩
  refine GOps.done (hK _ ?_); clear hK K
  refine End.kp [2, 3, 6, 8, 9] ?_
  refine Run.seq ?_
  refine Run.seq ?_
  refine Run.go ?_
  refine End.kp [2, 3, 6, 8, 25] ?_
  refine Run.cond _ rfl (fun hb => ?_) (fun hb => ?_)
  · have hb2 := hb
    simp at hb
  · have hb2 := hb
    refine Run.skip ?_
    refine End.kp [2, 3, 6, 8] ?_
    refine Run.seq ?_
    have fx := And.intro f2 (And.intro f1 (And.intro f0 ft))
    refine Run.region rfl fun K hK => GOps.sim ?_
    refine GOps.call rfl rfl rfl rfl (by kernel_rfl) (ACalls.sim ?_)
    refine (c1 _).mono fun v u hv => ?_
    obtain ⟨rfl, rfl⟩ := hv
    refine ⟨_, _, rfl, GOps.sim ?_⟩
    refine GOps.done (hK _ ?_); clear hK K
    refine End.kp [2, 3, 6, 8, 10, 11] ?_
    refine Run.seq ?_
    refine Run.region rfl fun K hK => GOps.sim ?_
    refine GOps.call rfl rfl rfl rfl (by kernel_rfl) (ACalls.sim ?_)
    refine (c2 _).mono fun v u hv => ?_
    obtain ⟨rfl, rfl⟩ := hv
    refine ⟨_, _, rfl, GOps.sim ?_⟩
    refine GOps.done (hK _ ?_); clear hK K
    refine End.kp [2, 6, 9, 10, 11, 12] ?_
    refine Run.seq ?_
    refine Run.seq ?_
    refine Run.go ?_
    refine End.kp [2, 6, 10, 12, 48] ?_
    refine Run.cond _ rfl (fun hb => ?_) (fun hb => ?_)
    · have hb2 := hb
      refine Run.seq ?_
      have fx := And.intro f2 (And.intro f1 (And.intro f0 ft))
      refine Run.go ?_
      refine End.kp [6, 7] ?_
      refine Run.resC hQ ?_
      exact ⟨rfl, rfl⟩
    · have hb2 := hb
      simp at hb
theorem mux_nb (g : LGraph) (hg : GraphOk g) (next q : Int) (h0 : 0 ≤ next) (h1 : next < 2 * (1 + (g.inn.length : Int) + g.regs.length + g.ands.length)) (x b : Int × Int) (hx : nodeOf g (flipL next) = some x) (ha : nodeOf g (flipL x.1) = none) (hbn : nodeOf g (flipL x.2) = some b) (up : Frs) : ACalls Try.prog 138 [g.pv, .i next, .i q] up fun v u => v = muxPV none ∧ u = up := by
  have hsm := hg.small
  obtain ⟨z1, z2, z3, z4, z5⟩ := hg.small
  have f0 := xor_one next h0 (by omega)
  obtain ⟨k0, k1⟩ := flipL_lt next _ h0 h1
  have c0 := gand_ok g hsm (flipL next) k0 k1
  
  obtain ⟨ix, hix, _⟩ := nodeOf_mem hx
  have lx := (List.getElem?_eq_some_iff.1 hix).1
  obtain ⟨⟨x1, x2⟩, x3, x4⟩ := hg.ands ix x hix
  have f1 := xor_one x.1 x1 (by omega)
  have f2 := xor_one x.2 x3 (by omega)
  obtain ⟨k2, k3⟩ := flipL_lt x.1 (1 + (g.inn.length : Int) + g.regs.length + g.ands.length) x1 (by omega)
  obtain ⟨k4, k5⟩ := flipL_lt x.2 (1 + (g.inn.length : Int) + g.regs.length + g.ands.length) x3 (by omega)
  have c1 := gand_ok g hsm (flipL x.1) k2 k3
  have c2 := gand_ok g hsm (flipL x.2) k4 k5
  rw [hx] at c0
  rw [ha] at c1
  rw [hbn] at c2
  simp only [andPV] at c0 c1 c2
  refine ACalls.code Try.func138 rfl 104 rfl (by simp) [.cell 6 67, .tmp 7] rfl fun Q hQ => ?_
  simp only [ups, PV.up, argEnv]
  have ft := And.intro ty_2 (And.intro ty_3 (And.intro ty_4 (And.intro ty_51 (And.intro ty_53 (And.intro ty_62 (And.intro ty_67 (And.intro ty_137 (And.intro ty_209 (And.intro ty_210 trivial)))))))))
  refine Run.seq ?_
  have fx := And.intro f2 (And.intro f1 (And.intro f0 ft))
  refine Run.go ?_
  refine End.kp [1, 2, 3, 6] ?_
  refine Run.seq ?_
  refine Run.region rfl fun K hK => GOps.sim ?_
  refine GOps.call rfl rfl rfl rfl (by kernel_rfl) (ACalls.sim ?_)
  refine (c0 _).mono fun v u hv => ?_
  obtain ⟨rfl, rfl⟩ := hv
  refine ⟨_, _, rfl, GOps.sim ?_⟩
  refine GOps.done (hK _ ?_); clear hK K
  refine End.kp [2, 3, 6, 8, 9] ?_
  refine Run.seq ?_
  refine Run.seq ?_
  refine Run.go ?_
  refine End.kp [2, 3, 6, 8, 25] ?_
  refine Run.cond _ rfl (fun hb => ?_) (fun hb => ?_)
  · have hb2 := hb
    simp at hb
  · have hb2 := hb
    refine Run.skip ?_
    refine End.kp [2, 3, 6, 8] ?_
    refine Run.seq ?_
    have fx := And.intro f2 (And.intro f1 (And.intro f0 ft))
    refine Run.region rfl fun K hK => GOps.sim ?_
    refine GOps.call rfl rfl rfl rfl (by kernel_rfl) (ACalls.sim ?_)
    refine (c1 _).mono fun v u hv => ?_
    obtain ⟨rfl, rfl⟩ := hv
    refine ⟨_, _, rfl, GOps.sim ?_⟩
    refine GOps.done (hK _ ?_); clear hK K
    refine End.kp [2, 3, 6, 8, 10, 11] ?_
    refine Run.seq ?_
    refine Run.region rfl fun K hK => GOps.sim ?_
    refine GOps.call rfl rfl rfl rfl (by kernel_rfl) (ACalls.sim ?_)
    refine (c2 _).mono fun v u hv => ?_
    obtain ⟨rfl, rfl⟩ := hv
    refine ⟨_, _, rfl, GOps.sim ?_⟩
    refine GOps.done (hK _ ?_); clear hK K
    refine End.kp [2, 6, 9, 10, 11, 12] ?_
    refine Run.seq ?_
    refine Run.seq ?_
    refine Run.go ?_
    refine End.kp [2, 6, 10, 12, 48] ?_
    refine Run.cond _ rfl (fun hb => ?_) (fun hb => ?_)
    · have hb2 := hb
      refine Run.seq ?_
      have fx := And.intro f2 (And.intro f1 (And.intro f0 ft))
      refine Run.go ?_
      refine End.kp [6, 7] ?_
      refine Run.resC hQ ?_
      exact ⟨rfl, rfl⟩
    · have hb2 := hb
      simp at hb
theorem mux_nc (g : LGraph) (hg : GraphOk g) (next q : Int) (h0 : 0 ≤ next) (h1 : next < 2 * (1 + (g.inn.length : Int) + g.regs.length + g.ands.length)) (x a : Int × Int) (hx : nodeOf g (flipL next) = some x) (ha : nodeOf g (flipL x.1) = some a) (hbn : nodeOf g (flipL x.2) = none) (up : Frs) : ACalls Try.prog 138 [g.pv, .i next, .i q] up fun v u => v = muxPV none ∧ u = up := by
  have hsm := hg.small
  obtain ⟨z1, z2, z3, z4, z5⟩ := hg.small
  have f0 := xor_one next h0 (by omega)
  obtain ⟨k0, k1⟩ := flipL_lt next _ h0 h1
  have c0 := gand_ok g hsm (flipL next) k0 k1
  
  obtain ⟨ix, hix, _⟩ := nodeOf_mem hx
  have lx := (List.getElem?_eq_some_iff.1 hix).1
  obtain ⟨⟨x1, x2⟩, x3, x4⟩ := hg.ands ix x hix
  have f1 := xor_one x.1 x1 (by omega)
  have f2 := xor_one x.2 x3 (by omega)
  obtain ⟨k2, k3⟩ := flipL_lt x.1 (1 + (g.inn.length : Int) + g.regs.length + g.ands.length) x1 (by omega)
  obtain ⟨k4, k5⟩ := flipL_lt x.2 (1 + (g.inn.length : Int) + g.regs.length + g.ands.length) x3 (by omega)
  have c1 := gand_ok g hsm (flipL x.1) k2 k3
  have c2 := gand_ok g hsm (flipL x.2) k4 k5
  rw [hx] at c0
  rw [ha] at c1
  rw [hbn] at c2
  simp only [andPV] at c0 c1 c2
  refine ACalls.code Try.func138 rfl 104 rfl (by simp) [.cell 6 67, .tmp 7] rfl fun Q hQ => ?_
  simp only [ups, PV.up, argEnv]
  have ft := And.intro ty_2 (And.intro ty_3 (And.intro ty_4 (And.intro ty_51 (And.intro ty_53 (And.intro ty_62 (And.intro ty_67 (And.intro ty_137 (And.intro ty_209 (And.intro ty_210 trivial)))))))))
  refine Run.seq ?_
  have fx := And.intro f2 (And.intro f1 (And.intro f0 ft))
  refine Run.go ?_
  refine End.kp [1, 2, 3, 6] ?_
  refine Run.seq ?_
  refine Run.region rfl fun K hK => GOps.sim ?_
  refine GOps.call rfl rfl rfl rfl (by kernel_rfl) (ACalls.sim ?_)
  refine (c0 _).mono fun v u hv => ?_
  obtain ⟨rfl, rfl⟩ := hv
  refine ⟨_, _, rfl, GOps.sim ?_⟩
  refine GOps.done (hK _ ?_); clear hK K
  refine End.kp [2, 3, 6, 8, 9] ?_
  refine Run.seq ?_
  refine Run.seq ?_
  refine Run.go ?_
  refine End.kp [2, 3, 6, 8, 25] ?_
  refine Run.cond _ rfl (fun hb => ?_) (fun hb => ?_)
  · have hb2 := hb
    simp at hb
  · have hb2 := hb
    refine Run.skip ?_
    refine End.kp [2, 3, 6, 8] ?_
    refine Run.seq ?_
    have fx := And.intro f2 (And.intro f1 (And.intro f0 ft))
    refine Run.region rfl fun K hK => GOps.sim ?_
    refine GOps.call rfl rfl rfl rfl (by kernel_rfl) (ACalls.sim ?_)
    refine (c1 _).mono fun v u hv => ?_
    obtain ⟨rfl, rfl⟩ := hv
    refine ⟨_, _, rfl, GOps.sim ?_⟩
    refine GOps.done (hK _ ?_); clear hK K
    refine End.kp [2, 3, 6, 8, 10, 11] ?_
    refine Run.seq ?_
    refine Run.region rfl fun K hK => GOps.sim ?_
    refine GOps.call rfl rfl rfl rfl (by kernel_rfl) (ACalls.sim ?_)
    refine (c2 _).mono fun v u hv => ?_
    obtain ⟨rfl, rfl⟩ := hv
    refine ⟨_, _, rfl, GOps.sim ?_⟩
    refine GOps.done (hK _ ?_); clear hK K
    refine End.kp [2, 6, 9, 10, 11, 12] ?_
    refine Run.seq ?_
    refine Run.seq ?_
    refine Run.go ?_
    refine End.kp [2, 6, 10, 12, 48] ?_
    refine Run.cond _ rfl (fun hb => ?_) (fun hb => ?_)
    · have hb2 := hb
      refine Run.seq ?_
      have fx := And.intro f2 (And.intro f1 (And.intro f0 ft))
      refine Run.go ?_
      refine End.kp [6, 7] ?_
      refine Run.resC hQ ?_
      exact ⟨rfl, rfl⟩
    · have hb2 := hb
      simp at hb
theorem mux_ok (g : LGraph) (hg : GraphOk g) (next q : Int) (h0 : 0 ≤ next) (h1 : next < 2 * (1 + (g.inn.length : Int) + g.regs.length + g.ands.length)) (up : Frs) : ACalls Try.prog 138 [g.pv, .i next, .i q] up fun v u => v = muxPV (muxV g next q) ∧ u = up := by
  unfold muxV
  cases hx : nodeOf g (flipL next) with
  | none => exact mux_no g hg next q h0 h1 hx up
  | some x =>
    simp only [Option.bind_some]
    cases ha : nodeOf g (flipL x.1) with
    | none =>
      cases hbn : nodeOf g (flipL x.2) with
      | none => exact mux_na g hg next q h0 h1 x hx ha hbn up
      | some b => exact mux_nb g hg next q h0 h1 x b hx ha hbn up
    | some a =>
      simp only [Option.bind_some]
      cases hbn : nodeOf g (flipL x.2) with
      | none => exact mux_nc g hg next q h0 h1 x a hx ha hbn up
      | some b => exact mux_some g hg next q x a b h0 h1 hx ha hbn up
/-- How a register that takes next keeps its value q. -/
def clearV (q : Int) (x : Int × Int) : Option (Int × Int) := if x.1 = q then some (flipL x.2, 0) else if x.2 = q then some (flipL x.1, 0) else none
def setV (q : Int) (x : Int × Int) : Option (Int × Int) := if x.1 = flipL q then some (flipL x.2, 1) else if x.2 = flipL q then some (flipL x.1, 1) else none
def findV (g : LGraph) (next q : Int) : Int × Int :=
  if next = q then (0, 0) else match muxV g next q with
  | some s => s
  | none => match (nodeOf g next).bind (clearV q) with
    | some s => s
    | none => match (nodeOf g (flipL next)).bind (setV q) with
      | some s => s
      | none => (1, next)
end Go.Proofs.YtkmnmokjlpenhaaPi
