/- Plain law: bit 0 of words. -/
import Derived.Test.YtkmnmokjlpenhaaWB
set_option linter.unusedVariables false
set_option linter.unusedSimpArgs false
namespace Go.Proofs.YtkmnmokjlpenhaaPi

/-- Bit 0 of a word. -/
def bit0 (x : Int) : Bool := (BitVec.ofInt 64 x).getLsbD 0
theorem back0 (r : BitVec 64) : bit0 (IntKind.u64.wrap r.toNat) = r.getLsbD 0 := by
  have h : IntKind.u64.wrap r.toNat = r.toNat := wrapU (by have := r.isLt; omega)
  rw [bit0, h]
  congr 1
  apply BitVec.eq_of_toNat_eq
  simp
theorem bit0_and (x y : Int) : bit0 (bits .and .u64 x y) = (bit0 x && bit0 y) := by
  show bit0 (IntKind.u64.wrap (BitVec.ofInt 64 x &&& BitVec.ofInt 64 y).toNat) = _
  rw [back0, BitVec.getLsbD_and]
  rfl
theorem bit0_or (x y : Int) : bit0 (bits .or .u64 x y) = (bit0 x || bit0 y) := by
  show bit0 (IntKind.u64.wrap (BitVec.ofInt 64 x ||| BitVec.ofInt 64 y).toNat) = _
  rw [back0, BitVec.getLsbD_or]
  rfl
theorem bit0_not (y : Int) : bit0 (bits .xor .u64 (if IntKind.u64.signed = true then -1 else IntKind.u64.max) y) = !bit0 y := by
  show bit0 (IntKind.u64.wrap (BitVec.ofInt 64 _ ^^^ BitVec.ofInt 64 y).toNat) = _
  rw [back0, BitVec.getLsbD_xor]
  have : (BitVec.ofInt 64 (if IntKind.u64.signed = true then -1 else IntKind.u64.max)).getLsbD 0 = true := by decide
  rw [this]
  simp [bit0]
theorem one_iff (x : Int) : (bits .and .u64 x 1 == 1) = bit0 x := by
  have h1 : bits .and .u64 x 1 = ((BitVec.ofInt 64 x &&& 1#64).toNat : Int) := by
    show IntKind.u64.wrap (BitVec.ofInt 64 x &&& BitVec.ofInt 64 1).toNat = _
    rw [wrapU (by have := (BitVec.ofInt 64 x &&& BitVec.ofInt 64 1).isLt; omega)]
    rfl
  rw [h1, bit0]
  generalize BitVec.ofInt 64 x = b
  have h2 : (b &&& 1#64).toNat = b.toNat % 2 := by
    rw [BitVec.toNat_and]
    exact Nat.and_one_is_mod _
  have h3 : b.getLsbD 0 = decide (b.toNat % 2 = 1) := by
    rw [BitVec.getLsbD, Nat.testBit_zero]
  rw [h2, h3]
  by_cases h : b.toNat % 2 = 1
  · simp [h]
  · have h0 : b.toNat % 2 = 0 := by omega
    simp [h0]
theorem bit0_lane (b : Bool) : bit0 (if b = true then 1 else 0) = b := by cases b <;> decide
end Go.Proofs.YtkmnmokjlpenhaaPi
