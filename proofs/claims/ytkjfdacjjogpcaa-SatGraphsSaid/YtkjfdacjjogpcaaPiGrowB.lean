/- slices.Grow of a nil slice of bools, and of words: the kit's contract laid at it, as a contract of our logic. -/
import Derived.Shelf.Spec.SlicesGrow
import Derived.Test.YtkjfdacjjogpcaaPiGrow
import Derived.Test.YtkjfdacjjogpcaaProg
set_option linter.unusedVariables false
set_option linter.unusedSimpArgs false
namespace Go.Proofs.YtkjfdacjjogpcaaPi
open Go Go.Shelf

def growB_ren : Go.Shelf.Ren := ⟨fun | 4 => 44 | n => n, fun | 22 => 33 | 25 => 4 | 0 => 0 | 3 => 3 | 4 => 4 | 9 => 9 | 20 => 20 | n => n, fun | n => n⟩
theorem growB_lay : Lays8.n4 Try.prog growB_ren := {
 mixed := by kernel_rfl,
 f4 := ⟨Try.f44.name, by decide, Try.func44.trans (congrArg some (by kernel_rfl))⟩,
 t0 := Try.underlying0,
 a0 := Try.isAgg0,
 z0 := Try.sizeOf0,
 v0 := Try.zeroValue0,
 t3 := Try.underlying3,
 a3 := Try.isAgg3,
 z3 := Try.sizeOf3,
 v3 := Try.zeroValue3,
 t4 := Try.underlying4,
 a4 := Try.isAgg4,
 z4 := Try.sizeOf4,
 v4 := Try.zeroValue4,
 t9 := Try.underlying9,
 a9 := Try.isAgg9,
 z9 := Try.sizeOf9,
 v9 := Try.zeroValue9,
 t20 := Try.underlying20,
 a20 := Try.isAgg20,
 z20 := Try.sizeOf20,
 v20 := Try.zeroValue20,
 t22 := Try.underlying33,
 a22 := Try.isAgg33,
 z22 := Try.sizeOf33,
 v22 := Try.zeroValue33 }

theorem growB_ok (n : Nat) (h0 : 0 < n) (hn : n ≤ 1000000) (f0 : List AObj) (rest : Frs) : ACalls Try.prog 44 [.nils, .im (.int .i64 n)] (f0 :: rest) fun v u => v = .ms 0 f0.length 0 ∧ u = (f0 ++ [.row 4 1 [] 0]) :: rest := by
 refine grow_acalls (by decide) n (fun w => ?_) f0 rest
 have hall : (Try.prog.info? (growB_ren.t 25)).map (fun i => i.size) = some 1 ∧ (Try.prog.info? (growB_ren.t 25)).map (fun i => i.bytes) = some 1 ∧ (Try.prog.info? (growB_ren.t 25)).map (fun i => i.zero) = some (some (.bool false)) := ⟨by kernel_rfl, by kernel_rfl, by kernel_rfl⟩
 obtain ⟨i0, hi0⟩ : ∃ i0, Try.prog.info? (growB_ren.t 25) = some i0 := by
  cases h : Try.prog.info? (growB_ren.t 25) with
  | none => rw [h] at hall; simp at hall
  | some i => exact ⟨i, rfl⟩
 rw [hi0] at hall
 simp only [Option.map_some, Option.some.injEq] at hall
 obtain ⟨hs, hb, hz0⟩ := hall
 refine (Any8.slices_Grow_grow growB_lay i0 (.bool false) hi0 hz0 (by omega) none 0 0 n [] w (Nat.le_refl _) (by omega) (by rw [hb]; omega) (by omega) (by simp) (fun _ => rfl) (fun a ha => by simp at ha)).mono ?_
 rintro e w' ⟨rfl, rfl⟩
 have hge := grownCap_ge w (0 + n) 0 (growB_ren.t 25)
 have hle := grownCap_le_maxLen w (0 + n) 0 (growB_ren.t 25) (Nat.le_trans (show 0 + n ≤ 1000000 by omega) (by simp [maxLen]))
 refine ⟨_, _, rfl, rfl, ?_, hle⟩
 rw [Nat.zero_add] at hge hle ⊢
 simp [size_zeroCells, Value.cells]
 omega

end Go.Proofs.YtkjfdacjjogpcaaPi

