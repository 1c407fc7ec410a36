/- Part 1 of the proof: the texts PiTy, WA, WB, PBit0, WC, WD, WE, WM, WN, WF, WG, WH, one behind the other. Each holds for every input that it names; no condition is hidden. -/
import Derived.Test.YtkjfdacjjogpcaaPiMerge
import Derived.Test.YtkjfdacjjogpcaaProg
import Derived.KernelRfl
import Derived.Test.YtkjfdacjjogpcaaPiGo
set_option linter.unusedVariables false
set_option linter.unusedSimpArgs false
set_option linter.unusedSectionVars false
namespace Go.Proofs.YtkjfdacjjogpcaaPi
theorem ai {a b : Prop} (h : a) (k : b) : a ∧ b := ⟨h, k⟩
theorem zNn : ∀ n : Nat, (0 : Int) ≤ n := Int.natCast_nonneg
theorem zTn : ∀ n : Nat, Int.toNat n = n := Int.toNat_natCast
theorem zZa : ∀ n : Nat, 0 + n = n := Nat.zero_add
theorem Ghost.fm {n : Nat} {st : ASt} (e : List (Nat × PV)) (L : Nat) (h1 : ehas st.env e := by (repeat first | exact trivial | refine ⟨rfl, ?_⟩)) (h2 : unders L (e.map (·.2)) = true := by rfl) (h3 : (st.loc.take L).all (AObj.under L) = true := by simp only [ASt.push, List.nil_append, List.cons_append, List.take_succ_cons, List.take_zero, List.all_cons, List.all_nil, AObj.under, unders, PV.under, Bool.and_true, Bool.and_self]) : Ghost n st ⟨e, st.loc.take L, st.up⟩ := Ghost.form e L h1 h2 h3

theorem ty_2 : sizeT Try.prog 2 = some 1 ∧ bytesT Try.prog 2 = some 8 ∧ aggT Try.prog 2 = some false ∧ elemT Try.prog 2 = none ∧ arrT Try.prog 2 = none ∧ intT Try.prog 2 = some .i64 ∧ boolT Try.prog 2 = false ∧ stringT Try.prog 2 = false ∧ sliceT Try.prog 2 = false ∧ Program.underlying Try.prog 2 = some (.int .i64) ∧ zeroT Try.prog 2 = some [.im (.int .i64 0)] ∧ zeroImT Try.prog 2 = some [(.int .i64 0)] ∧ u8T Try.prog 2 = false ∧ zeroOne Try.prog 2 = some (.int .i64 0) ∧ placesT Try.prog 2 = none := ⟨by kernel_rfl, by kernel_rfl, by kernel_rfl, by kernel_rfl, by kernel_rfl, by kernel_rfl, by kernel_rfl, by kernel_rfl, by kernel_rfl, by kernel_rfl, by kernel_rfl, by kernel_rfl, by kernel_rfl, by kernel_rfl, by kernel_rfl⟩
theorem ty_3 : sizeT Try.prog 3 = some 1 ∧ bytesT Try.prog 3 = some 8 ∧ aggT Try.prog 3 = some false ∧ elemT Try.prog 3 = none ∧ arrT Try.prog 3 = none ∧ intT Try.prog 3 = some .i64 ∧ boolT Try.prog 3 = false ∧ stringT Try.prog 3 = false ∧ sliceT Try.prog 3 = false ∧ Program.underlying Try.prog 3 = some (.int .i64) ∧ zeroT Try.prog 3 = some [.im (.int .i64 0)] ∧ zeroImT Try.prog 3 = some [(.int .i64 0)] ∧ u8T Try.prog 3 = false ∧ zeroOne Try.prog 3 = some (.int .i64 0) ∧ placesT Try.prog 3 = none := ⟨by kernel_rfl, by kernel_rfl, by kernel_rfl, by kernel_rfl, by kernel_rfl, by kernel_rfl, by kernel_rfl, by kernel_rfl, by kernel_rfl, by kernel_rfl, by kernel_rfl, by kernel_rfl, by kernel_rfl, by kernel_rfl, by kernel_rfl⟩
theorem ty_4 : sizeT Try.prog 4 = some 1 ∧ bytesT Try.prog 4 = some 1 ∧ aggT Try.prog 4 = some false ∧ elemT Try.prog 4 = none ∧ arrT Try.prog 4 = none ∧ intT Try.prog 4 = none ∧ boolT Try.prog 4 = true ∧ stringT Try.prog 4 = false ∧ sliceT Try.prog 4 = false ∧ zeroT Try.prog 4 = some [.im (.bool false)] ∧ zeroImT Try.prog 4 = some [(.bool false)] ∧ u8T Try.prog 4 = false ∧ zeroOne Try.prog 4 = some (.bool false) ∧ placesT Try.prog 4 = none := ⟨by kernel_rfl, by kernel_rfl, by kernel_rfl, by kernel_rfl, by kernel_rfl, by kernel_rfl, by kernel_rfl, by kernel_rfl, by kernel_rfl, by kernel_rfl, by kernel_rfl, by kernel_rfl, by kernel_rfl, by kernel_rfl⟩
theorem ty_5 : sizeT Try.prog 5 = some 1 ∧ bytesT Try.prog 5 = some 1 ∧ aggT Try.prog 5 = some false ∧ elemT Try.prog 5 = none ∧ arrT Try.prog 5 = none ∧ intT Try.prog 5 = some .u8 ∧ boolT Try.prog 5 = false ∧ stringT Try.prog 5 = false ∧ sliceT Try.prog 5 = false ∧ Program.underlying Try.prog 5 = some (.int .u8) ∧ zeroT Try.prog 5 = some [.im (.int .u8 0)] ∧ zeroImT Try.prog 5 = some [(.int .u8 0)] ∧ u8T Try.prog 5 = false ∧ zeroOne Try.prog 5 = some (.int .u8 0) ∧ placesT Try.prog 5 = none := ⟨by kernel_rfl, by kernel_rfl, by kernel_rfl, by kernel_rfl, by kernel_rfl, by kernel_rfl, by kernel_rfl, by kernel_rfl, by kernel_rfl, by kernel_rfl, by kernel_rfl, by kernel_rfl, by kernel_rfl, by kernel_rfl, by kernel_rfl⟩
theorem ty_6 : sizeT Try.prog 6 = some 1 ∧ bytesT Try.prog 6 = some 1 ∧ aggT Try.prog 6 = some false ∧ elemT Try.prog 6 = none ∧ arrT Try.prog 6 = none ∧ intT Try.prog 6 = some .u8 ∧ boolT Try.prog 6 = false ∧ stringT Try.prog 6 = false ∧ sliceT Try.prog 6 = false ∧ Program.underlying Try.prog 6 = some (.int .u8) ∧ zeroT Try.prog 6 = some [.im (.int .u8 0)] ∧ zeroImT Try.prog 6 = some [(.int .u8 0)] ∧ u8T Try.prog 6 = false ∧ zeroOne Try.prog 6 = some (.int .u8 0) ∧ placesT Try.prog 6 = none := ⟨by kernel_rfl, by kernel_rfl, by kernel_rfl, by kernel_rfl, by kernel_rfl, by kernel_rfl, by kernel_rfl, by kernel_rfl, by kernel_rfl, by kernel_rfl, by kernel_rfl, by kernel_rfl, by kernel_rfl, by kernel_rfl, by kernel_rfl⟩
theorem ty_7 : sizeT Try.prog 7 = some 4 ∧ bytesT Try.prog 7 = some 24 ∧ aggT Try.prog 7 = some true ∧ elemT Try.prog 7 = none ∧ arrT Try.prog 7 = none ∧ intT Try.prog 7 = none ∧ boolT Try.prog 7 = false ∧ stringT Try.prog 7 = false ∧ sliceT Try.prog 7 = false ∧ zeroT Try.prog 7 = some [.im (.int .i64 0), .im (.int .i64 0), .im (.bool false), .im (.int .u8 0)] ∧ zeroImT Try.prog 7 = some [(.int .i64 0), (.int .i64 0), (.bool false), (.int .u8 0)] ∧ u8T Try.prog 7 = false ∧ placesT Try.prog 7 = some [(0, 1), (1, 1), (2, 1), (3, 1)] ∧ fieldT Try.prog 7 0 = some (0, 1) ∧ fieldT Try.prog 7 1 = some (1, 1) ∧ fieldT Try.prog 7 2 = some (2, 1) ∧ fieldT Try.prog 7 3 = some (3, 1) := ⟨by kernel_rfl, by kernel_rfl, by kernel_rfl, by kernel_rfl, by kernel_rfl, by kernel_rfl, by kernel_rfl, by kernel_rfl, by kernel_rfl, by kernel_rfl, by kernel_rfl, by kernel_rfl, by kernel_rfl, by kernel_rfl, by kernel_rfl, by kernel_rfl, by kernel_rfl⟩
theorem ty_8 : sizeT Try.prog 8 = some 4 ∧ bytesT Try.prog 8 = some 24 ∧ aggT Try.prog 8 = some true ∧ elemT Try.prog 8 = none ∧ arrT Try.prog 8 = none ∧ intT Try.prog 8 = none ∧ boolT Try.prog 8 = false ∧ stringT Try.prog 8 = false ∧ sliceT Try.prog 8 = false ∧ zeroT Try.prog 8 = some [.im (.int .i64 0), .im (.int .i64 0), .im (.bool false), .im (.int .u8 0)] ∧ zeroImT Try.prog 8 = some [(.int .i64 0), (.int .i64 0), (.bool false), (.int .u8 0)] ∧ u8T Try.prog 8 = false ∧ placesT Try.prog 8 = some [(0, 1), (1, 1), (2, 1), (3, 1)] ∧ fieldT Try.prog 8 0 = some (0, 1) ∧ fieldT Try.prog 8 1 = some (1, 1) ∧ fieldT Try.prog 8 2 = some (2, 1) ∧ fieldT Try.prog 8 3 = some (3, 1) := ⟨by kernel_rfl, by kernel_rfl, by kernel_rfl, by kernel_rfl, by kernel_rfl, by kernel_rfl, by kernel_rfl, by kernel_rfl, by kernel_rfl, by kernel_rfl, by kernel_rfl, by kernel_rfl, by kernel_rfl, by kernel_rfl, by kernel_rfl, by kernel_rfl, by kernel_rfl⟩
theorem ty_9 : sizeT Try.prog 9 = some 1 ∧ bytesT Try.prog 9 = some 16 ∧ aggT Try.prog 9 = some false ∧ elemT Try.prog 9 = none ∧ arrT Try.prog 9 = none ∧ intT Try.prog 9 = none ∧ boolT Try.prog 9 = false ∧ stringT Try.prog 9 = true ∧ sliceT Try.prog 9 = false ∧ Program.underlying Try.prog 9 = some .string ∧ zeroT Try.prog 9 = some [.im (.str ByteArray.empty)] ∧ zeroImT Try.prog 9 = some [(.str ByteArray.empty)] ∧ u8T Try.prog 9 = false ∧ zeroOne Try.prog 9 = some (.str ByteArray.empty) ∧ placesT Try.prog 9 = none := ⟨by kernel_rfl, by kernel_rfl, by kernel_rfl, by kernel_rfl, by kernel_rfl, by kernel_rfl, by kernel_rfl, by kernel_rfl, by kernel_rfl, by kernel_rfl, by kernel_rfl, by kernel_rfl, by kernel_rfl, by kernel_rfl, by kernel_rfl⟩
theorem ty_22 : sizeT Try.prog 22 = some 1 ∧ bytesT Try.prog 22 = some 24 ∧ aggT Try.prog 22 = some false ∧ elemT Try.prog 22 = some 3 ∧ arrT Try.prog 22 = none ∧ intT Try.prog 22 = none ∧ boolT Try.prog 22 = false ∧ stringT Try.prog 22 = false ∧ sliceT Try.prog 22 = true ∧ zeroT Try.prog 22 = some [.nils] ∧ zeroImT Try.prog 22 = some [(.sl [])] ∧ u8T Try.prog 22 = false ∧ zeroOne Try.prog 22 = some (.sl []) ∧ placesT Try.prog 22 = none := ⟨by kernel_rfl, by kernel_rfl, by kernel_rfl, by kernel_rfl, by kernel_rfl, by kernel_rfl, by kernel_rfl, by kernel_rfl, by kernel_rfl, by kernel_rfl, by kernel_rfl, by kernel_rfl, by kernel_rfl, by kernel_rfl⟩
theorem ty_23 : sizeT Try.prog 23 = some 1 ∧ bytesT Try.prog 23 = some 8 ∧ aggT Try.prog 23 = some false ∧ elemT Try.prog 23 = none ∧ arrT Try.prog 23 = none ∧ intT Try.prog 23 = none ∧ boolT Try.prog 23 = false ∧ stringT Try.prog 23 = false ∧ sliceT Try.prog 23 = false ∧ ptrT Try.prog 23 = true ∧ zeroT Try.prog 23 = some [.nilp] ∧ u8T Try.prog 23 = false ∧ placesT Try.prog 23 = none := ⟨by kernel_rfl, by kernel_rfl, by kernel_rfl, by kernel_rfl, by kernel_rfl, by kernel_rfl, by kernel_rfl, by kernel_rfl, by kernel_rfl, by kernel_rfl, by kernel_rfl, by kernel_rfl, by kernel_rfl⟩
theorem ty_25 : sizeT Try.prog 25 = some 2 ∧ bytesT Try.prog 25 = some 32 ∧ aggT Try.prog 25 = some true ∧ elemT Try.prog 25 = none ∧ arrT Try.prog 25 = none ∧ intT Try.prog 25 = none ∧ boolT Try.prog 25 = false ∧ stringT Try.prog 25 = false ∧ sliceT Try.prog 25 = false ∧ zeroT Try.prog 25 = some [.nils, .im (.int .i64 0)] ∧ zeroImT Try.prog 25 = some [(.sl []), (.int .i64 0)] ∧ u8T Try.prog 25 = false ∧ placesT Try.prog 25 = some [(0, 1), (1, 1)] ∧ fieldT Try.prog 25 0 = some (0, 1) ∧ fieldT Try.prog 25 1 = some (1, 1) := ⟨by kernel_rfl, by kernel_rfl, by kernel_rfl, by kernel_rfl, by kernel_rfl, by kernel_rfl, by kernel_rfl, by kernel_rfl, by kernel_rfl, by kernel_rfl, by kernel_rfl, by kernel_rfl, by kernel_rfl, by kernel_rfl, by kernel_rfl⟩
theorem ty_26 : sizeT Try.prog 26 = some 1 ∧ bytesT Try.prog 26 = some 24 ∧ aggT Try.prog 26 = some false ∧ elemT Try.prog 26 = some 9 ∧ arrT Try.prog 26 = none ∧ intT Try.prog 26 = none ∧ boolT Try.prog 26 = false ∧ stringT Try.prog 26 = false ∧ sliceT Try.prog 26 = true ∧ zeroT Try.prog 26 = some [.nils] ∧ zeroImT Try.prog 26 = some [(.sl [])] ∧ u8T Try.prog 26 = false ∧ zeroOne Try.prog 26 = some (.sl []) ∧ placesT Try.prog 26 = none := ⟨by kernel_rfl, by kernel_rfl, by kernel_rfl, by kernel_rfl, by kernel_rfl, by kernel_rfl, by kernel_rfl, by kernel_rfl, by kernel_rfl, by kernel_rfl, by kernel_rfl, by kernel_rfl, by kernel_rfl, by kernel_rfl⟩
theorem ty_27 : sizeT Try.prog 27 = some 1 ∧ bytesT Try.prog 27 = some 24 ∧ aggT Try.prog 27 = some false ∧ elemT Try.prog 27 = some 57 ∧ arrT Try.prog 27 = none ∧ intT Try.prog 27 = none ∧ boolT Try.prog 27 = false ∧ stringT Try.prog 27 = false ∧ sliceT Try.prog 27 = true ∧ zeroT Try.prog 27 = some [.nils] ∧ zeroImT Try.prog 27 = some [(.sl [])] ∧ u8T Try.prog 27 = false ∧ zeroOne Try.prog 27 = some (.sl []) ∧ placesT Try.prog 27 = none := ⟨by kernel_rfl, by kernel_rfl, by kernel_rfl, by kernel_rfl, by kernel_rfl, by kernel_rfl, by kernel_rfl, by kernel_rfl, by kernel_rfl, by kernel_rfl, by kernel_rfl, by kernel_rfl, by kernel_rfl, by kernel_rfl⟩
theorem ty_28 : sizeT Try.prog 28 = some 1 ∧ bytesT Try.prog 28 = some 24 ∧ aggT Try.prog 28 = some false ∧ elemT Try.prog 28 = some 59 ∧ arrT Try.prog 28 = none ∧ intT Try.prog 28 = none ∧ boolT Try.prog 28 = false ∧ stringT Try.prog 28 = false ∧ sliceT Try.prog 28 = true ∧ zeroT Try.prog 28 = some [.nils] ∧ zeroImT Try.prog 28 = some [(.sl [])] ∧ u8T Try.prog 28 = false ∧ zeroOne Try.prog 28 = some (.sl []) ∧ placesT Try.prog 28 = none := ⟨by kernel_rfl, by kernel_rfl, by kernel_rfl, by kernel_rfl, by kernel_rfl, by kernel_rfl, by kernel_rfl, by kernel_rfl, by kernel_rfl, by kernel_rfl, by kernel_rfl, by kernel_rfl, by kernel_rfl, by kernel_rfl⟩
theorem ty_29 : sizeT Try.prog 29 = some 1 ∧ bytesT Try.prog 29 = some 24 ∧ aggT Try.prog 29 = some false ∧ elemT Try.prog 29 = some 55 ∧ arrT Try.prog 29 = none ∧ intT Try.prog 29 = none ∧ boolT Try.prog 29 = false ∧ stringT Try.prog 29 = false ∧ sliceT Try.prog 29 = true ∧ zeroT Try.prog 29 = some [.nils] ∧ zeroImT Try.prog 29 = some [(.sl [])] ∧ u8T Try.prog 29 = false ∧ zeroOne Try.prog 29 = some (.sl []) ∧ placesT Try.prog 29 = none := ⟨by kernel_rfl, by kernel_rfl, by kernel_rfl, by kernel_rfl, by kernel_rfl, by kernel_rfl, by kernel_rfl, by kernel_rfl, by kernel_rfl, by kernel_rfl, by kernel_rfl, by kernel_rfl, by kernel_rfl, by kernel_rfl⟩
theorem ty_31 : sizeT Try.prog 31 = some 5 ∧ bytesT Try.prog 31 = some 120 ∧ aggT Try.prog 31 = some true ∧ elemT Try.prog 31 = none ∧ arrT Try.prog 31 = none ∧ intT Try.prog 31 = none ∧ boolT Try.prog 31 = false ∧ stringT Try.prog 31 = false ∧ sliceT Try.prog 31 = false ∧ zeroT Try.prog 31 = some [.nils, .nils, .nils, .nils, .nils] ∧ zeroImT Try.prog 31 = some [(.sl []), (.sl []), (.sl []), (.sl []), (.sl [])] ∧ u8T Try.prog 31 = false ∧ placesT Try.prog 31 = some [(0, 1), (1, 1), (2, 1), (3, 1), (4, 1)] ∧ fieldT Try.prog 31 0 = some (0, 1) ∧ fieldT Try.prog 31 1 = some (1, 1) ∧ fieldT Try.prog 31 2 = some (2, 1) ∧ fieldT Try.prog 31 3 = some (3, 1) ∧ fieldT Try.prog 31 4 = some (4, 1) := ⟨by kernel_rfl, by kernel_rfl, by kernel_rfl, by kernel_rfl, by kernel_rfl, by kernel_rfl, by kernel_rfl, by kernel_rfl, by kernel_rfl, by kernel_rfl, by kernel_rfl, by kernel_rfl, by kernel_rfl, by kernel_rfl, by kernel_rfl, by kernel_rfl, by kernel_rfl, by kernel_rfl⟩
theorem ty_33 : sizeT Try.prog 33 = some 1 ∧ bytesT Try.prog 33 = some 24 ∧ aggT Try.prog 33 = some false ∧ elemT Try.prog 33 = some 4 ∧ arrT Try.prog 33 = none ∧ intT Try.prog 33 = none ∧ boolT Try.prog 33 = false ∧ stringT Try.prog 33 = false ∧ sliceT Try.prog 33 = true ∧ zeroT Try.prog 33 = some [.nils] ∧ zeroImT Try.prog 33 = some [(.sl [])] ∧ u8T Try.prog 33 = false ∧ zeroOne Try.prog 33 = some (.sl []) ∧ placesT Try.prog 33 = none := ⟨by kernel_rfl, by kernel_rfl, by kernel_rfl, by kernel_rfl, by kernel_rfl, by kernel_rfl, by kernel_rfl, by kernel_rfl, by kernel_rfl, by kernel_rfl, by kernel_rfl, by kernel_rfl, by kernel_rfl, by kernel_rfl⟩
theorem ty_35 : sizeT Try.prog 35 = some 1 ∧ bytesT Try.prog 35 = some 24 ∧ aggT Try.prog 35 = some false ∧ elemT Try.prog 35 = some 22 ∧ arrT Try.prog 35 = none ∧ intT Try.prog 35 = none ∧ boolT Try.prog 35 = false ∧ stringT Try.prog 35 = false ∧ sliceT Try.prog 35 = true ∧ zeroT Try.prog 35 = some [.nils] ∧ zeroImT Try.prog 35 = some [(.sl [])] ∧ u8T Try.prog 35 = false ∧ zeroOne Try.prog 35 = some (.sl []) ∧ placesT Try.prog 35 = none := ⟨by kernel_rfl, by kernel_rfl, by kernel_rfl, by kernel_rfl, by kernel_rfl, by kernel_rfl, by kernel_rfl, by kernel_rfl, by kernel_rfl, by kernel_rfl, by kernel_rfl, by kernel_rfl, by kernel_rfl, by kernel_rfl⟩
theorem ty_36 : sizeT Try.prog 36 = some 1 ∧ bytesT Try.prog 36 = some 8 ∧ aggT Try.prog 36 = some false ∧ elemT Try.prog 36 = none ∧ arrT Try.prog 36 = none ∧ intT Try.prog 36 = some .i64 ∧ boolT Try.prog 36 = false ∧ stringT Try.prog 36 = false ∧ sliceT Try.prog 36 = false ∧ Program.underlying Try.prog 36 = some (.int .i64) ∧ zeroT Try.prog 36 = some [.im (.int .i64 0)] ∧ zeroImT Try.prog 36 = some [(.int .i64 0)] ∧ u8T Try.prog 36 = false ∧ zeroOne Try.prog 36 = some (.int .i64 0) ∧ placesT Try.prog 36 = none := ⟨by kernel_rfl, by kernel_rfl, by kernel_rfl, by kernel_rfl, by kernel_rfl, by kernel_rfl, by kernel_rfl, by kernel_rfl, by kernel_rfl, by kernel_rfl, by kernel_rfl, by kernel_rfl, by kernel_rfl, by kernel_rfl, by kernel_rfl⟩
theorem ty_39 : sizeT Try.prog 39 = some 1 ∧ bytesT Try.prog 39 = some 24 ∧ aggT Try.prog 39 = some false ∧ elemT Try.prog 39 = some 99 ∧ arrT Try.prog 39 = none ∧ intT Try.prog 39 = none ∧ boolT Try.prog 39 = false ∧ stringT Try.prog 39 = false ∧ sliceT Try.prog 39 = true ∧ zeroT Try.prog 39 = some [.nils] ∧ zeroImT Try.prog 39 = some [(.sl [])] ∧ u8T Try.prog 39 = false ∧ zeroOne Try.prog 39 = some (.sl []) ∧ placesT Try.prog 39 = none := ⟨by kernel_rfl, by kernel_rfl, by kernel_rfl, by kernel_rfl, by kernel_rfl, by kernel_rfl, by kernel_rfl, by kernel_rfl, by kernel_rfl, by kernel_rfl, by kernel_rfl, by kernel_rfl, by kernel_rfl, by kernel_rfl⟩
theorem ty_44 : sizeT Try.prog 44 = some 1 ∧ bytesT Try.prog 44 = some 24 ∧ aggT Try.prog 44 = some false ∧ elemT Try.prog 44 = some 135 ∧ arrT Try.prog 44 = none ∧ intT Try.prog 44 = none ∧ boolT Try.prog 44 = false ∧ stringT Try.prog 44 = false ∧ sliceT Try.prog 44 = true ∧ zeroT Try.prog 44 = some [.nils] ∧ zeroImT Try.prog 44 = some [(.sl [])] ∧ u8T Try.prog 44 = false ∧ zeroOne Try.prog 44 = some (.sl []) ∧ placesT Try.prog 44 = none := ⟨by kernel_rfl, by kernel_rfl, by kernel_rfl, by kernel_rfl, by kernel_rfl, by kernel_rfl, by kernel_rfl, by kernel_rfl, by kernel_rfl, by kernel_rfl, by kernel_rfl, by kernel_rfl, by kernel_rfl, by kernel_rfl⟩
theorem ty_46 : sizeT Try.prog 46 = some 5 ∧ bytesT Try.prog 46 = some 64 ∧ aggT Try.prog 46 = some true ∧ elemT Try.prog 46 = none ∧ arrT Try.prog 46 = none ∧ intT Try.prog 46 = none ∧ boolT Try.prog 46 = false ∧ stringT Try.prog 46 = false ∧ sliceT Try.prog 46 = false ∧ zeroT Try.prog 46 = some [.im (.bool false), .im (.bool false), .nils, .nils, .im (.int .i64 0)] ∧ zeroImT Try.prog 46 = some [(.bool false), (.bool false), (.sl []), (.sl []), (.int .i64 0)] ∧ u8T Try.prog 46 = false ∧ placesT Try.prog 46 = some [(0, 1), (1, 1), (2, 1), (3, 1), (4, 1)] ∧ fieldT Try.prog 46 0 = some (0, 1) ∧ fieldT Try.prog 46 1 = some (1, 1) ∧ fieldT Try.prog 46 2 = some (2, 1) ∧ fieldT Try.prog 46 3 = some (3, 1) ∧ fieldT Try.prog 46 4 = some (4, 1) := ⟨by kernel_rfl, by kernel_rfl, by kernel_rfl, by kernel_rfl, by kernel_rfl, by kernel_rfl, by kernel_rfl, by kernel_rfl, by kernel_rfl, by kernel_rfl, by kernel_rfl, by kernel_rfl, by kernel_rfl, by kernel_rfl, by kernel_rfl, by kernel_rfl, by kernel_rfl, by kernel_rfl⟩
theorem ty_55 : sizeT Try.prog 55 = some 1 ∧ bytesT Try.prog 55 = some 8 ∧ aggT Try.prog 55 = some false ∧ elemT Try.prog 55 = none ∧ arrT Try.prog 55 = none ∧ intT Try.prog 55 = some .i64 ∧ boolT Try.prog 55 = false ∧ stringT Try.prog 55 = false ∧ sliceT Try.prog 55 = false ∧ Program.underlying Try.prog 55 = some (.int .i64) ∧ zeroT Try.prog 55 = some [.im (.int .i64 0)] ∧ zeroImT Try.prog 55 = some [(.int .i64 0)] ∧ u8T Try.prog 55 = false ∧ zeroOne Try.prog 55 = some (.int .i64 0) ∧ placesT Try.prog 55 = none := ⟨by kernel_rfl, by kernel_rfl, by kernel_rfl, by kernel_rfl, by kernel_rfl, by kernel_rfl, by kernel_rfl, by kernel_rfl, by kernel_rfl, by kernel_rfl, by kernel_rfl, by kernel_rfl, by kernel_rfl, by kernel_rfl, by kernel_rfl⟩
theorem ty_57 : sizeT Try.prog 57 = some 3 ∧ bytesT Try.prog 57 = some 32 ∧ aggT Try.prog 57 = some true ∧ elemT Try.prog 57 = none ∧ arrT Try.prog 57 = none ∧ intT Try.prog 57 = none ∧ boolT Try.prog 57 = false ∧ stringT Try.prog 57 = false ∧ sliceT Try.prog 57 = false ∧ zeroT Try.prog 57 = some [.im (.str ByteArray.empty), .im (.int .i64 0), .im (.bool false)] ∧ zeroImT Try.prog 57 = some [(.str ByteArray.empty), (.int .i64 0), (.bool false)] ∧ u8T Try.prog 57 = false ∧ eqsT Try.prog 57 = some [9, 55, 4] ∧ placesT Try.prog 57 = some [(0, 1), (1, 1), (2, 1)] ∧ fieldT Try.prog 57 0 = some (0, 1) ∧ fieldT Try.prog 57 1 = some (1, 1) ∧ fieldT Try.prog 57 2 = some (2, 1) := ⟨by kernel_rfl, by kernel_rfl, by kernel_rfl, by kernel_rfl, by kernel_rfl, by kernel_rfl, by kernel_rfl, by kernel_rfl, by kernel_rfl, by kernel_rfl, by kernel_rfl, by kernel_rfl, by kernel_rfl, by kernel_rfl, by kernel_rfl, by kernel_rfl, by kernel_rfl⟩
theorem ty_59 : sizeT Try.prog 59 = some 2 ∧ bytesT Try.prog 59 = some 16 ∧ aggT Try.prog 59 = some true ∧ elemT Try.prog 59 = none ∧ arrT Try.prog 59 = none ∧ intT Try.prog 59 = none ∧ boolT Try.prog 59 = false ∧ stringT Try.prog 59 = false ∧ sliceT Try.prog 59 = false ∧ zeroT Try.prog 59 = some [.im (.int .i64 0), .im (.int .i64 0)] ∧ zeroImT Try.prog 59 = some [(.int .i64 0), (.int .i64 0)] ∧ u8T Try.prog 59 = false ∧ eqsT Try.prog 59 = some [55, 55] ∧ placesT Try.prog 59 = some [(0, 1), (1, 1)] ∧ fieldT Try.prog 59 0 = some (0, 1) ∧ fieldT Try.prog 59 1 = some (1, 1) := ⟨by kernel_rfl, by kernel_rfl, by kernel_rfl, by kernel_rfl, by kernel_rfl, by kernel_rfl, by kernel_rfl, by kernel_rfl, by kernel_rfl, by kernel_rfl, by kernel_rfl, by kernel_rfl, by kernel_rfl, by kernel_rfl, by kernel_rfl, by kernel_rfl⟩
theorem ty_60 : sizeT Try.prog 60 = some 1 ∧ bytesT Try.prog 60 = some 8 ∧ aggT Try.prog 60 = some false ∧ elemT Try.prog 60 = none ∧ arrT Try.prog 60 = none ∧ intT Try.prog 60 = some .i64 ∧ boolT Try.prog 60 = false ∧ stringT Try.prog 60 = false ∧ sliceT Try.prog 60 = false ∧ Program.underlying Try.prog 60 = some (.int .i64) ∧ zeroT Try.prog 60 = some [.im (.int .i64 0)] ∧ zeroImT Try.prog 60 = some [(.int .i64 0)] ∧ u8T Try.prog 60 = false ∧ zeroOne Try.prog 60 = some (.int .i64 0) ∧ placesT Try.prog 60 = none := ⟨by kernel_rfl, by kernel_rfl, by kernel_rfl, by kernel_rfl, by kernel_rfl, by kernel_rfl, by kernel_rfl, by kernel_rfl, by kernel_rfl, by kernel_rfl, by kernel_rfl, by kernel_rfl, by kernel_rfl, by kernel_rfl, by kernel_rfl⟩
theorem ty_61 : sizeT Try.prog 61 = some 1 ∧ bytesT Try.prog 61 = some 24 ∧ aggT Try.prog 61 = some false ∧ elemT Try.prog 61 = some 44 ∧ arrT Try.prog 61 = none ∧ intT Try.prog 61 = none ∧ boolT Try.prog 61 = false ∧ stringT Try.prog 61 = false ∧ sliceT Try.prog 61 = true ∧ zeroT Try.prog 61 = some [.nils] ∧ zeroImT Try.prog 61 = some [(.sl [])] ∧ u8T Try.prog 61 = false ∧ zeroOne Try.prog 61 = some (.sl []) ∧ placesT Try.prog 61 = none := ⟨by kernel_rfl, by kernel_rfl, by kernel_rfl, by kernel_rfl, by kernel_rfl, by kernel_rfl, by kernel_rfl, by kernel_rfl, by kernel_rfl, by kernel_rfl, by kernel_rfl, by kernel_rfl, by kernel_rfl, by kernel_rfl⟩
theorem ty_62 : sizeT Try.prog 62 = some 1 ∧ bytesT Try.prog 62 = some 24 ∧ aggT Try.prog 62 = some false ∧ elemT Try.prog 62 = some 33 ∧ arrT Try.prog 62 = none ∧ intT Try.prog 62 = none ∧ boolT Try.prog 62 = false ∧ stringT Try.prog 62 = false ∧ sliceT Try.prog 62 = true ∧ zeroT Try.prog 62 = some [.nils] ∧ zeroImT Try.prog 62 = some [(.sl [])] ∧ u8T Try.prog 62 = false ∧ zeroOne Try.prog 62 = some (.sl []) ∧ placesT Try.prog 62 = none := ⟨by kernel_rfl, by kernel_rfl, by kernel_rfl, by kernel_rfl, by kernel_rfl, by kernel_rfl, by kernel_rfl, by kernel_rfl, by kernel_rfl, by kernel_rfl, by kernel_rfl, by kernel_rfl, by kernel_rfl, by kernel_rfl⟩
theorem ty_64 : sizeT Try.prog 64 = some 5 ∧ bytesT Try.prog 64 = some 104 ∧ aggT Try.prog 64 = some true ∧ elemT Try.prog 64 = none ∧ arrT Try.prog 64 = none ∧ intT Try.prog 64 = none ∧ boolT Try.prog 64 = false ∧ stringT Try.prog 64 = false ∧ sliceT Try.prog 64 = false ∧ zeroT Try.prog 64 = some [.im (.int .i64 0), .nils, .nils, .nils, .nils] ∧ zeroImT Try.prog 64 = some [(.int .i64 0), (.sl []), (.sl []), (.sl []), (.sl [])] ∧ u8T Try.prog 64 = false ∧ placesT Try.prog 64 = some [(0, 1), (1, 1), (2, 1), (3, 1), (4, 1)] ∧ fieldT Try.prog 64 0 = some (0, 1) ∧ fieldT Try.prog 64 1 = some (1, 1) ∧ fieldT Try.prog 64 2 = some (2, 1) ∧ fieldT Try.prog 64 3 = some (3, 1) ∧ fieldT Try.prog 64 4 = some (4, 1) := ⟨by kernel_rfl, by kernel_rfl, by kernel_rfl, by kernel_rfl, by kernel_rfl, by kernel_rfl, by kernel_rfl, by kernel_rfl, by kernel_rfl, by kernel_rfl, by kernel_rfl, by kernel_rfl, by kernel_rfl, by kernel_rfl, by kernel_rfl, by kernel_rfl, by kernel_rfl, by kernel_rfl⟩
theorem ty_77 : sizeT Try.prog 77 = some 3 ∧ bytesT Try.prog 77 = some 56 ∧ aggT Try.prog 77 = some true ∧ elemT Try.prog 77 = none ∧ arrT Try.prog 77 = none ∧ intT Try.prog 77 = none ∧ boolT Try.prog 77 = false ∧ stringT Try.prog 77 = false ∧ sliceT Try.prog 77 = false ∧ zeroT Try.prog 77 = some [.im (.int .i64 0), .nils, .nils] ∧ zeroImT Try.prog 77 = some [(.int .i64 0), (.sl []), (.sl [])] ∧ u8T Try.prog 77 = false ∧ placesT Try.prog 77 = some [(0, 1), (1, 1), (2, 1)] ∧ fieldT Try.prog 77 0 = some (0, 1) ∧ fieldT Try.prog 77 1 = some (1, 1) ∧ fieldT Try.prog 77 2 = some (2, 1) := ⟨by kernel_rfl, by kernel_rfl, by kernel_rfl, by kernel_rfl, by kernel_rfl, by kernel_rfl, by kernel_rfl, by kernel_rfl, by kernel_rfl, by kernel_rfl, by kernel_rfl, by kernel_rfl, by kernel_rfl, by kernel_rfl, by kernel_rfl, by kernel_rfl⟩
theorem ty_99 : sizeT Try.prog 99 = some 1 ∧ bytesT Try.prog 99 = some 8 ∧ aggT Try.prog 99 = some false ∧ elemT Try.prog 99 = none ∧ arrT Try.prog 99 = none ∧ intT Try.prog 99 = some .u64 ∧ boolT Try.prog 99 = false ∧ stringT Try.prog 99 = false ∧ sliceT Try.prog 99 = false ∧ Program.underlying Try.prog 99 = some (.int .u64) ∧ zeroT Try.prog 99 = some [.im (.int .u64 0)] ∧ zeroImT Try.prog 99 = some [(.int .u64 0)] ∧ u8T Try.prog 99 = false ∧ zeroOne Try.prog 99 = some (.int .u64 0) ∧ placesT Try.prog 99 = none := ⟨by kernel_rfl, by kernel_rfl, by kernel_rfl, by kernel_rfl, by kernel_rfl, by kernel_rfl, by kernel_rfl, by kernel_rfl, by kernel_rfl, by kernel_rfl, by kernel_rfl, by kernel_rfl, by kernel_rfl, by kernel_rfl, by kernel_rfl⟩
theorem ty_130 : sizeT Try.prog 130 = some 1 ∧ bytesT Try.prog 130 = some 8 ∧ aggT Try.prog 130 = some false ∧ elemT Try.prog 130 = none ∧ arrT Try.prog 130 = none ∧ intT Try.prog 130 = none ∧ boolT Try.prog 130 = false ∧ stringT Try.prog 130 = false ∧ sliceT Try.prog 130 = false ∧ ptrT Try.prog 130 = true ∧ zeroT Try.prog 130 = some [.nilp] ∧ u8T Try.prog 130 = false ∧ placesT Try.prog 130 = none := ⟨by kernel_rfl, by kernel_rfl, by kernel_rfl, by kernel_rfl, by kernel_rfl, by kernel_rfl, by kernel_rfl, by kernel_rfl, by kernel_rfl, by kernel_rfl, by kernel_rfl, by kernel_rfl, by kernel_rfl⟩
theorem ty_131 : sizeT Try.prog 131 = some 1 ∧ bytesT Try.prog 131 = some 24 ∧ aggT Try.prog 131 = some false ∧ elemT Try.prog 131 = some 138 ∧ arrT Try.prog 131 = none ∧ intT Try.prog 131 = none ∧ boolT Try.prog 131 = false ∧ stringT Try.prog 131 = false ∧ sliceT Try.prog 131 = true ∧ zeroT Try.prog 131 = some [.nils] ∧ zeroImT Try.prog 131 = some [(.sl [])] ∧ u8T Try.prog 131 = false ∧ zeroOne Try.prog 131 = some (.sl []) ∧ placesT Try.prog 131 = none := ⟨by kernel_rfl, by kernel_rfl, by kernel_rfl, by kernel_rfl, by kernel_rfl, by kernel_rfl, by kernel_rfl, by kernel_rfl, by kernel_rfl, by kernel_rfl, by kernel_rfl, by kernel_rfl, by kernel_rfl, by kernel_rfl⟩
theorem ty_133 : sizeT Try.prog 133 = some 9 ∧ bytesT Try.prog 133 = some 184 ∧ aggT Try.prog 133 = some true ∧ elemT Try.prog 133 = none ∧ arrT Try.prog 133 = none ∧ intT Try.prog 133 = none ∧ boolT Try.prog 133 = false ∧ stringT Try.prog 133 = false ∧ sliceT Try.prog 133 = false ∧ zeroT Try.prog 133 = some [.nils, .nils, .nils, .nils, .nils, .nils, .nils, .im (.int .i64 0), .im (.int .i64 0)] ∧ zeroImT Try.prog 133 = some [(.sl []), (.sl []), (.sl []), (.sl []), (.sl []), (.sl []), (.sl []), (.int .i64 0), (.int .i64 0)] ∧ u8T Try.prog 133 = false ∧ placesT Try.prog 133 = some [(0, 1), (1, 1), (2, 1), (3, 1), (4, 1), (5, 1), (6, 1), (7, 1), (8, 1)] ∧ fieldT Try.prog 133 0 = some (0, 1) ∧ fieldT Try.prog 133 1 = some (1, 1) ∧ fieldT Try.prog 133 2 = some (2, 1) ∧ fieldT Try.prog 133 3 = some (3, 1) ∧ fieldT Try.prog 133 4 = some (4, 1) ∧ fieldT Try.prog 133 5 = some (5, 1) ∧ fieldT Try.prog 133 6 = some (6, 1) ∧ fieldT Try.prog 133 7 = some (7, 1) ∧ fieldT Try.prog 133 8 = some (8, 1) := ⟨by kernel_rfl, by kernel_rfl, by kernel_rfl, by kernel_rfl, by kernel_rfl, by kernel_rfl, by kernel_rfl, by kernel_rfl, by kernel_rfl, by kernel_rfl, by kernel_rfl, by kernel_rfl, by kernel_rfl, by kernel_rfl, by kernel_rfl, by kernel_rfl, by kernel_rfl, by kernel_rfl, by kernel_rfl, by kernel_rfl, by kernel_rfl, by kernel_rfl⟩
theorem ty_135 : sizeT Try.prog 135 = some 2 ∧ bytesT Try.prog 135 = some 32 ∧ aggT Try.prog 135 = some true ∧ elemT Try.prog 135 = none ∧ arrT Try.prog 135 = none ∧ intT Try.prog 135 = none ∧ boolT Try.prog 135 = false ∧ stringT Try.prog 135 = false ∧ sliceT Try.prog 135 = false ∧ zeroT Try.prog 135 = some [.im (.bool false), .nils] ∧ zeroImT Try.prog 135 = some [(.bool false), (.sl [])] ∧ u8T Try.prog 135 = false ∧ placesT Try.prog 135 = some [(0, 1), (1, 1)] ∧ fieldT Try.prog 135 0 = some (0, 1) ∧ fieldT Try.prog 135 1 = some (1, 1) := ⟨by kernel_rfl, by kernel_rfl, by kernel_rfl, by kernel_rfl, by kernel_rfl, by kernel_rfl, by kernel_rfl, by kernel_rfl, by kernel_rfl, by kernel_rfl, by kernel_rfl, by kernel_rfl, by kernel_rfl, by kernel_rfl, by kernel_rfl⟩
theorem ty_138 : sizeT Try.prog 138 = some 1 ∧ bytesT Try.prog 138 = some 1 ∧ aggT Try.prog 138 = some false ∧ elemT Try.prog 138 = none ∧ arrT Try.prog 138 = none ∧ intT Try.prog 138 = some .i8 ∧ boolT Try.prog 138 = false ∧ stringT Try.prog 138 = false ∧ sliceT Try.prog 138 = false ∧ Program.underlying Try.prog 138 = some (.int .i8) ∧ zeroT Try.prog 138 = some [.im (.int .i8 0)] ∧ zeroImT Try.prog 138 = some [(.int .i8 0)] ∧ u8T Try.prog 138 = false ∧ zeroOne Try.prog 138 = some (.int .i8 0) ∧ placesT Try.prog 138 = none := ⟨by kernel_rfl, by kernel_rfl, by kernel_rfl, by kernel_rfl, by kernel_rfl, by kernel_rfl, by kernel_rfl, by kernel_rfl, by kernel_rfl, by kernel_rfl, by kernel_rfl, by kernel_rfl, by kernel_rfl, by kernel_rfl, by kernel_rfl⟩
theorem ty_148 : sizeT Try.prog 148 = some 1 ∧ bytesT Try.prog 148 = some 24 ∧ aggT Try.prog 148 = some false ∧ elemT Try.prog 148 = some 5 ∧ arrT Try.prog 148 = none ∧ intT Try.prog 148 = none ∧ boolT Try.prog 148 = false ∧ stringT Try.prog 148 = false ∧ sliceT Try.prog 148 = true ∧ zeroT Try.prog 148 = some [.nils] ∧ zeroImT Try.prog 148 = some [(.sl [])] ∧ u8T Try.prog 148 = true ∧ zeroOne Try.prog 148 = some (.sl []) ∧ placesT Try.prog 148 = none := ⟨by kernel_rfl, by kernel_rfl, by kernel_rfl, by kernel_rfl, by kernel_rfl, by kernel_rfl, by kernel_rfl, by kernel_rfl, by kernel_rfl, by kernel_rfl, by kernel_rfl, by kernel_rfl, by kernel_rfl, by kernel_rfl⟩
theorem ty_162 : sizeT Try.prog 162 = some 1 ∧ bytesT Try.prog 162 = some 8 ∧ aggT Try.prog 162 = some false ∧ elemT Try.prog 162 = none ∧ arrT Try.prog 162 = none ∧ intT Try.prog 162 = none ∧ boolT Try.prog 162 = false ∧ stringT Try.prog 162 = false ∧ sliceT Try.prog 162 = false ∧ zeroT Try.prog 162 = some [.any] ∧ u8T Try.prog 162 = false ∧ mapT Try.prog 162 = some (9, 3) ∧ placesT Try.prog 162 = none := ⟨by kernel_rfl, by kernel_rfl, by kernel_rfl, by kernel_rfl, by kernel_rfl, by kernel_rfl, by kernel_rfl, by kernel_rfl, by kernel_rfl, by kernel_rfl, by kernel_rfl, by kernel_rfl, by kernel_rfl⟩
theorem ty_167 : sizeT Try.prog 167 = some 1 ∧ bytesT Try.prog 167 = some 8 ∧ aggT Try.prog 167 = some false ∧ elemT Try.prog 167 = none ∧ arrT Try.prog 167 = none ∧ intT Try.prog 167 = none ∧ boolT Try.prog 167 = false ∧ stringT Try.prog 167 = false ∧ sliceT Try.prog 167 = false ∧ zeroT Try.prog 167 = some [.any] ∧ u8T Try.prog 167 = false ∧ mapT Try.prog 167 = some (3, 4) ∧ placesT Try.prog 167 = none := ⟨by kernel_rfl, by kernel_rfl, by kernel_rfl, by kernel_rfl, by kernel_rfl, by kernel_rfl, by kernel_rfl, by kernel_rfl, by kernel_rfl, by kernel_rfl, by kernel_rfl, by kernel_rfl, by kernel_rfl⟩
theorem ty_177 : sizeT Try.prog 177 = some 1 ∧ bytesT Try.prog 177 = some 8 ∧ aggT Try.prog 177 = some false ∧ elemT Try.prog 177 = none ∧ arrT Try.prog 177 = none ∧ intT Try.prog 177 = some .u64 ∧ boolT Try.prog 177 = false ∧ stringT Try.prog 177 = false ∧ sliceT Try.prog 177 = false ∧ Program.underlying Try.prog 177 = some (.int .u64) ∧ zeroT Try.prog 177 = some [.im (.int .u64 0)] ∧ zeroImT Try.prog 177 = some [(.int .u64 0)] ∧ u8T Try.prog 177 = false ∧ zeroOne Try.prog 177 = some (.int .u64 0) ∧ placesT Try.prog 177 = none := ⟨by kernel_rfl, by kernel_rfl, by kernel_rfl, by kernel_rfl, by kernel_rfl, by kernel_rfl, by kernel_rfl, by kernel_rfl, by kernel_rfl, by kernel_rfl, by kernel_rfl, by kernel_rfl, by kernel_rfl, by kernel_rfl, by kernel_rfl⟩
theorem ty_180 : sizeT Try.prog 180 = some 1 ∧ bytesT Try.prog 180 = some 8 ∧ aggT Try.prog 180 = some false ∧ elemT Try.prog 180 = none ∧ arrT Try.prog 180 = none ∧ intT Try.prog 180 = some .i64 ∧ boolT Try.prog 180 = false ∧ stringT Try.prog 180 = false ∧ sliceT Try.prog 180 = false ∧ Program.underlying Try.prog 180 = some (.int .i64) ∧ zeroT Try.prog 180 = some [.im (.int .i64 0)] ∧ zeroImT Try.prog 180 = some [(.int .i64 0)] ∧ u8T Try.prog 180 = false ∧ zeroOne Try.prog 180 = some (.int .i64 0) ∧ placesT Try.prog 180 = none := ⟨by kernel_rfl, by kernel_rfl, by kernel_rfl, by kernel_rfl, by kernel_rfl, by kernel_rfl, by kernel_rfl, by kernel_rfl, by kernel_rfl, by kernel_rfl, by kernel_rfl, by kernel_rfl, by kernel_rfl, by kernel_rfl, by kernel_rfl⟩
theorem ty_188 : sizeT Try.prog 188 = some 1 ∧ bytesT Try.prog 188 = some 4 ∧ aggT Try.prog 188 = some false ∧ elemT Try.prog 188 = none ∧ arrT Try.prog 188 = none ∧ intT Try.prog 188 = some .u32 ∧ boolT Try.prog 188 = false ∧ stringT Try.prog 188 = false ∧ sliceT Try.prog 188 = false ∧ Program.underlying Try.prog 188 = some (.int .u32) ∧ zeroT Try.prog 188 = some [.im (.int .u32 0)] ∧ zeroImT Try.prog 188 = some [(.int .u32 0)] ∧ u8T Try.prog 188 = false ∧ zeroOne Try.prog 188 = some (.int .u32 0) ∧ placesT Try.prog 188 = none := ⟨by kernel_rfl, by kernel_rfl, by kernel_rfl, by kernel_rfl, by kernel_rfl, by kernel_rfl, by kernel_rfl, by kernel_rfl, by kernel_rfl, by kernel_rfl, by kernel_rfl, by kernel_rfl, by kernel_rfl, by kernel_rfl, by kernel_rfl⟩

set_option maxRecDepth 100000

abbrev I64 (x : Int) : Prop := -9223372036854775808 ≤ x ∧ x ≤ 9223372036854775807
theorem wrap64 {x : Int} (h : I64 x) : IntKind.i64.wrap x = x := by
 unfold IntKind.wrap
 simp only [IntKind.bits, IntKind.signed]
 simp
 omega
abbrev PV.i (x : Int) : PV := .im (.int .i64 x)
def below (x n : Int) : Int := if n < 1 then 0 else x % n
theorem Below_ok (x n : Int) (hx : I64 x) (hn : I64 n) (up : Frs) : ACalls Try.prog 21 [.i x, .i n] up fun v u => v = .i (below x n) ∧ u = up := by
 refine ACalls.code Try.func21 rfl 16 rfl (by simp) [.tmp 4] rfl fun Q hQ => ?_
 simp only [ups, PV.up, argEnv]
 refine Run.seq ?_
 refine Run.region rfl fun K hK => GOps.run ?_
 simp only [lookupV, updateV, lookupK, updateK, slicePV, pe0, pe1, pe2, pe3, pe4, pe5, pe6, pe7, pr0, pr1, Nat.reduceAdd, Nat.reduceMul, Nat.reduceLeDiff, Nat.reduceLT, Nat.reduceEqDiff, Nat.reduceBEq, Nat.reduceSub, reduceCtorEq, reduceIte, Int.reduceToNat, Int.reduceLE, Int.reduceEq, Int.reduceNe, Int.reduceBEq, Int.reduceBNe, Int.reduceLT, Int.reduceGT, Int.reduceGE, Int.reduceNeg, ty_3, ty_4]
 refine GOps.done (hK _ ?_); clear hK K
 refine End.keep [0, 1] ?_
 simp only [pk0, Nat.reduceBEq, reduceIte]
 refine Run.seq ?_
 refine Run.seq ?_
 refine Run.region rfl fun K hK => GOps.run ?_
 simp only [lookupV, updateV, lookupK, updateK, slicePV, pe0, pe1, pe2, pe3, pe4, pe5, pe6, pe7, pr0, pr1, Nat.reduceAdd, Nat.reduceMul, Nat.reduceLeDiff, Nat.reduceLT, Nat.reduceEqDiff, Nat.reduceBEq, Nat.reduceSub, reduceCtorEq, reduceIte, Int.reduceToNat, Int.reduceLE, Int.reduceEq, Int.reduceNe, Int.reduceBEq, Int.reduceBNe, Int.reduceLT, Int.reduceGT, Int.reduceGE, Int.reduceNeg, ty_3, ty_4]
 refine GOps.done (hK _ ?_); clear hK K
 refine End.keep [0, 1, 6] ?_
 simp only [pk0, Nat.reduceBEq, reduceIte]
 refine Run.cond _ rfl (fun hb => ?_) (fun hb => ?_)
 ·have hb := of_decide_eq_true hb
  refine Run.seq ?_
  refine Run.region rfl fun K hK => GOps.run ?_
  simp only [lookupV, updateV, lookupK, updateK, slicePV, pe0, pe1, pe2, pe3, pe4, pe5, pe6, pe7, pr0, pr1, Nat.reduceAdd, Nat.reduceMul, Nat.reduceLeDiff, Nat.reduceLT, Nat.reduceEqDiff, Nat.reduceBEq, Nat.reduceSub, reduceCtorEq, reduceIte, Int.reduceToNat, Int.reduceLE, Int.reduceEq, Int.reduceNe, Int.reduceBEq, Int.reduceBNe, Int.reduceLT, Int.reduceGT, Int.reduceGE, Int.reduceNeg, ty_3, ty_4]
  refine GOps.done (hK _ ?_); clear hK K
  refine End.keep [4] ?_
  simp only [pk0, Nat.reduceBEq, reduceIte]
  refine Run.ret (hQ _ _ ⟨.inr rfl, _, rfl, _, rfl, ?_⟩)
  simp [below, hb]
 ·have hb := of_decide_eq_false hb
  have hn0 : ¬ n = 0 := by omega
  have ht : x.tmod n = if x < 0 then (if x % n = 0 then 0 else x % n - n) else x % n := by
   rw [Int.tmod_eq_emod]
   have h1 : n.natAbs = n := by omega
   by_cases h0 : x < 0
   ·by_cases h2 : n ∣ x
    ·have := Int.emod_eq_zero_of_dvd h2
     simp [h2, h0, this]
    ·have : ¬ x % n = 0 := fun e => h2 (Int.dvd_of_emod_eq_zero e)
     rw [if_neg (by omega), if_pos h0, if_neg this]
     omega
   ·rw [if_pos (by omega), if_neg h0]
    omega
  have hm0 := Int.emod_nonneg x hn0
  have hm1 := Int.emod_lt_of_pos x (show 0 < n by omega)
  refine Run.skip ?_
  refine End.keep [0, 1] ?_
  simp only [pk0, Nat.reduceBEq, reduceIte]
  refine Run.seq ?_
  refine Run.region rfl fun K hK => GOps.run ?_
  simp only [lookupV, updateV, lookupK, updateK, slicePV, pe0, pe1, pe2, pe3, pe4, pe5, pe6, pe7, pr0, pr1, Nat.reduceAdd, Nat.reduceMul, Nat.reduceLeDiff, Nat.reduceLT, Nat.reduceEqDiff, Nat.reduceBEq, Nat.reduceSub, reduceCtorEq, reduceIte, Int.reduceToNat, Int.reduceLE, Int.reduceEq, Int.reduceNe, Int.reduceBEq, Int.reduceBNe, Int.reduceLT, Int.reduceGT, Int.reduceGE, Int.reduceNeg, ty_3, ty_4, hn0]
  refine GOps.done (hK _ ?_); clear hK K
  refine End.keep [0, 1] ?_
  simp only [pk0, Nat.reduceBEq, reduceIte]
  refine Run.seq ?_
  refine Run.seq ?_
  refine Run.region rfl fun K hK => GOps.run ?_
  simp only [lookupV, updateV, lookupK, updateK, slicePV, pe0, pe1, pe2, pe3, pe4, pe5, pe6, pe7, pr0, pr1, Nat.reduceAdd, Nat.reduceMul, Nat.reduceLeDiff, Nat.reduceLT, Nat.reduceEqDiff, Nat.reduceBEq, Nat.reduceSub, reduceCtorEq, reduceIte, Int.reduceToNat, Int.reduceLE, Int.reduceEq, Int.reduceNe, Int.reduceBEq, Int.reduceBNe, Int.reduceLT, Int.reduceGT, Int.reduceGE, Int.reduceNeg, ty_3, ty_4]
  refine GOps.done (hK _ ?_); clear hK K
  refine End.keep [0, 1, 11] ?_
  simp only [pk0, Nat.reduceBEq, reduceIte]
  refine Run.cond _ rfl (fun hb => ?_) (fun hb => ?_)
  ·have hc := of_decide_eq_true hb
   refine Run.region rfl fun K hK => GOps.run ?_
   simp only [lookupV, updateV, lookupK, updateK, slicePV, pe0, pe1, pe2, pe3, pe4, pe5, pe6, pe7, pr0, pr1, Nat.reduceAdd, Nat.reduceMul, Nat.reduceLeDiff, Nat.reduceLT, Nat.reduceEqDiff, Nat.reduceBEq, Nat.reduceSub, reduceCtorEq, reduceIte, Int.reduceToNat, Int.reduceLE, Int.reduceEq, Int.reduceNe, Int.reduceBEq, Int.reduceBNe, Int.reduceLT, Int.reduceGT, Int.reduceGE, Int.reduceNeg, ty_3, ty_4]
   refine GOps.done (hK _ ?_); clear hK K
   refine End.keep [0] ?_
   simp only [pk0, Nat.reduceBEq, reduceIte]
   refine Run.seq ?_
   refine Run.region rfl fun K hK => GOps.run ?_
   simp only [lookupV, updateV, lookupK, updateK, slicePV, pe0, pe1, pe2, pe3, pe4, pe5, pe6, pe7, pr0, pr1, Nat.reduceAdd, Nat.reduceMul, Nat.reduceLeDiff, Nat.reduceLT, Nat.reduceEqDiff, Nat.reduceBEq, Nat.reduceSub, reduceCtorEq, reduceIte, Int.reduceToNat, Int.reduceLE, Int.reduceEq, Int.reduceNe, Int.reduceBEq, Int.reduceBNe, Int.reduceLT, Int.reduceGT, Int.reduceGE, Int.reduceNeg, ty_3, ty_4]
   refine GOps.done (hK _ ?_); clear hK K
   refine End.keep [4] ?_
   simp only [pk0, Nat.reduceBEq, reduceIte]
   refine Run.ret (hQ _ _ ⟨.inr rfl, _, rfl, _, rfl, ?_⟩)
   refine ⟨?_, rfl⟩
   have e : x.tmod n + n = x % n := by
    rw [ht] at hc ⊢
    split at hc
    ·split at hc
     ·omega
     ·rename_i h1 h2; rw [if_pos h1, if_neg h2]; omega
    ·omega
   rw [e, wrap64 (by omega)]
   simp [below, hb, show ¬ n < 1 by omega]
  ·have hc := of_decide_eq_false hb
   refine Run.skip ?_
   refine End.keep [0] ?_
   simp only [pk0, Nat.reduceBEq, reduceIte]
   refine Run.seq ?_
   refine Run.region rfl fun K hK => GOps.run ?_
   simp only [lookupV, updateV, lookupK, updateK, slicePV, pe0, pe1, pe2, pe3, pe4, pe5, pe6, pe7, pr0, pr1, Nat.reduceAdd, Nat.reduceMul, Nat.reduceLeDiff, Nat.reduceLT, Nat.reduceEqDiff, Nat.reduceBEq, Nat.reduceSub, reduceCtorEq, reduceIte, Int.reduceToNat, Int.reduceLE, Int.reduceEq, Int.reduceNe, Int.reduceBEq, Int.reduceBNe, Int.reduceLT, Int.reduceGT, Int.reduceGE, Int.reduceNeg, ty_3, ty_4]
   refine GOps.done (hK _ ?_); clear hK K
   refine End.keep [4] ?_
   simp only [pk0, Nat.reduceBEq, reduceIte]
   refine Run.ret (hQ _ _ ⟨.inr rfl, _, rfl, _, rfl, ?_⟩)
   refine ⟨?_, rfl⟩
   have e : x.tmod n = x % n := by
    rw [ht] at hc ⊢
    split at hc
    ·split at hc
     ·rename_i h1 h2; rw [if_pos h1, if_pos h2, h2]
     ·omega
    ·rename_i h1; rw [if_neg h1]
   rw [e]
   simp [below, show ¬ n < 1 by omega]
abbrev ints (l : List Int) : List (List Im) := l.map fun x => [.int .i64 x]
abbrev stm (l : List Int) (a : Int) : AObj := .box [.im (.sl (ints l)), .i a]
def nextV (l : List Int) (a n : Int) : Int :=
 if l = [] then below ((a + 1) * 7919) n else below (below (l.getD (a % l.length).toNat 0) 1073741824 + a / l.length * (7919 + a % l.length)) n
theorem ints_len (l : List Int) : (ints l).length = l.length := by simp
theorem ints_get (l : List Int) (i : Nat) (h : i < l.length) : (ints l)[i]? = some [.int .i64 (l.getD i 0)] := by simp [h]
structure StmOk (l : List Int) (a : Int) : Prop where
 vals : ∀ x ∈ l, I64 x
 len : l.length ≤ 9223372036854775807
 pos : 0 ≤ a
 few : a < 1099511627776
theorem Next_ok (l : List Int) (a n : Int) (hs : StmOk l a) (hn : I64 n) (up : Frs) (d j : Nat) (hl : fget up d j = some (stm l a)) : ACalls Try.prog 25 [.ptr d j 0, .i n] up fun v u => v = .i (nextV l a n) ∧ u = fset up d j (stm l (a + 1)) := by
 have hset : ∀ o, fget (fset up d j o) d j = some o := fun o => fget_fset_same _ _ _ _ _ hl
 have hw1 : IntKind.i64.wrap (a + 1) = a + 1 := wrap64 (by have := hs.pos; have := hs.few; omega)
 have hw2 : IntKind.i64.wrap ((a + 1) * 7919) = (a + 1) * 7919 := wrap64 (by have := hs.pos; have := hs.few; omega)
 refine ACalls.code Try.func25 rfl 64 rfl (by simp) [.tmp 4] rfl fun Q hQ => ?_
 simp only [ups, PV.up, argEnv]
 refine Run.seq ?_
 refine Run.region rfl fun K hK => GOps.run ?_
 simp only [lookupV, updateV, lookupK, updateK, slicePV, pe0, pe1, pe2, pe3, pe4, pe5, pe6, pe7, pr0, pr1, Nat.reduceAdd, Nat.reduceMul, Nat.reduceLeDiff, Nat.reduceLT, Nat.reduceEqDiff, Nat.reduceBEq, Nat.reduceSub, reduceCtorEq, reduceIte, Int.reduceToNat, Int.reduceLE, Int.reduceEq, Int.reduceNe, Int.reduceBEq, Int.reduceBNe, Int.reduceLT, Int.reduceGT, Int.reduceGE, Int.reduceNeg, ty_3, ty_4, ty_22, ty_23, ty_25, hl, hset, hw1, hw2, ints_len]
 refine GOps.done (hK _ ?_); clear hK K
 refine End.keep [0, 1] ?_
 simp only [pk0, Nat.reduceBEq, reduceIte]
 refine Run.seq ?_
 refine Run.region rfl fun K hK => GOps.run ?_
 simp only [lookupV, updateV, lookupK, updateK, slicePV, pe0, pe1, pe2, pe3, pe4, pe5, pe6, pe7, pr0, pr1, Nat.reduceAdd, Nat.reduceMul, Nat.reduceLeDiff, Nat.reduceLT, Nat.reduceEqDiff, Nat.reduceBEq, Nat.reduceSub, reduceCtorEq, reduceIte, Int.reduceToNat, Int.reduceLE, Int.reduceEq, Int.reduceNe, Int.reduceBEq, Int.reduceBNe, Int.reduceLT, Int.reduceGT, Int.reduceGE, Int.reduceNeg, ty_3, ty_4, ty_22, ty_23, ty_25, hl, hset, hw1, hw2, ints_len]
 refine GOps.done (hK _ ?_); clear hK K
 refine End.keep [0, 1] ?_
 simp only [pk0, Nat.reduceBEq, reduceIte]
 refine Run.seq ?_
 refine Run.seq ?_
 refine Run.region rfl fun K hK => GOps.run ?_
 simp only [lookupV, updateV, lookupK, updateK, slicePV, pe0, pe1, pe2, pe3, pe4, pe5, pe6, pe7, pr0, pr1, Nat.reduceAdd, Nat.reduceMul, Nat.reduceLeDiff, Nat.reduceLT, Nat.reduceEqDiff, Nat.reduceBEq, Nat.reduceSub, reduceCtorEq, reduceIte, Int.reduceToNat, Int.reduceLE, Int.reduceEq, Int.reduceNe, Int.reduceBEq, Int.reduceBNe, Int.reduceLT, Int.reduceGT, Int.reduceGE, Int.reduceNeg, ty_3, ty_4, ty_22, ty_23, ty_25, hl, hset, hw1, hw2, ints_len]
 refine GOps.done (hK _ ?_); clear hK K
 refine End.keep [0, 1, 19] ?_
 simp only [pk0, Nat.reduceBEq, reduceIte]
 refine Run.cond _ rfl (fun hb => ?_) (fun hb => ?_)
 ·have hb := hb
  refine Run.seq ?_
  refine Run.region rfl fun K hK => GOps.run ?_
  simp only [lookupV, updateV, lookupK, updateK, slicePV, pe0, pe1, pe2, pe3, pe4, pe5, pe6, pe7, pr0, pr1, Nat.reduceAdd, Nat.reduceMul, Nat.reduceLeDiff, Nat.reduceLT, Nat.reduceEqDiff, Nat.reduceBEq, Nat.reduceSub, reduceCtorEq, reduceIte, Int.reduceToNat, Int.reduceLE, Int.reduceEq, Int.reduceNe, Int.reduceBEq, Int.reduceBNe, Int.reduceLT, Int.reduceGT, Int.reduceGE, Int.reduceNeg, ty_3, ty_4, ty_22, ty_23, ty_25, hl, hset, hw1, hw2, ints_len]
  refine GOps.call rfl rfl rfl rfl (by kernel_rfl) ?_  -- call F35(t24, t25) : 3,3
  simp only [lookupV, updateV, lookupK, updateK, slicePV, pe0, pe1, pe2, pe3, pe4, pe5, pe6, pe7, pr0, pr1, Nat.reduceAdd, Nat.reduceMul, Nat.reduceLeDiff, Nat.reduceLT, Nat.reduceEqDiff, Nat.reduceBEq, Nat.reduceSub, reduceCtorEq, reduceIte, Int.reduceToNat, Int.reduceLE, Int.reduceEq, Int.reduceNe, Int.reduceBEq, Int.reduceBNe, Int.reduceLT, Int.reduceGT, Int.reduceGE, Int.reduceNeg, hw2]
  refine (Below_ok ((a + 1) * 7919) n (by have := hs.pos; have := hs.few; constructor <;> omega) hn _).mono fun v u hv => ?_
  obtain ⟨rfl, rfl⟩ := hv
  refine ⟨_, _, rfl, GOps.run ?_⟩
  simp only [lookupV, updateV, lookupK, updateK, slicePV, pe0, pe1, pe2, pe3, pe4, pe5, pe6, pe7, pr0, pr1, Nat.reduceAdd, Nat.reduceMul, Nat.reduceLeDiff, Nat.reduceLT, Nat.reduceEqDiff, Nat.reduceBEq, Nat.reduceSub, reduceCtorEq, reduceIte, Int.reduceToNat, Int.reduceLE, Int.reduceEq, Int.reduceNe, Int.reduceBEq, Int.reduceBNe, Int.reduceLT, Int.reduceGT, Int.reduceGE, Int.reduceNeg, ty_3, ty_4, ty_22, ty_23, ty_25, hl, hset, hw1, hw2, ints_len]
  refine GOps.done (hK _ ?_); clear hK K
  refine End.keep [4] ?_
  simp only [pk0, Nat.reduceBEq, reduceIte]
  refine Run.ret (hQ _ _ ⟨.inr rfl, _, rfl, _, rfl, ?_⟩)
  have h0 : l = [] := by simpa using hb
  exact ⟨by simp [nextV, h0], rfl⟩
 ·have hne : l ≠ [] := fun e => by subst e; simp at hb
  have hpos : 0 < l.length := List.length_pos_iff.2 hne
  have hlz : ¬ ((l.length : Int) = 0) := by omega
  have hp := hs.pos
  have hf := hs.few
  have hll := hs.len
  have hw3 : IntKind.i64.wrap (a + 1 - 1) = a := by rw [show a + 1 - 1 = a by omega]; exact wrap64 (by omega)
  have hm : a.tmod l.length = a % l.length := Int.tmod_eq_emod_of_nonneg hp
  have hd : a.tdiv l.length = a / l.length := Int.tdiv_eq_ediv_of_nonneg hp
  have hm0 := Int.emod_nonneg a hlz
  have hm1 := Int.emod_lt_of_pos a (show (0 : Int) < l.length by omega)
  have hd0 : 0 ≤ a / l.length := Int.ediv_nonneg hp (by omega)
  have hia : a % l.length ≤ a := by
   have h2 := Int.mul_ediv_add_emod a l.length
   have h3 : 0 ≤ (l.length : Int) * (a / l.length) := Int.mul_nonneg (by omega) hd0
   omega
  have hd1 : a / l.length ≤ a := Int.ediv_le_self _ hp
  have hw4 : IntKind.i64.wrap (a / l.length) = a / l.length := wrap64 (by omega)
  have hlt : (a % l.length).toNat < l.length := by omega
  have hx := ints_get l (a % l.length).toNat hlt
  generalize hi : a % (l.length : Int) = i at *
  generalize hr : a / (l.length : Int) = r at *
  have hmul : r * (7919 + i) ≤ 10000000000000000 := by
   have h1 : r * i ≤ a := by
    have h2 := Int.mul_ediv_add_emod a l.length
    rw [hi, hr] at h2
    have h3 : r * i ≤ r * l.length := Int.mul_le_mul_of_nonneg_left (by omega) hd0
    rw [Int.mul_comm] at h2
    omega
   rw [Int.mul_add]
   omega
  have hmul0 : 0 ≤ r * (7919 + i) := Int.mul_nonneg hd0 (by omega)
  have hb1 : 0 ≤ below (l.getD i.toNat 0) 1073741824 ∧ below (l.getD i.toNat 0) 1073741824 < 1073741824 := by
   simp only [below]
   rw [if_neg (by decide)]
   exact ⟨Int.emod_nonneg _ (by decide), Int.emod_lt_of_pos _ (by decide)⟩
  have hw7 : IntKind.i64.wrap (below (l.getD i.toNat 0) 1073741824 + r * (7919 + i)) = below (l.getD i.toNat 0) 1073741824 + r * (7919 + i) := wrap64 (by omega)
  have hw5 : IntKind.i64.wrap (7919 + i) = 7919 + i := wrap64 (by omega)
  have hw6 : IntKind.i64.wrap (r * (7919 + i)) = r * (7919 + i) := wrap64 (by omega)
  refine Run.skip ?_
  refine End.keep [0, 1] ?_
  simp only [pk0, Nat.reduceBEq, reduceIte]
  refine Run.seq ?_
  refine Run.draw [[], [0], [0, 1], [0, 1, 2], [0, 1, 2, 3], [], [5], [5, 6], [5, 6, 7], [5, 6, 7, 8], [0, 1, 2, 3, 4, 5, 6, 7, 8, 9], [0, 1, 2, 3, 4, 5, 6, 7, 8, 9, 10]] (by kernel_rfl) rfl (by kernel_rfl) (by kernel_rfl) fun K hK => DOps.run ?_
  simp only [lookupV, updateV, lookupK, updateK, slicePV, pe0, pe1, pe2, pe3, pe4, pe5, pe6, pe7, pr0, pr1, Nat.reduceAdd, Nat.reduceMul, Nat.reduceLeDiff, Nat.reduceLT, Nat.reduceEqDiff, Nat.reduceBEq, Nat.reduceSub, reduceCtorEq, reduceIte, Int.reduceToNat, Int.reduceLE, Int.reduceEq, Int.reduceNe, Int.reduceBEq, Int.reduceBNe, Int.reduceLT, Int.reduceGT, Int.reduceGE, Int.reduceNeg, ty_3, ty_4, ty_22, ty_23, ty_25, hl, hset, hw1, hw3, ints_len, hlz, hm, hd, hw4, hw5, hw6, hx, hm0, hw7]
  refine DOps.nil (metAll_quiet rfl) (hK _ ?_); clear hK K
  refine End.keep [0, 1, 5] ?_
  simp only [pk0, Nat.reduceBEq, reduceIte]
  refine Run.seq ?_
  refine Run.draw [[], [0], [0, 1], [0, 1, 2], [0, 1, 2, 3], [], [5], [5, 6], [5, 6, 7], [5, 6, 7, 8], [0, 1, 2, 3, 4, 5, 6, 7, 8, 9], [0, 1, 2, 3, 4, 5, 6, 7, 8, 9, 10]] (by kernel_rfl) rfl (by kernel_rfl) (by kernel_rfl) fun K hK => DOps.run ?_
  simp only [lookupV, updateV, lookupK, updateK, slicePV, pe0, pe1, pe2, pe3, pe4, pe5, pe6, pe7, pr0, pr1, Nat.reduceAdd, Nat.reduceMul, Nat.reduceLeDiff, Nat.reduceLT, Nat.reduceEqDiff, Nat.reduceBEq, Nat.reduceSub, reduceCtorEq, reduceIte, Int.reduceToNat, Int.reduceLE, Int.reduceEq, Int.reduceNe, Int.reduceBEq, Int.reduceBNe, Int.reduceLT, Int.reduceGT, Int.reduceGE, Int.reduceNeg, ty_3, ty_4, ty_22, ty_23, ty_25, hl, hset, hw1, hw3, ints_len, hlz, hm, hd, hw4, hw5, hw6, hx, hm0, hw7]
  refine DOps.nil (metAll_quiet rfl) (hK _ ?_); clear hK K
  refine End.keep [0, 1, 5, 6] ?_
  simp only [pk0, Nat.reduceBEq, reduceIte]
  refine Run.seq ?_
  refine Run.region rfl fun K hK => GOps.run ?_
  simp only [lookupV, updateV, lookupK, updateK, slicePV, pe0, pe1, pe2, pe3, pe4, pe5, pe6, pe7, pr0, pr1, Nat.reduceAdd, Nat.reduceMul, Nat.reduceLeDiff, Nat.reduceLT, Nat.reduceEqDiff, Nat.reduceBEq, Nat.reduceSub, reduceCtorEq, reduceIte, Int.reduceToNat, Int.reduceLE, Int.reduceEq, Int.reduceNe, Int.reduceBEq, Int.reduceBNe, Int.reduceLT, Int.reduceGT, Int.reduceGE, Int.reduceNeg, ty_3, ty_4, ty_22, ty_23, ty_25, hl, hset, hw1, hw3, ints_len, hlz, hm, hd, hw4, hw5, hw6, hx, hm0, hw7]
  refine GOps.call rfl rfl rfl rfl (by kernel_rfl) ?_  -- call F35(t55, 1073741824) : 3,3
  refine (Below_ok (l.getD i.toNat 0) 1073741824 (by
   have hm : l.getD i.toNat 0 ∈ l := by rw [List.getD_eq_getElem?_getD, List.getElem?_eq_getElem hlt]; simp
   exact hs.vals _ hm) (by omega) _).mono fun v u hv => ?_
  obtain ⟨rfl, rfl⟩ := hv
  refine ⟨_, _, rfl, GOps.run ?_⟩
  simp only [lookupV, updateV, lookupK, updateK, slicePV, pe0, pe1, pe2, pe3, pe4, pe5, pe6, pe7, pr0, pr1, Nat.reduceAdd, Nat.reduceMul, Nat.reduceLeDiff, Nat.reduceLT, Nat.reduceEqDiff, Nat.reduceBEq, Nat.reduceSub, reduceCtorEq, reduceIte, Int.reduceToNat, Int.reduceLE, Int.reduceEq, Int.reduceNe, Int.reduceBEq, Int.reduceBNe, Int.reduceLT, Int.reduceGT, Int.reduceGE, Int.reduceNeg, ty_3, ty_4, ty_22, ty_23, ty_25, hl, hset, hw1, hw3, ints_len, hlz, hm, hd, hw4, hw5, hw6, hx, hm0, hw7]
  refine GOps.call rfl rfl rfl rfl (by kernel_rfl) ?_  -- call F35(t61, t62) : 3,3
  simp only [lookupV, updateV, lookupK, updateK, slicePV, pe0, pe1, pe2, pe3, pe4, pe5, pe6, pe7, pr0, pr1, Nat.reduceAdd, Nat.reduceMul, Nat.reduceLeDiff, Nat.reduceLT, Nat.reduceEqDiff, Nat.reduceBEq, Nat.reduceSub, reduceCtorEq, reduceIte, Int.reduceToNat, Int.reduceLE, Int.reduceEq, Int.reduceNe, Int.reduceBEq, Int.reduceBNe, Int.reduceLT, Int.reduceGT, Int.reduceGE, Int.reduceNeg, hw7]
  refine (Below_ok (below (l.getD i.toNat 0) 1073741824 + r * (7919 + i)) n (by omega) hn _).mono fun v u hv => ?_
  obtain ⟨rfl, rfl⟩ := hv
  refine ⟨_, _, rfl, GOps.run ?_⟩
  simp only [lookupV, updateV, lookupK, updateK, slicePV, pe0, pe1, pe2, pe3, pe4, pe5, pe6, pe7, pr0, pr1, Nat.reduceAdd, Nat.reduceMul, Nat.reduceLeDiff, Nat.reduceLT, Nat.reduceEqDiff, Nat.reduceBEq, Nat.reduceSub, reduceCtorEq, reduceIte, Int.reduceToNat, Int.reduceLE, Int.reduceEq, Int.reduceNe, Int.reduceBEq, Int.reduceBNe, Int.reduceLT, Int.reduceGT, Int.reduceGE, Int.reduceNeg, ty_3, ty_4, ty_22, ty_23, ty_25, hl, hset, hw1, hw3, ints_len, hlz, hm, hd, hw4, hw5, hw6, hx, hm0, hw7]
  refine GOps.done (hK _ ?_); clear hK K
  refine End.keep [4] ?_
  simp only [pk0, Nat.reduceBEq, reduceIte]
  refine Run.ret (hQ _ _ ⟨.inr rfl, _, rfl, _, rfl, ?_⟩)
  refine ⟨?_, rfl⟩
  simp only [nextV, if_neg hne, hi, hr]

theorem below_range (x n : Int) (h : 1 ≤ n) : 0 ≤ below x n ∧ below x n < n := by
 unfold below
 rw [if_neg (by omega)]
 exact ⟨Int.emod_nonneg _ (by omega), Int.emod_lt_of_pos _ (by omega)⟩
theorem nextV_range (l : List Int) (a n : Int) (h : 1 ≤ n) : 0 ≤ nextV l a n ∧ nextV l a n < n := by
 unfold nextV
 split <;> exact below_range _ _ h
theorem StmOk.next {l : List Int} {a : Int} (h : StmOk l a) (hf : a + 1 < 1099511627776) : StmOk l (a + 1) := ⟨h.vals, h.len, by have := h.pos; omega, hf⟩
theorem StmOk.plus {l : List Int} {a : Int} (h : StmOk l a) (k : Int) (hk : 0 ≤ k) (hf : a + k < 1099511627776) : StmOk l (a + k) := ⟨h.vals, h.len, by have := h.pos; omega, hf⟩
abbrev PV.u (x : Int) : PV := .im (.int .u64 x)
theorem wrapU {x : Int} (h : 0 ≤ x ∧ x ≤ 18446744073709551615) : IntKind.u64.wrap x = x := by
 unfold IntKind.wrap
 simp only [IntKind.bits, IntKind.signed]
 simp
 omega


def bit0 (x : Int) : Bool := (BitVec.ofInt 64 x).getLsbD 0
theorem back0 (r : BitVec 64) : bit0 (IntKind.u64.wrap r.toNat) = r.getLsbD 0 := by
 have h : IntKind.u64.wrap r.toNat = r.toNat := wrapU (by have := r.isLt; omega)
 rw [bit0, h]
 congr 1
 apply BitVec.eq_of_toNat_eq
 simp
theorem bit0_and (x y : Int) : bit0 (bits .and .u64 x y) = (bit0 x && bit0 y) := by
 show bit0 (IntKind.u64.wrap (BitVec.ofInt 64 x &&& BitVec.ofInt 64 y).toNat) = _
 rw [back0, BitVec.getLsbD_and]
 rfl
theorem bit0_not (y : Int) : bit0 (bits .xor .u64 (if IntKind.u64.signed = true then -1 else IntKind.u64.max) y) = !bit0 y := by
 show bit0 (IntKind.u64.wrap (BitVec.ofInt 64 _ ^^^ BitVec.ofInt 64 y).toNat) = _
 rw [back0, BitVec.getLsbD_xor]
 have : (BitVec.ofInt 64 (if IntKind.u64.signed = true then -1 else IntKind.u64.max)).getLsbD 0 = true := by decide
 rw [this]
 simp [bit0]
theorem one_iff (x : Int) : (bits .and .u64 x 1 == 1) = bit0 x := by
 have h1 : bits .and .u64 x 1 = ((BitVec.ofInt 64 x &&& 1#64).toNat : Int) := by
  show IntKind.u64.wrap (BitVec.ofInt 64 x &&& BitVec.ofInt 64 1).toNat = _
  rw [wrapU (by have := (BitVec.ofInt 64 x &&& BitVec.ofInt 64 1).isLt; omega)]
  rfl
 rw [h1, bit0]
 generalize BitVec.ofInt 64 x = b
 have h2 : (b &&& 1#64).toNat = b.toNat % 2 := by
  rw [BitVec.toNat_and]
  exact Nat.and_one_is_mod _
 have h3 : b.getLsbD 0 = decide (b.toNat % 2 = 1) := by
  rw [BitVec.getLsbD, Nat.testBit_zero]
 rw [h2, h3]
 by_cases h : b.toNat % 2 = 1
 ·simp [h]
 ·have h0 : b.toNat % 2 = 0 := by omega
  simp [h0]
theorem bit0_lane (b : Bool) : bit0 (if b = true then 1 else 0) = b := by cases b <;> decide

set_option maxRecDepth 100000

def chr (n : Int) : UInt8 := UInt8.ofNat n.toNat
abbrev strs (l : List ByteArray) : List (List Im) := l.map fun s => [.str s]
theorem strs_len (l : List ByteArray) : (strs l).length = l.length := by simp
def nameV (l : List Int) (a : Int) (i : Int) : ByteArray × Int :=
 if nextV l (a + 1) 5 = 0 then (⟨#[chr (97 + nextV l a 26), chr (97 + i % 26), chr (97 + i / 26 % 26)]⟩ ++ (⟨#[91]⟩ ++ ⟨#[chr (48 + nextV l (a + 1 + 1) 10)]⟩ ++ ⟨#[93]⟩), a + 1 + 1 + 1)
 else if nextV l (a + 1) 5 = 1 then (⟨#[109, 46]⟩ ++ ⟨#[chr (97 + nextV l a 26), chr (97 + i % 26), chr (97 + i / 26 % 26)]⟩, a + 1 + 1)
 else (⟨#[chr (97 + nextV l a 26), chr (97 + i % 26), chr (97 + i / 26 % 26)]⟩, a + 1 + 1)
def wordsV (l : List Int) : Nat → Nat → Int → List ByteArray × Int
 | 0, _, a => ([], a)
 | k + 1, i, a => ((nameV l a i).1 :: (wordsV l k (i + 1) (nameV l a i).2).1, (wordsV l k (i + 1) (nameV l a i).2).2)
theorem nameV_pos (l : List Int) (a i : Int) : a < (nameV l a i).2 ∧ (nameV l a i).2 ≤ a + 3 := by
 unfold nameV
 split
 ·exact ⟨by simp only; omega, by simp only; omega⟩
 ·split <;> exact ⟨by simp only; omega, by simp only; omega⟩
theorem wordsV_pos (l : List Int) : ∀ (k i : Nat) (a : Int), a ≤ (wordsV l k i a).2 ∧ (wordsV l k i a).2 ≤ a + 3 * k ∧ (wordsV l k i a).1.length = k
 | 0, i, a => by simp [wordsV]
 | k + 1, i, a => by
  have h1 := nameV_pos l a i
  have h2 := wordsV_pos l k (i + 1) (nameV l a i).2
  refine ⟨?_, ?_, ?_⟩
  ·simp only [wordsV]; omega
  ·simp only [wordsV]; omega
  ·simp only [wordsV, List.length_cons]; omega
theorem wrap8 {x : Int} (h : 0 ≤ x ∧ x < 256) : IntKind.u8.wrap x = x := by
 unfold IntKind.wrap
 simp only [IntKind.bits, IntKind.signed]
 simp
 omega
theorem ba_size (a : Array UInt8) : (ByteArray.mk a).size = a.size := rfl
theorem Words_ok (N : Nat) (hN : N ≤ 300) (l : List Int) (a : Int) (hs : StmOk l a) (hf : a + 1000 < 1099511627776) (up : Frs) (d j : Nat) (hl : fget up d j = some (stm l a)) : ACalls Try.prog 51 [.ptr d j 0, .i N] up fun v u => v = .im (.sl (strs (wordsV l N 0 a).1)) ∧ u = fset up d j (stm l (wordsV l N 0 a).2) := by
 have hset : ∀ o, fget (fset up d j o) d j = some o := fun o => fget_fset_same _ _ _ _ _ hl
 have hp := hs.pos
 refine ACalls.code Try.func51 rfl 51 rfl (by simp) [.tmp 4] rfl fun Q hQ => ?_
 simp only [ups, PV.up, argEnv]
 have ft := ai ty_2 (ai ty_3 (ai ty_4 (ai ty_5 (ai ty_9 (ai ty_23 (ai ty_26 (ai ty_148 trivial)))))))
 refine Run.seq ?_
 have fx := ai hset (ai hl ft)
 refine Run.go ?_
 refine End.kp [0, 1] ?_
 refine Run.seq ?_
 refine Run.go ?_
 refine End.kp [0, 1, 5] ?_
 refine Run.seq ?_
 refine Run.seq ?_
 refine Run.go ?_
 refine End.kp [0, 5, 8, 9] ?_
 refine Run.block ?_
 refine Run.ghost (Ghost.thaw (u := 5) 9 1 (by decide) rfl) ?_
 refine Run.ghost (Ghost.shape [(0, .ptr (d + 1) j 0), (5, .ms 0 0 (0)), (8, .i N), (9, .i (0 : Nat))] 1 ?_ rfl rfl) ?_
 ·simp [eget, eput, edel]
 refine Run.loop (fun m s => ∃ (i : Nat) (done : List ByteArray) (b : Int), m = N - i ∧ i ≤ N ∧ done.length = i ∧ (wordsV l (N - i) i b).2 = (wordsV l N 0 a).2 ∧ done ++ (wordsV l (N - i) i b).1 = (wordsV l N 0 a).1 ∧ a ≤ b ∧ b ≤ a + 3 * i ∧
  s = ⟨[(0, .ptr (d + 1) j 0), (5, .ms 0 0 (i)), (8, .i N), (9, .i (i : Nat))], [.row 9 1 (strs done) 0], fset up d j (stm l b)⟩) N ⟨0, [], a, rfl, by omega, rfl, rfl, rfl, by omega, by omega, by rw [fset_self up d j _ hl]; rfl⟩ fun m s hI => ?_
 obtain ⟨i, done, b, rfl, hi, hdl, hw2, hw1, hb0, hb1, rfl⟩ := hI
 have hsl : (strs done).length = i := by rw [strs_len, hdl]
 have hs0 : StmOk l b := ⟨hs.vals, hs.len, by omega, by omega⟩
 refine Run.seq ?_
 have fx := ai hsl fx
 refine Run.go ?_
 refine End.kp [0, 5, 8, 9, 10] ?_
 refine Run.seq ?_
 refine Run.cond _ rfl (fun hb => ?_) (fun hb => ?_)
 ·have hb := of_decide_eq_true hb
  have hin : i < N := by omega
  have hap : (i + 1) * 16 ≤ 140737488355328 := by omega
  obtain ⟨r0, r1⟩ := nextV_range l b 26 (by omega)
  obtain ⟨r2, r3⟩ := nextV_range l (b + 1) 5 (by omega)
  obtain ⟨r4, r5⟩ := nextV_range l (b + 1 + 1) 10 (by omega)
  have m0 := Int.emod_nonneg (i : Int) (show (26 : Int) ≠ 0 by decide)
  have m1 := Int.emod_lt_of_pos (i : Int) (show (0 : Int) < 26 by decide)
  have m2 := Int.emod_nonneg ((i : Int) / 26) (show (26 : Int) ≠ 0 by decide)
  have m3 := Int.emod_lt_of_pos ((i : Int) / 26) (show (0 : Int) < 26 by decide)
  have d0 : (0 : Int) ≤ (i : Int) / 26 := by omega
  have d1 : (i : Int) / 26 ≤ i := by omega
  have t1 : (i : Int).tmod 26 = (i : Int) % 26 := Int.tmod_eq_emod_of_nonneg (by omega)
  have t2 : (i : Int).tdiv 26 = (i : Int) / 26 := Int.tdiv_eq_ediv_of_nonneg (by omega)
  have t3 : ((i : Int) / 26).tmod 26 = (i : Int) / 26 % 26 := Int.tmod_eq_emod_of_nonneg d0
  have w0 : IntKind.i64.wrap ((i : Int) / 26) = (i : Int) / 26 := wrap64 (by omega)
  have w1 : IntKind.i64.wrap (97 + nextV l b 26) = 97 + nextV l b 26 := wrap64 (by omega)
  have w2 : IntKind.i64.wrap (97 + (i : Int) % 26) = 97 + (i : Int) % 26 := wrap64 (by omega)
  have w3 : IntKind.i64.wrap (97 + (i : Int) / 26 % 26) = 97 + (i : Int) / 26 % 26 := wrap64 (by omega)
  have w4 : IntKind.i64.wrap (48 + nextV l (b + 1 + 1) 10) = 48 + nextV l (b + 1 + 1) 10 := wrap64 (by omega)
  have v1 : IntKind.u8.wrap (97 + nextV l b 26) = 97 + nextV l b 26 := wrap8 (by omega)
  have v2 : IntKind.u8.wrap (97 + (i : Int) % 26) = 97 + (i : Int) % 26 := wrap8 (by omega)
  have v3 : IntKind.u8.wrap (97 + (i : Int) / 26 % 26) = 97 + (i : Int) / 26 % 26 := wrap8 (by omega)
  have v4 : IntKind.u8.wrap (48 + nextV l (b + 1 + 1) 10) = 48 + nextV l (b + 1 + 1) 10 := wrap8 (by omega)
  have z1 : 0 ≤ 97 + nextV l b 26 ∧ 97 + nextV l b 26 < 256 := by omega
  have z2 : 0 ≤ 97 + (i : Int) % 26 ∧ 97 + (i : Int) % 26 < 256 := by omega
  have z3 : 0 ≤ 97 + (i : Int) / 26 % 26 ∧ 97 + (i : Int) / 26 % 26 < 256 := by omega
  have z4 : 0 ≤ 48 + nextV l (b + 1 + 1) 10 ∧ 48 + nextV l (b + 1 + 1) 10 < 256 := by omega
  have wi : IntKind.i64.wrap ((i : Int) + 1) = ((i + 1 : Nat) : Int) := by rw [wrap64 (by omega)]; omega
  refine Run.skip ?_
  refine End.kp [0, 5, 8, 9] ?_
  refine Run.seq ?_
  refine Run.block ?_
  refine Run.seq ?_
  have fx := ai (@ByteArray.size_append) (ai (@List.size_toArray.{0}) (ai (@ba_size) (ai wi (ai z4 (ai z3 (ai z2 (ai z1 (ai v4 (ai v3 (ai v2 (ai v1 (ai w4 (ai w3 (ai w2 (ai w1 (ai w0 (ai t3 (ai t2 (ai t1 (ai hap fx))))))))))))))))))))
  refine Run.go ?_
  refine End.kp [0, 5, 6, 8, 9] ?_
  refine Run.seq ?_
  refine Run.region rfl fun K hK => GOps.sim ?_
  refine GOps.call rfl rfl rfl rfl (by kernel_rfl) (ACalls.sim ?_)
  refine (Next_ok l b 26 hs0 (by omega) _ (d + 1) j (hset _)).mono fun v u hv => ?_
  obtain ⟨rfl, rfl⟩ := hv
  refine ⟨_, _, rfl, GOps.sim ?_⟩
  refine GOps.done (hK _ ?_); clear hK K
  refine End.kp [0, 5, 7, 8, 9] ?_
  refine Run.seq ?_
  refine Run.seq ?_
  refine Run.region rfl fun K hK => GOps.sim ?_
  refine GOps.call rfl rfl rfl rfl (by kernel_rfl) (ACalls.sim ?_)
  refine (Next_ok l (b + 1) 5 (hs0.plus 1 (by omega) (by omega)) (by omega) _ (d + 1) j (hset _)).mono fun v u hv => ?_
  obtain ⟨rfl, rfl⟩ := hv
  refine ⟨_, _, rfl, GOps.sim ?_⟩
  refine GOps.done (hK _ ?_); clear hK K
  refine End.kp [0, 5, 7, 8, 9, 28] ?_
  refine Run.block ?_
  refine Run.seq ?_
  refine Run.go ?_
  refine End.kp [0, 5, 7, 8, 9, 28, 29] ?_
  refine Run.cond _ rfl (fun hb => ?_) (fun hb => ?_)
  ·have hb5 : nextV l (b + 1) 5 = 0 := eq_of_beq hb
   have fx := ai (@ByteArray.size_append) (ai (@List.size_toArray.{0}) (ai (@ba_size) (ai wi (ai z4 (ai z3 (ai z2 (ai z1 (ai v4 (ai v3 (ai v2 (ai v1 (ai w4 (ai w3 (ai w2 (ai w1 (ai w0 (ai t3 (ai t2 (ai t1 (ai hap (ai hsl (ai hset (ai hl ft)))))))))))))))))))))))
   refine Run.region rfl fun K hK => GOps.sim ?_
   refine GOps.call rfl rfl rfl rfl (by kernel_rfl) (ACalls.sim ?_)
   refine (Next_ok l (b + 1 + 1) 10 ((hs0.plus 1 (by omega) (by omega)).plus 1 (by omega) (by omega)) (by omega) _ (d + 1) j (hset _)).mono fun v u hv => ?_
   obtain ⟨rfl, rfl⟩ := hv
   refine ⟨_, _, rfl, GOps.sim ?_⟩
   refine GOps.done (hK _ ?_); clear hK K
   refine End.blk ?_
   refine End.kp [0, 5, 7, 8, 9] ?_
   refine Run.go ?_
   refine End.blk ?_
   refine End.kp [0, 5, 8, 9] ?_
   refine Run.go ?_
   refine End.lp ?_
   have hn : nameV l b i = (⟨#[chr (97 + nextV l b 26), chr (97 + (i : Int) % 26), chr (97 + (i : Int) / 26 % 26)]⟩ ++ (⟨#[91]⟩ ++ ⟨#[chr (48 + nextV l (b + 1 + 1) 10)]⟩ ++ ⟨#[93]⟩), b + 1 + 1 + 1) := by simp [nameV, chr, hb5]
   have hp := nameV_pos l b i
   have hwi : wordsV l (N - i) i b = ((nameV l b i).1 :: (wordsV l (N - (i + 1)) (i + 1) (nameV l b i).2).1, (wordsV l (N - (i + 1)) (i + 1) (nameV l b i).2).2) := by
    rw [show N - i = (N - (i + 1)) + 1 by omega]
    rfl
   rw [hwi] at hw1 hw2
   refine ⟨N - (i + 1), _, by omega, Ghost.shape [(0, .ptr (d + 1) j 0), (5, .ms 0 0 (i + 1)), (8, .i N), (9, .i (i + 1 : Nat))] 1 ?_ rfl rfl, i + 1, done ++ [(nameV l b i).1], (nameV l b i).2, rfl, by omega, by simp [hdl], hw2, by simpa using hw1, by omega, by omega, ?_⟩
   ·simp only [List.mem_cons, List.not_mem_nil, or_false, forall_eq_or_imp, forall_eq, eget]
    simp
   ·rw [hn]
    simp [chr]
  ·have hb5 : ¬ nextV l (b + 1) 5 = 0 := fun e => by simp [e] at hb
   refine Run.seq ?_
   have fx := ai (@ByteArray.size_append) (ai (@List.size_toArray.{0}) (ai (@ba_size) (ai wi (ai z4 (ai z3 (ai z2 (ai z1 (ai v4 (ai v3 (ai v2 (ai v1 (ai w4 (ai w3 (ai w2 (ai w1 (ai w0 (ai t3 (ai t2 (ai t1 (ai hap (ai hsl (ai hset (ai hl ft)))))))))))))))))))))))
   refine Run.go ?_
   refine End.kp [0, 5, 7, 8, 9, 41] ?_
   refine Run.cond _ rfl (fun hb => ?_) (fun hb => ?_)
   ·have hb6 : nextV l (b + 1) 5 = 1 := eq_of_beq hb
    refine Run.go ?_
    refine End.blk ?_
    refine End.kp [0, 5, 7, 8, 9] ?_
    refine Run.go ?_
    refine End.blk ?_
    refine End.kp [0, 5, 8, 9] ?_
    refine Run.go ?_
    refine End.lp ?_
    have hn : nameV l b i = (⟨#[109, 46]⟩ ++ ⟨#[chr (97 + nextV l b 26), chr (97 + (i : Int) % 26), chr (97 + (i : Int) / 26 % 26)]⟩, b + 1 + 1) := by simp [nameV, chr, hb5, hb6]
    have hp := nameV_pos l b i
    have hwi : wordsV l (N - i) i b = ((nameV l b i).1 :: (wordsV l (N - (i + 1)) (i + 1) (nameV l b i).2).1, (wordsV l (N - (i + 1)) (i + 1) (nameV l b i).2).2) := by
     rw [show N - i = (N - (i + 1)) + 1 by omega]
     rfl
    rw [hwi] at hw1 hw2
    refine ⟨N - (i + 1), _, by omega, Ghost.shape [(0, .ptr (d + 1) j 0), (5, .ms 0 0 (i + 1)), (8, .i N), (9, .i (i + 1 : Nat))] 1 ?_ rfl rfl, i + 1, done ++ [(nameV l b i).1], (nameV l b i).2, rfl, by omega, by simp [hdl], hw2, by simpa using hw1, by omega, by omega, ?_⟩
    ·simp only [List.mem_cons, List.not_mem_nil, or_false, forall_eq_or_imp, forall_eq, eget]
     simp
    ·rw [hn]
     simp [chr]
   ·have hb6 : ¬ nextV l (b + 1) 5 = 1 := fun e => by simp [e] at hb
    refine Run.skip ?_
    refine End.blk ?_
    refine End.kp [0, 5, 7, 8, 9] ?_
    have fx := ai (@ByteArray.size_append) (ai (@List.size_toArray.{0}) (ai (@ba_size) (ai wi (ai z4 (ai z3 (ai z2 (ai z1 (ai v4 (ai v3 (ai v2 (ai v1 (ai w4 (ai w3 (ai w2 (ai w1 (ai w0 (ai t3 (ai t2 (ai t1 (ai hap (ai hsl (ai hset (ai hl ft)))))))))))))))))))))))
    refine Run.go ?_
    refine End.blk ?_
    refine End.kp [0, 5, 8, 9] ?_
    refine Run.go ?_
    refine End.lp ?_
    have hn : nameV l b i = (⟨#[chr (97 + nextV l b 26), chr (97 + (i : Int) % 26), chr (97 + (i : Int) / 26 % 26)]⟩, b + 1 + 1) := by simp [nameV, chr, hb5, hb6]
    have hp := nameV_pos l b i
    have hwi : wordsV l (N - i) i b = ((nameV l b i).1 :: (wordsV l (N - (i + 1)) (i + 1) (nameV l b i).2).1, (wordsV l (N - (i + 1)) (i + 1) (nameV l b i).2).2) := by
     rw [show N - i = (N - (i + 1)) + 1 by omega]
     rfl
    rw [hwi] at hw1 hw2
    refine ⟨N - (i + 1), _, by omega, Ghost.shape [(0, .ptr (d + 1) j 0), (5, .ms 0 0 (i + 1)), (8, .i N), (9, .i (i + 1 : Nat))] 1 ?_ rfl rfl, i + 1, done ++ [(nameV l b i).1], (nameV l b i).2, rfl, by omega, by simp [hdl], hw2, by simpa using hw1, by omega, by omega, ?_⟩
    ·simp only [List.mem_cons, List.not_mem_nil, or_false, forall_eq_or_imp, forall_eq, eget]
     simp
    ·rw [hn]
     simp [chr]
 ·have hb := of_decide_eq_false hb
  have hiN : i = N := by omega
  subst hiN
  simp only [Nat.sub_self, wordsV, List.append_nil] at hw1 hw2
  refine Run.exit rfl ?_
  refine End.kp [5] ?_
  refine Run.seq ?_
  refine Run.ghost (Ghost.shut (t := 5) (j := 0) rfl rfl hsl) ?_
  simp only [eput, edel]
  have fx := ai hsl (ai hset (ai hl ft))
  refine Run.go ?_
  refine End.kp [4] ?_
  refine Run.ret (hQ _ _ ⟨.inr rfl, _, rfl, _, rfl, ?_⟩)
  exact ⟨by rw [hw1], by rw [hw2]⟩


set_option maxHeartbeats 2000000
structure LGate where
 table : Int
 ins : List Int
abbrev LGate.im (g : LGate) : List Im := [.int .i64 (-1), .int .u64 g.table, .sl (ints g.ins)]
structure LFlop where
 name : ByteArray
 d : Int
 en : Int
 init : Bool
abbrev LFlop.im (f : LFlop) : List Im := [.str f.name, .int .i64 (-1), .int .i64 f.d, .int .i64 f.en, .bool f.init]
structure LNet where
 inn : List ByteArray
 out : List ByteArray
 flops : List LFlop
 gates : List LGate
 outs : List Int
abbrev LNet.pv (n : LNet) : PV := .agg [.im (.sl (strs n.inn)), .im (.sl (strs n.out)), .im (.sl (n.flops.map LFlop.im)), .im (.sl (n.gates.map LGate.im)), .im (.sl (ints n.outs))]

set_option maxRecDepth 100000

abbrev bools (l : List Bool) : List (List Im) := l.map fun b => [.bool b]
abbrev us (l : List Int) : List (List Im) := l.map fun x => [.int .u64 x]
theorem bools_len (l : List Bool) : (bools l).length = l.length := by simp
theorem us_len (l : List Int) : (us l).length = l.length := by simp
theorem bools_get (l : List Bool) (i : Nat) (h : i < l.length) : (bools l)[i]? = some [.bool (l.getD i false)] := by simp [h]
theorem us_get (l : List Int) (i : Nat) (h : i < l.length) : (us l)[i]? = some [.int .u64 (l.getD i 0)] := by simp [h]
theorem wsucc {i n : Nat} (h : i < n) (hn : n ≤ 140737488355328) : IntKind.i64.wrap ((i : Int) + 1) = ((i + 1 : Nat) : Int) := by rw [wrap64 (by omega)]; omega
theorem fill_next (done : List (List Im)) (k : Nat) (z y : List Im) : (done ++ List.replicate (k + 1) z).set done.length y = (done ++ [y]) ++ List.replicate k z := by
 rw [List.set_append_right _ _ (Nat.le_refl _)]
 simp [List.replicate_succ]
theorem take_snoc {α : Type} (l : List α) (i : Nat) (z : α) (h : i < l.length) : l.take (i + 1) = l.take i ++ [l.getD i z] := by
 rw [List.take_add_one]
 simp [h]
theorem fill_map {α : Type} (f : α → List Im) (q : List α) (z : List Im) (d : α) (i : Nat) (h : i < q.length) :
  ((q.take i).map f ++ List.replicate (q.length - i) z).set i (f (q.getD i d)) = (q.take (i + 1)).map f ++ List.replicate (q.length - (i + 1)) z := by
 have hA : ((q.take i).map f).length = i := by simp; omega
 have := fill_next ((q.take i).map f) (q.length - (i + 1)) z (f (q.getD i d))
 rw [hA] at this
 rw [show q.length - i = q.length - (i + 1) + 1 by omega, this, take_snoc q i d h]
 simp
theorem fill_len {α : Type} (f : α → List Im) (q : List α) (z : List Im) (i : Nat) (h : i ≤ q.length) : ((q.take i).map f ++ List.replicate (q.length - i) z).length = q.length := by simp; omega
theorem fill_get {α : Type} (f : α → List Im) (q : List α) (z : List Im) (i : Nat) (h : i < q.length) : ((q.take i).map f ++ List.replicate (q.length - i) z)[i]? = some z := by
 have hA : ((q.take i).map f).length = i := by simp; omega
 rw [List.getElem?_append_right (by omega), hA, Nat.sub_self, List.getElem?_replicate, if_pos (by omega)]
theorem fill_all {α : Type} (f : α → List Im) (q : List α) (z : List Im) : (q.take q.length).map f ++ List.replicate (q.length - q.length) z = q.map f := by simp
abbrev b2u (b : Bool) : List Im := [.int .u64 (if b then 1 else 0)]
theorem b2u_map (q : List Bool) : q.map b2u = us (q.map fun b => if b then 1 else 0) := by simp
def valsV (l : List Int) : Nat → Int → List Bool
 | 0, _ => []
 | k + 1, a => (nextV l a 2 == 0) :: valsV l k (a + 1)
theorem valsV_len (l : List Int) : ∀ (k : Nat) (a : Int), (valsV l k a).length = k
 | 0, a => rfl
 | k + 1, a => by simp [valsV, valsV_len l k]
theorem Range_ok (low high : Int) (h1 : 0 ≤ low) (h2 : low ≤ high) (h3 : high ≤ 1000000) (l : List Int) (a : Int) (hs : StmOk l a) (hf : a + 1000 < 1099511627776) (up : Frs) (d j : Nat) (hl : fget up d j = some (stm l a)) : ACalls Try.prog 30 [.ptr d j 0, .i low, .i high] up fun v u => v = .i (low + nextV l a (high - low + 1)) ∧ u = fset up d j (stm l (a + 1)) := by
 have hset : ∀ o, fget (fset up d j o) d j = some o := fun o => fget_fset_same _ _ _ _ _ hl
 have hp := hs.pos
 
 obtain ⟨r0, r1⟩ := nextV_range l a (high - low + 1) (by omega)
 have w1 : IntKind.i64.wrap (high - low) = high - low := wrap64 (by omega)
 have w2 : IntKind.i64.wrap (high - low + 1) = high - low + 1 := wrap64 (by omega)
 have w3 : IntKind.i64.wrap (low + nextV l a (high - low + 1)) = low + nextV l a (high - low + 1) := wrap64 (by omega)
 refine ACalls.code Try.func30 rfl 19 rfl (by simp) [.tmp 6] rfl fun Q hQ => ?_
 simp only [ups, PV.up, argEnv]
 have ft := ai ty_3 (ai ty_4 (ai ty_23 trivial))
 refine Run.seq ?_
 have fx := ai w3 (ai w2 (ai w1 (ai hset (ai hl ft))))
 refine Run.go ?_
 refine End.kp [0, 1, 2] ?_
 refine Run.seq ?_
 refine Run.seq ?_
 refine Run.go ?_
 refine End.kp [0, 1, 2, 9] ?_
 refine Run.cond _ rfl (fun hb => ?_) (fun hb => ?_)
 ·have hb := of_decide_eq_true hb
  omega
 ·have hb := of_decide_eq_false hb
  refine Run.skip ?_
  refine End.kp [0, 1, 2] ?_
  refine Run.seq ?_
  refine Run.region rfl fun K hK => GOps.sim ?_
  refine GOps.call rfl rfl rfl rfl (by kernel_rfl) (ACalls.sim ?_)
  refine (Next_ok l a (high - low + 1) hs (by omega) _ (d + 1) j hl).mono fun v u hv => ?_
  obtain ⟨rfl, rfl⟩ := hv
  refine ⟨_, _, rfl, GOps.sim ?_⟩
  refine GOps.done (hK _ ?_); clear hK K
  refine End.kp [6] ?_
  refine Run.ret (hQ _ _ ⟨.inr rfl, _, rfl, _, rfl, ?_⟩)
  exact ⟨rfl, rfl⟩
theorem Values_ok (N : Nat) (hN : N ≤ 500) (l : List Int) (a : Int) (hs : StmOk l a) (hf : a + 1000 < 1099511627776) (up : Frs) (d j : Nat) (hl : fget up d j = some (stm l a)) : ACalls Try.prog 11 [.ptr d j 0, .i N] up fun v u => v = .im (.sl (bools (valsV l N a))) ∧ u = fset up d j (stm l (a + N)) := by
 have hset : ∀ o, fget (fset up d j o) d j = some o := fun o => fget_fset_same _ _ _ _ _ hl
 have hp := hs.pos
 refine ACalls.code Try.func11 rfl 17 rfl (by simp) [.tmp 4] rfl fun Q hQ => ?_
 simp only [ups, PV.up, argEnv]
 have ft := ai ty_3 (ai ty_4 (ai ty_23 (ai ty_33 trivial)))
 refine Run.seq ?_
 have fx := ai hset (ai hl ft)
 refine Run.go ?_
 refine End.kp [0, 1] ?_
 refine Run.seq ?_
 refine Run.go ?_
 refine End.kp [0, 1, 5] ?_
 refine Run.seq ?_
 refine Run.seq ?_
 refine Run.go ?_
 refine End.kp [0, 5, 6, 7] ?_
 refine Run.block ?_
 refine Run.ghost (Ghost.thaw (u := 5) 4 1 (by decide) rfl) ?_
 refine Run.ghost (Ghost.form [(0, .ptr (d + 1) j 0), (5, .ms 0 0 (0)), (6, .i N), (7, .i (0 : Nat))] 1 ⟨rfl, rfl, rfl, rfl, trivial⟩ rfl rfl) ?_
 refine Run.loop (fun m s => ∃ (i : Nat) (done : List Bool), m = N - i ∧ i ≤ N ∧ done.length = i ∧ done ++ valsV l (N - i) (a + i) = valsV l N a ∧
  s = ⟨[(0, .ptr (d + 1) j 0), (5, .ms 0 0 (i)), (6, .i N), (7, .i (i : Nat))], [.row 4 1 (bools done) 0], fset up d j (stm l (a + i))⟩) N ⟨0, [], rfl, by omega, rfl, by simp, by rw [show a + ((0 : Nat) : Int) = a by omega, fset_self up d j _ hl]; rfl⟩ fun m s hI => ?_
 obtain ⟨i, done, rfl, hi, hdl, hw1, rfl⟩ := hI
 have hsl : (bools done).length = i := by rw [bools_len, hdl]
 have hs0 : StmOk l (a + i) := ⟨hs.vals, hs.len, by omega, by omega⟩
 have hap : (i + 1) * 1 ≤ 140737488355328 := by omega
 refine Run.seq ?_
 have fx := ai hap (ai hsl fx)
 refine Run.go ?_
 refine End.kp [0, 5, 6, 7, 8] ?_
 refine Run.seq ?_
 refine Run.cond _ rfl (fun hb => ?_) (fun hb => ?_)
 ·have hb := of_decide_eq_true hb
  have hin : i < N := by omega
  have wi := wsucc hin (by omega)
  refine Run.skip ?_
  refine End.kp [0, 5, 6, 7] ?_
  refine Run.seq ?_
  refine Run.block ?_
  have fx := ai wi fx
  refine Run.region rfl fun K hK => GOps.sim ?_
  refine GOps.call rfl rfl rfl rfl (by kernel_rfl) (ACalls.sim ?_)
  refine (Next_ok l (a + i) 2 hs0 (by omega) _ (d + 1) j (hset _)).mono fun v u hv => ?_
  obtain ⟨rfl, rfl⟩ := hv
  refine ⟨_, _, rfl, GOps.sim ?_⟩
  refine GOps.done (hK _ ?_); clear hK K
  refine End.blk ?_
  refine End.kp [0, 5, 6, 7] ?_
  refine Run.go ?_
  refine End.lp ?_
  have hvi : valsV l (N - i) (a + i) = (nextV l (a + i) 2 == 0) :: valsV l (N - (i + 1)) (a + ((i + 1 : Nat) : Int)) := by
   rw [show N - i = (N - (i + 1)) + 1 by omega, show a + ((i + 1 : Nat) : Int) = a + i + 1 by omega]
   rfl
  rw [hvi] at hw1
  refine ⟨N - (i + 1), _, by omega, Ghost.form [(0, .ptr (d + 1) j 0), (5, .ms 0 0 (i + 1)), (6, .i N), (7, .i (i + 1 : Nat))] 1 ⟨rfl, rfl, rfl, rfl, trivial⟩ rfl rfl, i + 1, done ++ [nextV l (a + i) 2 == 0], rfl, by omega, by simp [hdl], by simpa using hw1, ?_⟩
  rw [show a + ((i + 1 : Nat) : Int) = a + i + 1 by omega]
  simp
 ·have hb := of_decide_eq_false hb
  have hiN : i = N := by omega
  subst hiN
  simp only [Nat.sub_self, valsV, List.append_nil] at hw1
  refine Run.exit rfl ?_
  refine End.kp [5] ?_
  refine Run.seq ?_
  refine Run.ghost (Ghost.shut (t := 5) (j := 0) rfl rfl hsl) ?_
  simp only [eput, edel]
  have fx := ai hap (ai hsl (ai hset (ai hl ft)))
  refine Run.go ?_
  refine End.kp [4] ?_
  refine Run.ret (hQ _ _ ⟨.inr rfl, _, rfl, _, rfl, ?_⟩)
  exact ⟨by rw [hw1], rfl⟩
theorem Lanes_ok (q : List Bool) (hq : q.length ≤ 1000) (up : Frs) : ACalls Try.prog 14 [.im (.sl (bools q))] up fun v u => v = .im (.sl (us (q.map fun b => if b then 1 else 0))) ∧ u = up := by
 have hc : (0 : Int) ≤ q.length := by omega
 have hm1 : ((8 : Nat) : Int) * (q.length : Int) ≤ 281474976710656 := by omega
 have hm2 : (q.length : Int) ≤ 9223372036854775807 := by omega
 refine ACalls.code Try.func14 rfl 22 rfl (by simp) [.tmp 2] rfl fun Q hQ => ?_
 simp only [ups, PV.up, argEnv]
 have ft := ai ty_3 (ai ty_4 (ai ty_33 (ai ty_39 (ai ty_99 trivial))))
 refine Run.seq ?_
 have fx := ai hm2 (ai hm1 (ai hc (ai bools_len ft)))
 refine Run.go ?_
 refine End.kp [0] ?_
 refine Run.seq ?_
 refine Run.go ?_
 refine End.kp [0, 3] ?_
 refine Run.seq ?_
 refine Run.seq ?_
 refine Run.go ?_
 refine End.kp [3, 9, 10, 11] ?_
 refine Run.block ?_
 refine Run.ghost (Ghost.form [(3, .ms 0 0 q.length), (9, .im (.sl (bools q))), (10, .i q.length), (11, .i (0 : Nat))] 1 ⟨rfl, rfl, rfl, rfl, trivial⟩ rfl rfl) ?_
 refine Run.loop (fun m s => ∃ (i : Nat), m = q.length - i ∧ i ≤ q.length ∧
  s = ⟨[(3, .ms 0 0 q.length), (9, .im (.sl (bools q))), (10, .i q.length), (11, .i (i : Nat))], [.row 99 1 ((q.take i).map b2u ++ List.replicate (q.length - i) [.int .u64 0]) 0], up⟩) q.length ⟨0, rfl, by omega, by simp⟩ fun m s hI => ?_
 obtain ⟨i, rfl, hi, rfl⟩ := hI
 have hrl := fill_len b2u q [.int .u64 0] i hi
 refine Run.seq ?_
 have fx := ai hrl fx
 refine Run.go ?_
 refine End.kp [3, 9, 10, 11, 12] ?_
 refine Run.seq ?_
 refine Run.cond _ rfl (fun hb => ?_) (fun hb => ?_)
 ·have hb := of_decide_eq_true hb
  have hin : i < q.length := by omega
  have wi := wsucc hin (by omega)
  have hg := bools_get q i hin
  have hri := fill_get b2u q [.int .u64 0] i hin
  have hfm := fill_map b2u q [.int .u64 0] false i hin
  refine Run.skip ?_
  refine End.kp [3, 9, 10, 11] ?_
  refine Run.seq ?_
  refine Run.block ?_
  refine Run.seq ?_
  have fx := ai hri (ai hin (ai (@Int.ofNat_lt) (ai zNn (ai hg (ai wi fx)))))
  refine Run.go ?_
  refine End.kp [3, 4, 5, 9, 10, 11] ?_
  refine Run.seq ?_
  refine Run.go ?_
  refine End.kp [3, 4, 9, 10, 11, 16] ?_
  refine Run.cond _ rfl (fun hb => ?_) (fun hb => ?_)
  ·have hb := hb
   refine Run.go ?_
   refine End.blk ?_
   refine End.kp [3, 9, 10, 11] ?_
   refine Run.go ?_
   refine End.lp ?_
   refine ⟨q.length - (i + 1), _, by omega, Ghost.form [(3, .ms 0 0 q.length), (9, .im (.sl (bools q))), (10, .i q.length), (11, .i (i + 1 : Nat))] 1 ⟨rfl, rfl, rfl, rfl, trivial⟩ rfl rfl, i + 1, rfl, by omega, ?_⟩
   rw [← hfm, hb]
   rfl
  ·have hb := hb
   refine Run.skip ?_
   refine End.blk ?_
   refine End.kp [3, 9, 10, 11] ?_
   refine Run.go ?_
   refine End.lp ?_
   refine ⟨q.length - (i + 1), _, by omega, Ghost.form [(3, .ms 0 0 q.length), (9, .im (.sl (bools q))), (10, .i q.length), (11, .i (i + 1 : Nat))] 1 ⟨rfl, rfl, rfl, rfl, trivial⟩ rfl rfl, i + 1, rfl, by omega, ?_⟩
   rw [← hfm, hb]
   have : ((q.take i).map b2u ++ List.replicate (q.length - i) [Im.int .u64 0]).set i (b2u false) = (q.take i).map b2u ++ List.replicate (q.length - i) [Im.int .u64 0] := by
    apply List.ext_getElem?
    intro k
    rw [List.getElem?_set]
    split
    ·rename_i e
     subst e
     rw [hri, if_pos (by rw [hrl]; omega)]
     rfl
    ·rfl
   rw [this]
   rfl
 ·have hb := of_decide_eq_false hb
  have hiN : i = q.length := by omega
  subst hiN
  rw [fill_all, b2u_map] at hrl ⊢
  refine Run.exit rfl ?_
  refine End.kp [3] ?_
  refine Run.seq ?_
  refine Run.ghost (Ghost.shut (t := 3) (j := 0) rfl rfl hrl) ?_
  simp only [eput, edel]
  have fx := ai hrl (ai hm2 (ai hm1 (ai hc (ai bools_len ft))))
  refine Run.go ?_
  refine End.kp [2] ?_
  refine Run.ret (hQ _ _ ⟨.inr rfl, _, rfl, _, rfl, ?_⟩)
  exact ⟨rfl, rfl⟩
abbrev u2b (w : Int) : List Im := [.bool (bits .and .u64 w 1 == 1)]
theorem u2b_map (q : List Int) : q.map u2b = bools (q.map fun w => bits .and .u64 w 1 == 1) := by simp
theorem Lane_ok (q : List Int) (hq : q.length ≤ 1000) (up : Frs) : ACalls Try.prog 20 [.im (.sl (us q))] up fun v u => v = .im (.sl (bools (q.map fun w => bits .and .u64 w 1 == 1))) ∧ u = up := by
 have hc : (0 : Int) ≤ q.length := by omega
 have hm1 : ((1 : Nat) : Int) * (q.length : Int) ≤ 281474976710656 := by omega
 have hm2 : (q.length : Int) ≤ 9223372036854775807 := by omega
 refine ACalls.code Try.func20 rfl 24 rfl (by simp) [.tmp 2] rfl fun Q hQ => ?_
 simp only [ups, PV.up, argEnv]
 have ft := ai ty_3 (ai ty_4 (ai ty_33 (ai ty_39 (ai ty_99 trivial))))
 refine Run.seq ?_
 have fx := ai hm2 (ai hm1 (ai hc (ai us_len ft)))
 refine Run.go ?_
 refine End.kp [0] ?_
 refine Run.seq ?_
 refine Run.go ?_
 refine End.kp [0, 3] ?_
 refine Run.seq ?_
 refine Run.seq ?_
 refine Run.go ?_
 refine End.kp [3, 9, 10, 11] ?_
 refine Run.block ?_
 refine Run.ghost (Ghost.form [(3, .ms 0 0 q.length), (9, .im (.sl (us q))), (10, .i q.length), (11, .i (0 : Nat))] 1 ⟨rfl, rfl, rfl, rfl, trivial⟩ rfl rfl) ?_
 refine Run.loop (fun m s => ∃ (i : Nat), m = q.length - i ∧ i ≤ q.length ∧
  s = ⟨[(3, .ms 0 0 q.length), (9, .im (.sl (us q))), (10, .i q.length), (11, .i (i : Nat))], [.row 4 1 ((q.take i).map u2b ++ List.replicate (q.length - i) [.bool false]) 0], up⟩) q.length ⟨0, rfl, by omega, by simp⟩ fun m s hI => ?_
 obtain ⟨i, rfl, hi, rfl⟩ := hI
 have hrl := fill_len u2b q [.bool false] i hi
 refine Run.seq ?_
 have fx := ai hrl fx
 refine Run.go ?_
 refine End.kp [3, 9, 10, 11, 12] ?_
 refine Run.seq ?_
 refine Run.cond _ rfl (fun hb => ?_) (fun hb => ?_)
 ·have hb := of_decide_eq_true hb
  have hin : i < q.length := by omega
  have wi := wsucc hin (by omega)
  have hg := us_get q i hin
  have hri := fill_get u2b q [.bool false] i hin
  have hfm := fill_map u2b q [.bool false] 0 i hin
  refine Run.skip ?_
  refine End.kp [3, 9, 10, 11] ?_
  refine Run.seq ?_
  refine Run.block ?_
  refine Run.seq ?_
  have fx := ai hri (ai hin (ai (@Int.ofNat_lt) (ai zNn (ai hg (ai wi fx)))))
  refine Run.go ?_
  refine End.kp [3, 4, 5, 9, 10, 11] ?_
  refine Run.go ?_
  refine End.blk ?_
  refine End.kp [3, 9, 10, 11] ?_
  refine Run.go ?_
  refine End.lp ?_
  refine ⟨q.length - (i + 1), _, by omega, Ghost.form [(3, .ms 0 0 q.length), (9, .im (.sl (us q))), (10, .i q.length), (11, .i (i + 1 : Nat))] 1 ⟨rfl, rfl, rfl, rfl, trivial⟩ rfl rfl, i + 1, rfl, by omega, ?_⟩
  rw [← hfm]
  rfl
 ·have hb := of_decide_eq_false hb
  have hiN : i = q.length := by omega
  subst hiN
  rw [fill_all, u2b_map] at hrl ⊢
  refine Run.exit rfl ?_
  refine End.kp [3] ?_
  refine Run.seq ?_
  refine Run.ghost (Ghost.shut (t := 3) (j := 0) rfl rfl hrl) ?_
  simp only [eput, edel]
  have fx := ai hrl (ai hm2 (ai hm1 (ai hc (ai us_len ft))))
  refine Run.go ?_
  refine End.kp [2] ?_
  refine Run.ret (hQ _ _ ⟨.inr rfl, _, rfl, _, rfl, ?_⟩)
  exact ⟨rfl, rfl⟩

set_option maxRecDepth 100000
set_option maxHeartbeats 2000000

structure LReg where
 name : ByteArray
 next : Int
 init : Bool
abbrev LReg.im (r : LReg) : List Im := [.str r.name, .int .i64 r.next, .bool r.init]
abbrev nd (p : Int × Int) : List Im := [.int .i64 p.1, .int .i64 p.2]
structure LGraph where
 inn : List ByteArray
 out : List ByteArray
 regs : List LReg
 ands : List (Int × Int)
 outs : List Int
abbrev LGraph.cells (g : LGraph) : List PV := [.im (.sl (strs g.inn)), .im (.sl (strs g.out)), .im (.sl (g.regs.map LReg.im)), .im (.sl (g.ands.map nd)), .im (.sl (ints g.outs))]
abbrev LGraph.pv (g : LGraph) : PV := .agg g.cells
theorem rim_len (l : List LReg) : (l.map LReg.im).length = l.length := by simp
theorem nd_len (l : List (Int × Int)) : (l.map nd).length = l.length := by simp

def drawN {α : Type} (f : Nat → Int → α × Int) (a : Int) : Nat → List α × Int
 | 0 => ([], a)
 | i + 1 => ((drawN f a i).1 ++ [(f i (drawN f a i).2).1], (f i (drawN f a i).2).2)
theorem drawN_len {α : Type} (f : Nat → Int → α × Int) (a : Int) : ∀ i, (drawN f a i).1.length = i
 | 0 => rfl
 | i + 1 => by simp [drawN, drawN_len f a i]
theorem drawN_pos {α : Type} (f : Nat → Int → α × Int) (a : Int) (c : Nat) (h : ∀ i b, b ≤ (f i b).2 ∧ (f i b).2 ≤ b + c) : ∀ i : Nat, a ≤ (drawN f a i).2 ∧ (drawN f a i).2 ≤ a + c * i
 | 0 => by simp [drawN]
 | i + 1 => by
  have h1 := drawN_pos f a c h i
  have h2 := h i (drawN f a i).2
  simp only [drawN]
  have : (c : Int) * ((i + 1 : Nat) : Int) = c * i + c := by rw [Int.natCast_add, Int.mul_add]; simp
  omega
theorem drawN_mem {α : Type} (f : Nat → Int → α × Int) (a : Int) (Q : Nat → α → Prop) (h : ∀ i b, Q i (f i b).1) : ∀ n i x, (drawN f a n).1[i]? = some x → Q i x
 | 0, i, x, hx => by simp [drawN] at hx
 | n + 1, i, x, hx => by
  simp only [drawN, List.getElem?_append, drawN_len] at hx
  split at hx
  ·exact drawN_mem f a Q h n i x hx
  ·rename_i hi
   have : i - n = 0 := by
    have := (List.getElem?_eq_some_iff.1 hx).1
    simp at this
    omega
   rw [this] at hx
   simp at hx
   subst hx
   have : i = n := by omega
   subst this
   exact h i _

def litX (l : List Int) (a n : Int) : Int × Int :=
 if nextV l (a + 1) 2 = 0 then (2 * (n - 1 - nextV l (a + 1 + 1) (min n 6)) + nextV l (a + 1 + 1 + 1) 2, a + 1 + 1 + 1 + 1)
 else (2 * nextV l a n + nextV l (a + 1 + 1) 2, a + 1 + 1 + 1)
theorem litX_pos (l : List Int) (a n : Int) : a ≤ (litX l a n).2 ∧ (litX l a n).2 ≤ a + (4 : Nat) := by
 unfold litX
 split <;> exact ⟨by simp only; omega, by simp only; omega⟩
theorem litX_range (l : List Int) (a n : Int) (h : 1 ≤ n) : 0 ≤ (litX l a n).1 ∧ (litX l a n).1 < 2 * n := by
 unfold litX
 split
 ·have h1 := nextV_range l (a + 1 + 1) (min n 6) (by omega)
  have h2 := nextV_range l (a + 1 + 1 + 1) 2 (by omega)
  simp only
  omega
 ·have h1 := nextV_range l a n h
  have h2 := nextV_range l (a + 1 + 1) 2 (by omega)
  simp only
  omega
def andX (l : List Int) (n : Int) (i : Nat) (a : Int) : (Int × Int) × Int := (((litX l a (n + i)).1, (litX l (litX l a (n + i)).2 (n + i)).1), (litX l (litX l a (n + i)).2 (n + i)).2)
theorem andX_pos (l : List Int) (n : Int) (i : Nat) (a : Int) : a ≤ (andX l n i a).2 ∧ (andX l n i a).2 ≤ a + (8 : Nat) := by
 have h1 := litX_pos l a (n + i)
 have h2 := litX_pos l (litX l a (n + i)).2 (n + i)
 simp only [andX]
 omega
def regX (l : List Int) (n : Int) (names : List ByteArray) (i : Nat) (a : Int) : LReg × Int := (⟨names.getD i ByteArray.empty, (litX l a n).1, nextV l (litX l a n).2 2 == 0⟩, (litX l a n).2 + 1)
theorem regX_pos (l : List Int) (n : Int) (names : List ByteArray) (i : Nat) (a : Int) : a ≤ (regX l n names i a).2 ∧ (regX l n names i a).2 ≤ a + (5 : Nat) := by
 have h1 := litX_pos l a n
 simp only [regX]
 omega
def graphV (l : List Int) (a : Int) (ins regs ands outs : Nat) : LGraph × Int :=
 let w := wordsV l (ins + regs) 0 a
 let o := wordsV l outs 0 w.2
 let n : Int := ((1 + ins + regs : Nat) : Int)
 let A := drawN (andX l n) o.2 ands
 let R := drawN (regX l (n + ands) (w.1.drop ins)) A.2 regs
 let O := drawN (fun _ b => litX l b (n + ands)) R.2 outs
 (⟨w.1.take ins, o.1, R.1, A.1, O.1⟩, O.2)
theorem lit_ok (n : Int) (hn : 1 ≤ n) (hn2 : n ≤ 1000000) (l : List Int) (a : Int) (hs : StmOk l a) (hf : a + 1000 < 1099511627776) (up : Frs) (d j : Nat) (hl : fget up d j = some (stm l a)) : ACalls Try.prog 52 [.ptr d j 0, .i n] up fun v u => v = .i (litX l a n).1 ∧ u = fset up d j (stm l (litX l a n).2) := by
 have hset : ∀ o, fget (fset up d j o) d j = some o := fun o => fget_fset_same _ _ _ _ _ hl
 have hp := hs.pos
 
 obtain ⟨r0, r1⟩ := nextV_range l a n hn
 have ok : ∀ b : Int, a ≤ b → b ≤ a + 10 → StmOk l b := fun b h1 h2 => ⟨hs.vals, hs.len, by omega, by omega⟩
 refine ACalls.code Try.func52 rfl 24 rfl (by simp) [.tmp 4] rfl fun Q hQ => ?_
 simp only [ups, PV.up, argEnv]
 have ft := ai ty_3 (ai ty_4 (ai ty_23 (ai ty_55 trivial)))
 refine Run.seq ?_
 have fx := ai hset (ai hl ft)
 refine Run.go ?_
 refine End.kp [0, 1] ?_
 refine Run.seq ?_
 refine Run.region rfl fun K hK => GOps.sim ?_
 refine GOps.call rfl rfl rfl rfl (by kernel_rfl) (ACalls.sim ?_)
 refine (Next_ok l a n hs (by omega) _ (d + 1) j hl).mono fun v u hv => ?_
 obtain ⟨rfl, rfl⟩ := hv
 refine ⟨_, _, rfl, GOps.sim ?_⟩
 refine GOps.done (hK _ ?_); clear hK K
 refine End.kp [0, 1, 5] ?_
 refine Run.seq ?_
 refine Run.seq ?_
 refine Run.region rfl fun K hK => GOps.sim ?_
 refine GOps.call rfl rfl rfl rfl (by kernel_rfl) (ACalls.sim ?_)
 refine (Next_ok l (a + 1) 2 (ok _ (by omega) (by omega)) (by omega) _ (d + 1) j (hset _)).mono fun v u hv => ?_
 obtain ⟨rfl, rfl⟩ := hv
 refine ⟨_, _, rfl, GOps.sim ?_⟩
 refine GOps.done (hK _ ?_); clear hK K
 refine End.kp [0, 1, 5, 11] ?_
 refine Run.cond _ rfl (fun hb => ?_) (fun hb => ?_)
 ·have hb := eq_of_beq hb
  have hmin : (if (6 : Int) < n then 6 else n) = min n 6 := by split <;> omega
  obtain ⟨k0, k1⟩ := nextV_range l (a + 1 + 1) (min n 6) (by omega)
  obtain ⟨m0, m1⟩ := nextV_range l (a + 1 + 1 + 1) 2 (by omega)
  have w1 : IntKind.i64.wrap (n - 1) = n - 1 := wrap64 (by omega)
  have w2 : IntKind.i64.wrap (n - 1 - nextV l (a + 1 + 1) (min n 6)) = n - 1 - nextV l (a + 1 + 1) (min n 6) := wrap64 (by omega)
  have w3 : IntKind.i64.wrap (2 * (n - 1 - nextV l (a + 1 + 1) (min n 6))) = 2 * (n - 1 - nextV l (a + 1 + 1) (min n 6)) := wrap64 (by omega)
  have w4 : IntKind.i64.wrap (2 * (n - 1 - nextV l (a + 1 + 1) (min n 6)) + nextV l (a + 1 + 1 + 1) 2) = 2 * (n - 1 - nextV l (a + 1 + 1) (min n 6)) + nextV l (a + 1 + 1 + 1) 2 := wrap64 (by omega)
  have fx := ai w4 (ai w3 (ai w2 (ai w1 (ai hmin (ai hset (ai hl ft))))))
  refine Run.region rfl fun K hK => GOps.sim ?_
  refine GOps.call rfl rfl rfl rfl (by kernel_rfl) (ACalls.sim ?_)
  refine (Next_ok l (a + 1 + 1) (min n 6) (ok _ (by omega) (by omega)) (by omega) _ (d + 1) j (hset _)).mono fun v u hv => ?_
  obtain ⟨rfl, rfl⟩ := hv
  refine ⟨_, _, rfl, GOps.sim ?_⟩
  refine GOps.done (hK _ ?_); clear hK K
  refine End.kp [0, 5] ?_
  refine Run.seq ?_
  refine Run.region rfl fun K hK => GOps.sim ?_
  refine GOps.call rfl rfl rfl rfl (by kernel_rfl) (ACalls.sim ?_)
  refine (Next_ok l (a + 1 + 1 + 1) 2 (ok _ (by omega) (by omega)) (by omega) _ (d + 1) j (hset _)).mono fun v u hv => ?_
  obtain ⟨rfl, rfl⟩ := hv
  refine ⟨_, _, rfl, GOps.sim ?_⟩
  refine GOps.done (hK _ ?_); clear hK K
  refine End.kp [4] ?_
  refine Run.ret (hQ _ _ ⟨.inr rfl, _, rfl, _, rfl, ?_⟩)
  exact ⟨by simp [litX, hb], by simp [litX, hb]⟩
 ·have hb : ¬ nextV l (a + 1) 2 = 0 := fun e => by simp [e] at hb
  obtain ⟨m0, m1⟩ := nextV_range l (a + 1 + 1) 2 (by omega)
  have w3 : IntKind.i64.wrap (2 * nextV l a n) = 2 * nextV l a n := wrap64 (by omega)
  have w4 : IntKind.i64.wrap (2 * nextV l a n + nextV l (a + 1 + 1) 2) = 2 * nextV l a n + nextV l (a + 1 + 1) 2 := wrap64 (by omega)
  refine Run.skip ?_
  refine End.kp [0, 5] ?_
  refine Run.seq ?_
  have fx := ai w4 (ai w3 (ai hset (ai hl ft)))
  refine Run.region rfl fun K hK => GOps.sim ?_
  refine GOps.call rfl rfl rfl rfl (by kernel_rfl) (ACalls.sim ?_)
  refine (Next_ok l (a + 1 + 1) 2 (ok _ (by omega) (by omega)) (by omega) _ (d + 1) j (hset _)).mono fun v u hv => ?_
  obtain ⟨rfl, rfl⟩ := hv
  refine ⟨_, _, rfl, GOps.sim ?_⟩
  refine GOps.done (hK _ ?_); clear hK K
  refine End.kp [4] ?_
  refine Run.ret (hQ _ _ ⟨.inr rfl, _, rfl, _, rfl, ?_⟩)
  exact ⟨by simp [litX, hb], by simp [litX, hb]⟩
theorem Graph_ok (ins regs ands outs : Nat) (h1 : ins ≤ 50) (h2 : regs ≤ 50) (h3 : ands ≤ 100) (h4 : outs ≤ 50) (l : List Int) (a : Int) (hs : StmOk l a) (hf : a + 10000 < 1099511627776) (up : Frs) (d j : Nat) (hl : fget up d j = some (stm l a)) (k : Nat) (hk : fget up 0 k = some .dead) :
  ACalls Try.prog 29 [.ptr d j 0, .i ins, .i regs, .i ands, .i outs] up fun v u => v = .agg [.im (.sl (strs (graphV l a ins regs ands outs).1.inn)), .im (.sl (strs (graphV l a ins regs ands outs).1.out)), .im (.sl ((graphV l a ins regs ands outs).1.regs.map LReg.im)), .ms 0 k ands, .im (.sl (ints (graphV l a ins regs ands outs).1.outs))] ∧
   u = fset (fset up d j (stm l (graphV l a ins regs ands outs).2)) 0 k (.row 59 2 ((graphV l a ins regs ands outs).1.ands.map nd) 0) := by
 have hset : ∀ o, fget (fset up d j o) d j = some o := fun o => fget_fset_same _ _ _ _ _ hl
 have hne : ¬ (0 = d ∧ k = j) := ref_ne hl hk (by simp)
 have hkset : ∀ o, fget (fset up d j o) 0 k = some .dead := fun o => by rw [fget_fset_ne hne]; exact hk
 have hp := hs.pos
 have ok : ∀ b : Int, a ≤ b → b ≤ a + 3000 → StmOk l b := fun b h1 h2 => ⟨hs.vals, hs.len, by omega, by omega⟩
 have wif : IntKind.i64.wrap ((ins : Int) + regs) = ((ins + regs : Nat) : Int) := by rw [wrap64 (by omega)]; omega
 generalize hG : graphV l a ins regs ands outs = G
 generalize hwv : wordsV l (ins + regs) 0 a = W
 obtain ⟨wn, a1⟩ := W
 obtain ⟨p1, p2, p3⟩ := wordsV_pos l (ins + regs) 0 a
 rw [hwv] at p1 p2 p3
 simp only at p1 p2 p3
 generalize hov : wordsV l outs 0 a1 = O
 obtain ⟨on, a2⟩ := O
 obtain ⟨q1, q2, q3⟩ := wordsV_pos l outs 0 a1
 rw [hov] at q1 q2 q3
 simp only at q1 q2 q3
 have hsi : (strs wn).length = ins + regs := by rw [strs_len, p3]
 have hslice : 0 ≤ ins ∧ ins = ins ∧ ins ≤ (strs wn).length ∧ szOk 1 0 (strs wn) := ⟨by omega, rfl, by omega, .inl rfl⟩
 have htake : (strs wn).take ins = strs (wn.take ins) := by simp [strs, List.map_take]
 have wf1 : IntKind.i64.wrap (1 + (ins : Int)) = 1 + (ins : Int) := wrap64 (by omega)
 have wf2 : IntKind.i64.wrap (1 + (ins : Int) + regs) = 1 + (ins : Int) + regs := wrap64 (by omega)
 obtain ⟨n, hn⟩ : ∃ f : Int, f = 1 + (ins : Int) + regs := ⟨_, rfl⟩
 have wf3 : IntKind.i64.wrap n = n := wrap64 (by omega)
 have wfg : IntKind.i64.wrap (n + ands) = n + ands := wrap64 (by omega)
 have pA : ∀ i : Nat, _ := drawN_pos (andX l n) a2 8 (andX_pos l n)
 generalize ha3 : (drawN (andX l n) a2 ands).2 = a3
 have pA3 := pA ands
 rw [ha3] at pA3
 have pR : ∀ i : Nat, _ := drawN_pos (regX l (n + ands) (wn.drop ins)) a3 5 (regX_pos l (n + ands) (wn.drop ins))
 generalize ha4 : (drawN (regX l (n + ands) (wn.drop ins)) a3 regs).2 = a4
 have pR4 := pR regs
 rw [ha4] at pR4
 have pO : ∀ i : Nat, _ := drawN_pos (fun _ b => litX l b (n + ands)) a4 4 (fun _ b => litX_pos l b (n + ands))
 have hN : G = (⟨wn.take ins, on, (drawN (regX l (n + ands) (wn.drop ins)) a3 regs).1, (drawN (andX l n) a2 ands).1, (drawN (fun _ b => litX l b (n + ands)) a4 outs).1⟩, (drawN (fun _ b => litX l b (n + ands)) a4 outs).2) := by
  have hc : ((1 + ins + regs : Nat) : Int) = n := by omega
  rw [← hG]
  simp only [graphV, hwv, hov, hc, ha3, ha4]
 refine ACalls.codeI Try.func29 rfl 94 rfl (by simp) [.cell 10 31] rfl k fun Q hQ => ?_
 simp only [ups, PV.up, argEnv]
 have ft := ai ty_2 (ai ty_3 (ai ty_4 (ai ty_9 (ai ty_23 (ai ty_26 (ai ty_27 (ai ty_28 (ai ty_29 (ai ty_31 (ai ty_55 (ai ty_57 (ai ty_59 trivial))))))))))))
 refine Run.seq ?_
 have fx := ai wif (ai hset (ai hl ft))
 refine Run.go ?_
 refine End.kp [0, 1, 2, 3, 4, 10] ?_
 refine Run.seq ?_
 refine Run.region rfl fun K hK => GOps.sim ?_
 refine GOps.call rfl rfl rfl rfl (by kernel_rfl) (ACalls.sim ?_)
 refine (Words_ok (ins + regs) (by omega) l a hs (by omega) _ (d + 1) j hl).mono fun v u hv => ?_
 obtain ⟨rfl, rfl⟩ := hv
 rw [hwv]
 have fx := ai zTn (ai zNn (ai wf3 (ai hn.symm (ai wf2 (ai wf1 (ai htake (ai hslice fx)))))))
 refine ⟨_, _, rfl, GOps.sim ?_⟩
 refine GOps.done (hK _ ?_); clear hK K
 refine End.kp [0, 1, 2, 3, 4, 10, 11] ?_
 refine Run.seq ?_
 refine Run.ghost (.spares 1) ?_
 simp only [ASt.pushN, ASt.push, List.append_assoc, List.cons_append, List.nil_append]
 refine Run.drawA fun K hK => ?_
 refine DOps.sim ?_
 refine DOps.call (.im (.sl (strs on))) [((d + 1, j), stm l (a1))] [((d + 1, j), stm l (a2))] rfl rfl rfl rfl (by kernel_rfl) (by simp [Agree, ASt.fr, hset]) (fun u hu => by have := Words_ok outs (by omega) l a1 (ok _ (by omega) (by omega)) (by omega) u (d + 1) j (hu (((d + 1, j), stm l (a1))) (by simp)); rw [hov] at this; exact this) ?_
 refine DOps.sim ?_
 refine DOps.nil (by rfl) (hK _ ?_); clear hK K
 refine End.kp [0, 1, 2, 3, 4, 10, 11, 12] ?_
 refine Run.seq ?_
 refine Run.go ?_
 refine End.kp [0, 1, 2, 3, 4, 10, 11, 12, 13] ?_
 refine Run.seq ?_
 refine Run.seq ?_
 refine Run.go ?_
 refine End.kp [0, 1, 2, 3, 4, 10, 11, 12, 13, 33, 34] ?_
 refine Run.block ?_
 refine Run.ghost (.thawBox (j := 1) (i := 3) 59 2 (by decide) rfl rfl) ?_
 refine Run.ghost (Ghost.form [(0, .ptr (d + 1) j 0), (1, .i ins), (2, .i regs), (3, .i ands), (4, .i outs), (10, .ptr 0 0 0), (11, .im (.sl (strs wn))), (12, .ptr 0 1 0), (13, .i n), (33, .i ands), (34, .i (0 : Nat))] 3 ⟨rfl, rfl, rfl, rfl, rfl, rfl, rfl, rfl, rfl, rfl, rfl, trivial⟩ rfl rfl) ?_
 refine Run.loop (fun m s => ∃ i : Nat, m = ands - i ∧ i ≤ ands ∧ s = ⟨[(0, .ptr (d + 1) j 0), (1, .i ins), (2, .i regs), (3, .i ands), (4, .i outs), (10, .ptr 0 0 0), (11, .im (.sl (strs wn))), (12, .ptr 0 1 0), (13, .i n), (33, .i ands), (34, .i (i : Nat))], [.box [.nils, .nils, .nils, .nils, .nils], .box [.full (strs (wn.take ins)), .im (.sl (strs on)), .nils, .ms 0 2 i, .nils], .row 59 2 ((drawN (andX l n) a2 i).1.map nd) 0], fset up d j (stm l (drawN (andX l n) a2 i).2)⟩) ands ⟨0, rfl, by omega, rfl⟩ fun m s hI => ?_
 obtain ⟨i, rfl, hi, rfl⟩ := hI
 have hsl : ((drawN (andX l n) a2 i).1.map nd).length = i := by rw [nd_len, drawN_len]
 have pAi := pA i
 have hc : (drawN (andX l n) a2 i).2 ≤ a2 + 800 := by omega
 generalize hcA : (drawN (andX l n) a2 i).2 = c at pAi hc
 have wi : IntKind.i64.wrap ((i : Int) + 1) = ((i + 1 : Nat) : Int) := by rw [wrap64 (by omega)]; omega
 have wfi : IntKind.i64.wrap (n + (i : Int)) = n + (i : Int) := wrap64 (by omega)
 have hap : (i + 1) * 16 ≤ 140737488355328 := by omega
 have pl1 := litX_pos l c (n + i)
 refine Run.seq ?_
 have fx := ai hap (ai wfi (ai wi (ai hsl (ai zTn (ai zNn (ai wf3 (ai hn.symm (ai wf2 (ai wf1 (ai htake (ai hslice (ai wif (ai hset (ai hl ft))))))))))))))
 refine Run.go ?_
 refine End.kp [0, 1, 2, 3, 4, 10, 11, 12, 13, 33, 34, 35] ?_
 refine Run.seq ?_
 refine Run.cond _ rfl (fun hb => ?_) (fun hb => ?_)
 ·have hb := of_decide_eq_true hb
  have hin : i < ands := by omega
  refine Run.skip ?_
  refine End.kp [0, 1, 2, 3, 4, 10, 11, 12, 13, 33, 34] ?_
  refine Run.seq ?_
  refine Run.block ?_
  refine Run.seq ?_
  refine Run.go ?_
  refine End.kp [0, 1, 2, 3, 4, 10, 11, 12, 13, 14, 33, 34] ?_
  refine Run.ghost (.spares 1) ?_
  simp only [ASt.pushN, ASt.push, List.append_assoc, List.cons_append, List.nil_append]
  refine Run.drawA fun K hK => ?_
  refine DOps.sim ?_
  refine DOps.call (.i (litX l (c) (n + i)).1) [((d + 1, j), stm l (c))] [((d + 1, j), stm l ((litX l (c) (n + i)).2))] rfl rfl rfl rfl (by kernel_rfl) (by simp [Agree, ASt.fr, hset]) (fun u hu => lit_ok (n + i) (by omega) (by omega) l (c) (ok _ (by omega) (by omega)) (by omega) u (d + 1) j (hu (((d + 1, j), stm l (c))) (by simp))) ?_
  refine DOps.sim ?_
  refine DOps.call (.i (litX l ((litX l c (n + i)).2) (n + i)).1) [((d + 1, j), stm l ((litX l c (n + i)).2))] [((d + 1, j), stm l ((litX l ((litX l c (n + i)).2) (n + i)).2))] rfl rfl rfl rfl (by kernel_rfl) (by simp [Agree, ASt.fr, hset]) (fun u hu => lit_ok (n + i) (by omega) (by omega) l ((litX l c (n + i)).2) (ok _ (by omega) (by omega)) (by omega) u (d + 1) j (hu (((d + 1, j), stm l ((litX l c (n + i)).2))) (by simp))) ?_
  refine DOps.sim ?_
  refine DOps.nil (by rfl) (hK _ ?_); clear hK K
  refine End.blk ?_
  refine End.kp [0, 1, 2, 3, 4, 10, 11, 12, 13, 33, 34] ?_
  refine Run.go ?_
  refine End.lp ?_
  refine ⟨ands - (i + 1), _, by omega, Ghost.form [(0, .ptr (d + 1) j 0), (1, .i ins), (2, .i regs), (3, .i ands), (4, .i outs), (10, .ptr 0 0 0), (11, .im (.sl (strs wn))), (12, .ptr 0 1 0), (13, .i n), (33, .i ands), (34, .i (i + 1 : Nat))] 3 ⟨rfl, rfl, rfl, rfl, rfl, rfl, rfl, rfl, rfl, rfl, rfl, trivial⟩ rfl rfl, i + 1, rfl, by omega, ?_⟩
  simp [drawN, hcA, andX]
 ·have hb := of_decide_eq_false hb
  have hiN : i = ands := by omega
  rw [hiN] at hsl hcA
  rw [ha3] at hcA
  subst hcA
  have hnf : ∀ k : Nat, k < regs → (strs wn)[ins + k]? = some [.str ((wn.drop ins).getD k ByteArray.empty)] := fun k hk => by
   have : ins + k < wn.length := by omega
   simp [this]
  refine Run.exit rfl ?_
  refine End.kp [0, 1, 2, 3, 4, 10, 11, 12, 13] ?_
  refine Run.seq ?_
  refine Run.seq ?_
  have fx := ai hsi (ai hap (ai wfi (ai wi (ai hsl (ai zTn (ai zNn (ai wf3 (ai hn.symm (ai wf2 (ai wf1 (ai htake (ai hslice (ai wif (ai hset (ai hl ft)))))))))))))))
  refine Run.go ?_
  refine End.kp [0, 1, 3, 4, 10, 11, 12, 13, 54, 55] ?_
  refine Run.block ?_
  rw [hiN]
  refine Run.ghost (.thawBox (j := 1) (i := 2) 57 3 (by decide) rfl rfl) ?_
  refine Run.ghost (Ghost.form [(0, .ptr (d + 1) j 0), (1, .i ins), (3, .i ands), (4, .i outs), (10, .ptr 0 0 0), (11, .im (.sl (strs wn))), (12, .ptr 0 1 0), (13, .i n), (54, .i regs), (55, .i (0 : Nat))] 4 ⟨rfl, rfl, rfl, rfl, rfl, rfl, rfl, rfl, rfl, rfl, trivial⟩ rfl rfl) ?_
  refine Run.loop (fun m s => ∃ k : Nat, m = regs - k ∧ k ≤ regs ∧ s = ⟨[(0, .ptr (d + 1) j 0), (1, .i ins), (3, .i ands), (4, .i outs), (10, .ptr 0 0 0), (11, .im (.sl (strs wn))), (12, .ptr 0 1 0), (13, .i n), (54, .i regs), (55, .i (k : Nat))], [.box [.nils, .nils, .nils, .nils, .nils], .box [.full (strs (wn.take ins)), .im (.sl (strs on)), .ms 0 3 k, .ms 0 2 ands, .nils], .row 59 2 ((drawN (andX l n) a2 ands).1.map nd) 0, .row 57 3 ((drawN (regX l (n + ands) (wn.drop ins)) a3 k).1.map LReg.im) 0], fset up d j (stm l (drawN (regX l (n + ands) (wn.drop ins)) a3 k).2)⟩) regs ⟨0, rfl, by omega, rfl⟩ fun m s hI => ?_
  obtain ⟨k', rfl, hk', rfl⟩ := hI
  have hfl : ((drawN (regX l (n + ands) (wn.drop ins)) a3 k').1.map LReg.im).length = k' := by rw [rim_len, drawN_len]
  have pRi := pR k'
  have hc : (drawN (regX l (n + ands) (wn.drop ins)) a3 k').2 ≤ a3 + 250 := by omega
  generalize hcR : (drawN (regX l (n + ands) (wn.drop ins)) a3 k').2 = c at pRi hc
  have wk : IntKind.i64.wrap ((k' : Int) + 1) = ((k' + 1 : Nat) : Int) := by rw [wrap64 (by omega)]; omega
  have wik : IntKind.i64.wrap ((ins : Int) + k') = ((ins + k' : Nat) : Int) := by rw [wrap64 (by omega)]; omega
  have hak : (k' + 1) * 32 ≤ 140737488355328 := by omega
  have pl1 := litX_pos l c (n + ands)
  refine Run.seq ?_
  have fx := ai wfg (ai hak (ai wik (ai wk (ai hfl (ai hsi (ai hap (ai wfi (ai wi (ai hsl (ai zTn (ai zNn (ai wf3 (ai hn.symm (ai wf2 (ai wf1 (ai htake (ai hslice (ai wif (ai hset (ai hl ft))))))))))))))))))))
  refine Run.go ?_
  refine End.kp [0, 1, 3, 4, 10, 11, 12, 13, 54, 55, 56] ?_
  refine Run.seq ?_
  refine Run.cond _ rfl (fun hb => ?_) (fun hb => ?_)
  ·have hb := of_decide_eq_true hb
   have hkf : k' < regs := by omega
   have hnk := hnf k' hkf
   generalize hnm : (wn.drop ins).getD k' ByteArray.empty = nm at hnk
   refine Run.skip ?_
   refine End.kp [0, 1, 3, 4, 10, 11, 12, 13, 54, 55] ?_
   refine Run.seq ?_
   refine Run.block ?_
   refine Run.seq ?_
   have fx := ai hnk (ai wfg (ai hak (ai wik (ai wk (ai hfl (ai hsi (ai hap (ai wfi (ai wi (ai hsl (ai zTn (ai zNn (ai wf3 (ai hn.symm (ai wf2 (ai wf1 (ai htake (ai hslice (ai wif (ai hset (ai hl ft)))))))))))))))))))))
   refine Run.go ?_
   refine End.kp [0, 1, 3, 4, 10, 11, 12, 13, 15, 54, 55] ?_
   refine Run.ghost (.spares 1) ?_
   simp only [ASt.pushN, ASt.push, List.append_assoc, List.cons_append, List.nil_append]
   refine Run.drawA fun K hK => ?_
   refine DOps.sim ?_
   refine DOps.call (.i (litX l (c) (n + ands)).1) [((d + 1, j), stm l (c))] [((d + 1, j), stm l ((litX l (c) (n + ands)).2))] rfl rfl rfl rfl (by kernel_rfl) (by simp [Agree, ASt.fr, hset]) (fun u hu => lit_ok (n + ands) (by omega) (by omega) l (c) (ok _ (by omega) (by omega)) (by omega) u (d + 1) j (hu (((d + 1, j), stm l (c))) (by simp))) ?_
   refine DOps.sim ?_
   refine DOps.call (.i (nextV l (litX l c (n + ands)).2 2)) [((d + 1, j), stm l ((litX l c (n + ands)).2))] [((d + 1, j), stm l ((litX l c (n + ands)).2 + 1))] rfl rfl rfl rfl (by kernel_rfl) (by simp [Agree, ASt.fr, hset]) (fun u hu => Next_ok l (litX l c (n + ands)).2 2 (ok _ (by omega) (by omega)) (by omega) u (d + 1) j (hu (((d + 1, j), stm l ((litX l c (n + ands)).2))) (by simp))) ?_
   refine DOps.sim ?_
   refine DOps.nil (by rfl) (hK _ ?_); clear hK K
   refine End.blk ?_
   refine End.kp [0, 1, 3, 4, 10, 11, 12, 13, 54, 55] ?_
   refine Run.go ?_
   refine End.lp ?_
   refine ⟨regs - (k' + 1), _, by omega, Ghost.form [(0, .ptr (d + 1) j 0), (1, .i ins), (3, .i ands), (4, .i outs), (10, .ptr 0 0 0), (11, .im (.sl (strs wn))), (12, .ptr 0 1 0), (13, .i n), (54, .i regs), (55, .i (k' + 1 : Nat))] 4 ⟨rfl, rfl, rfl, rfl, rfl, rfl, rfl, rfl, rfl, rfl, trivial⟩ rfl rfl, k' + 1, rfl, by omega, ?_⟩
   have hnm2 : wn[ins + k']?.getD ByteArray.empty = nm := by rw [← hnm]; simp
   simp [drawN, hcR, regX, hnm2]
  ·have hb := of_decide_eq_false hb
   have hkR : k' = regs := by omega
   rw [hkR] at hfl hcR
   rw [ha4] at hcR
   subst hcR
   refine Run.exit rfl ?_
   refine End.kp [0, 3, 4, 10, 12, 13] ?_
   refine Run.seq ?_
   refine Run.seq ?_
   have fx := ai wfg (ai hak (ai wik (ai wk (ai hfl (ai hsi (ai hap (ai wfi (ai wi (ai hsl (ai zTn (ai zNn (ai wf3 (ai hn.symm (ai wf2 (ai wf1 (ai htake (ai hslice (ai wif (ai hset (ai hl ft))))))))))))))))))))
   refine Run.go ?_
   refine End.kp [0, 3, 10, 12, 13, 79, 80] ?_
   refine Run.block ?_
   rw [hkR]
   refine Run.ghost (.thawBox (j := 1) (i := 4) 55 1 (by decide) rfl rfl) ?_
   refine Run.ghost (Ghost.form [(0, .ptr (d + 1) j 0), (3, .i ands), (10, .ptr 0 0 0), (12, .ptr 0 1 0), (13, .i n), (79, .i outs), (80, .i (0 : Nat))] 5 ⟨rfl, rfl, rfl, rfl, rfl, rfl, rfl, trivial⟩ rfl rfl) ?_
   refine Run.loop (fun m s => ∃ q : Nat, m = outs - q ∧ q ≤ outs ∧ s = ⟨[(0, .ptr (d + 1) j 0), (3, .i ands), (10, .ptr 0 0 0), (12, .ptr 0 1 0), (13, .i n), (79, .i outs), (80, .i (q : Nat))], [.box [.nils, .nils, .nils, .nils, .nils], .box [.full (strs (wn.take ins)), .im (.sl (strs on)), .ms 0 3 regs, .ms 0 2 ands, .ms 0 4 q], .row 59 2 ((drawN (andX l n) a2 ands).1.map nd) 0, .row 57 3 ((drawN (regX l (n + ands) (wn.drop ins)) a3 regs).1.map LReg.im) 0, .row 55 1 (ints (drawN (fun _ b => litX l b (n + ands)) a4 q).1) 0], fset up d j (stm l (drawN (fun _ b => litX l b (n + ands)) a4 q).2)⟩) outs ⟨0, rfl, by omega, rfl⟩ fun m s hI => ?_
   obtain ⟨q, rfl, hq, rfl⟩ := hI
   have hql : (ints (drawN (fun _ b => litX l b (n + ands)) a4 q).1).length = q := by rw [ints_len, drawN_len]
   have pOi := pO q
   have hc : (drawN (fun _ b => litX l b (n + ands)) a4 q).2 ≤ a4 + 200 := by omega
   generalize hcO : (drawN (fun _ b => litX l b (n + ands)) a4 q).2 = c at pOi hc
   have wq : IntKind.i64.wrap ((q : Int) + 1) = ((q + 1 : Nat) : Int) := by rw [wrap64 (by omega)]; omega
   have haq : (q + 1) * 8 ≤ 140737488355328 := by omega
   refine Run.seq ?_
   have fx := ai haq (ai wq (ai hql (ai wfg (ai hak (ai wik (ai wk (ai hfl (ai hsi (ai hap (ai wfi (ai wi (ai hsl (ai zTn (ai zNn (ai wf3 (ai hn.symm (ai wf2 (ai wf1 (ai htake (ai hslice (ai wif (ai hset (ai hl ft)))))))))))))))))))))))
   refine Run.go ?_
   refine End.kp [0, 3, 10, 12, 13, 79, 80, 81] ?_
   refine Run.seq ?_
   refine Run.cond _ rfl (fun hb => ?_) (fun hb => ?_)
   ·have hb := of_decide_eq_true hb
    have hqn : q < outs := by omega
    refine Run.skip ?_
    refine End.kp [0, 3, 10, 12, 13, 79, 80] ?_
    refine Run.seq ?_
    refine Run.block ?_
    refine Run.ghost (.spares 1) ?_
    simp only [ASt.pushN, ASt.push, List.append_assoc, List.cons_append, List.nil_append]
    refine Run.drawA fun K hK => ?_
    refine DOps.sim ?_
    refine DOps.call (.i (litX l (c) (n + ands)).1) [((d + 1, j), stm l (c))] [((d + 1, j), stm l ((litX l (c) (n + ands)).2))] rfl rfl rfl rfl (by kernel_rfl) (by simp [Agree, ASt.fr, hset]) (fun u hu => lit_ok (n + ands) (by omega) (by omega) l (c) (ok _ (by omega) (by omega)) (by omega) u (d + 1) j (hu (((d + 1, j), stm l (c))) (by simp))) ?_
    refine DOps.sim ?_
    refine DOps.nil (by rfl) (hK _ ?_); clear hK K
    refine End.blk ?_
    refine End.kp [0, 3, 10, 12, 13, 79, 80] ?_
    refine Run.go ?_
    refine End.lp ?_
    refine ⟨outs - (q + 1), _, by omega, Ghost.form [(0, .ptr (d + 1) j 0), (3, .i ands), (10, .ptr 0 0 0), (12, .ptr 0 1 0), (13, .i n), (79, .i outs), (80, .i (q + 1 : Nat))] 5 ⟨rfl, rfl, rfl, rfl, rfl, rfl, rfl, trivial⟩ rfl rfl, q + 1, rfl, by omega, ?_⟩
    simp [drawN, hcO]
   ·have hb := of_decide_eq_false hb
    have hqe : q = outs := by omega
    rw [hqe] at hql hcO
    subst hcO
    refine Run.exit rfl ?_
    refine End.kp [10, 12] ?_
    refine Run.seq ?_
    rw [hqe]
    refine Run.ghost (.freeze (d := 0) (j := 3) rfl) ?_
    refine Run.ghost (.freeze (d := 0) (j := 4) rfl) ?_
    refine Run.ghost (.boxAt (j := 1) (i := 2) rfl rfl) ?_
    refine Run.ghost (.boxAt (j := 1) (i := 4) rfl rfl) ?_
    refine Run.ghost (.boxAt (j := 1) (i := 0) rfl rfl) ?_
    have fx := ai haq (ai wq (ai hql (ai wfg (ai hak (ai wik (ai wk (ai hfl (ai hsi (ai hap (ai wfi (ai wi (ai hsl (ai zTn (ai zNn (ai wf3 (ai hn.symm (ai wf2 (ai wf1 (ai htake (ai hslice (ai wif (ai hset (ai hl ft)))))))))))))))))))))))
    refine Run.go ?_
    refine End.kp [10] ?_
    refine Run.resI 2 hQ (hkset _) ?_
    rw [hN]
    exact ⟨rfl, rfl⟩

set_option maxRecDepth 100000
set_option maxHeartbeats 2000000
abbrev boolss (l : List (List Bool)) : List (List Im) := l.map fun r => [.sl (bools r)]
theorem boolss_len (l : List (List Bool)) : (boolss l).length = l.length := by simp
def playedV (l : List Int) (k : Nat) (a : Int) (n : Nat) : List (List Bool) × Int := drawN (fun _ b => (valsV l k b, b + k)) a n
theorem playedV_pos (l : List Int) (k : Nat) (a : Int) : ∀ n : Nat, (playedV l k a n).2 = a + k * n
 | 0 => by simp [playedV, drawN]
 | n + 1 => by
  have := playedV_pos l k a n
  have e : (playedV l k a (n + 1)).2 = (playedV l k a n).2 + k := rfl
  rw [e, this, Int.natCast_add, Int.mul_add]
  simp
  omega
theorem playedV_len (l : List Int) (k : Nat) (a : Int) (n : Nat) : (playedV l k a n).1.length = n := drawN_len _ _ _
theorem playedV_row (l : List Int) (k : Nat) (a : Int) (n : Nat) : ∀ r ∈ (playedV l k a n).1, r.length = k := by
 intro r hr
 obtain ⟨i, hi⟩ := List.mem_iff_getElem?.1 hr
 exact drawN_mem _ a (fun _ x => x.length = k) (fun i b => valsV_len l k b) n i r hi
theorem graphV_pos (l : List Int) (a : Int) (ins regs ands outs : Nat) : a ≤ (graphV l a ins regs ands outs).2 ∧ (graphV l a ins regs ands outs).2 ≤ a + 3 * (ins + regs + outs) + 8 * ands + 5 * regs + 4 * outs ∧ (graphV l a ins regs ands outs).1.inn.length = ins ∧ (graphV l a ins regs ands outs).1.out.length = outs ∧
  (graphV l a ins regs ands outs).1.regs.length = regs ∧ (graphV l a ins regs ands outs).1.ands.length = ands ∧ (graphV l a ins regs ands outs).1.outs.length = outs := by
 obtain ⟨p1, p2, p3⟩ := wordsV_pos l (ins + regs) 0 a
 obtain ⟨q1, q2, q3⟩ := wordsV_pos l outs 0 (wordsV l (ins + regs) 0 a).2
 have h1 := drawN_pos (andX l ((1 + ins + regs : Nat) : Int)) (wordsV l outs 0 (wordsV l (ins + regs) 0 a).2).2 8 (andX_pos l _) ands
 simp only [graphV]
 generalize (drawN (andX l ((1 + ins + regs : Nat) : Int)) (wordsV l outs 0 (wordsV l (ins + regs) 0 a).2).2 ands).2 = a3 at h1
 have h2 := drawN_pos (regX l (((1 + ins + regs : Nat) : Int) + ands) (List.drop ins (wordsV l (ins + regs) 0 a).1)) a3 5 (regX_pos l _ _) regs
 generalize (drawN (regX l (((1 + ins + regs : Nat) : Int) + ands) (List.drop ins (wordsV l (ins + regs) 0 a).1)) a3 regs).2 = a4 at h2
 have h3 := drawN_pos (fun _ b => litX l b (((1 + ins + regs : Nat) : Int) + ands)) a4 4 (fun _ b => litX_pos l b _) outs
 refine ⟨by omega, by omega, by rw [List.length_take]; omega, q3, drawN_len _ _ _, drawN_len _ _ _, drawN_len _ _ _⟩
theorem Played_ok (n k : Nat) (hn : n ≤ 200) (hk : k ≤ 100) (l : List Int) (a : Int) (hs : StmOk l a) (hf : a + 40000 < 1099511627776) (up : Frs) (d j : Nat) (hl : fget up d j = some (stm l a)) :
  ACalls Try.prog 39 [.ptr d j 0, .i n, .i k] up fun v u => v = .im (.sl (boolss (playedV l k a n).1)) ∧ u = fset up d j (stm l (playedV l k a n).2) := by
 have hset : ∀ o, fget (fset up d j o) d j = some o := fun o => fget_fset_same _ _ _ _ _ hl
 have hp := hs.pos
 refine ACalls.code Try.func39 rfl 19 rfl (by simp) [.tmp 6] rfl fun Q hQ => ?_
 simp only [ups, PV.up, argEnv]
 have ft := ai ty_3 (ai ty_4 (ai ty_23 (ai ty_33 (ai ty_62 trivial))))
 refine Run.seq ?_
 have fx := ai hset (ai hl ft)
 refine Run.go ?_
 refine End.kp [0, 1, 2] ?_
 refine Run.seq ?_
 refine Run.go ?_
 refine End.kp [0, 1, 2, 7] ?_
 refine Run.seq ?_
 refine Run.seq ?_
 refine Run.go ?_
 refine End.kp [0, 2, 7, 8, 9] ?_
 refine Run.block ?_
 refine Run.ghost (Ghost.thaw (u := 7) 33 1 (by decide) rfl) ?_
 refine Run.ghost (Ghost.form [(0, .ptr (d + 1) j 0), (2, .i k), (7, .ms 0 0 (0)), (8, .i n), (9, .i (0 : Nat))] 1 ⟨rfl, rfl, rfl, rfl, rfl, trivial⟩ rfl rfl) ?_
 refine Run.loop (fun m s => ∃ i : Nat, m = n - i ∧ i ≤ n ∧ s = ⟨[(0, .ptr (d + 1) j 0), (2, .i k), (7, .ms 0 0 (i)), (8, .i n), (9, .i (i : Nat))], [.row 33 1 (boolss (playedV l k a i).1) 0], fset up d j (stm l (playedV l k a i).2)⟩) n ⟨0, rfl, by omega, by rw [show (playedV l k a 0) = ([], a) from rfl]; simp only; rw [fset_self up d j _ hl]; rfl⟩ fun m s hI => ?_
 obtain ⟨i, rfl, hi, rfl⟩ := hI
 have hsl : (boolss (playedV l k a i).1).length = i := by rw [boolss_len, playedV_len]
 have hpp := playedV_pos l k a i
 have hki : ((k : Int) * i) ≤ 100 * 200 := by
  have h1 : (k : Int) * i ≤ 100 * (i : Int) := Int.mul_le_mul_of_nonneg_right (by omega) (by omega)
  omega
 have hki0 : 0 ≤ (k : Int) * i := Int.mul_nonneg (by omega) (by omega)
 generalize hc : (playedV l k a i).2 = c at hpp
 have hs0 : StmOk l c := ⟨hs.vals, hs.len, by omega, by omega⟩
 have hap : (i + 1) * 24 ≤ 140737488355328 := by omega
 refine Run.seq ?_
 have fx := ai hap (ai hsl (ai hset (ai hl ft)))
 refine Run.go ?_
 refine End.kp [0, 2, 7, 8, 9, 10] ?_
 refine Run.seq ?_
 refine Run.cond _ rfl (fun hb => ?_) (fun hb => ?_)
 ·have hb := of_decide_eq_true hb
  have hin : i < n := by omega
  have wi := wsucc hin (by omega)
  refine Run.skip ?_
  refine End.kp [0, 2, 7, 8, 9] ?_
  refine Run.seq ?_
  refine Run.block ?_
  have fx := ai wi fx
  refine Run.region rfl fun K hK => GOps.sim ?_
  refine GOps.call rfl rfl rfl rfl (by kernel_rfl) (ACalls.sim ?_)
  refine (Values_ok k (by omega) l c hs0 (by omega) _ (d + 1) j (hset _)).mono fun v u hv => ?_
  obtain ⟨rfl, rfl⟩ := hv
  refine ⟨_, _, rfl, GOps.sim ?_⟩
  refine GOps.done (hK _ ?_); clear hK K
  refine End.blk ?_
  refine End.kp [0, 2, 7, 8, 9] ?_
  refine Run.go ?_
  refine End.lp ?_
  refine ⟨n - (i + 1), _, by omega, Ghost.form [(0, .ptr (d + 1) j 0), (2, .i k), (7, .ms 0 0 ((i + 1))), (8, .i n), (9, .i (i + 1 : Nat))] 1 ⟨rfl, rfl, rfl, rfl, rfl, trivial⟩ rfl rfl, i + 1, rfl, by omega, ?_⟩
  have e1 : playedV l k a (i + 1) = ((playedV l k a i).1 ++ [valsV l k c], c + k) := by rw [← hc]; rfl
  rw [e1]
  simp
 ·have hb := of_decide_eq_false hb
  have hiN : i = n := by omega
  subst hiN
  refine Run.exit rfl ?_
  refine End.kp [7] ?_
  refine Run.seq ?_
  refine Run.ghost (Ghost.shut (t := 7) (j := 0) rfl rfl hsl) ?_
  simp only [eput, edel]
  refine Run.go ?_
  refine End.kp [6] ?_
  refine Run.ret (hQ _ _ ⟨.inr rfl, _, rfl, _, rfl, ?_⟩)
  exact ⟨rfl, by rw [hc]⟩
theorem boolss_at (q : List (List Bool)) (i : Nat) (h : i < q.length) : ∃ r, q[i]? = some r ∧ r ∈ q ∧ q.getD i [] = r ∧ (boolss q)[i]? = some [.sl (bools r)] :=
 ⟨q[i], List.getElem?_eq_getElem h, List.getElem_mem h, by simp [h], by simp [h]⟩



set_option maxRecDepth 100000
structure NameOk (s : ByteArray) : Prop where
 low : 1 ≤ s.size
 high : s.size ≤ 128
 chars : ∀ b ∈ s.data.toList, 33 ≤ b.toNat ∧ b.toNat ≤ 126
theorem byteRows_len (s : ByteArray) : (byteRows s).length = s.size := by simp [byteRows]
theorem byteRows_get (s : ByteArray) (h : NameOk s) (i : Nat) (hi : i < s.size) : ∃ b : Int, 33 ≤ b ∧ b ≤ 126 ∧ (byteRows s)[i]? = some [.int .u8 b] := by
 have hi2 : i < s.data.toList.length := by simpa using hi
 refine ⟨(s.data.toList[i]).toNat, ?_, ?_, ?_⟩
 ·have := (h.chars _ (List.getElem_mem hi2)).1; omega
 ·have := (h.chars _ (List.getElem_mem hi2)).2; omega
 ·simp only [byteRows, List.getElem?_map, List.getElem?_eq_getElem hi2, Option.map_some]
theorem Name_ok (s : ByteArray) (hs : NameOk s) (up : Frs) : ACalls Try.prog 93 [.im (.str s)] up fun v u => v = .im (.bool true) ∧ u = up := by
 have hlow := hs.low
 have hhigh := hs.high
 have d1 : decide ((s.size : Int) < 1) = false := decide_eq_false (by omega)
 have d2 : decide ((s.size : Int) > 128) = false := decide_eq_false (by omega)
 refine ACalls.code Try.func93 rfl 27 rfl (by simp) [.tmp 2] rfl fun Q hQ => ?_
 simp only [ups, PV.up, argEnv]
 have ft := ai ty_3 (ai ty_4 (ai ty_5 (ai ty_9 (ai ty_148 trivial))))
 refine Run.seq ?_
 have fx := ai byteRows_len (ai d2 (ai d1 ft))
 refine Run.go ?_
 refine End.kp [0] ?_
 refine Run.seq ?_
 refine Run.seq ?_
 refine Run.go ?_
 refine End.kp [0, 12] ?_
 refine Run.cond _ rfl (fun hb => ?_) (fun hb => ?_)
 ·have hb := hb
  simp at hb
 ·have hb := hb
  refine Run.skip ?_
  refine End.kp [0] ?_
  refine Run.seq ?_
  refine Run.seq ?_
  refine Run.go ?_
  refine End.kp [14, 15, 16] ?_
  refine Run.block ?_
  refine Run.ghost (Ghost.form [(14, .im (.sl (byteRows s))), (15, .i s.size), (16, .i (0 : Nat))] 0 ⟨rfl, rfl, rfl, trivial⟩ rfl rfl) ?_
  refine Run.loop (fun m st => ∃ (i : Nat), m = s.size - i ∧ i ≤ s.size ∧ st = ⟨[(14, .im (.sl (byteRows s))), (15, .i s.size), (16, .i (i : Nat))], [], up⟩) s.size ⟨0, rfl, by omega, rfl⟩ fun m st hI => ?_
  obtain ⟨i, rfl, hi, rfl⟩ := hI
  refine Run.seq ?_
  refine Run.go ?_
  refine End.kp [14, 15, 16, 17] ?_
  refine Run.seq ?_
  refine Run.cond _ rfl (fun hb => ?_) (fun hb => ?_)
  ·have hb := of_decide_eq_true hb
   have hin : i < s.size := by omega
   have wi := wsucc hin (by omega)
   obtain ⟨b, b1, b2, hg⟩ := byteRows_get s hs i hin
   have d3 : decide (b < 33) = false := decide_eq_false (by omega)
   have d4 : decide (b > 126) = false := decide_eq_false (by omega)
   refine Run.skip ?_
   refine End.kp [14, 15, 16] ?_
   refine Run.seq ?_
   refine Run.block ?_
   refine Run.seq ?_
   have fx := ai zTn (ai zNn (ai d4 (ai d3 (ai hg (ai wi fx)))))
   refine Run.go ?_
   refine End.kp [4, 14, 15, 16] ?_
   refine Run.seq ?_
   refine Run.go ?_
   refine End.kp [14, 15, 16, 25] ?_
   refine Run.cond _ rfl (fun hb => ?_) (fun hb => ?_)
   ·have hb := hb
    simp at hb
   ·have hb := hb
    refine Run.skip ?_
    refine End.blk ?_
    refine End.kp [14, 15, 16] ?_
    refine Run.go ?_
    refine End.lp ?_
    refine ⟨s.size - (i + 1), _, by omega, Ghost.form [(14, .im (.sl (byteRows s))), (15, .i s.size), (16, .i (i + 1 : Nat))] 0 ⟨rfl, rfl, rfl, trivial⟩ rfl rfl, i + 1, rfl, by omega, rfl⟩
  ·have hb := of_decide_eq_false hb
   refine Run.exit rfl ?_
   refine End.kp [] ?_
   refine Run.seq ?_
   refine Run.go ?_
   refine End.kp [2] ?_
   refine Run.ret (hQ _ _ ⟨.inr rfl, _, rfl, _, rfl, ?_⟩)
   exact ⟨rfl, rfl⟩
def ents (l : List ByteArray) : List (List Im × Im) := l.map fun s => ([.str s], .int .i64 1)
theorem same_ne (s x : ByteArray) (h : x ≠ s) : sameIm Try.prog 9 (.str s) (.str x) = some false := by
 simp only [sameIm, ty_9, if_true, Option.some.injEq]
 have := mt (MapKept.bytes_beq s x).1 (fun e => h e.symm)
 simpa using this
theorem find_none (s : ByteArray) : ∀ (l : List ByteArray) (i : Nat), s ∉ l → findIm Try.prog 9 (.str s) (ents l) i = some none
 | [], i, _ => rfl
 | x :: xs, i, h => by
  simp only [List.mem_cons, not_or] at h
  simp only [ents, List.map_cons, findIm, same_ne s x (fun e => h.1 e.symm)]
  exact find_none s xs (i + 1) h.2
theorem find_last (s : ByteArray) (v : Im) : ∀ (l : List ByteArray) (i : Nat), s ∉ l → findIm Try.prog 9 (.str s) (ents l ++ [([.str s], v)]) i = some (some (i + l.length, v))
 | [], i, _ => by
  have : sameIm Try.prog 9 (.str s) (.str s) = some true := by
   simp only [sameIm, ty_9, if_true, Option.some.injEq]
   exact (MapKept.bytes_beq s s).2 rfl
  simp only [ents, List.map_nil, List.nil_append, findIm, this, List.length_nil, Nat.add_zero]
 | x :: xs, i, h => by
  simp only [List.mem_cons, not_or] at h
  simp only [ents, List.map_cons, List.cons_append, findIm, same_ne s x (fun e => h.1 e.symm)]
  have := find_last s v xs (i + 1) h.2
  simp only [ents] at this
  rw [this, List.length_cons]
  congr 3
  omega
theorem nodup_take {l : List ByteArray} (h : l.Nodup) (i : Nat) (hi : i < l.length) : l.getD i ByteArray.empty ∉ l.take i := by
 intro hm
 obtain ⟨k, hk, e⟩ := List.getElem_of_mem hm
 have hk2 : k < i := by simp at hk; omega
 rw [List.getElem_take] at e
 have e2 : l.getD i ByteArray.empty = l[i] := by simp [hi]
 rw [e2] at e
 have := (List.getElem_inj h).1 e
 omega
theorem strs_get (l : List ByteArray) (i : Nat) (h : i < l.length) : (strs l)[i]? = some [.str (l.getD i ByteArray.empty)] := by simp [h]
theorem getD_mem {l : List ByteArray} {i : Nat} (h : i < l.length) : l.getD i ByteArray.empty ∈ l := by
 have e2 : l.getD i ByteArray.empty = l[i] := by simp [h]
 rw [e2]
 exact List.getElem_mem h
theorem Names_ok (q : List ByteArray) (hq : q.length ≤ 1000000) (hv : ∀ s ∈ q, NameOk s) (hd : q.Nodup) (up : Frs) : ACalls Try.prog 68 [.im (.sl (strs q))] up fun v u => v = .i 0 ∧ u = up := by
 refine ACalls.code Try.func68 rfl 25 rfl (by simp) [.tmp 2] rfl fun Q hQ => ?_
 simp only [ups, PV.up, argEnv]
 have ft := ai ty_3 (ai ty_4 (ai ty_9 (ai ty_26 (ai ty_36 (ai ty_162 trivial)))))
 refine Run.seq ?_
 have fx := ai strs_len ft
 refine Run.go ?_
 refine End.kp [0] ?_
 refine Run.seq ?_
 refine Run.go ?_
 refine End.kp [0, 3] ?_
 refine Run.seq ?_
 refine Run.seq ?_
 refine Run.go ?_
 refine End.kp [3, 7, 8, 9] ?_
 refine Run.block ?_
 refine Run.ghost (Ghost.form [(3, .map 0 0), (7, .im (.sl (strs q))), (8, .i q.length), (9, .i (0 : Nat))] 1 ⟨rfl, rfl, rfl, rfl, trivial⟩ rfl rfl) ?_
 refine Run.loop (fun m st => ∃ (i : Nat), m = q.length - i ∧ i ≤ q.length ∧ st = ⟨[(3, .map 0 0), (7, .im (.sl (strs q))), (8, .i q.length), (9, .i (i : Nat))], [.map (ents (q.take i))], up⟩) q.length ⟨0, rfl, by omega, rfl⟩ fun m st hI => ?_
 obtain ⟨i, rfl, hi, rfl⟩ := hI
 refine Run.seq ?_
 refine Run.go ?_
 refine End.kp [3, 7, 8, 9, 10] ?_
 refine Run.seq ?_
 refine Run.cond _ rfl (fun hb => ?_) (fun hb => ?_)
 ·have hb := of_decide_eq_true hb
  have hin : i < q.length := by omega
  have wi := wsucc hin (by omega)
  have hg := strs_get q i hin
  have hno := nodup_take hd i hin
  have hnm := hv _ (getD_mem hin)
  have htk := take_snoc q i ByteArray.empty hin
  generalize q.getD i ByteArray.empty = s at hg hno hnm htk
  have hf1 := find_none s (q.take i) 0 hno
  have hf2 := find_last s (.int .i64 1) (q.take i) 0 hno
  have w1 : IntKind.i64.wrap (0 + 1) = 1 := by decide
  refine Run.skip ?_
  refine End.kp [3, 7, 8, 9] ?_
  refine Run.seq ?_
  refine Run.block ?_
  refine Run.seq ?_
  have fx := ai zTn (ai zNn (ai w1 (ai hf2 (ai hf1 (ai hg (ai wi (ai strs_len ft)))))))
  refine Run.go ?_
  refine End.kp [3, 5, 7, 8, 9] ?_
  refine Run.seq ?_
  refine Run.seq ?_
  refine Run.region rfl fun K hK => GOps.sim ?_
  refine GOps.call rfl rfl rfl rfl (by kernel_rfl) (ACalls.sim ?_)
  refine (Name_ok s hnm _).mono fun v u hv => ?_
  obtain ⟨rfl, rfl⟩ := hv
  refine ⟨_, _, rfl, GOps.sim ?_⟩
  refine GOps.done (hK _ ?_); clear hK K
  refine End.kp [3, 5, 7, 8, 9, 15] ?_
  refine Run.cond _ rfl (fun hb => ?_) (fun hb => ?_)
  ·have hb := hb
   simp at hb
  ·have hb := hb
   refine Run.skip ?_
   refine End.kp [3, 5, 7, 8, 9] ?_
   refine Run.seq ?_
   have fx := ai zTn (ai zNn (ai w1 (ai hf2 (ai hf1 (ai hg (ai wi (ai strs_len ft)))))))
   refine Run.go ?_
   refine End.kp [3, 5, 7, 8, 9] ?_
   refine Run.seq ?_
   refine Run.go ?_
   refine End.kp [3, 7, 8, 9, 23] ?_
   refine Run.cond _ rfl (fun hb => ?_) (fun hb => ?_)
   ·have hb := hb
    simp at hb
   ·have hb := hb
    refine Run.skip ?_
    refine End.blk ?_
    refine End.kp [3, 7, 8, 9] ?_
    refine Run.go ?_
    refine End.lp ?_
    refine ⟨q.length - (i + 1), _, by omega, Ghost.form [(3, .map 0 0), (7, .im (.sl (strs q))), (8, .i q.length), (9, .i (i + 1 : Nat))] 1 ⟨rfl, rfl, rfl, rfl, trivial⟩ rfl rfl, i + 1, rfl, by omega, ?_⟩
    rw [htk]
    simp [ents]
 ·have hb := of_decide_eq_false hb
  refine Run.exit rfl ?_
  refine End.kp [] ?_
  refine Run.seq ?_
  refine Run.go ?_
  refine End.kp [2] ?_
  refine Run.ret (hQ _ _ ⟨.inr rfl, _, rfl, _, rfl, ?_⟩)
  exact ⟨rfl, rfl⟩

set_option maxRecDepth 100000
theorem CloneX_nil (f : List AObj) (rest : Frs) : ACalls Try.prog 54 [.im (.sl (strs []))] (f :: rest) fun v u => v = .ms 0 (f.length + 0) 0 ∧ u = (f ++ [.row 9 1 (strs []) 0]) :: rest := by
 refine ACalls.codeX Try.func54 rfl 8 rfl (by simp) [.tmp 2] rfl fun Q hQ => ?_
 simp only [ups, PV.up, argEnv]
 have ft := ai ty_4 (ai ty_9 (ai ty_26 trivial))
 refine Run.seq ?_
 have fx := ai (@List.map_nil.{0, 0}) ft
 refine Run.go ?_
 refine End.kp [0] ?_
 refine Run.seq ?_
 refine Run.seq ?_
 refine Run.go ?_
 refine End.kp [0, 4] ?_
 refine Run.cond_any rfl ?_ ?_
 ·skip
  refine Run.seq ?_
  refine Run.go ?_
  refine End.move (Ghost.thaw (u := 2) 9 1 (by decide) rfl) ?_
  refine End.kp [2] ?_
  refine Run.ret (hQ _ _ ⟨.inr rfl, _, rfl, _, _, rfl, ?_⟩)
  exact ⟨rfl, rfl⟩
 ·skip
  refine Run.skip ?_
  refine End.kp [0] ?_
  refine Run.seq ?_
  refine Run.go ?_
  refine End.kp [2] ?_
  refine Run.ret (hQ _ _ ⟨.inr rfl, _, rfl, _, _, rfl, ?_⟩)
  exact ⟨rfl, rfl⟩
theorem CloneX_cons (x : ByteArray) (xs : List ByteArray) (h : xs.length ≤ 1000000) (f : List AObj) (rest : Frs) : ACalls Try.prog 54 [.im (.sl (strs (x :: xs)))] (f :: rest) fun v u => v = .ms 0 (f.length + 0) (x :: xs).length ∧ u = (f ++ [.row 9 1 (strs (x :: xs)) 0]) :: rest := by
 have hall : (strs xs).all (fun r => r.length == 1) = true := by simp
 have hlen : (xs.length + 1) * 16 ≤ 140737488355328 := by omega
 refine ACalls.codeX Try.func54 rfl 8 rfl (by simp) [.tmp 2] rfl fun Q hQ => ?_
 simp only [ups, PV.up, argEnv]
 have ft := ai ty_4 (ai ty_9 (ai ty_26 trivial))
 refine Run.seq ?_
 have fx := ai (@List.length_map.{0, 0}) (ai hlen (ai hall (ai (@List.map_cons.{0, 0}) ft)))
 refine Run.go ?_
 refine End.kp [0] ?_
 refine Run.seq ?_
 refine Run.seq ?_
 refine Run.go ?_
 refine End.kp [0, 4] ?_
 refine Run.cond _ rfl (fun hb => ?_) (fun hb => ?_)
 ·have hb := hb
  simp at hb
 ·have hb := hb
  refine Run.skip ?_
  refine End.kp [0] ?_
  refine Run.seq ?_
  refine Run.go ?_
  refine End.kp [2] ?_
  refine Run.ret (hQ _ _ ⟨.inr rfl, _, rfl, _, _, rfl, ?_⟩)
  exact ⟨rfl, rfl⟩
theorem CloneX_ok (q : List ByteArray) (h : q.length ≤ 1000000) (f : List AObj) (rest : Frs) : ACalls Try.prog 54 [.im (.sl (strs q))] (f :: rest) fun v u => v = .ms 0 (f.length + 0) q.length ∧ u = (f ++ [.row 9 1 (strs q) 0]) :: rest := by
 cases q with
 | nil => exact CloneX_nil f rest
 | cons x xs => exact CloneX_cons x xs (by simp at h; omega) f rest
abbrev lanes0 (l : List Bool) : List Int := l.map fun b => if b = true then 1 else 0
theorem int_at (l : List Int) (i : Nat) (h : i < l.length) : ∃ x, l[i]? = some x ∧ x ∈ l ∧ (ints l)[i]? = some [.int .i64 x] :=
 ⟨l[i], by simp [h], List.getElem_mem h, by simp [h]⟩

end Go.Proofs.YtkjfdacjjogpcaaPi
