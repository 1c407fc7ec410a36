/- Part 1 of the proof: the texts PiTy, WA, WB, PBit0, WC, WD, WE, WM, WN, WF, WG, WH, one behind the other. Each holds for every input that it names; no condition is hidden. -/
import Derived.Test.YtdgpmopcmacicaaDoorPiMerge
import Derived.Test.YtdgpmopcmacicaaDoorProg
import Derived.KernelRfl
import Derived.Test.YtdgpmopcmacicaaDoorPiGo
/- What the abstract program logic asks of this seat's types, found by looking. -/
set_option linter.unusedVariables false
namespace Go.Proofs.YtdgpmopcmacicaaDoorPi

theorem ty_2 : sizeT Tryd.prog 2 = some 1 ∧ bytesT Tryd.prog 2 = some 8 ∧ aggT Tryd.prog 2 = some false ∧ elemT Tryd.prog 2 = none ∧ arrT Tryd.prog 2 = none ∧ intT Tryd.prog 2 = some .i64 ∧ boolT Tryd.prog 2 = false ∧ stringT Tryd.prog 2 = false ∧ sliceT Tryd.prog 2 = false ∧ Program.underlying Tryd.prog 2 = some (.int .i64) ∧ zeroT Tryd.prog 2 = some [.im (.int .i64 0)] ∧ zeroImT Tryd.prog 2 = some [(.int .i64 0)] ∧ u8T Tryd.prog 2 = false ∧ zeroOne Tryd.prog 2 = some (.int .i64 0) ∧ placesT Tryd.prog 2 = none := ⟨by kernel_rfl, by kernel_rfl, by kernel_rfl, by kernel_rfl, by kernel_rfl, by kernel_rfl, by kernel_rfl, by kernel_rfl, by kernel_rfl, by kernel_rfl, by kernel_rfl, by kernel_rfl, by kernel_rfl, by kernel_rfl, by kernel_rfl⟩
theorem ty_3 : sizeT Tryd.prog 3 = some 1 ∧ bytesT Tryd.prog 3 = some 8 ∧ aggT Tryd.prog 3 = some false ∧ elemT Tryd.prog 3 = none ∧ arrT Tryd.prog 3 = none ∧ intT Tryd.prog 3 = some .i64 ∧ boolT Tryd.prog 3 = false ∧ stringT Tryd.prog 3 = false ∧ sliceT Tryd.prog 3 = false ∧ Program.underlying Tryd.prog 3 = some (.int .i64) ∧ zeroT Tryd.prog 3 = some [.im (.int .i64 0)] ∧ zeroImT Tryd.prog 3 = some [(.int .i64 0)] ∧ u8T Tryd.prog 3 = false ∧ zeroOne Tryd.prog 3 = some (.int .i64 0) ∧ placesT Tryd.prog 3 = none := ⟨by kernel_rfl, by kernel_rfl, by kernel_rfl, by kernel_rfl, by kernel_rfl, by kernel_rfl, by kernel_rfl, by kernel_rfl, by kernel_rfl, by kernel_rfl, by kernel_rfl, by kernel_rfl, by kernel_rfl, by kernel_rfl, by kernel_rfl⟩
theorem ty_4 : sizeT Tryd.prog 4 = some 1 ∧ bytesT Tryd.prog 4 = some 1 ∧ aggT Tryd.prog 4 = some false ∧ elemT Tryd.prog 4 = none ∧ arrT Tryd.prog 4 = none ∧ intT Tryd.prog 4 = none ∧ boolT Tryd.prog 4 = true ∧ stringT Tryd.prog 4 = false ∧ sliceT Tryd.prog 4 = false ∧ zeroT Tryd.prog 4 = some [.im (.bool false)] ∧ zeroImT Tryd.prog 4 = some [(.bool false)] ∧ u8T Tryd.prog 4 = false ∧ zeroOne Tryd.prog 4 = some (.bool false) ∧ placesT Tryd.prog 4 = none := ⟨by kernel_rfl, by kernel_rfl, by kernel_rfl, by kernel_rfl, by kernel_rfl, by kernel_rfl, by kernel_rfl, by kernel_rfl, by kernel_rfl, by kernel_rfl, by kernel_rfl, by kernel_rfl, by kernel_rfl, by kernel_rfl⟩
theorem ty_5 : sizeT Tryd.prog 5 = some 1 ∧ bytesT Tryd.prog 5 = some 1 ∧ aggT Tryd.prog 5 = some false ∧ elemT Tryd.prog 5 = none ∧ arrT Tryd.prog 5 = none ∧ intT Tryd.prog 5 = some .u8 ∧ boolT Tryd.prog 5 = false ∧ stringT Tryd.prog 5 = false ∧ sliceT Tryd.prog 5 = false ∧ Program.underlying Tryd.prog 5 = some (.int .u8) ∧ zeroT Tryd.prog 5 = some [.im (.int .u8 0)] ∧ zeroImT Tryd.prog 5 = some [(.int .u8 0)] ∧ u8T Tryd.prog 5 = false ∧ zeroOne Tryd.prog 5 = some (.int .u8 0) ∧ placesT Tryd.prog 5 = none := ⟨by kernel_rfl, by kernel_rfl, by kernel_rfl, by kernel_rfl, by kernel_rfl, by kernel_rfl, by kernel_rfl, by kernel_rfl, by kernel_rfl, by kernel_rfl, by kernel_rfl, by kernel_rfl, by kernel_rfl, by kernel_rfl, by kernel_rfl⟩
theorem ty_9 : sizeT Tryd.prog 9 = some 1 ∧ bytesT Tryd.prog 9 = some 16 ∧ aggT Tryd.prog 9 = some false ∧ elemT Tryd.prog 9 = none ∧ arrT Tryd.prog 9 = none ∧ intT Tryd.prog 9 = none ∧ boolT Tryd.prog 9 = false ∧ stringT Tryd.prog 9 = true ∧ sliceT Tryd.prog 9 = false ∧ Program.underlying Tryd.prog 9 = some .string ∧ zeroT Tryd.prog 9 = some [.im (.str ByteArray.empty)] ∧ zeroImT Tryd.prog 9 = some [(.str ByteArray.empty)] ∧ u8T Tryd.prog 9 = false ∧ zeroOne Tryd.prog 9 = some (.str ByteArray.empty) ∧ placesT Tryd.prog 9 = none := ⟨by kernel_rfl, by kernel_rfl, by kernel_rfl, by kernel_rfl, by kernel_rfl, by kernel_rfl, by kernel_rfl, by kernel_rfl, by kernel_rfl, by kernel_rfl, by kernel_rfl, by kernel_rfl, by kernel_rfl, by kernel_rfl, by kernel_rfl⟩
theorem ty_19 : sizeT Tryd.prog 19 = some 1 ∧ bytesT Tryd.prog 19 = some 8 ∧ aggT Tryd.prog 19 = some true ∧ elemT Tryd.prog 19 = none ∧ arrT Tryd.prog 19 = none ∧ intT Tryd.prog 19 = none ∧ boolT Tryd.prog 19 = false ∧ stringT Tryd.prog 19 = false ∧ sliceT Tryd.prog 19 = false ∧ zeroT Tryd.prog 19 = some [.nilp] ∧ u8T Tryd.prog 19 = false ∧ placesT Tryd.prog 19 = some [(0, 1)] ∧ fieldT Tryd.prog 19 0 = some (0, 1) := ⟨by kernel_rfl, by kernel_rfl, by kernel_rfl, by kernel_rfl, by kernel_rfl, by kernel_rfl, by kernel_rfl, by kernel_rfl, by kernel_rfl, by kernel_rfl, by kernel_rfl, by kernel_rfl, by kernel_rfl⟩
theorem ty_22 : sizeT Tryd.prog 22 = some 1 ∧ bytesT Tryd.prog 22 = some 24 ∧ aggT Tryd.prog 22 = some false ∧ elemT Tryd.prog 22 = some 3 ∧ arrT Tryd.prog 22 = none ∧ intT Tryd.prog 22 = none ∧ boolT Tryd.prog 22 = false ∧ stringT Tryd.prog 22 = false ∧ sliceT Tryd.prog 22 = true ∧ zeroT Tryd.prog 22 = some [.nils] ∧ zeroImT Tryd.prog 22 = some [(.sl [])] ∧ u8T Tryd.prog 22 = false ∧ zeroOne Tryd.prog 22 = some (.sl []) ∧ placesT Tryd.prog 22 = none := ⟨by kernel_rfl, by kernel_rfl, by kernel_rfl, by kernel_rfl, by kernel_rfl, by kernel_rfl, by kernel_rfl, by kernel_rfl, by kernel_rfl, by kernel_rfl, by kernel_rfl, by kernel_rfl, by kernel_rfl, by kernel_rfl⟩
theorem ty_23 : sizeT Tryd.prog 23 = some 1 ∧ bytesT Tryd.prog 23 = some 8 ∧ aggT Tryd.prog 23 = some false ∧ elemT Tryd.prog 23 = none ∧ arrT Tryd.prog 23 = none ∧ intT Tryd.prog 23 = none ∧ boolT Tryd.prog 23 = false ∧ stringT Tryd.prog 23 = false ∧ sliceT Tryd.prog 23 = false ∧ ptrT Tryd.prog 23 = true ∧ zeroT Tryd.prog 23 = some [.nilp] ∧ u8T Tryd.prog 23 = false ∧ placesT Tryd.prog 23 = none := ⟨by kernel_rfl, by kernel_rfl, by kernel_rfl, by kernel_rfl, by kernel_rfl, by kernel_rfl, by kernel_rfl, by kernel_rfl, by kernel_rfl, by kernel_rfl, by kernel_rfl, by kernel_rfl, by kernel_rfl⟩
theorem ty_25 : sizeT Tryd.prog 25 = some 2 ∧ bytesT Tryd.prog 25 = some 32 ∧ aggT Tryd.prog 25 = some true ∧ elemT Tryd.prog 25 = none ∧ arrT Tryd.prog 25 = none ∧ intT Tryd.prog 25 = none ∧ boolT Tryd.prog 25 = false ∧ stringT Tryd.prog 25 = false ∧ sliceT Tryd.prog 25 = false ∧ zeroT Tryd.prog 25 = some [.nils, .im (.int .i64 0)] ∧ zeroImT Tryd.prog 25 = some [(.sl []), (.int .i64 0)] ∧ u8T Tryd.prog 25 = false ∧ placesT Tryd.prog 25 = some [(0, 1), (1, 1)] ∧ fieldT Tryd.prog 25 0 = some (0, 1) ∧ fieldT Tryd.prog 25 1 = some (1, 1) := ⟨by kernel_rfl, by kernel_rfl, by kernel_rfl, by kernel_rfl, by kernel_rfl, by kernel_rfl, by kernel_rfl, by kernel_rfl, by kernel_rfl, by kernel_rfl, by kernel_rfl, by kernel_rfl, by kernel_rfl, by kernel_rfl, by kernel_rfl⟩
theorem ty_26 : sizeT Tryd.prog 26 = some 1 ∧ bytesT Tryd.prog 26 = some 24 ∧ aggT Tryd.prog 26 = some false ∧ elemT Tryd.prog 26 = some 9 ∧ arrT Tryd.prog 26 = none ∧ intT Tryd.prog 26 = none ∧ boolT Tryd.prog 26 = false ∧ stringT Tryd.prog 26 = false ∧ sliceT Tryd.prog 26 = true ∧ zeroT Tryd.prog 26 = some [.nils] ∧ zeroImT Tryd.prog 26 = some [(.sl [])] ∧ u8T Tryd.prog 26 = false ∧ zeroOne Tryd.prog 26 = some (.sl []) ∧ placesT Tryd.prog 26 = none := ⟨by kernel_rfl, by kernel_rfl, by kernel_rfl, by kernel_rfl, by kernel_rfl, by kernel_rfl, by kernel_rfl, by kernel_rfl, by kernel_rfl, by kernel_rfl, by kernel_rfl, by kernel_rfl, by kernel_rfl, by kernel_rfl⟩
theorem ty_27 : sizeT Tryd.prog 27 = some 1 ∧ bytesT Tryd.prog 27 = some 24 ∧ aggT Tryd.prog 27 = some false ∧ elemT Tryd.prog 27 = some 56 ∧ arrT Tryd.prog 27 = none ∧ intT Tryd.prog 27 = none ∧ boolT Tryd.prog 27 = false ∧ stringT Tryd.prog 27 = false ∧ sliceT Tryd.prog 27 = true ∧ zeroT Tryd.prog 27 = some [.nils] ∧ zeroImT Tryd.prog 27 = some [(.sl [])] ∧ u8T Tryd.prog 27 = false ∧ zeroOne Tryd.prog 27 = some (.sl []) ∧ placesT Tryd.prog 27 = none := ⟨by kernel_rfl, by kernel_rfl, by kernel_rfl, by kernel_rfl, by kernel_rfl, by kernel_rfl, by kernel_rfl, by kernel_rfl, by kernel_rfl, by kernel_rfl, by kernel_rfl, by kernel_rfl, by kernel_rfl, by kernel_rfl⟩
theorem ty_28 : sizeT Tryd.prog 28 = some 1 ∧ bytesT Tryd.prog 28 = some 24 ∧ aggT Tryd.prog 28 = some false ∧ elemT Tryd.prog 28 = some 54 ∧ arrT Tryd.prog 28 = none ∧ intT Tryd.prog 28 = none ∧ boolT Tryd.prog 28 = false ∧ stringT Tryd.prog 28 = false ∧ sliceT Tryd.prog 28 = true ∧ zeroT Tryd.prog 28 = some [.nils] ∧ zeroImT Tryd.prog 28 = some [(.sl [])] ∧ u8T Tryd.prog 28 = false ∧ zeroOne Tryd.prog 28 = some (.sl []) ∧ placesT Tryd.prog 28 = none := ⟨by kernel_rfl, by kernel_rfl, by kernel_rfl, by kernel_rfl, by kernel_rfl, by kernel_rfl, by kernel_rfl, by kernel_rfl, by kernel_rfl, by kernel_rfl, by kernel_rfl, by kernel_rfl, by kernel_rfl, by kernel_rfl⟩
theorem ty_29 : sizeT Tryd.prog 29 = some 1 ∧ bytesT Tryd.prog 29 = some 24 ∧ aggT Tryd.prog 29 = some false ∧ elemT Tryd.prog 29 = some 51 ∧ arrT Tryd.prog 29 = none ∧ intT Tryd.prog 29 = none ∧ boolT Tryd.prog 29 = false ∧ stringT Tryd.prog 29 = false ∧ sliceT Tryd.prog 29 = true ∧ zeroT Tryd.prog 29 = some [.nils] ∧ zeroImT Tryd.prog 29 = some [(.sl [])] ∧ u8T Tryd.prog 29 = false ∧ zeroOne Tryd.prog 29 = some (.sl []) ∧ placesT Tryd.prog 29 = none := ⟨by kernel_rfl, by kernel_rfl, by kernel_rfl, by kernel_rfl, by kernel_rfl, by kernel_rfl, by kernel_rfl, by kernel_rfl, by kernel_rfl, by kernel_rfl, by kernel_rfl, by kernel_rfl, by kernel_rfl, by kernel_rfl⟩
theorem ty_31 : sizeT Tryd.prog 31 = some 5 ∧ bytesT Tryd.prog 31 = some 120 ∧ aggT Tryd.prog 31 = some true ∧ elemT Tryd.prog 31 = none ∧ arrT Tryd.prog 31 = none ∧ intT Tryd.prog 31 = none ∧ boolT Tryd.prog 31 = false ∧ stringT Tryd.prog 31 = false ∧ sliceT Tryd.prog 31 = false ∧ zeroT Tryd.prog 31 = some [.nils, .nils, .nils, .nils, .nils] ∧ zeroImT Tryd.prog 31 = some [(.sl []), (.sl []), (.sl []), (.sl []), (.sl [])] ∧ u8T Tryd.prog 31 = false ∧ placesT Tryd.prog 31 = some [(0, 1), (1, 1), (2, 1), (3, 1), (4, 1)] ∧ fieldT Tryd.prog 31 0 = some (0, 1) ∧ fieldT Tryd.prog 31 1 = some (1, 1) ∧ fieldT Tryd.prog 31 2 = some (2, 1) ∧ fieldT Tryd.prog 31 3 = some (3, 1) ∧ fieldT Tryd.prog 31 4 = some (4, 1) := ⟨by kernel_rfl, by kernel_rfl, by kernel_rfl, by kernel_rfl, by kernel_rfl, by kernel_rfl, by kernel_rfl, by kernel_rfl, by kernel_rfl, by kernel_rfl, by kernel_rfl, by kernel_rfl, by kernel_rfl, by kernel_rfl, by kernel_rfl, by kernel_rfl, by kernel_rfl, by kernel_rfl⟩
theorem ty_35 : sizeT Tryd.prog 35 = some 1 ∧ bytesT Tryd.prog 35 = some 8 ∧ aggT Tryd.prog 35 = some false ∧ elemT Tryd.prog 35 = none ∧ arrT Tryd.prog 35 = none ∧ intT Tryd.prog 35 = some .i64 ∧ boolT Tryd.prog 35 = false ∧ stringT Tryd.prog 35 = false ∧ sliceT Tryd.prog 35 = false ∧ Program.underlying Tryd.prog 35 = some (.int .i64) ∧ zeroT Tryd.prog 35 = some [.im (.int .i64 0)] ∧ zeroImT Tryd.prog 35 = some [(.int .i64 0)] ∧ u8T Tryd.prog 35 = false ∧ zeroOne Tryd.prog 35 = some (.int .i64 0) ∧ placesT Tryd.prog 35 = none := ⟨by kernel_rfl, by kernel_rfl, by kernel_rfl, by kernel_rfl, by kernel_rfl, by kernel_rfl, by kernel_rfl, by kernel_rfl, by kernel_rfl, by kernel_rfl, by kernel_rfl, by kernel_rfl, by kernel_rfl, by kernel_rfl, by kernel_rfl⟩
theorem ty_42 : sizeT Tryd.prog 42 = some 1 ∧ bytesT Tryd.prog 42 = some 24 ∧ aggT Tryd.prog 42 = some false ∧ elemT Tryd.prog 42 = some 77 ∧ arrT Tryd.prog 42 = none ∧ intT Tryd.prog 42 = none ∧ boolT Tryd.prog 42 = false ∧ stringT Tryd.prog 42 = false ∧ sliceT Tryd.prog 42 = true ∧ zeroT Tryd.prog 42 = some [.nils] ∧ zeroImT Tryd.prog 42 = some [(.sl [])] ∧ u8T Tryd.prog 42 = false ∧ zeroOne Tryd.prog 42 = some (.sl []) ∧ placesT Tryd.prog 42 = none := ⟨by kernel_rfl, by kernel_rfl, by kernel_rfl, by kernel_rfl, by kernel_rfl, by kernel_rfl, by kernel_rfl, by kernel_rfl, by kernel_rfl, by kernel_rfl, by kernel_rfl, by kernel_rfl, by kernel_rfl, by kernel_rfl⟩
theorem ty_51 : sizeT Tryd.prog 51 = some 1 ∧ bytesT Tryd.prog 51 = some 8 ∧ aggT Tryd.prog 51 = some false ∧ elemT Tryd.prog 51 = none ∧ arrT Tryd.prog 51 = none ∧ intT Tryd.prog 51 = some .i64 ∧ boolT Tryd.prog 51 = false ∧ stringT Tryd.prog 51 = false ∧ sliceT Tryd.prog 51 = false ∧ Program.underlying Tryd.prog 51 = some (.int .i64) ∧ zeroT Tryd.prog 51 = some [.im (.int .i64 0)] ∧ zeroImT Tryd.prog 51 = some [(.int .i64 0)] ∧ u8T Tryd.prog 51 = false ∧ zeroOne Tryd.prog 51 = some (.int .i64 0) ∧ placesT Tryd.prog 51 = none := ⟨by kernel_rfl, by kernel_rfl, by kernel_rfl, by kernel_rfl, by kernel_rfl, by kernel_rfl, by kernel_rfl, by kernel_rfl, by kernel_rfl, by kernel_rfl, by kernel_rfl, by kernel_rfl, by kernel_rfl, by kernel_rfl, by kernel_rfl⟩
theorem ty_54 : sizeT Tryd.prog 54 = some 2 ∧ bytesT Tryd.prog 54 = some 16 ∧ aggT Tryd.prog 54 = some true ∧ elemT Tryd.prog 54 = none ∧ arrT Tryd.prog 54 = none ∧ intT Tryd.prog 54 = none ∧ boolT Tryd.prog 54 = false ∧ stringT Tryd.prog 54 = false ∧ sliceT Tryd.prog 54 = false ∧ zeroT Tryd.prog 54 = some [.im (.int .i64 0), .im (.int .i64 0)] ∧ zeroImT Tryd.prog 54 = some [(.int .i64 0), (.int .i64 0)] ∧ u8T Tryd.prog 54 = false ∧ eqsT Tryd.prog 54 = some [51, 51] ∧ placesT Tryd.prog 54 = some [(0, 1), (1, 1)] ∧ fieldT Tryd.prog 54 0 = some (0, 1) ∧ fieldT Tryd.prog 54 1 = some (1, 1) := ⟨by kernel_rfl, by kernel_rfl, by kernel_rfl, by kernel_rfl, by kernel_rfl, by kernel_rfl, by kernel_rfl, by kernel_rfl, by kernel_rfl, by kernel_rfl, by kernel_rfl, by kernel_rfl, by kernel_rfl, by kernel_rfl, by kernel_rfl, by kernel_rfl⟩
theorem ty_56 : sizeT Tryd.prog 56 = some 3 ∧ bytesT Tryd.prog 56 = some 32 ∧ aggT Tryd.prog 56 = some true ∧ elemT Tryd.prog 56 = none ∧ arrT Tryd.prog 56 = none ∧ intT Tryd.prog 56 = none ∧ boolT Tryd.prog 56 = false ∧ stringT Tryd.prog 56 = false ∧ sliceT Tryd.prog 56 = false ∧ zeroT Tryd.prog 56 = some [.im (.str ByteArray.empty), .im (.int .i64 0), .im (.bool false)] ∧ zeroImT Tryd.prog 56 = some [(.str ByteArray.empty), (.int .i64 0), (.bool false)] ∧ u8T Tryd.prog 56 = false ∧ eqsT Tryd.prog 56 = some [9, 51, 4] ∧ placesT Tryd.prog 56 = some [(0, 1), (1, 1), (2, 1)] ∧ fieldT Tryd.prog 56 0 = some (0, 1) ∧ fieldT Tryd.prog 56 1 = some (1, 1) ∧ fieldT Tryd.prog 56 2 = some (2, 1) := ⟨by kernel_rfl, by kernel_rfl, by kernel_rfl, by kernel_rfl, by kernel_rfl, by kernel_rfl, by kernel_rfl, by kernel_rfl, by kernel_rfl, by kernel_rfl, by kernel_rfl, by kernel_rfl, by kernel_rfl, by kernel_rfl, by kernel_rfl, by kernel_rfl, by kernel_rfl⟩
theorem ty_58 : sizeT Tryd.prog 58 = some 2 ∧ bytesT Tryd.prog 58 = some 16 ∧ aggT Tryd.prog 58 = some true ∧ elemT Tryd.prog 58 = none ∧ arrT Tryd.prog 58 = some (2, 51) ∧ intT Tryd.prog 58 = none ∧ boolT Tryd.prog 58 = false ∧ stringT Tryd.prog 58 = false ∧ sliceT Tryd.prog 58 = false ∧ zeroT Tryd.prog 58 = some [.im (.int .i64 0), .im (.int .i64 0)] ∧ zeroImT Tryd.prog 58 = some [(.int .i64 0), (.int .i64 0)] ∧ u8T Tryd.prog 58 = false ∧ placesT Tryd.prog 58 = none := ⟨by kernel_rfl, by kernel_rfl, by kernel_rfl, by kernel_rfl, by kernel_rfl, by kernel_rfl, by kernel_rfl, by kernel_rfl, by kernel_rfl, by kernel_rfl, by kernel_rfl, by kernel_rfl, by kernel_rfl⟩
theorem ty_65 : sizeT Tryd.prog 65 = some 1 ∧ bytesT Tryd.prog 65 = some 8 ∧ aggT Tryd.prog 65 = some false ∧ elemT Tryd.prog 65 = none ∧ arrT Tryd.prog 65 = none ∧ intT Tryd.prog 65 = none ∧ boolT Tryd.prog 65 = false ∧ stringT Tryd.prog 65 = false ∧ sliceT Tryd.prog 65 = false ∧ ptrT Tryd.prog 65 = true ∧ zeroT Tryd.prog 65 = some [.nilp] ∧ u8T Tryd.prog 65 = false ∧ placesT Tryd.prog 65 = none := ⟨by kernel_rfl, by kernel_rfl, by kernel_rfl, by kernel_rfl, by kernel_rfl, by kernel_rfl, by kernel_rfl, by kernel_rfl, by kernel_rfl, by kernel_rfl, by kernel_rfl, by kernel_rfl, by kernel_rfl⟩
theorem ty_67 : sizeT Tryd.prog 67 = some 1 ∧ bytesT Tryd.prog 67 = some 8 ∧ aggT Tryd.prog 67 = some false ∧ elemT Tryd.prog 67 = none ∧ arrT Tryd.prog 67 = none ∧ intT Tryd.prog 67 = none ∧ boolT Tryd.prog 67 = false ∧ stringT Tryd.prog 67 = false ∧ sliceT Tryd.prog 67 = false ∧ zeroT Tryd.prog 67 = some [.any] ∧ u8T Tryd.prog 67 = false ∧ mapT Tryd.prog 67 = some (3, 4) ∧ placesT Tryd.prog 67 = none := ⟨by kernel_rfl, by kernel_rfl, by kernel_rfl, by kernel_rfl, by kernel_rfl, by kernel_rfl, by kernel_rfl, by kernel_rfl, by kernel_rfl, by kernel_rfl, by kernel_rfl, by kernel_rfl, by kernel_rfl⟩
theorem ty_77 : sizeT Tryd.prog 77 = some 1 ∧ bytesT Tryd.prog 77 = some 24 ∧ aggT Tryd.prog 77 = some false ∧ elemT Tryd.prog 77 = some 4 ∧ arrT Tryd.prog 77 = none ∧ intT Tryd.prog 77 = none ∧ boolT Tryd.prog 77 = false ∧ stringT Tryd.prog 77 = false ∧ sliceT Tryd.prog 77 = true ∧ zeroT Tryd.prog 77 = some [.nils] ∧ zeroImT Tryd.prog 77 = some [(.sl [])] ∧ u8T Tryd.prog 77 = false ∧ zeroOne Tryd.prog 77 = some (.sl []) ∧ placesT Tryd.prog 77 = none := ⟨by kernel_rfl, by kernel_rfl, by kernel_rfl, by kernel_rfl, by kernel_rfl, by kernel_rfl, by kernel_rfl, by kernel_rfl, by kernel_rfl, by kernel_rfl, by kernel_rfl, by kernel_rfl, by kernel_rfl, by kernel_rfl⟩
theorem ty_97 : sizeT Tryd.prog 97 = some 1 ∧ bytesT Tryd.prog 97 = some 8 ∧ aggT Tryd.prog 97 = some false ∧ elemT Tryd.prog 97 = none ∧ arrT Tryd.prog 97 = none ∧ intT Tryd.prog 97 = none ∧ boolT Tryd.prog 97 = false ∧ stringT Tryd.prog 97 = false ∧ sliceT Tryd.prog 97 = false ∧ zeroT Tryd.prog 97 = some [.any] ∧ u8T Tryd.prog 97 = false ∧ mapT Tryd.prog 97 = some (9, 4) ∧ placesT Tryd.prog 97 = none := ⟨by kernel_rfl, by kernel_rfl, by kernel_rfl, by kernel_rfl, by kernel_rfl, by kernel_rfl, by kernel_rfl, by kernel_rfl, by kernel_rfl, by kernel_rfl, by kernel_rfl, by kernel_rfl, by kernel_rfl⟩
theorem ty_103 : sizeT Tryd.prog 103 = some 1 ∧ bytesT Tryd.prog 103 = some 24 ∧ aggT Tryd.prog 103 = some false ∧ elemT Tryd.prog 103 = some 131 ∧ arrT Tryd.prog 103 = none ∧ intT Tryd.prog 103 = none ∧ boolT Tryd.prog 103 = false ∧ stringT Tryd.prog 103 = false ∧ sliceT Tryd.prog 103 = true ∧ zeroT Tryd.prog 103 = some [.nils] ∧ zeroImT Tryd.prog 103 = some [(.sl [])] ∧ u8T Tryd.prog 103 = false ∧ zeroOne Tryd.prog 103 = some (.sl []) ∧ placesT Tryd.prog 103 = none := ⟨by kernel_rfl, by kernel_rfl, by kernel_rfl, by kernel_rfl, by kernel_rfl, by kernel_rfl, by kernel_rfl, by kernel_rfl, by kernel_rfl, by kernel_rfl, by kernel_rfl, by kernel_rfl, by kernel_rfl, by kernel_rfl⟩
theorem ty_126 : sizeT Tryd.prog 126 = some 1 ∧ bytesT Tryd.prog 126 = some 24 ∧ aggT Tryd.prog 126 = some false ∧ elemT Tryd.prog 126 = some 5 ∧ arrT Tryd.prog 126 = none ∧ intT Tryd.prog 126 = none ∧ boolT Tryd.prog 126 = false ∧ stringT Tryd.prog 126 = false ∧ sliceT Tryd.prog 126 = true ∧ zeroT Tryd.prog 126 = some [.nils] ∧ zeroImT Tryd.prog 126 = some [(.sl [])] ∧ u8T Tryd.prog 126 = true ∧ zeroOne Tryd.prog 126 = some (.sl []) ∧ placesT Tryd.prog 126 = none := ⟨by kernel_rfl, by kernel_rfl, by kernel_rfl, by kernel_rfl, by kernel_rfl, by kernel_rfl, by kernel_rfl, by kernel_rfl, by kernel_rfl, by kernel_rfl, by kernel_rfl, by kernel_rfl, by kernel_rfl, by kernel_rfl⟩
theorem ty_127 : sizeT Tryd.prog 127 = some 1 ∧ bytesT Tryd.prog 127 = some 8 ∧ aggT Tryd.prog 127 = some false ∧ elemT Tryd.prog 127 = none ∧ arrT Tryd.prog 127 = none ∧ intT Tryd.prog 127 = none ∧ boolT Tryd.prog 127 = false ∧ stringT Tryd.prog 127 = false ∧ sliceT Tryd.prog 127 = false ∧ zeroT Tryd.prog 127 = some [.any] ∧ u8T Tryd.prog 127 = false ∧ mapT Tryd.prog 127 = some (9, 3) ∧ placesT Tryd.prog 127 = none := ⟨by kernel_rfl, by kernel_rfl, by kernel_rfl, by kernel_rfl, by kernel_rfl, by kernel_rfl, by kernel_rfl, by kernel_rfl, by kernel_rfl, by kernel_rfl, by kernel_rfl, by kernel_rfl, by kernel_rfl⟩
theorem ty_131 : sizeT Tryd.prog 131 = some 1 ∧ bytesT Tryd.prog 131 = some 8 ∧ aggT Tryd.prog 131 = some false ∧ elemT Tryd.prog 131 = none ∧ arrT Tryd.prog 131 = none ∧ intT Tryd.prog 131 = some .u64 ∧ boolT Tryd.prog 131 = false ∧ stringT Tryd.prog 131 = false ∧ sliceT Tryd.prog 131 = false ∧ Program.underlying Tryd.prog 131 = some (.int .u64) ∧ zeroT Tryd.prog 131 = some [.im (.int .u64 0)] ∧ zeroImT Tryd.prog 131 = some [(.int .u64 0)] ∧ u8T Tryd.prog 131 = false ∧ zeroOne Tryd.prog 131 = some (.int .u64 0) ∧ placesT Tryd.prog 131 = none := ⟨by kernel_rfl, by kernel_rfl, by kernel_rfl, by kernel_rfl, by kernel_rfl, by kernel_rfl, by kernel_rfl, by kernel_rfl, by kernel_rfl, by kernel_rfl, by kernel_rfl, by kernel_rfl, by kernel_rfl, by kernel_rfl, by kernel_rfl⟩
theorem ty_140 : sizeT Tryd.prog 140 = some 24 ∧ bytesT Tryd.prog 140 = some 24 ∧ aggT Tryd.prog 140 = some true ∧ elemT Tryd.prog 140 = none ∧ arrT Tryd.prog 140 = some (24, 5) ∧ intT Tryd.prog 140 = none ∧ boolT Tryd.prog 140 = false ∧ stringT Tryd.prog 140 = false ∧ sliceT Tryd.prog 140 = false ∧ zeroT Tryd.prog 140 = some [.im (.int .u8 0), .im (.int .u8 0), .im (.int .u8 0), .im (.int .u8 0), .im (.int .u8 0), .im (.int .u8 0), .im (.int .u8 0), .im (.int .u8 0), .im (.int .u8 0), .im (.int .u8 0), .im (.int .u8 0), .im (.int .u8 0), .im (.int .u8 0), .im (.int .u8 0), .im (.int .u8 0), .im (.int .u8 0), .im (.int .u8 0), .im (.int .u8 0), .im (.int .u8 0), .im (.int .u8 0), .im (.int .u8 0), .im (.int .u8 0), .im (.int .u8 0), .im (.int .u8 0)] ∧ zeroImT Tryd.prog 140 = some [(.int .u8 0), (.int .u8 0), (.int .u8 0), (.int .u8 0), (.int .u8 0), (.int .u8 0), (.int .u8 0), (.int .u8 0), (.int .u8 0), (.int .u8 0), (.int .u8 0), (.int .u8 0), (.int .u8 0), (.int .u8 0), (.int .u8 0), (.int .u8 0), (.int .u8 0), (.int .u8 0), (.int .u8 0), (.int .u8 0), (.int .u8 0), (.int .u8 0), (.int .u8 0), (.int .u8 0)] ∧ u8T Tryd.prog 140 = false ∧ placesT Tryd.prog 140 = none := ⟨by kernel_rfl, by kernel_rfl, by kernel_rfl, by kernel_rfl, by kernel_rfl, by kernel_rfl, by kernel_rfl, by kernel_rfl, by kernel_rfl, by kernel_rfl, by kernel_rfl, by kernel_rfl, by kernel_rfl⟩
end Go.Proofs.YtdgpmopcmacicaaDoorPi

/- The walks of the drawing functions (Below, Next). -/
set_option linter.unusedVariables false
set_option linter.unusedSimpArgs false
set_option maxRecDepth 100000
namespace Go.Proofs.YtdgpmopcmacicaaDoorPi

abbrev I64 (x : Int) : Prop := -9223372036854775808 ≤ x ∧ x ≤ 9223372036854775807
theorem wrap64 {x : Int} (h : I64 x) : IntKind.i64.wrap x = x := by
  unfold IntKind.wrap
  simp only [IntKind.bits, IntKind.signed]
  simp
  omega
abbrev PV.i (x : Int) : PV := .im (.int .i64 x)
def below (x n : Int) : Int := if n < 1 then 0 else x % n
theorem Below_ok (x n : Int) (hx : I64 x) (hn : I64 n) (up : Frs) : ACalls Tryd.prog 7 [.i x, .i n] up fun v u => v = .i (below x n) ∧ u = up := by
  refine ACalls.code Tryd.func7 rfl 16 rfl (by simp) [.tmp 4] rfl fun Q hQ => ?_
  simp only [ups, PV.up, argEnv]
  refine Run.seq ?_
  refine Run.region rfl fun K hK => GOps.run ?_
  simp only [lookupV, updateV, lookupK, updateK, slicePV, pe0, pe1, pe2, pe3, pe4, pe5, pe6, pe7, pr0, pr1, Nat.reduceAdd, Nat.reduceMul, Nat.reduceLeDiff, Nat.reduceLT, Nat.reduceEqDiff, Nat.reduceBEq, Nat.reduceSub, reduceCtorEq, reduceIte, Int.reduceToNat, Int.reduceLE, Int.reduceEq, Int.reduceNe, Int.reduceBEq, Int.reduceBNe, Int.reduceLT, Int.reduceGT, Int.reduceGE, Int.reduceNeg, ty_3, ty_4]
  refine GOps.done (hK _ ?_); clear hK K
  refine End.keep [0, 1] ?_
  simp only [pk0, Nat.reduceBEq, reduceIte]
  refine Run.seq ?_
  refine Run.seq ?_
  refine Run.region rfl fun K hK => GOps.run ?_
  simp only [lookupV, updateV, lookupK, updateK, slicePV, pe0, pe1, pe2, pe3, pe4, pe5, pe6, pe7, pr0, pr1, Nat.reduceAdd, Nat.reduceMul, Nat.reduceLeDiff, Nat.reduceLT, Nat.reduceEqDiff, Nat.reduceBEq, Nat.reduceSub, reduceCtorEq, reduceIte, Int.reduceToNat, Int.reduceLE, Int.reduceEq, Int.reduceNe, Int.reduceBEq, Int.reduceBNe, Int.reduceLT, Int.reduceGT, Int.reduceGE, Int.reduceNeg, ty_3, ty_4]
  refine GOps.done (hK _ ?_); clear hK K
  refine End.keep [0, 1, 6] ?_
  simp only [pk0, Nat.reduceBEq, reduceIte]
  refine Run.cond _ rfl (fun hb => ?_) (fun hb => ?_)
  · have hb := of_decide_eq_true hb
    refine Run.seq ?_
    refine Run.region rfl fun K hK => GOps.run ?_
    simp only [lookupV, updateV, lookupK, updateK, slicePV, pe0, pe1, pe2, pe3, pe4, pe5, pe6, pe7, pr0, pr1, Nat.reduceAdd, Nat.reduceMul, Nat.reduceLeDiff, Nat.reduceLT, Nat.reduceEqDiff, Nat.reduceBEq, Nat.reduceSub, reduceCtorEq, reduceIte, Int.reduceToNat, Int.reduceLE, Int.reduceEq, Int.reduceNe, Int.reduceBEq, Int.reduceBNe, Int.reduceLT, Int.reduceGT, Int.reduceGE, Int.reduceNeg, ty_3, ty_4]
    refine GOps.done (hK _ ?_); clear hK K
    refine End.keep [4] ?_
    simp only [pk0, Nat.reduceBEq, reduceIte]
    refine Run.ret (hQ _ _ ⟨.inr rfl, _, rfl, _, rfl, ?_⟩)
    simp [below, hb]
  · have hb := of_decide_eq_false hb
    have hn0 : ¬ n = 0 := by omega
    have ht : x.tmod n = if x < 0 then (if x % n = 0 then 0 else x % n - n) else x % n := by
      rw [Int.tmod_eq_emod]
      have h1 : n.natAbs = n := by omega
      by_cases h0 : x < 0
      · by_cases h2 : n ∣ x
        · have := Int.emod_eq_zero_of_dvd h2
          simp [h2, h0, this]
        · have : ¬ x % n = 0 := fun e => h2 (Int.dvd_of_emod_eq_zero e)
          rw [if_neg (by omega), if_pos h0, if_neg this]
          omega
      · rw [if_pos (by omega), if_neg h0]
        omega
    have hm0 := Int.emod_nonneg x hn0
    have hm1 := Int.emod_lt_of_pos x (show 0 < n by omega)
    refine Run.skip ?_
    refine End.keep [0, 1] ?_
    simp only [pk0, Nat.reduceBEq, reduceIte]
    refine Run.seq ?_
    refine Run.region rfl fun K hK => GOps.run ?_
    simp only [lookupV, updateV, lookupK, updateK, slicePV, pe0, pe1, pe2, pe3, pe4, pe5, pe6, pe7, pr0, pr1, Nat.reduceAdd, Nat.reduceMul, Nat.reduceLeDiff, Nat.reduceLT, Nat.reduceEqDiff, Nat.reduceBEq, Nat.reduceSub, reduceCtorEq, reduceIte, Int.reduceToNat, Int.reduceLE, Int.reduceEq, Int.reduceNe, Int.reduceBEq, Int.reduceBNe, Int.reduceLT, Int.reduceGT, Int.reduceGE, Int.reduceNeg, ty_3, ty_4, hn0]
    refine GOps.done (hK _ ?_); clear hK K
    refine End.keep [0, 1] ?_
    simp only [pk0, Nat.reduceBEq, reduceIte]
    refine Run.seq ?_
    refine Run.seq ?_
    refine Run.region rfl fun K hK => GOps.run ?_
    simp only [lookupV, updateV, lookupK, updateK, slicePV, pe0, pe1, pe2, pe3, pe4, pe5, pe6, pe7, pr0, pr1, Nat.reduceAdd, Nat.reduceMul, Nat.reduceLeDiff, Nat.reduceLT, Nat.reduceEqDiff, Nat.reduceBEq, Nat.reduceSub, reduceCtorEq, reduceIte, Int.reduceToNat, Int.reduceLE, Int.reduceEq, Int.reduceNe, Int.reduceBEq, Int.reduceBNe, Int.reduceLT, Int.reduceGT, Int.reduceGE, Int.reduceNeg, ty_3, ty_4]
    refine GOps.done (hK _ ?_); clear hK K
    refine End.keep [0, 1, 11] ?_
    simp only [pk0, Nat.reduceBEq, reduceIte]
    refine Run.cond _ rfl (fun hb => ?_) (fun hb => ?_)
    · have hc := of_decide_eq_true hb
      refine Run.region rfl fun K hK => GOps.run ?_
      simp only [lookupV, updateV, lookupK, updateK, slicePV, pe0, pe1, pe2, pe3, pe4, pe5, pe6, pe7, pr0, pr1, Nat.reduceAdd, Nat.reduceMul, Nat.reduceLeDiff, Nat.reduceLT, Nat.reduceEqDiff, Nat.reduceBEq, Nat.reduceSub, reduceCtorEq, reduceIte, Int.reduceToNat, Int.reduceLE, Int.reduceEq, Int.reduceNe, Int.reduceBEq, Int.reduceBNe, Int.reduceLT, Int.reduceGT, Int.reduceGE, Int.reduceNeg, ty_3, ty_4]
      refine GOps.done (hK _ ?_); clear hK K
      refine End.keep [0] ?_
      simp only [pk0, Nat.reduceBEq, reduceIte]
      refine Run.seq ?_
      refine Run.region rfl fun K hK => GOps.run ?_
      simp only [lookupV, updateV, lookupK, updateK, slicePV, pe0, pe1, pe2, pe3, pe4, pe5, pe6, pe7, pr0, pr1, Nat.reduceAdd, Nat.reduceMul, Nat.reduceLeDiff, Nat.reduceLT, Nat.reduceEqDiff, Nat.reduceBEq, Nat.reduceSub, reduceCtorEq, reduceIte, Int.reduceToNat, Int.reduceLE, Int.reduceEq, Int.reduceNe, Int.reduceBEq, Int.reduceBNe, Int.reduceLT, Int.reduceGT, Int.reduceGE, Int.reduceNeg, ty_3, ty_4]
      refine GOps.done (hK _ ?_); clear hK K
      refine End.keep [4] ?_
      simp only [pk0, Nat.reduceBEq, reduceIte]
      refine Run.ret (hQ _ _ ⟨.inr rfl, _, rfl, _, rfl, ?_⟩)
      refine ⟨?_, rfl⟩
      have e : x.tmod n + n = x % n := by
        rw [ht] at hc ⊢
        split at hc
        · split at hc
          · omega
          · rename_i h1 h2; rw [if_pos h1, if_neg h2]; omega
        · omega
      rw [e, wrap64 (by omega)]
      simp [below, hb, show ¬ n < 1 by omega]
    · have hc := of_decide_eq_false hb
      refine Run.skip ?_
      refine End.keep [0] ?_
      simp only [pk0, Nat.reduceBEq, reduceIte]
      refine Run.seq ?_
      refine Run.region rfl fun K hK => GOps.run ?_
      simp only [lookupV, updateV, lookupK, updateK, slicePV, pe0, pe1, pe2, pe3, pe4, pe5, pe6, pe7, pr0, pr1, Nat.reduceAdd, Nat.reduceMul, Nat.reduceLeDiff, Nat.reduceLT, Nat.reduceEqDiff, Nat.reduceBEq, Nat.reduceSub, reduceCtorEq, reduceIte, Int.reduceToNat, Int.reduceLE, Int.reduceEq, Int.reduceNe, Int.reduceBEq, Int.reduceBNe, Int.reduceLT, Int.reduceGT, Int.reduceGE, Int.reduceNeg, ty_3, ty_4]
      refine GOps.done (hK _ ?_); clear hK K
      refine End.keep [4] ?_
      simp only [pk0, Nat.reduceBEq, reduceIte]
      refine Run.ret (hQ _ _ ⟨.inr rfl, _, rfl, _, rfl, ?_⟩)
      refine ⟨?_, rfl⟩
      have e : x.tmod n = x % n := by
        rw [ht] at hc ⊢
        split at hc
        · split at hc
          · rename_i h1 h2; rw [if_pos h1, if_pos h2, h2]
          · omega
        · rename_i h1; rw [if_neg h1]
      rw [e]
      simp [below, show ¬ n < 1 by omega]
abbrev ints (l : List Int) : List (List Im) := l.map fun x => [.int .i64 x]
/-- A stream of numbers: the list, and how many were drawn. -/
abbrev stm (l : List Int) (a : Int) : AObj := .box [.im (.sl (ints l)), .i a]
def nextV (l : List Int) (a n : Int) : Int :=
  if l = [] then below ((a + 1) * 7919) n else below (below (l.getD (a % l.length).toNat 0) 1073741824 + a / l.length * (7919 + a % l.length)) n
theorem ints_len (l : List Int) : (ints l).length = l.length := by simp
theorem ints_get (l : List Int) (i : Nat) (h : i < l.length) : (ints l)[i]? = some [.int .i64 (l.getD i 0)] := by simp [h]
structure StmOk (l : List Int) (a : Int) : Prop where
  vals : ∀ x ∈ l, I64 x
  len : l.length ≤ 9223372036854775807
  pos : 0 ≤ a
  few : a < 1099511627776
theorem Next_ok (l : List Int) (a n : Int) (hs : StmOk l a) (hn : I64 n) (up : Frs) (d j : Nat) (hl : fget up d j = some (stm l a)) : ACalls Tryd.prog 8 [.ptr d j 0, .i n] up fun v u => v = .i (nextV l a n) ∧ u = fset up d j (stm l (a + 1)) := by
  have hset : ∀ o, fget (fset up d j o) d j = some o := fun o => fget_fset_same _ _ _ _ _ hl
  have hw1 : IntKind.i64.wrap (a + 1) = a + 1 := wrap64 (by have := hs.pos; have := hs.few; omega)
  have hw2 : IntKind.i64.wrap ((a + 1) * 7919) = (a + 1) * 7919 := wrap64 (by have := hs.pos; have := hs.few; omega)
  refine ACalls.code Tryd.func8 rfl 64 rfl (by simp) [.tmp 4] rfl fun Q hQ => ?_
  simp only [ups, PV.up, argEnv]
  refine Run.seq ?_
  refine Run.region rfl fun K hK => GOps.run ?_
  simp only [lookupV, updateV, lookupK, updateK, slicePV, pe0, pe1, pe2, pe3, pe4, pe5, pe6, pe7, pr0, pr1, Nat.reduceAdd, Nat.reduceMul, Nat.reduceLeDiff, Nat.reduceLT, Nat.reduceEqDiff, Nat.reduceBEq, Nat.reduceSub, reduceCtorEq, reduceIte, Int.reduceToNat, Int.reduceLE, Int.reduceEq, Int.reduceNe, Int.reduceBEq, Int.reduceBNe, Int.reduceLT, Int.reduceGT, Int.reduceGE, Int.reduceNeg, ty_3, ty_4, ty_22, ty_23, ty_25, hl, hset, hw1, hw2, ints_len]
  refine GOps.done (hK _ ?_); clear hK K
  refine End.keep [0, 1] ?_
  simp only [pk0, Nat.reduceBEq, reduceIte]
  refine Run.seq ?_
  refine Run.region rfl fun K hK => GOps.run ?_
  simp only [lookupV, updateV, lookupK, updateK, slicePV, pe0, pe1, pe2, pe3, pe4, pe5, pe6, pe7, pr0, pr1, Nat.reduceAdd, Nat.reduceMul, Nat.reduceLeDiff, Nat.reduceLT, Nat.reduceEqDiff, Nat.reduceBEq, Nat.reduceSub, reduceCtorEq, reduceIte, Int.reduceToNat, Int.reduceLE, Int.reduceEq, Int.reduceNe, Int.reduceBEq, Int.reduceBNe, Int.reduceLT, Int.reduceGT, Int.reduceGE, Int.reduceNeg, ty_3, ty_4, ty_22, ty_23, ty_25, hl, hset, hw1, hw2, ints_len]
  refine GOps.done (hK _ ?_); clear hK K
  refine End.keep [0, 1] ?_
  simp only [pk0, Nat.reduceBEq, reduceIte]
  refine Run.seq ?_
  refine Run.seq ?_
  refine Run.region rfl fun K hK => GOps.run ?_
  simp only [lookupV, updateV, lookupK, updateK, slicePV, pe0, pe1, pe2, pe3, pe4, pe5, pe6, pe7, pr0, pr1, Nat.reduceAdd, Nat.reduceMul, Nat.reduceLeDiff, Nat.reduceLT, Nat.reduceEqDiff, Nat.reduceBEq, Nat.reduceSub, reduceCtorEq, reduceIte, Int.reduceToNat, Int.reduceLE, Int.reduceEq, Int.reduceNe, Int.reduceBEq, Int.reduceBNe, Int.reduceLT, Int.reduceGT, Int.reduceGE, Int.reduceNeg, ty_3, ty_4, ty_22, ty_23, ty_25, hl, hset, hw1, hw2, ints_len]
  refine GOps.done (hK _ ?_); clear hK K
  refine End.keep [0, 1, 19] ?_
  simp only [pk0, Nat.reduceBEq, reduceIte]
  refine Run.cond _ rfl (fun hb => ?_) (fun hb => ?_)
  · have hb := hb
    refine Run.seq ?_
    -- region 3: call F35(t24, t25) : 3,3
    refine Run.region rfl fun K hK => GOps.run ?_
    simp only [lookupV, updateV, lookupK, updateK, slicePV, pe0, pe1, pe2, pe3, pe4, pe5, pe6, pe7, pr0, pr1, Nat.reduceAdd, Nat.reduceMul, Nat.reduceLeDiff, Nat.reduceLT, Nat.reduceEqDiff, Nat.reduceBEq, Nat.reduceSub, reduceCtorEq, reduceIte, Int.reduceToNat, Int.reduceLE, Int.reduceEq, Int.reduceNe, Int.reduceBEq, Int.reduceBNe, Int.reduceLT, Int.reduceGT, Int.reduceGE, Int.reduceNeg, ty_3, ty_4, ty_22, ty_23, ty_25, hl, hset, hw1, hw2, ints_len]
    refine GOps.call rfl rfl rfl rfl (by kernel_rfl) ?_  -- call F35(t24, t25) : 3,3
    simp only [lookupV, updateV, lookupK, updateK, slicePV, pe0, pe1, pe2, pe3, pe4, pe5, pe6, pe7, pr0, pr1, Nat.reduceAdd, Nat.reduceMul, Nat.reduceLeDiff, Nat.reduceLT, Nat.reduceEqDiff, Nat.reduceBEq, Nat.reduceSub, reduceCtorEq, reduceIte, Int.reduceToNat, Int.reduceLE, Int.reduceEq, Int.reduceNe, Int.reduceBEq, Int.reduceBNe, Int.reduceLT, Int.reduceGT, Int.reduceGE, Int.reduceNeg, hw2]
    refine (Below_ok ((a + 1) * 7919) n (by have := hs.pos; have := hs.few; constructor <;> omega) hn _).mono fun v u hv => ?_
    obtain ⟨rfl, rfl⟩ := hv
    refine ⟨_, _, rfl, GOps.run ?_⟩
    simp only [lookupV, updateV, lookupK, updateK, slicePV, pe0, pe1, pe2, pe3, pe4, pe5, pe6, pe7, pr0, pr1, Nat.reduceAdd, Nat.reduceMul, Nat.reduceLeDiff, Nat.reduceLT, Nat.reduceEqDiff, Nat.reduceBEq, Nat.reduceSub, reduceCtorEq, reduceIte, Int.reduceToNat, Int.reduceLE, Int.reduceEq, Int.reduceNe, Int.reduceBEq, Int.reduceBNe, Int.reduceLT, Int.reduceGT, Int.reduceGE, Int.reduceNeg, ty_3, ty_4, ty_22, ty_23, ty_25, hl, hset, hw1, hw2, ints_len]
    refine GOps.done (hK _ ?_); clear hK K
    refine End.keep [4] ?_
    simp only [pk0, Nat.reduceBEq, reduceIte]
    refine Run.ret (hQ _ _ ⟨.inr rfl, _, rfl, _, rfl, ?_⟩)
    have h0 : l = [] := by simpa using hb
    exact ⟨by simp [nextV, h0], rfl⟩
  · have hne : l ≠ [] := fun e => by subst e; simp at hb
    have hpos : 0 < l.length := List.length_pos_iff.2 hne
    have hlz : ¬ ((l.length : Int) = 0) := by omega
    have hp := hs.pos
    have hf := hs.few
    have hll := hs.len
    have hw3 : IntKind.i64.wrap (a + 1 - 1) = a := by rw [show a + 1 - 1 = a by omega]; exact wrap64 (by omega)
    have hm : a.tmod l.length = a % l.length := Int.tmod_eq_emod_of_nonneg hp
    have hd : a.tdiv l.length = a / l.length := Int.tdiv_eq_ediv_of_nonneg hp
    have hm0 := Int.emod_nonneg a hlz
    have hm1 := Int.emod_lt_of_pos a (show (0 : Int) < l.length by omega)
    have hd0 : 0 ≤ a / l.length := Int.ediv_nonneg hp (by omega)
    have hia : a % l.length ≤ a := by
      have h2 := Int.mul_ediv_add_emod a l.length
      have h3 : 0 ≤ (l.length : Int) * (a / l.length) := Int.mul_nonneg (by omega) hd0
      omega
    have hd1 : a / l.length ≤ a := Int.ediv_le_self _ hp
    have hw4 : IntKind.i64.wrap (a / l.length) = a / l.length := wrap64 (by omega)
    have hlt : (a % l.length).toNat < l.length := by omega
    have hx := ints_get l (a % l.length).toNat hlt
    generalize hi : a % (l.length : Int) = i at *
    generalize hr : a / (l.length : Int) = r at *
    have hmul : r * (7919 + i) ≤ 10000000000000000 := by
      have h1 : r * i ≤ a := by
        have h2 := Int.mul_ediv_add_emod a l.length
        rw [hi, hr] at h2
        have h3 : r * i ≤ r * l.length := Int.mul_le_mul_of_nonneg_left (by omega) hd0
        rw [Int.mul_comm] at h2
        omega
      rw [Int.mul_add]
      omega
    have hmul0 : 0 ≤ r * (7919 + i) := Int.mul_nonneg hd0 (by omega)
    have hb1 : 0 ≤ below (l.getD i.toNat 0) 1073741824 ∧ below (l.getD i.toNat 0) 1073741824 < 1073741824 := by
      simp only [below]
      rw [if_neg (by decide)]
      exact ⟨Int.emod_nonneg _ (by decide), Int.emod_lt_of_pos _ (by decide)⟩
    have hw7 : IntKind.i64.wrap (below (l.getD i.toNat 0) 1073741824 + r * (7919 + i)) = below (l.getD i.toNat 0) 1073741824 + r * (7919 + i) := wrap64 (by omega)
    have hw5 : IntKind.i64.wrap (7919 + i) = 7919 + i := wrap64 (by omega)
    have hw6 : IntKind.i64.wrap (r * (7919 + i)) = r * (7919 + i) := wrap64 (by omega)
    refine Run.skip ?_
    refine End.keep [0, 1] ?_
    simp only [pk0, Nat.reduceBEq, reduceIte]
    refine Run.seq ?_
    refine Run.draw [[], [0], [0, 1], [0, 1, 2], [0, 1, 2, 3], [], [5], [5, 6], [5, 6, 7], [5, 6, 7, 8], [0, 1, 2, 3, 4, 5, 6, 7, 8, 9], [0, 1, 2, 3, 4, 5, 6, 7, 8, 9, 10]] (by kernel_rfl) rfl (by kernel_rfl) (by kernel_rfl) fun K hK => DOps.run ?_
    simp only [lookupV, updateV, lookupK, updateK, slicePV, pe0, pe1, pe2, pe3, pe4, pe5, pe6, pe7, pr0, pr1, Nat.reduceAdd, Nat.reduceMul, Nat.reduceLeDiff, Nat.reduceLT, Nat.reduceEqDiff, Nat.reduceBEq, Nat.reduceSub, reduceCtorEq, reduceIte, Int.reduceToNat, Int.reduceLE, Int.reduceEq, Int.reduceNe, Int.reduceBEq, Int.reduceBNe, Int.reduceLT, Int.reduceGT, Int.reduceGE, Int.reduceNeg, ty_3, ty_4, ty_22, ty_23, ty_25, hl, hset, hw1, hw3, ints_len, hlz, hm, hd, hw4, hw5, hw6, hx, hm0, hw7]
    refine DOps.nil (metAll_quiet rfl) (hK _ ?_); clear hK K
    refine End.keep [0, 1, 5] ?_
    simp only [pk0, Nat.reduceBEq, reduceIte]
    refine Run.seq ?_
    refine Run.draw [[], [0], [0, 1], [0, 1, 2], [0, 1, 2, 3], [], [5], [5, 6], [5, 6, 7], [5, 6, 7, 8], [0, 1, 2, 3, 4, 5, 6, 7, 8, 9], [0, 1, 2, 3, 4, 5, 6, 7, 8, 9, 10]] (by kernel_rfl) rfl (by kernel_rfl) (by kernel_rfl) fun K hK => DOps.run ?_
    simp only [lookupV, updateV, lookupK, updateK, slicePV, pe0, pe1, pe2, pe3, pe4, pe5, pe6, pe7, pr0, pr1, Nat.reduceAdd, Nat.reduceMul, Nat.reduceLeDiff, Nat.reduceLT, Nat.reduceEqDiff, Nat.reduceBEq, Nat.reduceSub, reduceCtorEq, reduceIte, Int.reduceToNat, Int.reduceLE, Int.reduceEq, Int.reduceNe, Int.reduceBEq, Int.reduceBNe, Int.reduceLT, Int.reduceGT, Int.reduceGE, Int.reduceNeg, ty_3, ty_4, ty_22, ty_23, ty_25, hl, hset, hw1, hw3, ints_len, hlz, hm, hd, hw4, hw5, hw6, hx, hm0, hw7]
    refine DOps.nil (metAll_quiet rfl) (hK _ ?_); clear hK K
    refine End.keep [0, 1, 5, 6] ?_
    simp only [pk0, Nat.reduceBEq, reduceIte]
    refine Run.seq ?_
    -- region 6: call F35(t55, 1073741824) : 3,3; call F35(t61, t62) : 3,3
    refine Run.region rfl fun K hK => GOps.run ?_
    simp only [lookupV, updateV, lookupK, updateK, slicePV, pe0, pe1, pe2, pe3, pe4, pe5, pe6, pe7, pr0, pr1, Nat.reduceAdd, Nat.reduceMul, Nat.reduceLeDiff, Nat.reduceLT, Nat.reduceEqDiff, Nat.reduceBEq, Nat.reduceSub, reduceCtorEq, reduceIte, Int.reduceToNat, Int.reduceLE, Int.reduceEq, Int.reduceNe, Int.reduceBEq, Int.reduceBNe, Int.reduceLT, Int.reduceGT, Int.reduceGE, Int.reduceNeg, ty_3, ty_4, ty_22, ty_23, ty_25, hl, hset, hw1, hw3, ints_len, hlz, hm, hd, hw4, hw5, hw6, hx, hm0, hw7]
    refine GOps.call rfl rfl rfl rfl (by kernel_rfl) ?_  -- call F35(t55, 1073741824) : 3,3
    refine (Below_ok (l.getD i.toNat 0) 1073741824 (by
      have hm : l.getD i.toNat 0 ∈ l := by rw [List.getD_eq_getElem?_getD, List.getElem?_eq_getElem hlt]; simp
      exact hs.vals _ hm) (by omega) _).mono fun v u hv => ?_
    obtain ⟨rfl, rfl⟩ := hv
    refine ⟨_, _, rfl, GOps.run ?_⟩
    simp only [lookupV, updateV, lookupK, updateK, slicePV, pe0, pe1, pe2, pe3, pe4, pe5, pe6, pe7, pr0, pr1, Nat.reduceAdd, Nat.reduceMul, Nat.reduceLeDiff, Nat.reduceLT, Nat.reduceEqDiff, Nat.reduceBEq, Nat.reduceSub, reduceCtorEq, reduceIte, Int.reduceToNat, Int.reduceLE, Int.reduceEq, Int.reduceNe, Int.reduceBEq, Int.reduceBNe, Int.reduceLT, Int.reduceGT, Int.reduceGE, Int.reduceNeg, ty_3, ty_4, ty_22, ty_23, ty_25, hl, hset, hw1, hw3, ints_len, hlz, hm, hd, hw4, hw5, hw6, hx, hm0, hw7]
    refine GOps.call rfl rfl rfl rfl (by kernel_rfl) ?_  -- call F35(t61, t62) : 3,3
    simp only [lookupV, updateV, lookupK, updateK, slicePV, pe0, pe1, pe2, pe3, pe4, pe5, pe6, pe7, pr0, pr1, Nat.reduceAdd, Nat.reduceMul, Nat.reduceLeDiff, Nat.reduceLT, Nat.reduceEqDiff, Nat.reduceBEq, Nat.reduceSub, reduceCtorEq, reduceIte, Int.reduceToNat, Int.reduceLE, Int.reduceEq, Int.reduceNe, Int.reduceBEq, Int.reduceBNe, Int.reduceLT, Int.reduceGT, Int.reduceGE, Int.reduceNeg, hw7]
    refine (Below_ok (below (l.getD i.toNat 0) 1073741824 + r * (7919 + i)) n (by omega) hn _).mono fun v u hv => ?_
    obtain ⟨rfl, rfl⟩ := hv
    refine ⟨_, _, rfl, GOps.run ?_⟩
    simp only [lookupV, updateV, lookupK, updateK, slicePV, pe0, pe1, pe2, pe3, pe4, pe5, pe6, pe7, pr0, pr1, Nat.reduceAdd, Nat.reduceMul, Nat.reduceLeDiff, Nat.reduceLT, Nat.reduceEqDiff, Nat.reduceBEq, Nat.reduceSub, reduceCtorEq, reduceIte, Int.reduceToNat, Int.reduceLE, Int.reduceEq, Int.reduceNe, Int.reduceBEq, Int.reduceBNe, Int.reduceLT, Int.reduceGT, Int.reduceGE, Int.reduceNeg, ty_3, ty_4, ty_22, ty_23, ty_25, hl, hset, hw1, hw3, ints_len, hlz, hm, hd, hw4, hw5, hw6, hx, hm0, hw7]
    refine GOps.done (hK _ ?_); clear hK K
    refine End.keep [4] ?_
    simp only [pk0, Nat.reduceBEq, reduceIte]
    refine Run.ret (hQ _ _ ⟨.inr rfl, _, rfl, _, rfl, ?_⟩)
    refine ⟨?_, rfl⟩
    simp only [nextV, if_neg hne, hi, hr]
end Go.Proofs.YtdgpmopcmacicaaDoorPi

/- The walks of the functions that draw words, masks, picks and nets. -/
set_option linter.unusedVariables false
set_option linter.unusedSimpArgs false
namespace Go.Proofs.YtdgpmopcmacicaaDoorPi
theorem below_range (x n : Int) (h : 1 ≤ n) : 0 ≤ below x n ∧ below x n < n := by
  unfold below
  rw [if_neg (by omega)]
  exact ⟨Int.emod_nonneg _ (by omega), Int.emod_lt_of_pos _ (by omega)⟩
theorem nextV_range (l : List Int) (a n : Int) (h : 1 ≤ n) : 0 ≤ nextV l a n ∧ nextV l a n < n := by
  unfold nextV
  split <;> exact below_range _ _ h
theorem StmOk.next {l : List Int} {a : Int} (h : StmOk l a) (hf : a + 1 < 1099511627776) : StmOk l (a + 1) := ⟨h.vals, h.len, by have := h.pos; omega, hf⟩
theorem StmOk.plus {l : List Int} {a : Int} (h : StmOk l a) (k : Int) (hk : 0 ≤ k) (hf : a + k < 1099511627776) : StmOk l (a + k) := ⟨h.vals, h.len, by have := h.pos; omega, hf⟩
abbrev PV.u (x : Int) : PV := .im (.int .u64 x)
theorem wrapU {x : Int} (h : 0 ≤ x ∧ x ≤ 18446744073709551615) : IntKind.u64.wrap x = x := by
  unfold IntKind.wrap
  simp only [IntKind.bits, IntKind.signed]
  simp
  omega
-- GONE word_ok
-- GONE mask_ok
-- GONE Pick_ok
-- GONE net_ok
end Go.Proofs.YtdgpmopcmacicaaDoorPi

/- Plain law: bit 0 of words. -/
set_option linter.unusedVariables false
set_option linter.unusedSimpArgs false
namespace Go.Proofs.YtdgpmopcmacicaaDoorPi

/-- Bit 0 of a word. -/
def bit0 (x : Int) : Bool := (BitVec.ofInt 64 x).getLsbD 0
theorem back0 (r : BitVec 64) : bit0 (IntKind.u64.wrap r.toNat) = r.getLsbD 0 := by
  have h : IntKind.u64.wrap r.toNat = r.toNat := wrapU (by have := r.isLt; omega)
  rw [bit0, h]
  congr 1
  apply BitVec.eq_of_toNat_eq
  simp
theorem bit0_and (x y : Int) : bit0 (bits .and .u64 x y) = (bit0 x && bit0 y) := by
  show bit0 (IntKind.u64.wrap (BitVec.ofInt 64 x &&& BitVec.ofInt 64 y).toNat) = _
  rw [back0, BitVec.getLsbD_and]
  rfl
theorem bit0_not (y : Int) : bit0 (bits .xor .u64 (if IntKind.u64.signed = true then -1 else IntKind.u64.max) y) = !bit0 y := by
  show bit0 (IntKind.u64.wrap (BitVec.ofInt 64 _ ^^^ BitVec.ofInt 64 y).toNat) = _
  rw [back0, BitVec.getLsbD_xor]
  have : (BitVec.ofInt 64 (if IntKind.u64.signed = true then -1 else IntKind.u64.max)).getLsbD 0 = true := by decide
  rw [this]
  simp [bit0]
theorem one_iff (x : Int) : (bits .and .u64 x 1 == 1) = bit0 x := by
  have h1 : bits .and .u64 x 1 = ((BitVec.ofInt 64 x &&& 1#64).toNat : Int) := by
    show IntKind.u64.wrap (BitVec.ofInt 64 x &&& BitVec.ofInt 64 1).toNat = _
    rw [wrapU (by have := (BitVec.ofInt 64 x &&& BitVec.ofInt 64 1).isLt; omega)]
    rfl
  rw [h1, bit0]
  generalize BitVec.ofInt 64 x = b
  have h2 : (b &&& 1#64).toNat = b.toNat % 2 := by
    rw [BitVec.toNat_and]
    exact Nat.and_one_is_mod _
  have h3 : b.getLsbD 0 = decide (b.toNat % 2 = 1) := by
    rw [BitVec.getLsbD, Nat.testBit_zero]
  rw [h2, h3]
  by_cases h : b.toNat % 2 = 1
  · simp [h]
  · have h0 : b.toNat % 2 = 0 := by omega
    simp [h0]
theorem bit0_lane (b : Bool) : bit0 (if b = true then 1 else 0) = b := by cases b <;> decide
end Go.Proofs.YtdgpmopcmacicaaDoorPi

/- The walks of the function that draws names. -/
set_option linter.unusedVariables false
set_option linter.unusedSimpArgs false
set_option maxRecDepth 100000
namespace Go.Proofs.YtdgpmopcmacicaaDoorPi

def chr (n : Int) : UInt8 := UInt8.ofNat n.toNat
abbrev strs (l : List ByteArray) : List (List Im) := l.map fun s => [.str s]
theorem strs_len (l : List ByteArray) : (strs l).length = l.length := by simp
def nameV (l : List Int) (a : Int) (i : Int) : ByteArray × Int :=
  if nextV l (a + 1) 5 = 0 then (⟨#[chr (97 + nextV l a 26), chr (97 + i % 26), chr (97 + i / 26 % 26)]⟩ ++ (⟨#[91]⟩ ++ ⟨#[chr (48 + nextV l (a + 1 + 1) 10)]⟩ ++ ⟨#[93]⟩), a + 1 + 1 + 1)
  else if nextV l (a + 1) 5 = 1 then (⟨#[109, 46]⟩ ++ ⟨#[chr (97 + nextV l a 26), chr (97 + i % 26), chr (97 + i / 26 % 26)]⟩, a + 1 + 1)
  else (⟨#[chr (97 + nextV l a 26), chr (97 + i % 26), chr (97 + i / 26 % 26)]⟩, a + 1 + 1)
def wordsV (l : List Int) : Nat → Nat → Int → List ByteArray × Int
  | 0, _, a => ([], a)
  | k + 1, i, a => ((nameV l a i).1 :: (wordsV l k (i + 1) (nameV l a i).2).1, (wordsV l k (i + 1) (nameV l a i).2).2)
theorem nameV_pos (l : List Int) (a i : Int) : a < (nameV l a i).2 ∧ (nameV l a i).2 ≤ a + 3 := by
  unfold nameV
  split
  · exact ⟨by simp only; omega, by simp only; omega⟩
  · split <;> exact ⟨by simp only; omega, by simp only; omega⟩
theorem wordsV_pos (l : List Int) : ∀ (k i : Nat) (a : Int), a ≤ (wordsV l k i a).2 ∧ (wordsV l k i a).2 ≤ a + 3 * k ∧ (wordsV l k i a).1.length = k
  | 0, i, a => by simp [wordsV]
  | k + 1, i, a => by
    have h1 := nameV_pos l a i
    have h2 := wordsV_pos l k (i + 1) (nameV l a i).2
    refine ⟨?_, ?_, ?_⟩
    · simp only [wordsV]; omega
    · simp only [wordsV]; omega
    · simp only [wordsV, List.length_cons]; omega
theorem wrap8 {x : Int} (h : 0 ≤ x ∧ x < 256) : IntKind.u8.wrap x = x := by
  unfold IntKind.wrap
  simp only [IntKind.bits, IntKind.signed]
  simp
  omega
theorem ba_size (a : Array UInt8) : (ByteArray.mk a).size = a.size := rfl
theorem Words_ok (N : Nat) (hN : N ≤ 300) (l : List Int) (a : Int) (hs : StmOk l a) (hf : a + 1000 < 1099511627776) (up : Frs) (d j : Nat) (hl : fget up d j = some (stm l a)) : ACalls Tryd.prog 42 [.ptr d j 0, .i N] up fun v u => v = .im (.sl (strs (wordsV l N 0 a).1)) ∧ u = fset up d j (stm l (wordsV l N 0 a).2) := by
  have hset : ∀ o, fget (fset up d j o) d j = some o := fun o => fget_fset_same _ _ _ _ _ hl
  have hp := hs.pos
  refine ACalls.code Tryd.func42 rfl 51 rfl (by simp) [.tmp 4] rfl fun Q hQ => ?_
  simp only [ups, PV.up, argEnv]
  have ft := And.intro ty_2 (And.intro ty_3 (And.intro ty_4 (And.intro ty_5 (And.intro ty_9 (And.intro ty_23 (And.intro ty_26 (And.intro ty_126 trivial)))))))
  refine Run.seq ?_
  have fx := And.intro hset (And.intro hl ft)
  refine Run.go ?_
  refine End.kp [0, 1] ?_
  refine Run.seq ?_
  refine Run.go ?_
  refine End.kp [0, 1, 5] ?_
  refine Run.seq ?_
  refine Run.seq ?_
  refine Run.go ?_
  refine End.kp [0, 5, 8, 9] ?_
  refine Run.block ?_
  refine Run.ghost (Ghost.thaw (u := 5) 9 1 (by decide) rfl) ?_
  refine Run.ghost (Ghost.shape [(0, .ptr (d + 1) j 0), (5, .ms 0 0 (0)), (8, .i N), (9, .i (0 : Nat))] 1 ?_ rfl rfl) ?_
  · simp [eget, eput, edel]
  refine Run.loop (fun m s => ∃ (i : Nat) (done : List ByteArray) (b : Int), m = N - i ∧ i ≤ N ∧ done.length = i ∧ (wordsV l (N - i) i b).2 = (wordsV l N 0 a).2 ∧ done ++ (wordsV l (N - i) i b).1 = (wordsV l N 0 a).1 ∧ a ≤ b ∧ b ≤ a + 3 * i ∧
    s = ⟨[(0, .ptr (d + 1) j 0), (5, .ms 0 0 (i)), (8, .i N), (9, .i (i : Nat))], [.row 9 1 (strs done) 0], fset up d j (stm l b)⟩) N ⟨0, [], a, rfl, by omega, rfl, rfl, rfl, by omega, by omega, by rw [fset_self up d j _ hl]; rfl⟩ fun m s hI => ?_
  obtain ⟨i, done, b, rfl, hi, hdl, hw2, hw1, hb0, hb1, rfl⟩ := hI
  have hsl : (strs done).length = i := by rw [strs_len, hdl]
  have hs0 : StmOk l b := ⟨hs.vals, hs.len, by omega, by omega⟩
  refine Run.seq ?_
  have fx := And.intro hsl (And.intro hset (And.intro hl ft))
  refine Run.go ?_
  refine End.kp [0, 5, 8, 9, 10] ?_
  refine Run.seq ?_
  refine Run.cond _ rfl (fun hb => ?_) (fun hb => ?_)
  · have hb := of_decide_eq_true hb
    have hin : i < N := by omega
    have hap : (i + 1) * 16 ≤ 140737488355328 := by omega
    obtain ⟨r0, r1⟩ := nextV_range l b 26 (by omega)
    obtain ⟨r2, r3⟩ := nextV_range l (b + 1) 5 (by omega)
    obtain ⟨r4, r5⟩ := nextV_range l (b + 1 + 1) 10 (by omega)
    have m0 := Int.emod_nonneg (i : Int) (show (26 : Int) ≠ 0 by decide)
    have m1 := Int.emod_lt_of_pos (i : Int) (show (0 : Int) < 26 by decide)
    have m2 := Int.emod_nonneg ((i : Int) / 26) (show (26 : Int) ≠ 0 by decide)
    have m3 := Int.emod_lt_of_pos ((i : Int) / 26) (show (0 : Int) < 26 by decide)
    have d0 : (0 : Int) ≤ (i : Int) / 26 := by omega
    have d1 : (i : Int) / 26 ≤ i := by omega
    have t1 : (i : Int).tmod 26 = (i : Int) % 26 := Int.tmod_eq_emod_of_nonneg (by omega)
    have t2 : (i : Int).tdiv 26 = (i : Int) / 26 := Int.tdiv_eq_ediv_of_nonneg (by omega)
    have t3 : ((i : Int) / 26).tmod 26 = (i : Int) / 26 % 26 := Int.tmod_eq_emod_of_nonneg d0
    have w0 : IntKind.i64.wrap ((i : Int) / 26) = (i : Int) / 26 := wrap64 (by omega)
    have w1 : IntKind.i64.wrap (97 + nextV l b 26) = 97 + nextV l b 26 := wrap64 (by omega)
    have w2 : IntKind.i64.wrap (97 + (i : Int) % 26) = 97 + (i : Int) % 26 := wrap64 (by omega)
    have w3 : IntKind.i64.wrap (97 + (i : Int) / 26 % 26) = 97 + (i : Int) / 26 % 26 := wrap64 (by omega)
    have w4 : IntKind.i64.wrap (48 + nextV l (b + 1 + 1) 10) = 48 + nextV l (b + 1 + 1) 10 := wrap64 (by omega)
    have v1 : IntKind.u8.wrap (97 + nextV l b 26) = 97 + nextV l b 26 := wrap8 (by omega)
    have v2 : IntKind.u8.wrap (97 + (i : Int) % 26) = 97 + (i : Int) % 26 := wrap8 (by omega)
    have v3 : IntKind.u8.wrap (97 + (i : Int) / 26 % 26) = 97 + (i : Int) / 26 % 26 := wrap8 (by omega)
    have v4 : IntKind.u8.wrap (48 + nextV l (b + 1 + 1) 10) = 48 + nextV l (b + 1 + 1) 10 := wrap8 (by omega)
    have z1 : 0 ≤ 97 + nextV l b 26 ∧ 97 + nextV l b 26 < 256 := by omega
    have z2 : 0 ≤ 97 + (i : Int) % 26 ∧ 97 + (i : Int) % 26 < 256 := by omega
    have z3 : 0 ≤ 97 + (i : Int) / 26 % 26 ∧ 97 + (i : Int) / 26 % 26 < 256 := by omega
    have z4 : 0 ≤ 48 + nextV l (b + 1 + 1) 10 ∧ 48 + nextV l (b + 1 + 1) 10 < 256 := by omega
    have wi : IntKind.i64.wrap ((i : Int) + 1) = ((i + 1 : Nat) : Int) := by rw [wrap64 (by omega)]; omega
    refine Run.skip ?_
    refine End.kp [0, 5, 8, 9] ?_
    refine Run.seq ?_
    refine Run.block ?_
    refine Run.seq ?_
    have fx := And.intro (@ByteArray.size_append) (And.intro (@List.size_toArray.{0}) (And.intro (@ba_size) (And.intro wi (And.intro z4 (And.intro z3 (And.intro z2 (And.intro z1 (And.intro v4 (And.intro v3 (And.intro v2 (And.intro v1 (And.intro w4 (And.intro w3 (And.intro w2 (And.intro w1 (And.intro w0 (And.intro t3 (And.intro t2 (And.intro t1 (And.intro hap (And.intro hsl (And.intro hset (And.intro hl ft)))))))))))))))))))))))
    refine Run.go ?_
    refine End.kp [0, 5, 6, 8, 9] ?_
    refine Run.seq ?_
    refine Run.region rfl fun K hK => GOps.sim ?_
    refine GOps.call rfl rfl rfl rfl (by kernel_rfl) (ACalls.sim ?_)
    refine (Next_ok l b 26 hs0 (by omega) _ (d + 1) j (hset _)).mono fun v u hv => ?_
    obtain ⟨rfl, rfl⟩ := hv
    refine ⟨_, _, rfl, GOps.sim ?_⟩
    refine GOps.done (hK _ ?_); clear hK K
    refine End.kp [0, 5, 7, 8, 9] ?_
    refine Run.seq ?_
    refine Run.seq ?_
    refine Run.region rfl fun K hK => GOps.sim ?_
    refine GOps.call rfl rfl rfl rfl (by kernel_rfl) (ACalls.sim ?_)
    refine (Next_ok l (b + 1) 5 (hs0.plus 1 (by omega) (by omega)) (by omega) _ (d + 1) j (hset _)).mono fun v u hv => ?_
    obtain ⟨rfl, rfl⟩ := hv
    refine ⟨_, _, rfl, GOps.sim ?_⟩
    refine GOps.done (hK _ ?_); clear hK K
    refine End.kp [0, 5, 7, 8, 9, 28] ?_
    refine Run.block ?_
    refine Run.seq ?_
    refine Run.go ?_
    refine End.kp [0, 5, 7, 8, 9, 28, 29] ?_
    refine Run.cond _ rfl (fun hb => ?_) (fun hb => ?_)
    · have hb5 : nextV l (b + 1) 5 = 0 := eq_of_beq hb
      have fx := And.intro (@ByteArray.size_append) (And.intro (@List.size_toArray.{0}) (And.intro (@ba_size) (And.intro wi (And.intro z4 (And.intro z3 (And.intro z2 (And.intro z1 (And.intro v4 (And.intro v3 (And.intro v2 (And.intro v1 (And.intro w4 (And.intro w3 (And.intro w2 (And.intro w1 (And.intro w0 (And.intro t3 (And.intro t2 (And.intro t1 (And.intro hap (And.intro hsl (And.intro hset (And.intro hl ft)))))))))))))))))))))))
      refine Run.region rfl fun K hK => GOps.sim ?_
      refine GOps.call rfl rfl rfl rfl (by kernel_rfl) (ACalls.sim ?_)
      refine (Next_ok l (b + 1 + 1) 10 ((hs0.plus 1 (by omega) (by omega)).plus 1 (by omega) (by omega)) (by omega) _ (d + 1) j (hset _)).mono fun v u hv => ?_
      obtain ⟨rfl, rfl⟩ := hv
      refine ⟨_, _, rfl, GOps.sim ?_⟩
      refine GOps.done (hK _ ?_); clear hK K
      refine End.blk ?_
      refine End.kp [0, 5, 7, 8, 9] ?_
      refine Run.go ?_
      refine End.blk ?_
      refine End.kp [0, 5, 8, 9] ?_
      refine Run.go ?_
      refine End.lp ?_
      have hn : nameV l b i = (⟨#[chr (97 + nextV l b 26), chr (97 + (i : Int) % 26), chr (97 + (i : Int) / 26 % 26)]⟩ ++ (⟨#[91]⟩ ++ ⟨#[chr (48 + nextV l (b + 1 + 1) 10)]⟩ ++ ⟨#[93]⟩), b + 1 + 1 + 1) := by simp [nameV, chr, hb5]
      have hp := nameV_pos l b i
      have hwi : wordsV l (N - i) i b = ((nameV l b i).1 :: (wordsV l (N - (i + 1)) (i + 1) (nameV l b i).2).1, (wordsV l (N - (i + 1)) (i + 1) (nameV l b i).2).2) := by
        rw [show N - i = (N - (i + 1)) + 1 by omega]
        rfl
      rw [hwi] at hw1 hw2
      refine ⟨N - (i + 1), _, by omega, Ghost.shape [(0, .ptr (d + 1) j 0), (5, .ms 0 0 (i + 1)), (8, .i N), (9, .i (i + 1 : Nat))] 1 ?_ rfl rfl, i + 1, done ++ [(nameV l b i).1], (nameV l b i).2, rfl, by omega, by simp [hdl], hw2, by simpa using hw1, by omega, by omega, ?_⟩
      · simp only [List.mem_cons, List.not_mem_nil, or_false, forall_eq_or_imp, forall_eq, eget]
        simp
      · rw [hn]
        simp [chr]
    · have hb5 : ¬ nextV l (b + 1) 5 = 0 := fun e => by simp [e] at hb
      refine Run.seq ?_
      have fx := And.intro (@ByteArray.size_append) (And.intro (@List.size_toArray.{0}) (And.intro (@ba_size) (And.intro wi (And.intro z4 (And.intro z3 (And.intro z2 (And.intro z1 (And.intro v4 (And.intro v3 (And.intro v2 (And.intro v1 (And.intro w4 (And.intro w3 (And.intro w2 (And.intro w1 (And.intro w0 (And.intro t3 (And.intro t2 (And.intro t1 (And.intro hap (And.intro hsl (And.intro hset (And.intro hl ft)))))))))))))))))))))))
      refine Run.go ?_
      refine End.kp [0, 5, 7, 8, 9, 41] ?_
      refine Run.cond _ rfl (fun hb => ?_) (fun hb => ?_)
      · have hb6 : nextV l (b + 1) 5 = 1 := eq_of_beq hb
        have fx := And.intro (@ByteArray.size_append) (And.intro (@List.size_toArray.{0}) (And.intro (@ba_size) (And.intro wi (And.intro z4 (And.intro z3 (And.intro z2 (And.intro z1 (And.intro v4 (And.intro v3 (And.intro v2 (And.intro v1 (And.intro w4 (And.intro w3 (And.intro w2 (And.intro w1 (And.intro w0 (And.intro t3 (And.intro t2 (And.intro t1 (And.intro hap (And.intro hsl (And.intro hset (And.intro hl ft)))))))))))))))))))))))
        refine Run.go ?_
        refine End.blk ?_
        refine End.kp [0, 5, 7, 8, 9] ?_
        refine Run.go ?_
        refine End.blk ?_
        refine End.kp [0, 5, 8, 9] ?_
        refine Run.go ?_
        refine End.lp ?_
        have hn : nameV l b i = (⟨#[109, 46]⟩ ++ ⟨#[chr (97 + nextV l b 26), chr (97 + (i : Int) % 26), chr (97 + (i : Int) / 26 % 26)]⟩, b + 1 + 1) := by simp [nameV, chr, hb5, hb6]
        have hp := nameV_pos l b i
        have hwi : wordsV l (N - i) i b = ((nameV l b i).1 :: (wordsV l (N - (i + 1)) (i + 1) (nameV l b i).2).1, (wordsV l (N - (i + 1)) (i + 1) (nameV l b i).2).2) := by
          rw [show N - i = (N - (i + 1)) + 1 by omega]
          rfl
        rw [hwi] at hw1 hw2
        refine ⟨N - (i + 1), _, by omega, Ghost.shape [(0, .ptr (d + 1) j 0), (5, .ms 0 0 (i + 1)), (8, .i N), (9, .i (i + 1 : Nat))] 1 ?_ rfl rfl, i + 1, done ++ [(nameV l b i).1], (nameV l b i).2, rfl, by omega, by simp [hdl], hw2, by simpa using hw1, by omega, by omega, ?_⟩
        · simp only [List.mem_cons, List.not_mem_nil, or_false, forall_eq_or_imp, forall_eq, eget]
          simp
        · rw [hn]
          simp [chr]
      · have hb6 : ¬ nextV l (b + 1) 5 = 1 := fun e => by simp [e] at hb
        refine Run.skip ?_
        refine End.blk ?_
        refine End.kp [0, 5, 7, 8, 9] ?_
        have fx := And.intro (@ByteArray.size_append) (And.intro (@List.size_toArray.{0}) (And.intro (@ba_size) (And.intro wi (And.intro z4 (And.intro z3 (And.intro z2 (And.intro z1 (And.intro v4 (And.intro v3 (And.intro v2 (And.intro v1 (And.intro w4 (And.intro w3 (And.intro w2 (And.intro w1 (And.intro w0 (And.intro t3 (And.intro t2 (And.intro t1 (And.intro hap (And.intro hsl (And.intro hset (And.intro hl ft)))))))))))))))))))))))
        refine Run.go ?_
        refine End.blk ?_
        refine End.kp [0, 5, 8, 9] ?_
        refine Run.go ?_
        refine End.lp ?_
        have hn : nameV l b i = (⟨#[chr (97 + nextV l b 26), chr (97 + (i : Int) % 26), chr (97 + (i : Int) / 26 % 26)]⟩, b + 1 + 1) := by simp [nameV, chr, hb5, hb6]
        have hp := nameV_pos l b i
        have hwi : wordsV l (N - i) i b = ((nameV l b i).1 :: (wordsV l (N - (i + 1)) (i + 1) (nameV l b i).2).1, (wordsV l (N - (i + 1)) (i + 1) (nameV l b i).2).2) := by
          rw [show N - i = (N - (i + 1)) + 1 by omega]
          rfl
        rw [hwi] at hw1 hw2
        refine ⟨N - (i + 1), _, by omega, Ghost.shape [(0, .ptr (d + 1) j 0), (5, .ms 0 0 (i + 1)), (8, .i N), (9, .i (i + 1 : Nat))] 1 ?_ rfl rfl, i + 1, done ++ [(nameV l b i).1], (nameV l b i).2, rfl, by omega, by simp [hdl], hw2, by simpa using hw1, by omega, by omega, ?_⟩
        · simp only [List.mem_cons, List.not_mem_nil, or_false, forall_eq_or_imp, forall_eq, eget]
          simp
        · rw [hn]
          simp [chr]
  · have hb := of_decide_eq_false hb
    have hiN : i = N := by omega
    subst hiN
    simp only [Nat.sub_self, wordsV, List.append_nil] at hw1 hw2
    refine Run.exit rfl ?_
    refine End.kp [5] ?_
    refine Run.seq ?_
    refine Run.ghost (Ghost.shut (t := 5) (j := 0) rfl rfl hsl) ?_
    simp only [eput, edel]
    have fx := And.intro hsl (And.intro hset (And.intro hl ft))
    refine Run.go ?_
    refine End.kp [4] ?_
    refine Run.ret (hQ _ _ ⟨.inr rfl, _, rfl, _, rfl, ?_⟩)
    exact ⟨by rw [hw1], by rw [hw2]⟩
end Go.Proofs.YtdgpmopcmacicaaDoorPi

/- The walk of the function that draws a netlist. -/
set_option linter.unusedVariables false
set_option linter.unusedSimpArgs false
namespace Go.Proofs.YtdgpmopcmacicaaDoorPi

set_option maxHeartbeats 2000000
structure LGate where
  table : Int
  ins : List Int
abbrev LGate.im (g : LGate) : List Im := [.int .i64 (-1), .int .u64 g.table, .sl (ints g.ins)]
structure LFlop where
  name : ByteArray
  d : Int
  en : Int
  init : Bool
abbrev LFlop.im (f : LFlop) : List Im := [.str f.name, .int .i64 (-1), .int .i64 f.d, .int .i64 f.en, .bool f.init]
structure LNet where
  inn : List ByteArray
  out : List ByteArray
  flops : List LFlop
  gates : List LGate
  outs : List Int
abbrev LNet.pv (n : LNet) : PV := .agg [.im (.sl (strs n.inn)), .im (.sl (strs n.out)), .im (.sl (n.flops.map LFlop.im)), .im (.sl (n.gates.map LGate.im)), .im (.sl (ints n.outs))]
-- GONE Netlist_ok
end Go.Proofs.YtdgpmopcmacicaaDoorPi

/- The walks of small functions: ranges, bits, lanes, numbers of nets, masks, clones. -/
set_option linter.unusedVariables false
set_option linter.unusedSimpArgs false
set_option maxRecDepth 100000
namespace Go.Proofs.YtdgpmopcmacicaaDoorPi

abbrev bools (l : List Bool) : List (List Im) := l.map fun b => [.bool b]
abbrev us (l : List Int) : List (List Im) := l.map fun x => [.int .u64 x]
theorem bools_len (l : List Bool) : (bools l).length = l.length := by simp
theorem us_len (l : List Int) : (us l).length = l.length := by simp
theorem bools_get (l : List Bool) (i : Nat) (h : i < l.length) : (bools l)[i]? = some [.bool (l.getD i false)] := by simp [h]
theorem us_get (l : List Int) (i : Nat) (h : i < l.length) : (us l)[i]? = some [.int .u64 (l.getD i 0)] := by simp [h]
theorem wsucc {i n : Nat} (h : i < n) (hn : n ≤ 140737488355328) : IntKind.i64.wrap ((i : Int) + 1) = ((i + 1 : Nat) : Int) := by rw [wrap64 (by omega)]; omega
/-- The next place of a row that is being filled. -/
theorem fill_next (done : List (List Im)) (k : Nat) (z y : List Im) : (done ++ List.replicate (k + 1) z).set done.length y = (done ++ [y]) ++ List.replicate k z := by
  rw [List.set_append_right _ _ (Nat.le_refl _)]
  simp [List.replicate_succ]
theorem take_snoc {α : Type} (l : List α) (i : Nat) (z : α) (h : i < l.length) : l.take (i + 1) = l.take i ++ [l.getD i z] := by
  rw [List.take_add_one]
  simp [h]
/-- A row whose first places are filled, one more of them. -/
theorem fill_map {α : Type} (f : α → List Im) (q : List α) (z : List Im) (d : α) (i : Nat) (h : i < q.length) :
    ((q.take i).map f ++ List.replicate (q.length - i) z).set i (f (q.getD i d)) = (q.take (i + 1)).map f ++ List.replicate (q.length - (i + 1)) z := by
  have hA : ((q.take i).map f).length = i := by simp; omega
  have := fill_next ((q.take i).map f) (q.length - (i + 1)) z (f (q.getD i d))
  rw [hA] at this
  rw [show q.length - i = q.length - (i + 1) + 1 by omega, this, take_snoc q i d h]
  simp
theorem fill_len {α : Type} (f : α → List Im) (q : List α) (z : List Im) (i : Nat) (h : i ≤ q.length) : ((q.take i).map f ++ List.replicate (q.length - i) z).length = q.length := by simp; omega
theorem fill_get {α : Type} (f : α → List Im) (q : List α) (z : List Im) (i : Nat) (h : i < q.length) : ((q.take i).map f ++ List.replicate (q.length - i) z)[i]? = some z := by
  have hA : ((q.take i).map f).length = i := by simp; omega
  rw [List.getElem?_append_right (by omega), hA, Nat.sub_self, List.getElem?_replicate, if_pos (by omega)]
theorem fill_all {α : Type} (f : α → List Im) (q : List α) (z : List Im) : (q.take q.length).map f ++ List.replicate (q.length - q.length) z = q.map f := by simp
abbrev b2u (b : Bool) : List Im := [.int .u64 (if b then 1 else 0)]
theorem b2u_map (q : List Bool) : q.map b2u = us (q.map fun b => if b then 1 else 0) := by simp
def valsV (l : List Int) : Nat → Int → List Bool
  | 0, _ => []
  | k + 1, a => (nextV l a 2 == 0) :: valsV l k (a + 1)
theorem valsV_len (l : List Int) : ∀ (k : Nat) (a : Int), (valsV l k a).length = k
  | 0, a => rfl
  | k + 1, a => by simp [valsV, valsV_len l k]
theorem Range_ok (low high : Int) (h1 : 0 ≤ low) (h2 : low ≤ high) (h3 : high ≤ 1000000) (l : List Int) (a : Int) (hs : StmOk l a) (hf : a + 1000 < 1099511627776) (up : Frs) (d j : Nat) (hl : fget up d j = some (stm l a)) : ACalls Tryd.prog 17 [.ptr d j 0, .i low, .i high] up fun v u => v = .i (low + nextV l a (high - low + 1)) ∧ u = fset up d j (stm l (a + 1)) := by
  have hset : ∀ o, fget (fset up d j o) d j = some o := fun o => fget_fset_same _ _ _ _ _ hl
  have hp := hs.pos
  
  obtain ⟨r0, r1⟩ := nextV_range l a (high - low + 1) (by omega)
  have w1 : IntKind.i64.wrap (high - low) = high - low := wrap64 (by omega)
  have w2 : IntKind.i64.wrap (high - low + 1) = high - low + 1 := wrap64 (by omega)
  have w3 : IntKind.i64.wrap (low + nextV l a (high - low + 1)) = low + nextV l a (high - low + 1) := wrap64 (by omega)
  refine ACalls.code Tryd.func17 rfl 19 rfl (by simp) [.tmp 6] rfl fun Q hQ => ?_
  simp only [ups, PV.up, argEnv]
  have ft := And.intro ty_3 (And.intro ty_4 (And.intro ty_23 trivial))
  refine Run.seq ?_
  have fx := And.intro w3 (And.intro w2 (And.intro w1 (And.intro hset (And.intro hl ft))))
  refine Run.go ?_
  refine End.kp [0, 1, 2] ?_
  refine Run.seq ?_
  refine Run.seq ?_
  refine Run.go ?_
  refine End.kp [0, 1, 2, 9] ?_
  refine Run.cond _ rfl (fun hb => ?_) (fun hb => ?_)
  · have hb := of_decide_eq_true hb
    omega
  · have hb := of_decide_eq_false hb
    refine Run.skip ?_
    refine End.kp [0, 1, 2] ?_
    refine Run.seq ?_
    have fx := And.intro w3 (And.intro w2 (And.intro w1 (And.intro hset (And.intro hl ft))))
    refine Run.region rfl fun K hK => GOps.sim ?_
    refine GOps.call rfl rfl rfl rfl (by kernel_rfl) (ACalls.sim ?_)
    refine (Next_ok l a (high - low + 1) hs (by omega) _ (d + 1) j hl).mono fun v u hv => ?_
    obtain ⟨rfl, rfl⟩ := hv
    refine ⟨_, _, rfl, GOps.sim ?_⟩
    refine GOps.done (hK _ ?_); clear hK K
    refine End.kp [6] ?_
    refine Run.ret (hQ _ _ ⟨.inr rfl, _, rfl, _, rfl, ?_⟩)
    exact ⟨rfl, rfl⟩
theorem Values_ok (N : Nat) (hN : N ≤ 500) (l : List Int) (a : Int) (hs : StmOk l a) (hf : a + 1000 < 1099511627776) (up : Frs) (d j : Nat) (hl : fget up d j = some (stm l a)) : ACalls Tryd.prog 35 [.ptr d j 0, .i N] up fun v u => v = .im (.sl (bools (valsV l N a))) ∧ u = fset up d j (stm l (a + N)) := by
  have hset : ∀ o, fget (fset up d j o) d j = some o := fun o => fget_fset_same _ _ _ _ _ hl
  have hp := hs.pos
  refine ACalls.code Tryd.func35 rfl 17 rfl (by simp) [.tmp 4] rfl fun Q hQ => ?_
  simp only [ups, PV.up, argEnv]
  have ft := And.intro ty_3 (And.intro ty_4 (And.intro ty_23 (And.intro ty_77 trivial)))
  refine Run.seq ?_
  have fx := And.intro hset (And.intro hl ft)
  refine Run.go ?_
  refine End.kp [0, 1] ?_
  refine Run.seq ?_
  refine Run.go ?_
  refine End.kp [0, 1, 5] ?_
  refine Run.seq ?_
  refine Run.seq ?_
  refine Run.go ?_
  refine End.kp [0, 5, 6, 7] ?_
  refine Run.block ?_
  refine Run.ghost (Ghost.thaw (u := 5) 4 1 (by decide) rfl) ?_
  refine Run.ghost (Ghost.form [(0, .ptr (d + 1) j 0), (5, .ms 0 0 (0)), (6, .i N), (7, .i (0 : Nat))] 1 ⟨rfl, rfl, rfl, rfl, trivial⟩ rfl rfl) ?_
  refine Run.loop (fun m s => ∃ (i : Nat) (done : List Bool), m = N - i ∧ i ≤ N ∧ done.length = i ∧ done ++ valsV l (N - i) (a + i) = valsV l N a ∧
    s = ⟨[(0, .ptr (d + 1) j 0), (5, .ms 0 0 (i)), (6, .i N), (7, .i (i : Nat))], [.row 4 1 (bools done) 0], fset up d j (stm l (a + i))⟩) N ⟨0, [], rfl, by omega, rfl, by simp, by rw [show a + ((0 : Nat) : Int) = a by omega, fset_self up d j _ hl]; rfl⟩ fun m s hI => ?_
  obtain ⟨i, done, rfl, hi, hdl, hw1, rfl⟩ := hI
  have hsl : (bools done).length = i := by rw [bools_len, hdl]
  have hs0 : StmOk l (a + i) := ⟨hs.vals, hs.len, by omega, by omega⟩
  have hap : (i + 1) * 1 ≤ 140737488355328 := by omega
  refine Run.seq ?_
  have fx := And.intro hap (And.intro hsl (And.intro hset (And.intro hl ft)))
  refine Run.go ?_
  refine End.kp [0, 5, 6, 7, 8] ?_
  refine Run.seq ?_
  refine Run.cond _ rfl (fun hb => ?_) (fun hb => ?_)
  · have hb := of_decide_eq_true hb
    have hin : i < N := by omega
    have wi := wsucc hin (by omega)
    refine Run.skip ?_
    refine End.kp [0, 5, 6, 7] ?_
    refine Run.seq ?_
    refine Run.block ?_
    have fx := And.intro wi (And.intro hap (And.intro hsl (And.intro hset (And.intro hl ft))))
    refine Run.region rfl fun K hK => GOps.sim ?_
    refine GOps.call rfl rfl rfl rfl (by kernel_rfl) (ACalls.sim ?_)
    refine (Next_ok l (a + i) 2 hs0 (by omega) _ (d + 1) j (hset _)).mono fun v u hv => ?_
    obtain ⟨rfl, rfl⟩ := hv
    refine ⟨_, _, rfl, GOps.sim ?_⟩
    refine GOps.done (hK _ ?_); clear hK K
    refine End.blk ?_
    refine End.kp [0, 5, 6, 7] ?_
    refine Run.go ?_
    refine End.lp ?_
    have hvi : valsV l (N - i) (a + i) = (nextV l (a + i) 2 == 0) :: valsV l (N - (i + 1)) (a + ((i + 1 : Nat) : Int)) := by
      rw [show N - i = (N - (i + 1)) + 1 by omega, show a + ((i + 1 : Nat) : Int) = a + i + 1 by omega]
      rfl
    rw [hvi] at hw1
    refine ⟨N - (i + 1), _, by omega, Ghost.form [(0, .ptr (d + 1) j 0), (5, .ms 0 0 (i + 1)), (6, .i N), (7, .i (i + 1 : Nat))] 1 ⟨rfl, rfl, rfl, rfl, trivial⟩ rfl rfl, i + 1, done ++ [nextV l (a + i) 2 == 0], rfl, by omega, by simp [hdl], by simpa using hw1, ?_⟩
    rw [show a + ((i + 1 : Nat) : Int) = a + i + 1 by omega]
    simp
  · have hb := of_decide_eq_false hb
    have hiN : i = N := by omega
    subst hiN
    simp only [Nat.sub_self, valsV, List.append_nil] at hw1
    refine Run.exit rfl ?_
    refine End.kp [5] ?_
    refine Run.seq ?_
    refine Run.ghost (Ghost.shut (t := 5) (j := 0) rfl rfl hsl) ?_
    simp only [eput, edel]
    have fx := And.intro hap (And.intro hsl (And.intro hset (And.intro hl ft)))
    refine Run.go ?_
    refine End.kp [4] ?_
    refine Run.ret (hQ _ _ ⟨.inr rfl, _, rfl, _, rfl, ?_⟩)
    exact ⟨by rw [hw1], rfl⟩
theorem Lanes_ok (q : List Bool) (hq : q.length ≤ 1000) (up : Frs) : ACalls Tryd.prog 54 [.im (.sl (bools q))] up fun v u => v = .im (.sl (us (q.map fun b => if b then 1 else 0))) ∧ u = up := by
  have hc : (0 : Int) ≤ q.length := by omega
  have hm1 : ((8 : Nat) : Int) * (q.length : Int) ≤ 281474976710656 := by omega
  have hm2 : (q.length : Int) ≤ 9223372036854775807 := by omega
  refine ACalls.code Tryd.func54 rfl 22 rfl (by simp) [.tmp 2] rfl fun Q hQ => ?_
  simp only [ups, PV.up, argEnv]
  have ft := And.intro ty_3 (And.intro ty_4 (And.intro ty_77 (And.intro ty_103 (And.intro ty_131 trivial))))
  refine Run.seq ?_
  have fx := And.intro hm2 (And.intro hm1 (And.intro hc (And.intro bools_len ft)))
  refine Run.go ?_
  refine End.kp [0] ?_
  refine Run.seq ?_
  refine Run.go ?_
  refine End.kp [0, 3] ?_
  refine Run.seq ?_
  refine Run.seq ?_
  refine Run.go ?_
  refine End.kp [3, 9, 10, 11] ?_
  refine Run.block ?_
  refine Run.ghost (Ghost.form [(3, .ms 0 0 q.length), (9, .im (.sl (bools q))), (10, .i q.length), (11, .i (0 : Nat))] 1 ⟨rfl, rfl, rfl, rfl, trivial⟩ rfl rfl) ?_
  refine Run.loop (fun m s => ∃ (i : Nat), m = q.length - i ∧ i ≤ q.length ∧
    s = ⟨[(3, .ms 0 0 q.length), (9, .im (.sl (bools q))), (10, .i q.length), (11, .i (i : Nat))], [.row 131 1 ((q.take i).map b2u ++ List.replicate (q.length - i) [.int .u64 0]) 0], up⟩) q.length ⟨0, rfl, by omega, by simp⟩ fun m s hI => ?_
  obtain ⟨i, rfl, hi, rfl⟩ := hI
  have hrl := fill_len b2u q [.int .u64 0] i hi
  refine Run.seq ?_
  have fx := And.intro hrl (And.intro hm2 (And.intro hm1 (And.intro hc (And.intro bools_len ft))))
  refine Run.go ?_
  refine End.kp [3, 9, 10, 11, 12] ?_
  refine Run.seq ?_
  refine Run.cond _ rfl (fun hb => ?_) (fun hb => ?_)
  · have hb := of_decide_eq_true hb
    have hin : i < q.length := by omega
    have wi := wsucc hin (by omega)
    have hg := bools_get q i hin
    have hri := fill_get b2u q [.int .u64 0] i hin
    have hfm := fill_map b2u q [.int .u64 0] false i hin
    refine Run.skip ?_
    refine End.kp [3, 9, 10, 11] ?_
    refine Run.seq ?_
    refine Run.block ?_
    refine Run.seq ?_
    have fx := And.intro hri (And.intro hin (And.intro (@Int.ofNat_lt) (And.intro (@Int.natCast_nonneg) (And.intro hg (And.intro wi (And.intro hrl (And.intro hm2 (And.intro hm1 (And.intro hc (And.intro bools_len ft))))))))))
    refine Run.go ?_
    refine End.kp [3, 4, 5, 9, 10, 11] ?_
    refine Run.seq ?_
    refine Run.go ?_
    refine End.kp [3, 4, 9, 10, 11, 16] ?_
    refine Run.cond _ rfl (fun hb => ?_) (fun hb => ?_)
    · have hb := hb
      have fx := And.intro hri (And.intro hin (And.intro (@Int.ofNat_lt) (And.intro (@Int.natCast_nonneg) (And.intro hg (And.intro wi (And.intro hrl (And.intro hm2 (And.intro hm1 (And.intro hc (And.intro bools_len ft))))))))))
      refine Run.go ?_
      refine End.blk ?_
      refine End.kp [3, 9, 10, 11] ?_
      refine Run.go ?_
      refine End.lp ?_
      refine ⟨q.length - (i + 1), _, by omega, Ghost.form [(3, .ms 0 0 q.length), (9, .im (.sl (bools q))), (10, .i q.length), (11, .i (i + 1 : Nat))] 1 ⟨rfl, rfl, rfl, rfl, trivial⟩ rfl rfl, i + 1, rfl, by omega, ?_⟩
      rw [← hfm, hb]
      rfl
    · have hb := hb
      refine Run.skip ?_
      refine End.blk ?_
      refine End.kp [3, 9, 10, 11] ?_
      have fx := And.intro hri (And.intro hin (And.intro (@Int.ofNat_lt) (And.intro (@Int.natCast_nonneg) (And.intro hg (And.intro wi (And.intro hrl (And.intro hm2 (And.intro hm1 (And.intro hc (And.intro bools_len ft))))))))))
      refine Run.go ?_
      refine End.lp ?_
      refine ⟨q.length - (i + 1), _, by omega, Ghost.form [(3, .ms 0 0 q.length), (9, .im (.sl (bools q))), (10, .i q.length), (11, .i (i + 1 : Nat))] 1 ⟨rfl, rfl, rfl, rfl, trivial⟩ rfl rfl, i + 1, rfl, by omega, ?_⟩
      rw [← hfm, hb]
      have : ((q.take i).map b2u ++ List.replicate (q.length - i) [Im.int .u64 0]).set i (b2u false) = (q.take i).map b2u ++ List.replicate (q.length - i) [Im.int .u64 0] := by
        apply List.ext_getElem?
        intro k
        rw [List.getElem?_set]
        split
        · rename_i e
          subst e
          rw [hri, if_pos (by rw [hrl]; omega)]
          rfl
        · rfl
      rw [this]
      rfl
  · have hb := of_decide_eq_false hb
    have hiN : i = q.length := by omega
    subst hiN
    rw [fill_all, b2u_map] at hrl ⊢
    refine Run.exit rfl ?_
    refine End.kp [3] ?_
    refine Run.seq ?_
    refine Run.ghost (Ghost.shut (t := 3) (j := 0) rfl rfl hrl) ?_
    simp only [eput, edel]
    have fx := And.intro hrl (And.intro hm2 (And.intro hm1 (And.intro hc (And.intro bools_len ft))))
    refine Run.go ?_
    refine End.kp [2] ?_
    refine Run.ret (hQ _ _ ⟨.inr rfl, _, rfl, _, rfl, ?_⟩)
    exact ⟨rfl, rfl⟩
abbrev u2b (w : Int) : List Im := [.bool (bits .and .u64 w 1 == 1)]
theorem u2b_map (q : List Int) : q.map u2b = bools (q.map fun w => bits .and .u64 w 1 == 1) := by simp
theorem Lane_ok (q : List Int) (hq : q.length ≤ 1000) (up : Frs) : ACalls Tryd.prog 58 [.im (.sl (us q))] up fun v u => v = .im (.sl (bools (q.map fun w => bits .and .u64 w 1 == 1))) ∧ u = up := by
  have hc : (0 : Int) ≤ q.length := by omega
  have hm1 : ((1 : Nat) : Int) * (q.length : Int) ≤ 281474976710656 := by omega
  have hm2 : (q.length : Int) ≤ 9223372036854775807 := by omega
  refine ACalls.code Tryd.func58 rfl 24 rfl (by simp) [.tmp 2] rfl fun Q hQ => ?_
  simp only [ups, PV.up, argEnv]
  have ft := And.intro ty_3 (And.intro ty_4 (And.intro ty_77 (And.intro ty_103 (And.intro ty_131 trivial))))
  refine Run.seq ?_
  have fx := And.intro hm2 (And.intro hm1 (And.intro hc (And.intro us_len ft)))
  refine Run.go ?_
  refine End.kp [0] ?_
  refine Run.seq ?_
  refine Run.go ?_
  refine End.kp [0, 3] ?_
  refine Run.seq ?_
  refine Run.seq ?_
  refine Run.go ?_
  refine End.kp [3, 9, 10, 11] ?_
  refine Run.block ?_
  refine Run.ghost (Ghost.form [(3, .ms 0 0 q.length), (9, .im (.sl (us q))), (10, .i q.length), (11, .i (0 : Nat))] 1 ⟨rfl, rfl, rfl, rfl, trivial⟩ rfl rfl) ?_
  refine Run.loop (fun m s => ∃ (i : Nat), m = q.length - i ∧ i ≤ q.length ∧
    s = ⟨[(3, .ms 0 0 q.length), (9, .im (.sl (us q))), (10, .i q.length), (11, .i (i : Nat))], [.row 4 1 ((q.take i).map u2b ++ List.replicate (q.length - i) [.bool false]) 0], up⟩) q.length ⟨0, rfl, by omega, by simp⟩ fun m s hI => ?_
  obtain ⟨i, rfl, hi, rfl⟩ := hI
  have hrl := fill_len u2b q [.bool false] i hi
  refine Run.seq ?_
  have fx := And.intro hrl (And.intro hm2 (And.intro hm1 (And.intro hc (And.intro us_len ft))))
  refine Run.go ?_
  refine End.kp [3, 9, 10, 11, 12] ?_
  refine Run.seq ?_
  refine Run.cond _ rfl (fun hb => ?_) (fun hb => ?_)
  · have hb := of_decide_eq_true hb
    have hin : i < q.length := by omega
    have wi := wsucc hin (by omega)
    have hg := us_get q i hin
    have hri := fill_get u2b q [.bool false] i hin
    have hfm := fill_map u2b q [.bool false] 0 i hin
    refine Run.skip ?_
    refine End.kp [3, 9, 10, 11] ?_
    refine Run.seq ?_
    refine Run.block ?_
    refine Run.seq ?_
    have fx := And.intro hri (And.intro hin (And.intro (@Int.ofNat_lt) (And.intro (@Int.natCast_nonneg) (And.intro hg (And.intro wi (And.intro hrl (And.intro hm2 (And.intro hm1 (And.intro hc (And.intro us_len ft))))))))))
    refine Run.go ?_
    refine End.kp [3, 4, 5, 9, 10, 11] ?_
    refine Run.go ?_
    refine End.blk ?_
    refine End.kp [3, 9, 10, 11] ?_
    refine Run.go ?_
    refine End.lp ?_
    refine ⟨q.length - (i + 1), _, by omega, Ghost.form [(3, .ms 0 0 q.length), (9, .im (.sl (us q))), (10, .i q.length), (11, .i (i + 1 : Nat))] 1 ⟨rfl, rfl, rfl, rfl, trivial⟩ rfl rfl, i + 1, rfl, by omega, ?_⟩
    rw [← hfm]
    rfl
  · have hb := of_decide_eq_false hb
    have hiN : i = q.length := by omega
    subst hiN
    rw [fill_all, u2b_map] at hrl ⊢
    refine Run.exit rfl ?_
    refine End.kp [3] ?_
    refine Run.seq ?_
    refine Run.ghost (Ghost.shut (t := 3) (j := 0) rfl rfl hrl) ?_
    simp only [eput, edel]
    have fx := And.intro hrl (And.intro hm2 (And.intro hm1 (And.intro hc (And.intro us_len ft))))
    refine Run.go ?_
    refine End.kp [2] ?_
    refine Run.ret (hQ _ _ ⟨.inr rfl, _, rfl, _, rfl, ?_⟩)
    exact ⟨rfl, rfl⟩
-- GONE First_ok
-- GONE Nets_ok
end Go.Proofs.YtdgpmopcmacicaaDoorPi

/- The walks of the functions that draw graphs. -/
set_option linter.unusedVariables false
set_option linter.unusedSimpArgs false
set_option maxRecDepth 100000
namespace Go.Proofs.YtdgpmopcmacicaaDoorPi
set_option maxHeartbeats 2000000

structure LReg where
  name : ByteArray
  next : Int
  init : Bool
abbrev LReg.im (r : LReg) : List Im := [.str r.name, .int .i64 r.next, .bool r.init]
abbrev nd (p : Int × Int) : List Im := [.int .i64 p.1, .int .i64 p.2]
structure LGraph where
  inn : List ByteArray
  out : List ByteArray
  regs : List LReg
  ands : List (Int × Int)
  outs : List Int
abbrev LGraph.cells (g : LGraph) : List PV := [.im (.sl (strs g.inn)), .im (.sl (strs g.out)), .im (.sl (g.regs.map LReg.im)), .im (.sl (g.ands.map nd)), .im (.sl (ints g.outs))]
abbrev LGraph.pv (g : LGraph) : PV := .agg g.cells
theorem rim_len (l : List LReg) : (l.map LReg.im).length = l.length := by simp
theorem nd_len (l : List (Int × Int)) : (l.map nd).length = l.length := by simp

/-- Things drawn one after the other. -/
def drawN {α : Type} (f : Nat → Int → α × Int) (a : Int) : Nat → List α × Int
  | 0 => ([], a)
  | i + 1 => ((drawN f a i).1 ++ [(f i (drawN f a i).2).1], (f i (drawN f a i).2).2)
theorem drawN_len {α : Type} (f : Nat → Int → α × Int) (a : Int) : ∀ i, (drawN f a i).1.length = i
  | 0 => rfl
  | i + 1 => by simp [drawN, drawN_len f a i]
theorem drawN_pos {α : Type} (f : Nat → Int → α × Int) (a : Int) (c : Nat) (h : ∀ i b, b ≤ (f i b).2 ∧ (f i b).2 ≤ b + c) : ∀ i : Nat, a ≤ (drawN f a i).2 ∧ (drawN f a i).2 ≤ a + c * i
  | 0 => by simp [drawN]
  | i + 1 => by
    have h1 := drawN_pos f a c h i
    have h2 := h i (drawN f a i).2
    simp only [drawN]
    have : (c : Int) * ((i + 1 : Nat) : Int) = c * i + c := by rw [Int.natCast_add, Int.mul_add]; simp
    omega
theorem drawN_mem {α : Type} (f : Nat → Int → α × Int) (a : Int) (Q : Nat → α → Prop) (h : ∀ i b, Q i (f i b).1) : ∀ n i x, (drawN f a n).1[i]? = some x → Q i x
  | 0, i, x, hx => by simp [drawN] at hx
  | n + 1, i, x, hx => by
    simp only [drawN, List.getElem?_append, drawN_len] at hx
    split at hx
    · exact drawN_mem f a Q h n i x hx
    · rename_i hi
      have : i - n = 0 := by
        have := (List.getElem?_eq_some_iff.1 hx).1
        simp at this
        omega
      rw [this] at hx
      simp at hx
      subst hx
      have : i = n := by omega
      subst this
      exact h i _

def litX (l : List Int) (a n : Int) : Int × Int :=
  if nextV l (a + 1) 2 = 0 then (2 * (n - 1 - nextV l (a + 1 + 1) (min n 6)) + nextV l (a + 1 + 1 + 1) 2, a + 1 + 1 + 1 + 1)
  else (2 * nextV l a n + nextV l (a + 1 + 1) 2, a + 1 + 1 + 1)
theorem litX_pos (l : List Int) (a n : Int) : a ≤ (litX l a n).2 ∧ (litX l a n).2 ≤ a + (4 : Nat) := by
  unfold litX
  split <;> exact ⟨by simp only; omega, by simp only; omega⟩
theorem litX_range (l : List Int) (a n : Int) (h : 1 ≤ n) : 0 ≤ (litX l a n).1 ∧ (litX l a n).1 < 2 * n := by
  unfold litX
  split
  · have h1 := nextV_range l (a + 1 + 1) (min n 6) (by omega)
    have h2 := nextV_range l (a + 1 + 1 + 1) 2 (by omega)
    simp only
    omega
  · have h1 := nextV_range l a n h
    have h2 := nextV_range l (a + 1 + 1) 2 (by omega)
    simp only
    omega
def andX (l : List Int) (n : Int) (i : Nat) (a : Int) : (Int × Int) × Int := (((litX l a (n + i)).1, (litX l (litX l a (n + i)).2 (n + i)).1), (litX l (litX l a (n + i)).2 (n + i)).2)
theorem andX_pos (l : List Int) (n : Int) (i : Nat) (a : Int) : a ≤ (andX l n i a).2 ∧ (andX l n i a).2 ≤ a + (8 : Nat) := by
  have h1 := litX_pos l a (n + i)
  have h2 := litX_pos l (litX l a (n + i)).2 (n + i)
  simp only [andX]
  omega
def regX (l : List Int) (n : Int) (names : List ByteArray) (i : Nat) (a : Int) : LReg × Int := (⟨names.getD i ByteArray.empty, (litX l a n).1, nextV l (litX l a n).2 2 == 0⟩, (litX l a n).2 + 1)
theorem regX_pos (l : List Int) (n : Int) (names : List ByteArray) (i : Nat) (a : Int) : a ≤ (regX l n names i a).2 ∧ (regX l n names i a).2 ≤ a + (5 : Nat) := by
  have h1 := litX_pos l a n
  simp only [regX]
  omega
def graphV (l : List Int) (a : Int) (ins regs ands outs : Nat) : LGraph × Int :=
  let w := wordsV l (ins + regs) 0 a
  let o := wordsV l outs 0 w.2
  let n : Int := ((1 + ins + regs : Nat) : Int)
  let A := drawN (andX l n) o.2 ands
  let R := drawN (regX l (n + ands) (w.1.drop ins)) A.2 regs
  let O := drawN (fun _ b => litX l b (n + ands)) R.2 outs
  (⟨w.1.take ins, o.1, R.1, A.1, O.1⟩, O.2)
theorem lit_ok (n : Int) (hn : 1 ≤ n) (hn2 : n ≤ 1000000) (l : List Int) (a : Int) (hs : StmOk l a) (hf : a + 1000 < 1099511627776) (up : Frs) (d j : Nat) (hl : fget up d j = some (stm l a)) : ACalls Tryd.prog 43 [.ptr d j 0, .i n] up fun v u => v = .i (litX l a n).1 ∧ u = fset up d j (stm l (litX l a n).2) := by
  have hset : ∀ o, fget (fset up d j o) d j = some o := fun o => fget_fset_same _ _ _ _ _ hl
  have hp := hs.pos
  
  obtain ⟨r0, r1⟩ := nextV_range l a n hn
  have ok : ∀ b : Int, a ≤ b → b ≤ a + 10 → StmOk l b := fun b h1 h2 => ⟨hs.vals, hs.len, by omega, by omega⟩
  refine ACalls.code Tryd.func43 rfl 24 rfl (by simp) [.tmp 4] rfl fun Q hQ => ?_
  simp only [ups, PV.up, argEnv]
  have ft := And.intro ty_3 (And.intro ty_4 (And.intro ty_23 (And.intro ty_51 trivial)))
  refine Run.seq ?_
  have fx := And.intro hset (And.intro hl ft)
  refine Run.go ?_
  refine End.kp [0, 1] ?_
  refine Run.seq ?_
  refine Run.region rfl fun K hK => GOps.sim ?_
  refine GOps.call rfl rfl rfl rfl (by kernel_rfl) (ACalls.sim ?_)
  refine (Next_ok l a n hs (by omega) _ (d + 1) j hl).mono fun v u hv => ?_
  obtain ⟨rfl, rfl⟩ := hv
  refine ⟨_, _, rfl, GOps.sim ?_⟩
  refine GOps.done (hK _ ?_); clear hK K
  refine End.kp [0, 1, 5] ?_
  refine Run.seq ?_
  refine Run.seq ?_
  refine Run.region rfl fun K hK => GOps.sim ?_
  refine GOps.call rfl rfl rfl rfl (by kernel_rfl) (ACalls.sim ?_)
  refine (Next_ok l (a + 1) 2 (ok _ (by omega) (by omega)) (by omega) _ (d + 1) j (hset _)).mono fun v u hv => ?_
  obtain ⟨rfl, rfl⟩ := hv
  refine ⟨_, _, rfl, GOps.sim ?_⟩
  refine GOps.done (hK _ ?_); clear hK K
  refine End.kp [0, 1, 5, 11] ?_
  refine Run.cond _ rfl (fun hb => ?_) (fun hb => ?_)
  · have hb := eq_of_beq hb
    have hmin : (if (6 : Int) < n then 6 else n) = min n 6 := by split <;> omega
    obtain ⟨k0, k1⟩ := nextV_range l (a + 1 + 1) (min n 6) (by omega)
    obtain ⟨m0, m1⟩ := nextV_range l (a + 1 + 1 + 1) 2 (by omega)
    have w1 : IntKind.i64.wrap (n - 1) = n - 1 := wrap64 (by omega)
    have w2 : IntKind.i64.wrap (n - 1 - nextV l (a + 1 + 1) (min n 6)) = n - 1 - nextV l (a + 1 + 1) (min n 6) := wrap64 (by omega)
    have w3 : IntKind.i64.wrap (2 * (n - 1 - nextV l (a + 1 + 1) (min n 6))) = 2 * (n - 1 - nextV l (a + 1 + 1) (min n 6)) := wrap64 (by omega)
    have w4 : IntKind.i64.wrap (2 * (n - 1 - nextV l (a + 1 + 1) (min n 6)) + nextV l (a + 1 + 1 + 1) 2) = 2 * (n - 1 - nextV l (a + 1 + 1) (min n 6)) + nextV l (a + 1 + 1 + 1) 2 := wrap64 (by omega)
    have fx := And.intro w4 (And.intro w3 (And.intro w2 (And.intro w1 (And.intro hmin (And.intro hset (And.intro hl ft))))))
    refine Run.region rfl fun K hK => GOps.sim ?_
    refine GOps.call rfl rfl rfl rfl (by kernel_rfl) (ACalls.sim ?_)
    refine (Next_ok l (a + 1 + 1) (min n 6) (ok _ (by omega) (by omega)) (by omega) _ (d + 1) j (hset _)).mono fun v u hv => ?_
    obtain ⟨rfl, rfl⟩ := hv
    refine ⟨_, _, rfl, GOps.sim ?_⟩
    refine GOps.done (hK _ ?_); clear hK K
    refine End.kp [0, 5] ?_
    refine Run.seq ?_
    refine Run.region rfl fun K hK => GOps.sim ?_
    refine GOps.call rfl rfl rfl rfl (by kernel_rfl) (ACalls.sim ?_)
    refine (Next_ok l (a + 1 + 1 + 1) 2 (ok _ (by omega) (by omega)) (by omega) _ (d + 1) j (hset _)).mono fun v u hv => ?_
    obtain ⟨rfl, rfl⟩ := hv
    refine ⟨_, _, rfl, GOps.sim ?_⟩
    refine GOps.done (hK _ ?_); clear hK K
    refine End.kp [4] ?_
    refine Run.ret (hQ _ _ ⟨.inr rfl, _, rfl, _, rfl, ?_⟩)
    exact ⟨by simp [litX, hb], by simp [litX, hb]⟩
  · have hb : ¬ nextV l (a + 1) 2 = 0 := fun e => by simp [e] at hb
    obtain ⟨m0, m1⟩ := nextV_range l (a + 1 + 1) 2 (by omega)
    have w3 : IntKind.i64.wrap (2 * nextV l a n) = 2 * nextV l a n := wrap64 (by omega)
    have w4 : IntKind.i64.wrap (2 * nextV l a n + nextV l (a + 1 + 1) 2) = 2 * nextV l a n + nextV l (a + 1 + 1) 2 := wrap64 (by omega)
    refine Run.skip ?_
    refine End.kp [0, 5] ?_
    refine Run.seq ?_
    have fx := And.intro w4 (And.intro w3 (And.intro hset (And.intro hl ft)))
    refine Run.region rfl fun K hK => GOps.sim ?_
    refine GOps.call rfl rfl rfl rfl (by kernel_rfl) (ACalls.sim ?_)
    refine (Next_ok l (a + 1 + 1) 2 (ok _ (by omega) (by omega)) (by omega) _ (d + 1) j (hset _)).mono fun v u hv => ?_
    obtain ⟨rfl, rfl⟩ := hv
    refine ⟨_, _, rfl, GOps.sim ?_⟩
    refine GOps.done (hK _ ?_); clear hK K
    refine End.kp [4] ?_
    refine Run.ret (hQ _ _ ⟨.inr rfl, _, rfl, _, rfl, ?_⟩)
    exact ⟨by simp [litX, hb], by simp [litX, hb]⟩
theorem Graph_ok (ins regs ands outs : Nat) (h1 : ins ≤ 50) (h2 : regs ≤ 50) (h3 : ands ≤ 100) (h4 : outs ≤ 50) (l : List Int) (a : Int) (hs : StmOk l a) (hf : a + 10000 < 1099511627776) (up : Frs) (d j : Nat) (hl : fget up d j = some (stm l a)) (k : Nat) (hk : fget up 0 k = some .dead) :
    ACalls Tryd.prog 18 [.ptr d j 0, .i ins, .i regs, .i ands, .i outs] up fun v u => v = .agg [.im (.sl (strs (graphV l a ins regs ands outs).1.inn)), .im (.sl (strs (graphV l a ins regs ands outs).1.out)), .im (.sl ((graphV l a ins regs ands outs).1.regs.map LReg.im)), .ms 0 k ands, .im (.sl (ints (graphV l a ins regs ands outs).1.outs))] ∧
      u = fset (fset up d j (stm l (graphV l a ins regs ands outs).2)) 0 k (.row 54 2 ((graphV l a ins regs ands outs).1.ands.map nd) 0) := by
  have hset : ∀ o, fget (fset up d j o) d j = some o := fun o => fget_fset_same _ _ _ _ _ hl
  have hne : ¬ (0 = d ∧ k = j) := ref_ne hl hk (by simp)
  have hkset : ∀ o, fget (fset up d j o) 0 k = some .dead := fun o => by rw [fget_fset_ne hne]; exact hk
  have hp := hs.pos
  have ok : ∀ b : Int, a ≤ b → b ≤ a + 3000 → StmOk l b := fun b h1 h2 => ⟨hs.vals, hs.len, by omega, by omega⟩
  have wif : IntKind.i64.wrap ((ins : Int) + regs) = ((ins + regs : Nat) : Int) := by rw [wrap64 (by omega)]; omega
  generalize hG : graphV l a ins regs ands outs = G
  generalize hwv : wordsV l (ins + regs) 0 a = W
  obtain ⟨wn, a1⟩ := W
  obtain ⟨p1, p2, p3⟩ := wordsV_pos l (ins + regs) 0 a
  rw [hwv] at p1 p2 p3
  simp only at p1 p2 p3
  generalize hov : wordsV l outs 0 a1 = O
  obtain ⟨on, a2⟩ := O
  obtain ⟨q1, q2, q3⟩ := wordsV_pos l outs 0 a1
  rw [hov] at q1 q2 q3
  simp only at q1 q2 q3
  have hsi : (strs wn).length = ins + regs := by rw [strs_len, p3]
  have hslice : 0 ≤ ins ∧ ins = ins ∧ ins ≤ (strs wn).length ∧ szOk 1 0 (strs wn) := ⟨by omega, rfl, by omega, .inl rfl⟩
  have htake : (strs wn).take ins = strs (wn.take ins) := by simp [strs, List.map_take]
  have wf1 : IntKind.i64.wrap (1 + (ins : Int)) = 1 + (ins : Int) := wrap64 (by omega)
  have wf2 : IntKind.i64.wrap (1 + (ins : Int) + regs) = 1 + (ins : Int) + regs := wrap64 (by omega)
  obtain ⟨n, hn⟩ : ∃ f : Int, f = 1 + (ins : Int) + regs := ⟨_, rfl⟩
  have wf3 : IntKind.i64.wrap n = n := wrap64 (by omega)
  have wfg : IntKind.i64.wrap (n + ands) = n + ands := wrap64 (by omega)
  have pA : ∀ i : Nat, _ := drawN_pos (andX l n) a2 8 (andX_pos l n)
  generalize ha3 : (drawN (andX l n) a2 ands).2 = a3
  have pA3 := pA ands
  rw [ha3] at pA3
  have pR : ∀ i : Nat, _ := drawN_pos (regX l (n + ands) (wn.drop ins)) a3 5 (regX_pos l (n + ands) (wn.drop ins))
  generalize ha4 : (drawN (regX l (n + ands) (wn.drop ins)) a3 regs).2 = a4
  have pR4 := pR regs
  rw [ha4] at pR4
  have pO : ∀ i : Nat, _ := drawN_pos (fun _ b => litX l b (n + ands)) a4 4 (fun _ b => litX_pos l b (n + ands))
  have hN : G = (⟨wn.take ins, on, (drawN (regX l (n + ands) (wn.drop ins)) a3 regs).1, (drawN (andX l n) a2 ands).1, (drawN (fun _ b => litX l b (n + ands)) a4 outs).1⟩, (drawN (fun _ b => litX l b (n + ands)) a4 outs).2) := by
    have hc : ((1 + ins + regs : Nat) : Int) = n := by omega
    rw [← hG]
    simp only [graphV, hwv, hov, hc, ha3, ha4]
  refine ACalls.codeI Tryd.func18 rfl 94 rfl (by simp) [.cell 10 31] rfl k fun Q hQ => ?_
  simp only [ups, PV.up, argEnv]
  have ft := And.intro ty_2 (And.intro ty_3 (And.intro ty_4 (And.intro ty_9 (And.intro ty_23 (And.intro ty_26 (And.intro ty_27 (And.intro ty_28 (And.intro ty_29 (And.intro ty_31 (And.intro ty_51 (And.intro ty_54 (And.intro ty_56 trivial))))))))))))
  refine Run.seq ?_
  have fx := And.intro wif (And.intro hset (And.intro hl ft))
  refine Run.go ?_
  refine End.kp [0, 1, 2, 3, 4, 10] ?_
  refine Run.seq ?_
  refine Run.region rfl fun K hK => GOps.sim ?_
  refine GOps.call rfl rfl rfl rfl (by kernel_rfl) (ACalls.sim ?_)
  refine (Words_ok (ins + regs) (by omega) l a hs (by omega) _ (d + 1) j hl).mono fun v u hv => ?_
  obtain ⟨rfl, rfl⟩ := hv
  rw [hwv]
  have fx := And.intro (@Int.toNat_natCast) (And.intro (@Int.natCast_nonneg) (And.intro wf3 (And.intro hn.symm (And.intro wf2 (And.intro wf1 (And.intro htake (And.intro hslice (And.intro wif (And.intro hset (And.intro hl ft))))))))))
  refine ⟨_, _, rfl, GOps.sim ?_⟩
  refine GOps.done (hK _ ?_); clear hK K
  refine End.kp [0, 1, 2, 3, 4, 10, 11] ?_
  refine Run.seq ?_
  refine Run.ghost (.spares 1) ?_
  simp only [ASt.pushN, ASt.push, List.append_assoc, List.cons_append, List.nil_append]
  refine Run.drawA fun K hK => ?_
  refine DOps.sim ?_
  refine DOps.call (.im (.sl (strs on))) [((d + 1, j), stm l (a1))] [((d + 1, j), stm l (a2))] rfl rfl rfl rfl (by kernel_rfl) (by simp [Agree, ASt.fr, hset]) (fun u hu => by have := Words_ok outs (by omega) l a1 (ok _ (by omega) (by omega)) (by omega) u (d + 1) j (hu (((d + 1, j), stm l (a1))) (by simp)); rw [hov] at this; exact this) ?_
  refine DOps.sim ?_
  refine DOps.nil (by rfl) (hK _ ?_); clear hK K
  refine End.kp [0, 1, 2, 3, 4, 10, 11, 12] ?_
  refine Run.seq ?_
  refine Run.go ?_
  refine End.kp [0, 1, 2, 3, 4, 10, 11, 12, 13] ?_
  refine Run.seq ?_
  refine Run.seq ?_
  refine Run.go ?_
  refine End.kp [0, 1, 2, 3, 4, 10, 11, 12, 13, 33, 34] ?_
  refine Run.block ?_
  refine Run.ghost (.thawBox (j := 1) (i := 3) 54 2 (by decide) rfl rfl) ?_
  refine Run.ghost (Ghost.form [(0, .ptr (d + 1) j 0), (1, .i ins), (2, .i regs), (3, .i ands), (4, .i outs), (10, .ptr 0 0 0), (11, .im (.sl (strs wn))), (12, .ptr 0 1 0), (13, .i n), (33, .i ands), (34, .i (0 : Nat))] 3 ⟨rfl, rfl, rfl, rfl, rfl, rfl, rfl, rfl, rfl, rfl, rfl, trivial⟩ rfl rfl) ?_
  refine Run.loop (fun m s => ∃ i : Nat, m = ands - i ∧ i ≤ ands ∧ s = ⟨[(0, .ptr (d + 1) j 0), (1, .i ins), (2, .i regs), (3, .i ands), (4, .i outs), (10, .ptr 0 0 0), (11, .im (.sl (strs wn))), (12, .ptr 0 1 0), (13, .i n), (33, .i ands), (34, .i (i : Nat))], [.box [.nils, .nils, .nils, .nils, .nils], .box [.full (strs (wn.take ins)), .im (.sl (strs on)), .nils, .ms 0 2 i, .nils], .row 54 2 ((drawN (andX l n) a2 i).1.map nd) 0], fset up d j (stm l (drawN (andX l n) a2 i).2)⟩) ands ⟨0, rfl, by omega, rfl⟩ fun m s hI => ?_
  obtain ⟨i, rfl, hi, rfl⟩ := hI
  have hsl : ((drawN (andX l n) a2 i).1.map nd).length = i := by rw [nd_len, drawN_len]
  have pAi := pA i
  have hc : (drawN (andX l n) a2 i).2 ≤ a2 + 800 := by omega
  generalize hcA : (drawN (andX l n) a2 i).2 = c at pAi hc
  have wi : IntKind.i64.wrap ((i : Int) + 1) = ((i + 1 : Nat) : Int) := by rw [wrap64 (by omega)]; omega
  have wfi : IntKind.i64.wrap (n + (i : Int)) = n + (i : Int) := wrap64 (by omega)
  have hap : (i + 1) * 16 ≤ 140737488355328 := by omega
  have pl1 := litX_pos l c (n + i)
  refine Run.seq ?_
  have fx := And.intro hap (And.intro wfi (And.intro wi (And.intro hsl (And.intro (@Int.toNat_natCast) (And.intro (@Int.natCast_nonneg) (And.intro wf3 (And.intro hn.symm (And.intro wf2 (And.intro wf1 (And.intro htake (And.intro hslice (And.intro wif (And.intro hset (And.intro hl ft))))))))))))))
  refine Run.go ?_
  refine End.kp [0, 1, 2, 3, 4, 10, 11, 12, 13, 33, 34, 35] ?_
  refine Run.seq ?_
  refine Run.cond _ rfl (fun hb => ?_) (fun hb => ?_)
  · have hb := of_decide_eq_true hb
    have hin : i < ands := by omega
    refine Run.skip ?_
    refine End.kp [0, 1, 2, 3, 4, 10, 11, 12, 13, 33, 34] ?_
    refine Run.seq ?_
    refine Run.block ?_
    refine Run.seq ?_
    have fx := And.intro hap (And.intro wfi (And.intro wi (And.intro hsl (And.intro (@Int.toNat_natCast) (And.intro (@Int.natCast_nonneg) (And.intro wf3 (And.intro hn.symm (And.intro wf2 (And.intro wf1 (And.intro htake (And.intro hslice (And.intro wif (And.intro hset (And.intro hl ft))))))))))))))
    refine Run.go ?_
    refine End.kp [0, 1, 2, 3, 4, 10, 11, 12, 13, 14, 33, 34] ?_
    refine Run.ghost (.spares 1) ?_
    simp only [ASt.pushN, ASt.push, List.append_assoc, List.cons_append, List.nil_append]
    refine Run.drawA fun K hK => ?_
    refine DOps.sim ?_
    refine DOps.call (.i (litX l (c) (n + i)).1) [((d + 1, j), stm l (c))] [((d + 1, j), stm l ((litX l (c) (n + i)).2))] rfl rfl rfl rfl (by kernel_rfl) (by simp [Agree, ASt.fr, hset]) (fun u hu => lit_ok (n + i) (by omega) (by omega) l (c) (ok _ (by omega) (by omega)) (by omega) u (d + 1) j (hu (((d + 1, j), stm l (c))) (by simp))) ?_
    refine DOps.sim ?_
    refine DOps.call (.i (litX l ((litX l c (n + i)).2) (n + i)).1) [((d + 1, j), stm l ((litX l c (n + i)).2))] [((d + 1, j), stm l ((litX l ((litX l c (n + i)).2) (n + i)).2))] rfl rfl rfl rfl (by kernel_rfl) (by simp [Agree, ASt.fr, hset]) (fun u hu => lit_ok (n + i) (by omega) (by omega) l ((litX l c (n + i)).2) (ok _ (by omega) (by omega)) (by omega) u (d + 1) j (hu (((d + 1, j), stm l ((litX l c (n + i)).2))) (by simp))) ?_
    refine DOps.sim ?_
    refine DOps.nil (by rfl) (hK _ ?_); clear hK K
    refine End.blk ?_
    refine End.kp [0, 1, 2, 3, 4, 10, 11, 12, 13, 33, 34] ?_
    refine Run.go ?_
    refine End.lp ?_
    refine ⟨ands - (i + 1), _, by omega, Ghost.form [(0, .ptr (d + 1) j 0), (1, .i ins), (2, .i regs), (3, .i ands), (4, .i outs), (10, .ptr 0 0 0), (11, .im (.sl (strs wn))), (12, .ptr 0 1 0), (13, .i n), (33, .i ands), (34, .i (i + 1 : Nat))] 3 ⟨rfl, rfl, rfl, rfl, rfl, rfl, rfl, rfl, rfl, rfl, rfl, trivial⟩ rfl rfl, i + 1, rfl, by omega, ?_⟩
    simp [drawN, hcA, andX]
  · have hb := of_decide_eq_false hb
    have hiN : i = ands := by omega
    rw [hiN] at hsl hcA
    rw [ha3] at hcA
    subst hcA
    have hnf : ∀ k : Nat, k < regs → (strs wn)[ins + k]? = some [.str ((wn.drop ins).getD k ByteArray.empty)] := fun k hk => by
      have : ins + k < wn.length := by omega
      simp [this]
    refine Run.exit rfl ?_
    refine End.kp [0, 1, 2, 3, 4, 10, 11, 12, 13] ?_
    refine Run.seq ?_
    refine Run.seq ?_
    have fx := And.intro hsi (And.intro hap (And.intro wfi (And.intro wi (And.intro hsl (And.intro (@Int.toNat_natCast) (And.intro (@Int.natCast_nonneg) (And.intro wf3 (And.intro hn.symm (And.intro wf2 (And.intro wf1 (And.intro htake (And.intro hslice (And.intro wif (And.intro hset (And.intro hl ft)))))))))))))))
    refine Run.go ?_
    refine End.kp [0, 1, 3, 4, 10, 11, 12, 13, 54, 55] ?_
    refine Run.block ?_
    rw [hiN]
    refine Run.ghost (.thawBox (j := 1) (i := 2) 56 3 (by decide) rfl rfl) ?_
    refine Run.ghost (Ghost.form [(0, .ptr (d + 1) j 0), (1, .i ins), (3, .i ands), (4, .i outs), (10, .ptr 0 0 0), (11, .im (.sl (strs wn))), (12, .ptr 0 1 0), (13, .i n), (54, .i regs), (55, .i (0 : Nat))] 4 ⟨rfl, rfl, rfl, rfl, rfl, rfl, rfl, rfl, rfl, rfl, trivial⟩ rfl rfl) ?_
    refine Run.loop (fun m s => ∃ k : Nat, m = regs - k ∧ k ≤ regs ∧ s = ⟨[(0, .ptr (d + 1) j 0), (1, .i ins), (3, .i ands), (4, .i outs), (10, .ptr 0 0 0), (11, .im (.sl (strs wn))), (12, .ptr 0 1 0), (13, .i n), (54, .i regs), (55, .i (k : Nat))], [.box [.nils, .nils, .nils, .nils, .nils], .box [.full (strs (wn.take ins)), .im (.sl (strs on)), .ms 0 3 k, .ms 0 2 ands, .nils], .row 54 2 ((drawN (andX l n) a2 ands).1.map nd) 0, .row 56 3 ((drawN (regX l (n + ands) (wn.drop ins)) a3 k).1.map LReg.im) 0], fset up d j (stm l (drawN (regX l (n + ands) (wn.drop ins)) a3 k).2)⟩) regs ⟨0, rfl, by omega, rfl⟩ fun m s hI => ?_
    obtain ⟨k', rfl, hk', rfl⟩ := hI
    have hfl : ((drawN (regX l (n + ands) (wn.drop ins)) a3 k').1.map LReg.im).length = k' := by rw [rim_len, drawN_len]
    have pRi := pR k'
    have hc : (drawN (regX l (n + ands) (wn.drop ins)) a3 k').2 ≤ a3 + 250 := by omega
    generalize hcR : (drawN (regX l (n + ands) (wn.drop ins)) a3 k').2 = c at pRi hc
    have wk : IntKind.i64.wrap ((k' : Int) + 1) = ((k' + 1 : Nat) : Int) := by rw [wrap64 (by omega)]; omega
    have wik : IntKind.i64.wrap ((ins : Int) + k') = ((ins + k' : Nat) : Int) := by rw [wrap64 (by omega)]; omega
    have hak : (k' + 1) * 32 ≤ 140737488355328 := by omega
    have pl1 := litX_pos l c (n + ands)
    refine Run.seq ?_
    have fx := And.intro wfg (And.intro hak (And.intro wik (And.intro wk (And.intro hfl (And.intro hsi (And.intro hap (And.intro wfi (And.intro wi (And.intro hsl (And.intro (@Int.toNat_natCast) (And.intro (@Int.natCast_nonneg) (And.intro wf3 (And.intro hn.symm (And.intro wf2 (And.intro wf1 (And.intro htake (And.intro hslice (And.intro wif (And.intro hset (And.intro hl ft))))))))))))))))))))
    refine Run.go ?_
    refine End.kp [0, 1, 3, 4, 10, 11, 12, 13, 54, 55, 56] ?_
    refine Run.seq ?_
    refine Run.cond _ rfl (fun hb => ?_) (fun hb => ?_)
    · have hb := of_decide_eq_true hb
      have hkf : k' < regs := by omega
      have hnk := hnf k' hkf
      generalize hnm : (wn.drop ins).getD k' ByteArray.empty = nm at hnk
      refine Run.skip ?_
      refine End.kp [0, 1, 3, 4, 10, 11, 12, 13, 54, 55] ?_
      refine Run.seq ?_
      refine Run.block ?_
      refine Run.seq ?_
      have fx := And.intro hnk (And.intro wfg (And.intro hak (And.intro wik (And.intro wk (And.intro hfl (And.intro hsi (And.intro hap (And.intro wfi (And.intro wi (And.intro hsl (And.intro (@Int.toNat_natCast) (And.intro (@Int.natCast_nonneg) (And.intro wf3 (And.intro hn.symm (And.intro wf2 (And.intro wf1 (And.intro htake (And.intro hslice (And.intro wif (And.intro hset (And.intro hl ft)))))))))))))))))))))
      refine Run.go ?_
      refine End.kp [0, 1, 3, 4, 10, 11, 12, 13, 15, 54, 55] ?_
      refine Run.ghost (.spares 1) ?_
      simp only [ASt.pushN, ASt.push, List.append_assoc, List.cons_append, List.nil_append]
      refine Run.drawA fun K hK => ?_
      refine DOps.sim ?_
      refine DOps.call (.i (litX l (c) (n + ands)).1) [((d + 1, j), stm l (c))] [((d + 1, j), stm l ((litX l (c) (n + ands)).2))] rfl rfl rfl rfl (by kernel_rfl) (by simp [Agree, ASt.fr, hset]) (fun u hu => lit_ok (n + ands) (by omega) (by omega) l (c) (ok _ (by omega) (by omega)) (by omega) u (d + 1) j (hu (((d + 1, j), stm l (c))) (by simp))) ?_
      refine DOps.sim ?_
      refine DOps.call (.i (nextV l (litX l c (n + ands)).2 2)) [((d + 1, j), stm l ((litX l c (n + ands)).2))] [((d + 1, j), stm l ((litX l c (n + ands)).2 + 1))] rfl rfl rfl rfl (by kernel_rfl) (by simp [Agree, ASt.fr, hset]) (fun u hu => Next_ok l (litX l c (n + ands)).2 2 (ok _ (by omega) (by omega)) (by omega) u (d + 1) j (hu (((d + 1, j), stm l ((litX l c (n + ands)).2))) (by simp))) ?_
      refine DOps.sim ?_
      refine DOps.nil (by rfl) (hK _ ?_); clear hK K
      refine End.blk ?_
      refine End.kp [0, 1, 3, 4, 10, 11, 12, 13, 54, 55] ?_
      refine Run.go ?_
      refine End.lp ?_
      refine ⟨regs - (k' + 1), _, by omega, Ghost.form [(0, .ptr (d + 1) j 0), (1, .i ins), (3, .i ands), (4, .i outs), (10, .ptr 0 0 0), (11, .im (.sl (strs wn))), (12, .ptr 0 1 0), (13, .i n), (54, .i regs), (55, .i (k' + 1 : Nat))] 4 ⟨rfl, rfl, rfl, rfl, rfl, rfl, rfl, rfl, rfl, rfl, trivial⟩ rfl rfl, k' + 1, rfl, by omega, ?_⟩
      have hnm2 : wn[ins + k']?.getD ByteArray.empty = nm := by rw [← hnm]; simp
      simp [drawN, hcR, regX, hnm2]
    · have hb := of_decide_eq_false hb
      have hkR : k' = regs := by omega
      rw [hkR] at hfl hcR
      rw [ha4] at hcR
      subst hcR
      refine Run.exit rfl ?_
      refine End.kp [0, 3, 4, 10, 12, 13] ?_
      refine Run.seq ?_
      refine Run.seq ?_
      have fx := And.intro wfg (And.intro hak (And.intro wik (And.intro wk (And.intro hfl (And.intro hsi (And.intro hap (And.intro wfi (And.intro wi (And.intro hsl (And.intro (@Int.toNat_natCast) (And.intro (@Int.natCast_nonneg) (And.intro wf3 (And.intro hn.symm (And.intro wf2 (And.intro wf1 (And.intro htake (And.intro hslice (And.intro wif (And.intro hset (And.intro hl ft))))))))))))))))))))
      refine Run.go ?_
      refine End.kp [0, 3, 10, 12, 13, 79, 80] ?_
      refine Run.block ?_
      rw [hkR]
      refine Run.ghost (.thawBox (j := 1) (i := 4) 51 1 (by decide) rfl rfl) ?_
      refine Run.ghost (Ghost.form [(0, .ptr (d + 1) j 0), (3, .i ands), (10, .ptr 0 0 0), (12, .ptr 0 1 0), (13, .i n), (79, .i outs), (80, .i (0 : Nat))] 5 ⟨rfl, rfl, rfl, rfl, rfl, rfl, rfl, trivial⟩ rfl rfl) ?_
      refine Run.loop (fun m s => ∃ q : Nat, m = outs - q ∧ q ≤ outs ∧ s = ⟨[(0, .ptr (d + 1) j 0), (3, .i ands), (10, .ptr 0 0 0), (12, .ptr 0 1 0), (13, .i n), (79, .i outs), (80, .i (q : Nat))], [.box [.nils, .nils, .nils, .nils, .nils], .box [.full (strs (wn.take ins)), .im (.sl (strs on)), .ms 0 3 regs, .ms 0 2 ands, .ms 0 4 q], .row 54 2 ((drawN (andX l n) a2 ands).1.map nd) 0, .row 56 3 ((drawN (regX l (n + ands) (wn.drop ins)) a3 regs).1.map LReg.im) 0, .row 51 1 (ints (drawN (fun _ b => litX l b (n + ands)) a4 q).1) 0], fset up d j (stm l (drawN (fun _ b => litX l b (n + ands)) a4 q).2)⟩) outs ⟨0, rfl, by omega, rfl⟩ fun m s hI => ?_
      obtain ⟨q, rfl, hq, rfl⟩ := hI
      have hql : (ints (drawN (fun _ b => litX l b (n + ands)) a4 q).1).length = q := by rw [ints_len, drawN_len]
      have pOi := pO q
      have hc : (drawN (fun _ b => litX l b (n + ands)) a4 q).2 ≤ a4 + 200 := by omega
      generalize hcO : (drawN (fun _ b => litX l b (n + ands)) a4 q).2 = c at pOi hc
      have wq : IntKind.i64.wrap ((q : Int) + 1) = ((q + 1 : Nat) : Int) := by rw [wrap64 (by omega)]; omega
      have haq : (q + 1) * 8 ≤ 140737488355328 := by omega
      refine Run.seq ?_
      have fx := And.intro haq (And.intro wq (And.intro hql (And.intro wfg (And.intro hak (And.intro wik (And.intro wk (And.intro hfl (And.intro hsi (And.intro hap (And.intro wfi (And.intro wi (And.intro hsl (And.intro (@Int.toNat_natCast) (And.intro (@Int.natCast_nonneg) (And.intro wf3 (And.intro hn.symm (And.intro wf2 (And.intro wf1 (And.intro htake (And.intro hslice (And.intro wif (And.intro hset (And.intro hl ft)))))))))))))))))))))))
      refine Run.go ?_
      refine End.kp [0, 3, 10, 12, 13, 79, 80, 81] ?_
      refine Run.seq ?_
      refine Run.cond _ rfl (fun hb => ?_) (fun hb => ?_)
      · have hb := of_decide_eq_true hb
        have hqn : q < outs := by omega
        refine Run.skip ?_
        refine End.kp [0, 3, 10, 12, 13, 79, 80] ?_
        refine Run.seq ?_
        refine Run.block ?_
        refine Run.ghost (.spares 1) ?_
        simp only [ASt.pushN, ASt.push, List.append_assoc, List.cons_append, List.nil_append]
        have fx := And.intro haq (And.intro wq (And.intro hql (And.intro wfg (And.intro hak (And.intro wik (And.intro wk (And.intro hfl (And.intro hsi (And.intro hap (And.intro wfi (And.intro wi (And.intro hsl (And.intro (@Int.toNat_natCast) (And.intro (@Int.natCast_nonneg) (And.intro wf3 (And.intro hn.symm (And.intro wf2 (And.intro wf1 (And.intro htake (And.intro hslice (And.intro wif (And.intro hset (And.intro hl ft)))))))))))))))))))))))
        refine Run.drawA fun K hK => ?_
        refine DOps.sim ?_
        refine DOps.call (.i (litX l (c) (n + ands)).1) [((d + 1, j), stm l (c))] [((d + 1, j), stm l ((litX l (c) (n + ands)).2))] rfl rfl rfl rfl (by kernel_rfl) (by simp [Agree, ASt.fr, hset]) (fun u hu => lit_ok (n + ands) (by omega) (by omega) l (c) (ok _ (by omega) (by omega)) (by omega) u (d + 1) j (hu (((d + 1, j), stm l (c))) (by simp))) ?_
        refine DOps.sim ?_
        refine DOps.nil (by rfl) (hK _ ?_); clear hK K
        refine End.blk ?_
        refine End.kp [0, 3, 10, 12, 13, 79, 80] ?_
        refine Run.go ?_
        refine End.lp ?_
        refine ⟨outs - (q + 1), _, by omega, Ghost.form [(0, .ptr (d + 1) j 0), (3, .i ands), (10, .ptr 0 0 0), (12, .ptr 0 1 0), (13, .i n), (79, .i outs), (80, .i (q + 1 : Nat))] 5 ⟨rfl, rfl, rfl, rfl, rfl, rfl, rfl, trivial⟩ rfl rfl, q + 1, rfl, by omega, ?_⟩
        simp [drawN, hcO]
      · have hb := of_decide_eq_false hb
        have hqe : q = outs := by omega
        rw [hqe] at hql hcO
        subst hcO
        refine Run.exit rfl ?_
        refine End.kp [10, 12] ?_
        refine Run.seq ?_
        rw [hqe]
        refine Run.ghost (.freeze (d := 0) (j := 3) rfl) ?_
        refine Run.ghost (.freeze (d := 0) (j := 4) rfl) ?_
        refine Run.ghost (.boxAt (j := 1) (i := 2) rfl rfl) ?_
        refine Run.ghost (.boxAt (j := 1) (i := 4) rfl rfl) ?_
        refine Run.ghost (.boxAt (j := 1) (i := 0) rfl rfl) ?_
        have fx := And.intro haq (And.intro wq (And.intro hql (And.intro wfg (And.intro hak (And.intro wik (And.intro wk (And.intro hfl (And.intro hsi (And.intro hap (And.intro wfi (And.intro wi (And.intro hsl (And.intro (@Int.toNat_natCast) (And.intro (@Int.natCast_nonneg) (And.intro wf3 (And.intro hn.symm (And.intro wf2 (And.intro wf1 (And.intro htake (And.intro hslice (And.intro wif (And.intro hset (And.intro hl ft)))))))))))))))))))))))
        refine Run.go ?_
        refine End.kp [10] ?_
        refine Run.resI 2 hQ (hkset _) ?_
        rw [hN]
        exact ⟨rfl, rfl⟩
end Go.Proofs.YtdgpmopcmacicaaDoorPi

/- The walks of Small, Moving, Played, spread; a drawn graph. -/
set_option linter.unusedVariables false
set_option linter.unusedSimpArgs false
set_option maxRecDepth 100000
namespace Go.Proofs.YtdgpmopcmacicaaDoorPi
set_option maxHeartbeats 2000000
abbrev boolss (l : List (List Bool)) : List (List Im) := l.map fun r => [.sl (bools r)]
theorem boolss_len (l : List (List Bool)) : (boolss l).length = l.length := by simp
def playedV (l : List Int) (k : Nat) (a : Int) (n : Nat) : List (List Bool) × Int := drawN (fun _ b => (valsV l k b, b + k)) a n
theorem playedV_pos (l : List Int) (k : Nat) (a : Int) : ∀ n : Nat, (playedV l k a n).2 = a + k * n
  | 0 => by simp [playedV, drawN]
  | n + 1 => by
    have := playedV_pos l k a n
    have e : (playedV l k a (n + 1)).2 = (playedV l k a n).2 + k := rfl
    rw [e, this, Int.natCast_add, Int.mul_add]
    simp
    omega
theorem playedV_len (l : List Int) (k : Nat) (a : Int) (n : Nat) : (playedV l k a n).1.length = n := drawN_len _ _ _
theorem playedV_row (l : List Int) (k : Nat) (a : Int) (n : Nat) : ∀ r ∈ (playedV l k a n).1, r.length = k := by
  intro r hr
  obtain ⟨i, hi⟩ := List.mem_iff_getElem?.1 hr
  exact drawN_mem _ a (fun _ x => x.length = k) (fun i b => valsV_len l k b) n i r hi
def rX (l : List Int) (ins regs : Int) (b : Int) : Int := 2 * (1 + ins + nextV l b regs) + nextV l (b + 1) 2
def mv1 (l : List Int) (ins regs : Int) (x b : Int) : Int × Int := if nextV l b 3 = 0 then (rX l ins regs (b + 1), b + 1 + 1 + 1) else (x, b + 1)
def mvX (l : List Int) (ins regs : Int) (A : List (Int × Int)) (i : Nat) (b : Int) : (Int × Int) × Int :=
  (((mv1 l ins regs (A.getD i (0, 0)).1 b).1, (mv1 l ins regs (A.getD i (0, 0)).2 (mv1 l ins regs (A.getD i (0, 0)).1 b).2).1), (mv1 l ins regs (A.getD i (0, 0)).2 (mv1 l ins regs (A.getD i (0, 0)).1 b).2).2)
theorem mv1_pos (l : List Int) (ins regs x b : Int) : b ≤ (mv1 l ins regs x b).2 ∧ (mv1 l ins regs x b).2 ≤ b + (3 : Nat) := by
  unfold mv1
  split <;> exact ⟨by simp only; omega, by simp only; omega⟩
theorem mvX_pos (l : List Int) (ins regs : Int) (A : List (Int × Int)) (i : Nat) (b : Int) : b ≤ (mvX l ins regs A i b).2 ∧ (mvX l ins regs A i b).2 ≤ b + (6 : Nat) := by
  have h1 := mv1_pos l ins regs (A.getD i (0, 0)).1 b
  have h2 := mv1_pos l ins regs (A.getD i (0, 0)).2 (mv1 l ins regs (A.getD i (0, 0)).1 b).2
  simp only [mvX]
  omega
def movingV (l : List Int) (a : Int) (ands : Nat) : LGraph × Int :=
  let ins := (1 + nextV l a (3 - 1 + 1)).toNat
  let regs := (2 + nextV l (a + 1) (7 - 2 + 1)).toNat
  let G := graphV l (a + 1 + 1 + 1 + 1) ins regs (1 + nextV l (a + 1 + 1) (ands - 1 + 1)).toNat (1 + nextV l (a + 1 + 1 + 1) (3 - 1 + 1)).toNat
  let M := drawN (mvX l ins regs G.1.ands) G.2 G.1.ands.length
  ({ G.1 with ands := M.1 }, M.2)
theorem graphV_pos (l : List Int) (a : Int) (ins regs ands outs : Nat) : a ≤ (graphV l a ins regs ands outs).2 ∧ (graphV l a ins regs ands outs).2 ≤ a + 3 * (ins + regs + outs) + 8 * ands + 5 * regs + 4 * outs ∧ (graphV l a ins regs ands outs).1.inn.length = ins ∧ (graphV l a ins regs ands outs).1.out.length = outs ∧
    (graphV l a ins regs ands outs).1.regs.length = regs ∧ (graphV l a ins regs ands outs).1.ands.length = ands ∧ (graphV l a ins regs ands outs).1.outs.length = outs := by
  obtain ⟨p1, p2, p3⟩ := wordsV_pos l (ins + regs) 0 a
  obtain ⟨q1, q2, q3⟩ := wordsV_pos l outs 0 (wordsV l (ins + regs) 0 a).2
  have h1 := drawN_pos (andX l ((1 + ins + regs : Nat) : Int)) (wordsV l outs 0 (wordsV l (ins + regs) 0 a).2).2 8 (andX_pos l _) ands
  simp only [graphV]
  generalize (drawN (andX l ((1 + ins + regs : Nat) : Int)) (wordsV l outs 0 (wordsV l (ins + regs) 0 a).2).2 ands).2 = a3 at h1
  have h2 := drawN_pos (regX l (((1 + ins + regs : Nat) : Int) + ands) (List.drop ins (wordsV l (ins + regs) 0 a).1)) a3 5 (regX_pos l _ _) regs
  generalize (drawN (regX l (((1 + ins + regs : Nat) : Int) + ands) (List.drop ins (wordsV l (ins + regs) 0 a).1)) a3 regs).2 = a4 at h2
  have h3 := drawN_pos (fun _ b => litX l b (((1 + ins + regs : Nat) : Int) + ands)) a4 4 (fun _ b => litX_pos l b _) outs
  refine ⟨by omega, by omega, by rw [List.length_take]; omega, q3, drawN_len _ _ _, drawN_len _ _ _, drawN_len _ _ _⟩
-- GONE Small_ok
theorem r_ok (ins regs : Int) (hi0 : 0 ≤ ins) (hi1 : ins ≤ 1000) (hr0 : 1 ≤ regs) (hr1 : regs ≤ 1000) (k1 k2 k3 : Nat) (l : List Int) (a : Int) (hs : StmOk l a) (hf : a + 1000 < 1099511627776) (up : Frs) (d j : Nat) (hl : fget up (d + 1) j = some (stm l a))
    (hk1 : fget up 0 k1 = some (.box [.i ins])) (hk2 : fget up 0 k2 = some (.box [.ptr (d + 1) j 0])) (hk3 : fget up 0 k3 = some (.box [.i regs])) : ACalls Tryd.prog 19 [.ptr 0 k1 0, .ptr 0 k2 0, .ptr 0 k3 0] up fun v u => v = .i (rX l ins regs a) ∧ u = fset up (d + 1) j (stm l (a + 1 + 1)) := by
  have hset : ∀ o, fget (fset up (d + 1) j o) (d + 1) j = some o := fun o => fget_fset_same _ _ _ _ _ hl
  have hs2 : ∀ o, fget (fset up (d + 1) j o) 0 k2 = some (.box [.ptr (d + 1) j 0]) := fun o => by rw [fget_fset, if_neg (by omega)]; exact hk2
  have hp := hs.pos
  obtain ⟨r0, r1⟩ := nextV_range l a regs hr0
  obtain ⟨m0, m1⟩ := nextV_range l (a + 1) 2 (by omega)
  have w1 : IntKind.i64.wrap (1 + ins) = 1 + ins := wrap64 (by omega)
  have w2 : IntKind.i64.wrap (1 + ins + nextV l a regs) = 1 + ins + nextV l a regs := wrap64 (by omega)
  have w3 : IntKind.i64.wrap (2 * (1 + ins + nextV l a regs)) = 2 * (1 + ins + nextV l a regs) := wrap64 (by omega)
  have w4 : IntKind.i64.wrap (2 * (1 + ins + nextV l a regs) + nextV l (a + 1) 2) = 2 * (1 + ins + nextV l a regs) + nextV l (a + 1) 2 := wrap64 (by omega)
  refine ACalls.code Tryd.func19 rfl 14 rfl (by simp) [.tmp 3] rfl fun Q hQ => ?_
  simp only [ups, PV.up, argEnv]
  have ft := And.intro ty_3 (And.intro ty_23 (And.intro ty_51 trivial))
  refine Run.seq ?_
  have fx := And.intro w4 (And.intro w3 (And.intro w2 (And.intro w1 (And.intro hs2 (And.intro hk3 (And.intro hk2 (And.intro hk1 (And.intro hset (And.intro hl ft)))))))))
  refine Run.go ?_
  refine End.kp [0, 1, 2] ?_
  refine Run.seq ?_
  refine Run.drawA fun K hK => ?_
  refine DOps.sim ?_
  refine DOps.call (.i (nextV l a regs)) [((d + 2, j), stm l a)] [((d + 2, j), stm l (a + 1))] rfl rfl rfl rfl (by kernel_rfl) (by simp [Agree, ASt.fr, hl]) (fun u hu => Next_ok l a regs hs (by omega) u (d + 2) j (hu ((d + 2, j), stm l a) (by simp))) ?_
  refine DOps.sim ?_
  refine DOps.call (.i (nextV l (a + 1) 2)) [((d + 2, j), stm l (a + 1))] [((d + 2, j), stm l (a + 1 + 1))] rfl rfl rfl rfl (by kernel_rfl) (by simp [Agree, ASt.fr, hset]) (fun u hu => Next_ok l (a + 1) 2 (hs.plus 1 (by omega) (by omega)) (by omega) u (d + 2) j (hu ((d + 2, j), stm l (a + 1)) (by simp))) ?_
  refine DOps.sim ?_
  refine DOps.nil (by rfl) (hK _ ?_); clear hK K
  refine End.kp [3] ?_
  refine Run.ret (hQ _ _ ⟨.inr rfl, _, rfl, _, rfl, ?_⟩)
  exact ⟨rfl, rfl⟩
theorem Played_ok (n k : Nat) (hn : n ≤ 200) (hk : k ≤ 100) (l : List Int) (a : Int) (hs : StmOk l a) (hf : a + 40000 < 1099511627776) (up : Frs) (d j : Nat) (hl : fget up d j = some (stm l a)) :
    ACalls Tryd.prog 14 [.ptr d j 0, .i n, .i k] up fun v u => v = .im (.sl (boolss (playedV l k a n).1)) ∧ u = fset up d j (stm l (playedV l k a n).2) := by
  have hset : ∀ o, fget (fset up d j o) d j = some o := fun o => fget_fset_same _ _ _ _ _ hl
  have hp := hs.pos
  refine ACalls.code Tryd.func14 rfl 19 rfl (by simp) [.tmp 6] rfl fun Q hQ => ?_
  simp only [ups, PV.up, argEnv]
  have ft := And.intro ty_3 (And.intro ty_4 (And.intro ty_23 (And.intro ty_42 (And.intro ty_77 trivial))))
  refine Run.seq ?_
  have fx := And.intro hset (And.intro hl ft)
  refine Run.go ?_
  refine End.kp [0, 1, 2] ?_
  refine Run.seq ?_
  refine Run.go ?_
  refine End.kp [0, 1, 2, 7] ?_
  refine Run.seq ?_
  refine Run.seq ?_
  refine Run.go ?_
  refine End.kp [0, 2, 7, 8, 9] ?_
  refine Run.block ?_
  refine Run.ghost (Ghost.thaw (u := 7) 77 1 (by decide) rfl) ?_
  refine Run.ghost (Ghost.form [(0, .ptr (d + 1) j 0), (2, .i k), (7, .ms 0 0 (0)), (8, .i n), (9, .i (0 : Nat))] 1 ⟨rfl, rfl, rfl, rfl, rfl, trivial⟩ rfl rfl) ?_
  refine Run.loop (fun m s => ∃ i : Nat, m = n - i ∧ i ≤ n ∧ s = ⟨[(0, .ptr (d + 1) j 0), (2, .i k), (7, .ms 0 0 (i)), (8, .i n), (9, .i (i : Nat))], [.row 77 1 (boolss (playedV l k a i).1) 0], fset up d j (stm l (playedV l k a i).2)⟩) n ⟨0, rfl, by omega, by rw [show (playedV l k a 0) = ([], a) from rfl]; simp only; rw [fset_self up d j _ hl]; rfl⟩ fun m s hI => ?_
  obtain ⟨i, rfl, hi, rfl⟩ := hI
  have hsl : (boolss (playedV l k a i).1).length = i := by rw [boolss_len, playedV_len]
  have hpp := playedV_pos l k a i
  have hki : ((k : Int) * i) ≤ 100 * 200 := by
    have h1 : (k : Int) * i ≤ 100 * (i : Int) := Int.mul_le_mul_of_nonneg_right (by omega) (by omega)
    omega
  have hki0 : 0 ≤ (k : Int) * i := Int.mul_nonneg (by omega) (by omega)
  generalize hc : (playedV l k a i).2 = c at hpp
  have hs0 : StmOk l c := ⟨hs.vals, hs.len, by omega, by omega⟩
  have hap : (i + 1) * 24 ≤ 140737488355328 := by omega
  refine Run.seq ?_
  have fx := And.intro hap (And.intro hsl (And.intro hset (And.intro hl ft)))
  refine Run.go ?_
  refine End.kp [0, 2, 7, 8, 9, 10] ?_
  refine Run.seq ?_
  refine Run.cond _ rfl (fun hb => ?_) (fun hb => ?_)
  · have hb := of_decide_eq_true hb
    have hin : i < n := by omega
    have wi := wsucc hin (by omega)
    refine Run.skip ?_
    refine End.kp [0, 2, 7, 8, 9] ?_
    refine Run.seq ?_
    refine Run.block ?_
    have fx := And.intro wi (And.intro hap (And.intro hsl (And.intro hset (And.intro hl ft))))
    refine Run.region rfl fun K hK => GOps.sim ?_
    refine GOps.call rfl rfl rfl rfl (by kernel_rfl) (ACalls.sim ?_)
    refine (Values_ok k (by omega) l c hs0 (by omega) _ (d + 1) j (hset _)).mono fun v u hv => ?_
    obtain ⟨rfl, rfl⟩ := hv
    refine ⟨_, _, rfl, GOps.sim ?_⟩
    refine GOps.done (hK _ ?_); clear hK K
    refine End.blk ?_
    refine End.kp [0, 2, 7, 8, 9] ?_
    refine Run.go ?_
    refine End.lp ?_
    refine ⟨n - (i + 1), _, by omega, Ghost.form [(0, .ptr (d + 1) j 0), (2, .i k), (7, .ms 0 0 ((i + 1))), (8, .i n), (9, .i (i + 1 : Nat))] 1 ⟨rfl, rfl, rfl, rfl, rfl, trivial⟩ rfl rfl, i + 1, rfl, by omega, ?_⟩
    have e1 : playedV l k a (i + 1) = ((playedV l k a i).1 ++ [valsV l k c], c + k) := by rw [← hc]; rfl
    rw [e1]
    simp
  · have hb := of_decide_eq_false hb
    have hiN : i = n := by omega
    subst hiN
    refine Run.exit rfl ?_
    refine End.kp [7] ?_
    refine Run.seq ?_
    refine Run.ghost (Ghost.shut (t := 7) (j := 0) rfl rfl hsl) ?_
    simp only [eput, edel]
    have fx := And.intro hap (And.intro hsl (And.intro hset (And.intro hl ft)))
    refine Run.go ?_
    refine End.kp [6] ?_
    refine Run.ret (hQ _ _ ⟨.inr rfl, _, rfl, _, rfl, ?_⟩)
    exact ⟨rfl, by rw [hc]⟩
theorem boolss_at (q : List (List Bool)) (i : Nat) (h : i < q.length) : ∃ r, q[i]? = some r ∧ r ∈ q ∧ q.getD i [] = r ∧ (boolss q)[i]? = some [.sl (bools r)] :=
  ⟨q[i], List.getElem?_eq_getElem h, List.getElem_mem h, by simp [h], by simp [h]⟩
-- GONE spread_ok
end Go.Proofs.YtdgpmopcmacicaaDoorPi

/- The walks of the tables of netlists: Mask, look, Look, nets. -/
set_option linter.unusedVariables false
set_option linter.unusedSimpArgs false
namespace Go.Proofs.YtdgpmopcmacicaaDoorPi

-- GONE Mask_ok
-- GONE look_ok
-- GONE Look_ok
-- GONE nets_ok
end Go.Proofs.YtdgpmopcmacicaaDoorPi

/- The walks of clones of names, of Name, Names and ends. -/
set_option linter.unusedVariables false
set_option linter.unusedSimpArgs false
set_option maxRecDepth 100000
namespace Go.Proofs.YtdgpmopcmacicaaDoorPi
theorem CloneS_nil (up : Frs) : ACalls Tryd.prog 28 [.im (.sl (strs []))] up fun v u => v = .im (.sl (strs [])) ∧ u = up := by
  refine ACalls.code Tryd.func28 rfl 8 rfl (by simp) [.tmp 2] rfl fun Q hQ => ?_
  simp only [ups, PV.up, argEnv]
  have ft := And.intro ty_4 (And.intro ty_9 (And.intro ty_26 trivial))
  refine Run.seq ?_
  have fx := And.intro (@List.map_nil.{0, 0}) ft
  refine Run.go ?_
  refine End.kp [0] ?_
  refine Run.seq ?_
  refine Run.seq ?_
  refine Run.go ?_
  refine End.kp [0, 4] ?_
  refine Run.cond_any rfl ?_ ?_
  · skip
    refine Run.seq ?_
    have fx := And.intro (@List.map_nil.{0, 0}) ft
    refine Run.go ?_
    refine End.kp [2] ?_
    refine Run.resC hQ ?_
    exact ⟨rfl, rfl⟩
  · skip
    refine Run.skip ?_
    refine End.kp [0] ?_
    refine Run.seq ?_
    have fx := And.intro (@List.map_nil.{0, 0}) ft
    refine Run.go ?_
    refine End.kp [2] ?_
    refine Run.resC hQ ?_
    exact ⟨rfl, rfl⟩
theorem CloneS_cons (x : ByteArray) (xs : List ByteArray) (h : xs.length ≤ 1000000) (up : Frs) : ACalls Tryd.prog 28 [.im (.sl (strs (x :: xs)))] up fun v u => v = .im (.sl (strs (x :: xs))) ∧ u = up := by
  have hall : (strs xs).all (fun r => r.length == 1) = true := by simp
  have hlen : ((xs.map fun s => [Im.str s]).length + 1) * 16 ≤ 140737488355328 := by rw [List.length_map]; omega
  refine ACalls.code Tryd.func28 rfl 8 rfl (by simp) [.tmp 2] rfl fun Q hQ => ?_
  simp only [ups, PV.up, argEnv]
  have ft := And.intro ty_4 (And.intro ty_9 (And.intro ty_26 trivial))
  refine Run.seq ?_
  have fx := And.intro hlen (And.intro hall (And.intro (@List.map_cons.{0, 0}) ft))
  refine Run.go ?_
  refine End.kp [0] ?_
  refine Run.seq ?_
  refine Run.seq ?_
  refine Run.go ?_
  refine End.kp [0, 4] ?_
  refine Run.cond _ rfl (fun hb => ?_) (fun hb => ?_)
  · have hb := hb
    simp at hb
  · have hb := hb
    refine Run.skip ?_
    refine End.kp [0] ?_
    refine Run.seq ?_
    have fx := And.intro hlen (And.intro hall (And.intro (@List.map_cons.{0, 0}) ft))
    refine Run.go ?_
    refine End.move (Ghost.shut (t := 2) (j := 0) rfl rfl rfl) ?_
    simp only [eput, edel]
    refine End.kp [2] ?_
    refine Run.ret (hQ _ _ ⟨.inr rfl, _, rfl, _, rfl, ?_⟩)
    exact ⟨rfl, rfl⟩
theorem CloneS_ok (q : List ByteArray) (h : q.length ≤ 1000000) (up : Frs) : ACalls Tryd.prog 28 [.im (.sl (strs q))] up fun v u => v = .im (.sl (strs q)) ∧ u = up := by
  cases q with
  | nil => exact CloneS_nil up
  | cons x xs => exact CloneS_cons x xs (by simp at h; omega) up
/-- A name that may be: 1 to 128 letters from 33 to 126. -/
structure NameOk (s : ByteArray) : Prop where
  low : 1 ≤ s.size
  high : s.size ≤ 128
  chars : ∀ b ∈ s.data.toList, 33 ≤ b.toNat ∧ b.toNat ≤ 126
theorem byteRows_len (s : ByteArray) : (byteRows s).length = s.size := by simp [byteRows]
theorem byteRows_get (s : ByteArray) (h : NameOk s) (i : Nat) (hi : i < s.size) : ∃ b : Int, 33 ≤ b ∧ b ≤ 126 ∧ (byteRows s)[i]? = some [.int .u8 b] := by
  have hi2 : i < s.data.toList.length := by simpa using hi
  refine ⟨(s.data.toList[i]).toNat, ?_, ?_, ?_⟩
  · have := (h.chars _ (List.getElem_mem hi2)).1; omega
  · have := (h.chars _ (List.getElem_mem hi2)).2; omega
  · simp only [byteRows, List.getElem?_map, List.getElem?_eq_getElem hi2, Option.map_some]
theorem Name_ok (s : ByteArray) (hs : NameOk s) (up : Frs) : ACalls Tryd.prog 68 [.im (.str s)] up fun v u => v = .im (.bool true) ∧ u = up := by
  have hlow := hs.low
  have hhigh := hs.high
  have d1 : decide ((s.size : Int) < 1) = false := decide_eq_false (by omega)
  have d2 : decide ((s.size : Int) > 128) = false := decide_eq_false (by omega)
  refine ACalls.code Tryd.func68 rfl 27 rfl (by simp) [.tmp 2] rfl fun Q hQ => ?_
  simp only [ups, PV.up, argEnv]
  have ft := And.intro ty_3 (And.intro ty_4 (And.intro ty_5 (And.intro ty_9 (And.intro ty_126 trivial))))
  refine Run.seq ?_
  have fx := And.intro byteRows_len (And.intro d2 (And.intro d1 ft))
  refine Run.go ?_
  refine End.kp [0] ?_
  refine Run.seq ?_
  refine Run.seq ?_
  refine Run.go ?_
  refine End.kp [0, 12] ?_
  refine Run.cond _ rfl (fun hb => ?_) (fun hb => ?_)
  · have hb := hb
    simp at hb
  · have hb := hb
    refine Run.skip ?_
    refine End.kp [0] ?_
    refine Run.seq ?_
    refine Run.seq ?_
    have fx := And.intro byteRows_len (And.intro d2 (And.intro d1 ft))
    refine Run.go ?_
    refine End.kp [14, 15, 16] ?_
    refine Run.block ?_
    refine Run.ghost (Ghost.form [(14, .im (.sl (byteRows s))), (15, .i s.size), (16, .i (0 : Nat))] 0 ⟨rfl, rfl, rfl, trivial⟩ rfl rfl) ?_
    refine Run.loop (fun m st => ∃ (i : Nat), m = s.size - i ∧ i ≤ s.size ∧ st = ⟨[(14, .im (.sl (byteRows s))), (15, .i s.size), (16, .i (i : Nat))], [], up⟩) s.size ⟨0, rfl, by omega, rfl⟩ fun m st hI => ?_
    obtain ⟨i, rfl, hi, rfl⟩ := hI
    refine Run.seq ?_
    have fx := And.intro byteRows_len (And.intro d2 (And.intro d1 ft))
    refine Run.go ?_
    refine End.kp [14, 15, 16, 17] ?_
    refine Run.seq ?_
    refine Run.cond _ rfl (fun hb => ?_) (fun hb => ?_)
    · have hb := of_decide_eq_true hb
      have hin : i < s.size := by omega
      have wi := wsucc hin (by omega)
      obtain ⟨b, b1, b2, hg⟩ := byteRows_get s hs i hin
      have d3 : decide (b < 33) = false := decide_eq_false (by omega)
      have d4 : decide (b > 126) = false := decide_eq_false (by omega)
      refine Run.skip ?_
      refine End.kp [14, 15, 16] ?_
      refine Run.seq ?_
      refine Run.block ?_
      refine Run.seq ?_
      have fx := And.intro (@Int.toNat_natCast) (And.intro (@Int.natCast_nonneg) (And.intro d4 (And.intro d3 (And.intro hg (And.intro wi (And.intro byteRows_len (And.intro d2 (And.intro d1 ft))))))))
      refine Run.go ?_
      refine End.kp [4, 14, 15, 16] ?_
      refine Run.seq ?_
      refine Run.go ?_
      refine End.kp [14, 15, 16, 25] ?_
      refine Run.cond _ rfl (fun hb => ?_) (fun hb => ?_)
      · have hb := hb
        simp at hb
      · have hb := hb
        refine Run.skip ?_
        refine End.blk ?_
        refine End.kp [14, 15, 16] ?_
        have fx := And.intro (@Int.toNat_natCast) (And.intro (@Int.natCast_nonneg) (And.intro d4 (And.intro d3 (And.intro hg (And.intro wi (And.intro byteRows_len (And.intro d2 (And.intro d1 ft))))))))
        refine Run.go ?_
        refine End.lp ?_
        refine ⟨s.size - (i + 1), _, by omega, Ghost.form [(14, .im (.sl (byteRows s))), (15, .i s.size), (16, .i (i + 1 : Nat))] 0 ⟨rfl, rfl, rfl, trivial⟩ rfl rfl, i + 1, rfl, by omega, rfl⟩
    · have hb := of_decide_eq_false hb
      refine Run.exit rfl ?_
      refine End.kp [] ?_
      refine Run.seq ?_
      have fx := And.intro byteRows_len (And.intro d2 (And.intro d1 ft))
      refine Run.go ?_
      refine End.kp [2] ?_
      refine Run.ret (hQ _ _ ⟨.inr rfl, _, rfl, _, rfl, ?_⟩)
      exact ⟨rfl, rfl⟩
def ents (l : List ByteArray) : List (List Im × Im) := l.map fun s => ([.str s], .int .i64 1)
theorem same_ne (s x : ByteArray) (h : x ≠ s) : sameIm Tryd.prog 9 (.str s) (.str x) = some false := by
  simp only [sameIm, ty_9, if_true, Option.some.injEq]
  have := mt (MapKept.bytes_beq s x).1 (fun e => h e.symm)
  simpa using this
theorem find_none (s : ByteArray) : ∀ (l : List ByteArray) (i : Nat), s ∉ l → findIm Tryd.prog 9 (.str s) (ents l) i = some none
  | [], i, _ => rfl
  | x :: xs, i, h => by
    simp only [List.mem_cons, not_or] at h
    simp only [ents, List.map_cons, findIm, same_ne s x (fun e => h.1 e.symm)]
    exact find_none s xs (i + 1) h.2
theorem find_last (s : ByteArray) (v : Im) : ∀ (l : List ByteArray) (i : Nat), s ∉ l → findIm Tryd.prog 9 (.str s) (ents l ++ [([.str s], v)]) i = some (some (i + l.length, v))
  | [], i, _ => by
    have : sameIm Tryd.prog 9 (.str s) (.str s) = some true := by
      simp only [sameIm, ty_9, if_true, Option.some.injEq]
      exact (MapKept.bytes_beq s s).2 rfl
    simp only [ents, List.map_nil, List.nil_append, findIm, this, List.length_nil, Nat.add_zero]
  | x :: xs, i, h => by
    simp only [List.mem_cons, not_or] at h
    simp only [ents, List.map_cons, List.cons_append, findIm, same_ne s x (fun e => h.1 e.symm)]
    have := find_last s v xs (i + 1) h.2
    simp only [ents] at this
    rw [this, List.length_cons]
    congr 3
    omega
theorem nodup_take {l : List ByteArray} (h : l.Nodup) (i : Nat) (hi : i < l.length) : l.getD i ByteArray.empty ∉ l.take i := by
  intro hm
  obtain ⟨k, hk, e⟩ := List.getElem_of_mem hm
  have hk2 : k < i := by simp at hk; omega
  rw [List.getElem_take] at e
  have e2 : l.getD i ByteArray.empty = l[i] := by simp [hi]
  rw [e2] at e
  have := (List.getElem_inj h).1 e
  omega
theorem strs_get (l : List ByteArray) (i : Nat) (h : i < l.length) : (strs l)[i]? = some [.str (l.getD i ByteArray.empty)] := by simp [h]
theorem getD_mem {l : List ByteArray} {i : Nat} (h : i < l.length) : l.getD i ByteArray.empty ∈ l := by
  have e2 : l.getD i ByteArray.empty = l[i] := by simp [h]
  rw [e2]
  exact List.getElem_mem h
theorem Names_ok (q : List ByteArray) (hq : q.length ≤ 1000000) (hv : ∀ s ∈ q, NameOk s) (hd : q.Nodup) (up : Frs) : ACalls Tryd.prog 44 [.im (.sl (strs q))] up fun v u => v = .i 0 ∧ u = up := by
  refine ACalls.code Tryd.func44 rfl 25 rfl (by simp) [.tmp 2] rfl fun Q hQ => ?_
  simp only [ups, PV.up, argEnv]
  have ft := And.intro ty_3 (And.intro ty_4 (And.intro ty_9 (And.intro ty_26 (And.intro ty_35 (And.intro ty_127 trivial)))))
  refine Run.seq ?_
  have fx := And.intro strs_len ft
  refine Run.go ?_
  refine End.kp [0] ?_
  refine Run.seq ?_
  refine Run.go ?_
  refine End.kp [0, 3] ?_
  refine Run.seq ?_
  refine Run.seq ?_
  refine Run.go ?_
  refine End.kp [3, 7, 8, 9] ?_
  refine Run.block ?_
  refine Run.ghost (Ghost.form [(3, .map 0 0), (7, .im (.sl (strs q))), (8, .i q.length), (9, .i (0 : Nat))] 1 ⟨rfl, rfl, rfl, rfl, trivial⟩ rfl rfl) ?_
  refine Run.loop (fun m st => ∃ (i : Nat), m = q.length - i ∧ i ≤ q.length ∧ st = ⟨[(3, .map 0 0), (7, .im (.sl (strs q))), (8, .i q.length), (9, .i (i : Nat))], [.map (ents (q.take i))], up⟩) q.length ⟨0, rfl, by omega, rfl⟩ fun m st hI => ?_
  obtain ⟨i, rfl, hi, rfl⟩ := hI
  refine Run.seq ?_
  have fx := And.intro strs_len ft
  refine Run.go ?_
  refine End.kp [3, 7, 8, 9, 10] ?_
  refine Run.seq ?_
  refine Run.cond _ rfl (fun hb => ?_) (fun hb => ?_)
  · have hb := of_decide_eq_true hb
    have hin : i < q.length := by omega
    have wi := wsucc hin (by omega)
    have hg := strs_get q i hin
    have hno := nodup_take hd i hin
    have hnm := hv _ (getD_mem hin)
    have htk := take_snoc q i ByteArray.empty hin
    generalize q.getD i ByteArray.empty = s at hg hno hnm htk
    have hf1 := find_none s (q.take i) 0 hno
    have hf2 := find_last s (.int .i64 1) (q.take i) 0 hno
    have w1 : IntKind.i64.wrap (0 + 1) = 1 := by decide
    refine Run.skip ?_
    refine End.kp [3, 7, 8, 9] ?_
    refine Run.seq ?_
    refine Run.block ?_
    refine Run.seq ?_
    have fx := And.intro (@Int.toNat_natCast) (And.intro (@Int.natCast_nonneg) (And.intro w1 (And.intro hf2 (And.intro hf1 (And.intro hg (And.intro wi (And.intro strs_len ft)))))))
    refine Run.go ?_
    refine End.kp [3, 5, 7, 8, 9] ?_
    refine Run.seq ?_
    refine Run.seq ?_
    refine Run.region rfl fun K hK => GOps.sim ?_
    refine GOps.call rfl rfl rfl rfl (by kernel_rfl) (ACalls.sim ?_)
    refine (Name_ok s hnm _).mono fun v u hv => ?_
    obtain ⟨rfl, rfl⟩ := hv
    refine ⟨_, _, rfl, GOps.sim ?_⟩
    refine GOps.done (hK _ ?_); clear hK K
    refine End.kp [3, 5, 7, 8, 9, 15] ?_
    refine Run.cond _ rfl (fun hb => ?_) (fun hb => ?_)
    · have hb := hb
      simp at hb
    · have hb := hb
      refine Run.skip ?_
      refine End.kp [3, 5, 7, 8, 9] ?_
      refine Run.seq ?_
      have fx := And.intro (@Int.toNat_natCast) (And.intro (@Int.natCast_nonneg) (And.intro w1 (And.intro hf2 (And.intro hf1 (And.intro hg (And.intro wi (And.intro strs_len ft)))))))
      refine Run.go ?_
      refine End.kp [3, 5, 7, 8, 9] ?_
      refine Run.seq ?_
      refine Run.go ?_
      refine End.kp [3, 7, 8, 9, 23] ?_
      refine Run.cond _ rfl (fun hb => ?_) (fun hb => ?_)
      · have hb := hb
        simp at hb
      · have hb := hb
        refine Run.skip ?_
        refine End.blk ?_
        refine End.kp [3, 7, 8, 9] ?_
        have fx := And.intro (@Int.toNat_natCast) (And.intro (@Int.natCast_nonneg) (And.intro w1 (And.intro hf2 (And.intro hf1 (And.intro hg (And.intro wi (And.intro strs_len ft)))))))
        refine Run.go ?_
        refine End.lp ?_
        refine ⟨q.length - (i + 1), _, by omega, Ghost.form [(3, .map 0 0), (7, .im (.sl (strs q))), (8, .i q.length), (9, .i (i + 1 : Nat))] 1 ⟨rfl, rfl, rfl, rfl, trivial⟩ rfl rfl, i + 1, rfl, by omega, ?_⟩
        rw [htk]
        simp [ents]
  · have hb := of_decide_eq_false hb
    refine Run.exit rfl ?_
    refine End.kp [] ?_
    refine Run.seq ?_
    have fx := And.intro strs_len ft
    refine Run.go ?_
    refine End.kp [2] ?_
    refine Run.ret (hQ _ _ ⟨.inr rfl, _, rfl, _, rfl, ?_⟩)
    exact ⟨rfl, rfl⟩
end Go.Proofs.YtdgpmopcmacicaaDoorPi

/- The walks of ends and of clones that go over to the caller. -/
set_option linter.unusedVariables false
set_option linter.unusedSimpArgs false
set_option maxRecDepth 100000
namespace Go.Proofs.YtdgpmopcmacicaaDoorPi
theorem CloneX_nil (f : List AObj) (rest : Frs) : ACalls Tryd.prog 28 [.im (.sl (strs []))] (f :: rest) fun v u => v = .ms 0 (f.length + 0) 0 ∧ u = (f ++ [.row 9 1 (strs []) 0]) :: rest := by
  refine ACalls.codeX Tryd.func28 rfl 8 rfl (by simp) [.tmp 2] rfl fun Q hQ => ?_
  simp only [ups, PV.up, argEnv]
  have ft := And.intro ty_4 (And.intro ty_9 (And.intro ty_26 trivial))
  refine Run.seq ?_
  have fx := And.intro (@List.map_nil.{0, 0}) ft
  refine Run.go ?_
  refine End.kp [0] ?_
  refine Run.seq ?_
  refine Run.seq ?_
  refine Run.go ?_
  refine End.kp [0, 4] ?_
  refine Run.cond_any rfl ?_ ?_
  · skip
    refine Run.seq ?_
    have fx := And.intro (@List.map_nil.{0, 0}) ft
    refine Run.go ?_
    refine End.move (Ghost.thaw (u := 2) 9 1 (by decide) rfl) ?_
    refine End.kp [2] ?_
    refine Run.ret (hQ _ _ ⟨.inr rfl, _, rfl, _, _, rfl, ?_⟩)
    exact ⟨rfl, rfl⟩
  · skip
    refine Run.skip ?_
    refine End.kp [0] ?_
    refine Run.seq ?_
    have fx := And.intro (@List.map_nil.{0, 0}) ft
    refine Run.go ?_
    refine End.kp [2] ?_
    refine Run.ret (hQ _ _ ⟨.inr rfl, _, rfl, _, _, rfl, ?_⟩)
    exact ⟨rfl, rfl⟩
theorem CloneX_cons (x : ByteArray) (xs : List ByteArray) (h : xs.length ≤ 1000000) (f : List AObj) (rest : Frs) : ACalls Tryd.prog 28 [.im (.sl (strs (x :: xs)))] (f :: rest) fun v u => v = .ms 0 (f.length + 0) (x :: xs).length ∧ u = (f ++ [.row 9 1 (strs (x :: xs)) 0]) :: rest := by
  have hall : (strs xs).all (fun r => r.length == 1) = true := by simp
  have hlen : (xs.length + 1) * 16 ≤ 140737488355328 := by omega
  refine ACalls.codeX Tryd.func28 rfl 8 rfl (by simp) [.tmp 2] rfl fun Q hQ => ?_
  simp only [ups, PV.up, argEnv]
  have ft := And.intro ty_4 (And.intro ty_9 (And.intro ty_26 trivial))
  refine Run.seq ?_
  have fx := And.intro (@List.length_map.{0, 0}) (And.intro hlen (And.intro hall (And.intro (@List.map_cons.{0, 0}) ft)))
  refine Run.go ?_
  refine End.kp [0] ?_
  refine Run.seq ?_
  refine Run.seq ?_
  refine Run.go ?_
  refine End.kp [0, 4] ?_
  refine Run.cond _ rfl (fun hb => ?_) (fun hb => ?_)
  · have hb := hb
    simp at hb
  · have hb := hb
    refine Run.skip ?_
    refine End.kp [0] ?_
    refine Run.seq ?_
    have fx := And.intro (@List.length_map.{0, 0}) (And.intro hlen (And.intro hall (And.intro (@List.map_cons.{0, 0}) ft)))
    refine Run.go ?_
    refine End.kp [2] ?_
    refine Run.ret (hQ _ _ ⟨.inr rfl, _, rfl, _, _, rfl, ?_⟩)
    exact ⟨rfl, rfl⟩
theorem CloneX_ok (q : List ByteArray) (h : q.length ≤ 1000000) (f : List AObj) (rest : Frs) : ACalls Tryd.prog 28 [.im (.sl (strs q))] (f :: rest) fun v u => v = .ms 0 (f.length + 0) q.length ∧ u = (f ++ [.row 9 1 (strs q) 0]) :: rest := by
  cases q with
  | nil => exact CloneX_nil f rest
  | cons x xs => exact CloneX_cons x xs (by simp at h; omega) f rest
abbrev lanes0 (l : List Bool) : List Int := l.map fun b => if b = true then 1 else 0
theorem int_at (l : List Int) (i : Nat) (h : i < l.length) : ∃ x, l[i]? = some x ∧ x ∈ l ∧ (ints l)[i]? = some [.int .i64 x] :=
  ⟨l[i], by simp [h], List.getElem_mem h, by simp [h]⟩
-- GONE ends_ok
end Go.Proofs.YtdgpmopcmacicaaDoorPi

