/- Part 1 of the proof: the texts PiTy, WA, WB, WC, WD, WE, WM, WN, WF, WG, WH, one behind the other. Each holds for every input that it names; no condition is hidden. -/
import Derived.Test.YtdgpmopcmacicaaPiMerge
import Derived.Test.YtdgpmopcmacicaaProg
import Derived.KernelRfl
import Derived.Test.YtdgpmopcmacicaaPiGo
/- What the abstract program logic asks of this seat's types, found by looking. -/
set_option linter.unusedVariables false
namespace Go.Proofs.YtdgpmopcmacicaaPi

theorem ty_2 : sizeT Try.prog 2 = some 1 ∧ bytesT Try.prog 2 = some 8 ∧ aggT Try.prog 2 = some false ∧ elemT Try.prog 2 = none ∧ arrT Try.prog 2 = none ∧ intT Try.prog 2 = some .i64 ∧ boolT Try.prog 2 = false ∧ stringT Try.prog 2 = false ∧ sliceT Try.prog 2 = false ∧ Program.underlying Try.prog 2 = some (.int .i64) ∧ zeroT Try.prog 2 = some [.im (.int .i64 0)] ∧ zeroImT Try.prog 2 = some [(.int .i64 0)] ∧ u8T Try.prog 2 = false ∧ zeroOne Try.prog 2 = some (.int .i64 0) ∧ placesT Try.prog 2 = none := ⟨by kernel_rfl, by kernel_rfl, by kernel_rfl, by kernel_rfl, by kernel_rfl, by kernel_rfl, by kernel_rfl, by kernel_rfl, by kernel_rfl, by kernel_rfl, by kernel_rfl, by kernel_rfl, by kernel_rfl, by kernel_rfl, by kernel_rfl⟩
theorem ty_3 : sizeT Try.prog 3 = some 1 ∧ bytesT Try.prog 3 = some 8 ∧ aggT Try.prog 3 = some false ∧ elemT Try.prog 3 = none ∧ arrT Try.prog 3 = none ∧ intT Try.prog 3 = some .i64 ∧ boolT Try.prog 3 = false ∧ stringT Try.prog 3 = false ∧ sliceT Try.prog 3 = false ∧ Program.underlying Try.prog 3 = some (.int .i64) ∧ zeroT Try.prog 3 = some [.im (.int .i64 0)] ∧ zeroImT Try.prog 3 = some [(.int .i64 0)] ∧ u8T Try.prog 3 = false ∧ zeroOne Try.prog 3 = some (.int .i64 0) ∧ placesT Try.prog 3 = none := ⟨by kernel_rfl, by kernel_rfl, by kernel_rfl, by kernel_rfl, by kernel_rfl, by kernel_rfl, by kernel_rfl, by kernel_rfl, by kernel_rfl, by kernel_rfl, by kernel_rfl, by kernel_rfl, by kernel_rfl, by kernel_rfl, by kernel_rfl⟩
theorem ty_4 : sizeT Try.prog 4 = some 1 ∧ bytesT Try.prog 4 = some 1 ∧ aggT Try.prog 4 = some false ∧ elemT Try.prog 4 = none ∧ arrT Try.prog 4 = none ∧ intT Try.prog 4 = none ∧ boolT Try.prog 4 = true ∧ stringT Try.prog 4 = false ∧ sliceT Try.prog 4 = false ∧ zeroT Try.prog 4 = some [.im (.bool false)] ∧ zeroImT Try.prog 4 = some [(.bool false)] ∧ u8T Try.prog 4 = false ∧ zeroOne Try.prog 4 = some (.bool false) ∧ placesT Try.prog 4 = none := ⟨by kernel_rfl, by kernel_rfl, by kernel_rfl, by kernel_rfl, by kernel_rfl, by kernel_rfl, by kernel_rfl, by kernel_rfl, by kernel_rfl, by kernel_rfl, by kernel_rfl, by kernel_rfl, by kernel_rfl, by kernel_rfl⟩
theorem ty_5 : sizeT Try.prog 5 = some 1 ∧ bytesT Try.prog 5 = some 1 ∧ aggT Try.prog 5 = some false ∧ elemT Try.prog 5 = none ∧ arrT Try.prog 5 = none ∧ intT Try.prog 5 = some .u8 ∧ boolT Try.prog 5 = false ∧ stringT Try.prog 5 = false ∧ sliceT Try.prog 5 = false ∧ Program.underlying Try.prog 5 = some (.int .u8) ∧ zeroT Try.prog 5 = some [.im (.int .u8 0)] ∧ zeroImT Try.prog 5 = some [(.int .u8 0)] ∧ u8T Try.prog 5 = false ∧ zeroOne Try.prog 5 = some (.int .u8 0) ∧ placesT Try.prog 5 = none := ⟨by kernel_rfl, by kernel_rfl, by kernel_rfl, by kernel_rfl, by kernel_rfl, by kernel_rfl, by kernel_rfl, by kernel_rfl, by kernel_rfl, by kernel_rfl, by kernel_rfl, by kernel_rfl, by kernel_rfl, by kernel_rfl, by kernel_rfl⟩
theorem ty_9 : sizeT Try.prog 9 = some 1 ∧ bytesT Try.prog 9 = some 16 ∧ aggT Try.prog 9 = some false ∧ elemT Try.prog 9 = none ∧ arrT Try.prog 9 = none ∧ intT Try.prog 9 = none ∧ boolT Try.prog 9 = false ∧ stringT Try.prog 9 = true ∧ sliceT Try.prog 9 = false ∧ Program.underlying Try.prog 9 = some .string ∧ zeroT Try.prog 9 = some [.im (.str ByteArray.empty)] ∧ zeroImT Try.prog 9 = some [(.str ByteArray.empty)] ∧ u8T Try.prog 9 = false ∧ zeroOne Try.prog 9 = some (.str ByteArray.empty) ∧ placesT Try.prog 9 = none := ⟨by kernel_rfl, by kernel_rfl, by kernel_rfl, by kernel_rfl, by kernel_rfl, by kernel_rfl, by kernel_rfl, by kernel_rfl, by kernel_rfl, by kernel_rfl, by kernel_rfl, by kernel_rfl, by kernel_rfl, by kernel_rfl, by kernel_rfl⟩
theorem ty_22 : sizeT Try.prog 22 = some 1 ∧ bytesT Try.prog 22 = some 24 ∧ aggT Try.prog 22 = some false ∧ elemT Try.prog 22 = some 3 ∧ arrT Try.prog 22 = none ∧ intT Try.prog 22 = none ∧ boolT Try.prog 22 = false ∧ stringT Try.prog 22 = false ∧ sliceT Try.prog 22 = true ∧ zeroT Try.prog 22 = some [.nils] ∧ zeroImT Try.prog 22 = some [(.sl [])] ∧ u8T Try.prog 22 = false ∧ zeroOne Try.prog 22 = some (.sl []) ∧ placesT Try.prog 22 = none := ⟨by kernel_rfl, by kernel_rfl, by kernel_rfl, by kernel_rfl, by kernel_rfl, by kernel_rfl, by kernel_rfl, by kernel_rfl, by kernel_rfl, by kernel_rfl, by kernel_rfl, by kernel_rfl, by kernel_rfl, by kernel_rfl⟩
theorem ty_23 : sizeT Try.prog 23 = some 1 ∧ bytesT Try.prog 23 = some 8 ∧ aggT Try.prog 23 = some false ∧ elemT Try.prog 23 = none ∧ arrT Try.prog 23 = none ∧ intT Try.prog 23 = none ∧ boolT Try.prog 23 = false ∧ stringT Try.prog 23 = false ∧ sliceT Try.prog 23 = false ∧ ptrT Try.prog 23 = true ∧ zeroT Try.prog 23 = some [.nilp] ∧ u8T Try.prog 23 = false ∧ placesT Try.prog 23 = none := ⟨by kernel_rfl, by kernel_rfl, by kernel_rfl, by kernel_rfl, by kernel_rfl, by kernel_rfl, by kernel_rfl, by kernel_rfl, by kernel_rfl, by kernel_rfl, by kernel_rfl, by kernel_rfl, by kernel_rfl⟩
theorem ty_25 : sizeT Try.prog 25 = some 2 ∧ bytesT Try.prog 25 = some 32 ∧ aggT Try.prog 25 = some true ∧ elemT Try.prog 25 = none ∧ arrT Try.prog 25 = none ∧ intT Try.prog 25 = none ∧ boolT Try.prog 25 = false ∧ stringT Try.prog 25 = false ∧ sliceT Try.prog 25 = false ∧ zeroT Try.prog 25 = some [.nils, .im (.int .i64 0)] ∧ zeroImT Try.prog 25 = some [(.sl []), (.int .i64 0)] ∧ u8T Try.prog 25 = false ∧ placesT Try.prog 25 = some [(0, 1), (1, 1)] ∧ fieldT Try.prog 25 0 = some (0, 1) ∧ fieldT Try.prog 25 1 = some (1, 1) := ⟨by kernel_rfl, by kernel_rfl, by kernel_rfl, by kernel_rfl, by kernel_rfl, by kernel_rfl, by kernel_rfl, by kernel_rfl, by kernel_rfl, by kernel_rfl, by kernel_rfl, by kernel_rfl, by kernel_rfl, by kernel_rfl, by kernel_rfl⟩
theorem ty_27 : sizeT Try.prog 27 = some 1 ∧ bytesT Try.prog 27 = some 24 ∧ aggT Try.prog 27 = some false ∧ elemT Try.prog 27 = some 9 ∧ arrT Try.prog 27 = none ∧ intT Try.prog 27 = none ∧ boolT Try.prog 27 = false ∧ stringT Try.prog 27 = false ∧ sliceT Try.prog 27 = true ∧ zeroT Try.prog 27 = some [.nils] ∧ zeroImT Try.prog 27 = some [(.sl [])] ∧ u8T Try.prog 27 = false ∧ zeroOne Try.prog 27 = some (.sl []) ∧ placesT Try.prog 27 = none := ⟨by kernel_rfl, by kernel_rfl, by kernel_rfl, by kernel_rfl, by kernel_rfl, by kernel_rfl, by kernel_rfl, by kernel_rfl, by kernel_rfl, by kernel_rfl, by kernel_rfl, by kernel_rfl, by kernel_rfl, by kernel_rfl⟩
theorem ty_29 : sizeT Try.prog 29 = some 1 ∧ bytesT Try.prog 29 = some 24 ∧ aggT Try.prog 29 = some false ∧ elemT Try.prog 29 = some 47 ∧ arrT Try.prog 29 = none ∧ intT Try.prog 29 = none ∧ boolT Try.prog 29 = false ∧ stringT Try.prog 29 = false ∧ sliceT Try.prog 29 = true ∧ zeroT Try.prog 29 = some [.nils] ∧ zeroImT Try.prog 29 = some [(.sl [])] ∧ u8T Try.prog 29 = false ∧ zeroOne Try.prog 29 = some (.sl []) ∧ placesT Try.prog 29 = none := ⟨by kernel_rfl, by kernel_rfl, by kernel_rfl, by kernel_rfl, by kernel_rfl, by kernel_rfl, by kernel_rfl, by kernel_rfl, by kernel_rfl, by kernel_rfl, by kernel_rfl, by kernel_rfl, by kernel_rfl, by kernel_rfl⟩
theorem ty_30 : sizeT Try.prog 30 = some 1 ∧ bytesT Try.prog 30 = some 24 ∧ aggT Try.prog 30 = some false ∧ elemT Try.prog 30 = some 37 ∧ arrT Try.prog 30 = none ∧ intT Try.prog 30 = none ∧ boolT Try.prog 30 = false ∧ stringT Try.prog 30 = false ∧ sliceT Try.prog 30 = true ∧ zeroT Try.prog 30 = some [.nils] ∧ zeroImT Try.prog 30 = some [(.sl [])] ∧ u8T Try.prog 30 = false ∧ zeroOne Try.prog 30 = some (.sl []) ∧ placesT Try.prog 30 = none := ⟨by kernel_rfl, by kernel_rfl, by kernel_rfl, by kernel_rfl, by kernel_rfl, by kernel_rfl, by kernel_rfl, by kernel_rfl, by kernel_rfl, by kernel_rfl, by kernel_rfl, by kernel_rfl, by kernel_rfl, by kernel_rfl⟩
theorem ty_31 : sizeT Try.prog 31 = some 1 ∧ bytesT Try.prog 31 = some 24 ∧ aggT Try.prog 31 = some false ∧ elemT Try.prog 31 = some 34 ∧ arrT Try.prog 31 = none ∧ intT Try.prog 31 = none ∧ boolT Try.prog 31 = false ∧ stringT Try.prog 31 = false ∧ sliceT Try.prog 31 = true ∧ zeroT Try.prog 31 = some [.nils] ∧ zeroImT Try.prog 31 = some [(.sl [])] ∧ u8T Try.prog 31 = false ∧ zeroOne Try.prog 31 = some (.sl []) ∧ placesT Try.prog 31 = none := ⟨by kernel_rfl, by kernel_rfl, by kernel_rfl, by kernel_rfl, by kernel_rfl, by kernel_rfl, by kernel_rfl, by kernel_rfl, by kernel_rfl, by kernel_rfl, by kernel_rfl, by kernel_rfl, by kernel_rfl, by kernel_rfl⟩
theorem ty_33 : sizeT Try.prog 33 = some 5 ∧ bytesT Try.prog 33 = some 120 ∧ aggT Try.prog 33 = some true ∧ elemT Try.prog 33 = none ∧ arrT Try.prog 33 = none ∧ intT Try.prog 33 = none ∧ boolT Try.prog 33 = false ∧ stringT Try.prog 33 = false ∧ sliceT Try.prog 33 = false ∧ zeroT Try.prog 33 = some [.nils, .nils, .nils, .nils, .nils] ∧ zeroImT Try.prog 33 = some [(.sl []), (.sl []), (.sl []), (.sl []), (.sl [])] ∧ u8T Try.prog 33 = false ∧ placesT Try.prog 33 = some [(0, 1), (1, 1), (2, 1), (3, 1), (4, 1)] ∧ fieldT Try.prog 33 0 = some (0, 1) ∧ fieldT Try.prog 33 1 = some (1, 1) ∧ fieldT Try.prog 33 2 = some (2, 1) ∧ fieldT Try.prog 33 3 = some (3, 1) ∧ fieldT Try.prog 33 4 = some (4, 1) := ⟨by kernel_rfl, by kernel_rfl, by kernel_rfl, by kernel_rfl, by kernel_rfl, by kernel_rfl, by kernel_rfl, by kernel_rfl, by kernel_rfl, by kernel_rfl, by kernel_rfl, by kernel_rfl, by kernel_rfl, by kernel_rfl, by kernel_rfl, by kernel_rfl, by kernel_rfl, by kernel_rfl⟩
theorem ty_34 : sizeT Try.prog 34 = some 1 ∧ bytesT Try.prog 34 = some 8 ∧ aggT Try.prog 34 = some false ∧ elemT Try.prog 34 = none ∧ arrT Try.prog 34 = none ∧ intT Try.prog 34 = some .i64 ∧ boolT Try.prog 34 = false ∧ stringT Try.prog 34 = false ∧ sliceT Try.prog 34 = false ∧ Program.underlying Try.prog 34 = some (.int .i64) ∧ zeroT Try.prog 34 = some [.im (.int .i64 0)] ∧ zeroImT Try.prog 34 = some [(.int .i64 0)] ∧ u8T Try.prog 34 = false ∧ zeroOne Try.prog 34 = some (.int .i64 0) ∧ placesT Try.prog 34 = none := ⟨by kernel_rfl, by kernel_rfl, by kernel_rfl, by kernel_rfl, by kernel_rfl, by kernel_rfl, by kernel_rfl, by kernel_rfl, by kernel_rfl, by kernel_rfl, by kernel_rfl, by kernel_rfl, by kernel_rfl, by kernel_rfl, by kernel_rfl⟩
theorem ty_37 : sizeT Try.prog 37 = some 2 ∧ bytesT Try.prog 37 = some 16 ∧ aggT Try.prog 37 = some true ∧ elemT Try.prog 37 = none ∧ arrT Try.prog 37 = none ∧ intT Try.prog 37 = none ∧ boolT Try.prog 37 = false ∧ stringT Try.prog 37 = false ∧ sliceT Try.prog 37 = false ∧ zeroT Try.prog 37 = some [.im (.int .i64 0), .im (.int .i64 0)] ∧ zeroImT Try.prog 37 = some [(.int .i64 0), (.int .i64 0)] ∧ u8T Try.prog 37 = false ∧ eqsT Try.prog 37 = some [34, 34] ∧ placesT Try.prog 37 = some [(0, 1), (1, 1)] ∧ fieldT Try.prog 37 0 = some (0, 1) ∧ fieldT Try.prog 37 1 = some (1, 1) := ⟨by kernel_rfl, by kernel_rfl, by kernel_rfl, by kernel_rfl, by kernel_rfl, by kernel_rfl, by kernel_rfl, by kernel_rfl, by kernel_rfl, by kernel_rfl, by kernel_rfl, by kernel_rfl, by kernel_rfl, by kernel_rfl, by kernel_rfl, by kernel_rfl⟩
theorem ty_39 : sizeT Try.prog 39 = some 1 ∧ bytesT Try.prog 39 = some 8 ∧ aggT Try.prog 39 = some false ∧ elemT Try.prog 39 = none ∧ arrT Try.prog 39 = none ∧ intT Try.prog 39 = some .i64 ∧ boolT Try.prog 39 = false ∧ stringT Try.prog 39 = false ∧ sliceT Try.prog 39 = false ∧ Program.underlying Try.prog 39 = some (.int .i64) ∧ zeroT Try.prog 39 = some [.im (.int .i64 0)] ∧ zeroImT Try.prog 39 = some [(.int .i64 0)] ∧ u8T Try.prog 39 = false ∧ zeroOne Try.prog 39 = some (.int .i64 0) ∧ placesT Try.prog 39 = none := ⟨by kernel_rfl, by kernel_rfl, by kernel_rfl, by kernel_rfl, by kernel_rfl, by kernel_rfl, by kernel_rfl, by kernel_rfl, by kernel_rfl, by kernel_rfl, by kernel_rfl, by kernel_rfl, by kernel_rfl, by kernel_rfl, by kernel_rfl⟩
theorem ty_47 : sizeT Try.prog 47 = some 3 ∧ bytesT Try.prog 47 = some 32 ∧ aggT Try.prog 47 = some true ∧ elemT Try.prog 47 = none ∧ arrT Try.prog 47 = none ∧ intT Try.prog 47 = none ∧ boolT Try.prog 47 = false ∧ stringT Try.prog 47 = false ∧ sliceT Try.prog 47 = false ∧ zeroT Try.prog 47 = some [.im (.str ByteArray.empty), .im (.int .i64 0), .im (.bool false)] ∧ zeroImT Try.prog 47 = some [(.str ByteArray.empty), (.int .i64 0), (.bool false)] ∧ u8T Try.prog 47 = false ∧ eqsT Try.prog 47 = some [9, 34, 4] ∧ placesT Try.prog 47 = some [(0, 1), (1, 1), (2, 1)] ∧ fieldT Try.prog 47 0 = some (0, 1) ∧ fieldT Try.prog 47 1 = some (1, 1) ∧ fieldT Try.prog 47 2 = some (2, 1) := ⟨by kernel_rfl, by kernel_rfl, by kernel_rfl, by kernel_rfl, by kernel_rfl, by kernel_rfl, by kernel_rfl, by kernel_rfl, by kernel_rfl, by kernel_rfl, by kernel_rfl, by kernel_rfl, by kernel_rfl, by kernel_rfl, by kernel_rfl, by kernel_rfl, by kernel_rfl⟩
theorem ty_48 : sizeT Try.prog 48 = some 1 ∧ bytesT Try.prog 48 = some 8 ∧ aggT Try.prog 48 = some false ∧ elemT Try.prog 48 = none ∧ arrT Try.prog 48 = none ∧ intT Try.prog 48 = none ∧ boolT Try.prog 48 = false ∧ stringT Try.prog 48 = false ∧ sliceT Try.prog 48 = false ∧ ptrT Try.prog 48 = true ∧ zeroT Try.prog 48 = some [.nilp] ∧ u8T Try.prog 48 = false ∧ placesT Try.prog 48 = none := ⟨by kernel_rfl, by kernel_rfl, by kernel_rfl, by kernel_rfl, by kernel_rfl, by kernel_rfl, by kernel_rfl, by kernel_rfl, by kernel_rfl, by kernel_rfl, by kernel_rfl, by kernel_rfl, by kernel_rfl⟩
theorem ty_54 : sizeT Try.prog 54 = some 1 ∧ bytesT Try.prog 54 = some 24 ∧ aggT Try.prog 54 = some false ∧ elemT Try.prog 54 = some 69 ∧ arrT Try.prog 54 = none ∧ intT Try.prog 54 = none ∧ boolT Try.prog 54 = false ∧ stringT Try.prog 54 = false ∧ sliceT Try.prog 54 = true ∧ zeroT Try.prog 54 = some [.nils] ∧ zeroImT Try.prog 54 = some [(.sl [])] ∧ u8T Try.prog 54 = false ∧ zeroOne Try.prog 54 = some (.sl []) ∧ placesT Try.prog 54 = none := ⟨by kernel_rfl, by kernel_rfl, by kernel_rfl, by kernel_rfl, by kernel_rfl, by kernel_rfl, by kernel_rfl, by kernel_rfl, by kernel_rfl, by kernel_rfl, by kernel_rfl, by kernel_rfl, by kernel_rfl, by kernel_rfl⟩
theorem ty_57 : sizeT Try.prog 57 = some 1 ∧ bytesT Try.prog 57 = some 24 ∧ aggT Try.prog 57 = some false ∧ elemT Try.prog 57 = some 197 ∧ arrT Try.prog 57 = none ∧ intT Try.prog 57 = none ∧ boolT Try.prog 57 = false ∧ stringT Try.prog 57 = false ∧ sliceT Try.prog 57 = true ∧ zeroT Try.prog 57 = some [.nils] ∧ zeroImT Try.prog 57 = some [(.sl [])] ∧ u8T Try.prog 57 = false ∧ zeroOne Try.prog 57 = some (.sl []) ∧ placesT Try.prog 57 = none := ⟨by kernel_rfl, by kernel_rfl, by kernel_rfl, by kernel_rfl, by kernel_rfl, by kernel_rfl, by kernel_rfl, by kernel_rfl, by kernel_rfl, by kernel_rfl, by kernel_rfl, by kernel_rfl, by kernel_rfl, by kernel_rfl⟩
theorem ty_58 : sizeT Try.prog 58 = some 1 ∧ bytesT Try.prog 58 = some 24 ∧ aggT Try.prog 58 = some false ∧ elemT Try.prog 58 = some 200 ∧ arrT Try.prog 58 = none ∧ intT Try.prog 58 = none ∧ boolT Try.prog 58 = false ∧ stringT Try.prog 58 = false ∧ sliceT Try.prog 58 = true ∧ zeroT Try.prog 58 = some [.nils] ∧ zeroImT Try.prog 58 = some [(.sl [])] ∧ u8T Try.prog 58 = false ∧ zeroOne Try.prog 58 = some (.sl []) ∧ placesT Try.prog 58 = none := ⟨by kernel_rfl, by kernel_rfl, by kernel_rfl, by kernel_rfl, by kernel_rfl, by kernel_rfl, by kernel_rfl, by kernel_rfl, by kernel_rfl, by kernel_rfl, by kernel_rfl, by kernel_rfl, by kernel_rfl, by kernel_rfl⟩
theorem ty_60 : sizeT Try.prog 60 = some 5 ∧ bytesT Try.prog 60 = some 120 ∧ aggT Try.prog 60 = some true ∧ elemT Try.prog 60 = none ∧ arrT Try.prog 60 = none ∧ intT Try.prog 60 = none ∧ boolT Try.prog 60 = false ∧ stringT Try.prog 60 = false ∧ sliceT Try.prog 60 = false ∧ zeroT Try.prog 60 = some [.nils, .nils, .nils, .nils, .nils] ∧ zeroImT Try.prog 60 = some [(.sl []), (.sl []), (.sl []), (.sl []), (.sl [])] ∧ u8T Try.prog 60 = false ∧ placesT Try.prog 60 = some [(0, 1), (1, 1), (2, 1), (3, 1), (4, 1)] ∧ fieldT Try.prog 60 0 = some (0, 1) ∧ fieldT Try.prog 60 1 = some (1, 1) ∧ fieldT Try.prog 60 2 = some (2, 1) ∧ fieldT Try.prog 60 3 = some (3, 1) ∧ fieldT Try.prog 60 4 = some (4, 1) := ⟨by kernel_rfl, by kernel_rfl, by kernel_rfl, by kernel_rfl, by kernel_rfl, by kernel_rfl, by kernel_rfl, by kernel_rfl, by kernel_rfl, by kernel_rfl, by kernel_rfl, by kernel_rfl, by kernel_rfl, by kernel_rfl, by kernel_rfl, by kernel_rfl, by kernel_rfl, by kernel_rfl⟩
theorem ty_63 : sizeT Try.prog 63 = some 1 ∧ bytesT Try.prog 63 = some 24 ∧ aggT Try.prog 63 = some false ∧ elemT Try.prog 63 = some 71 ∧ arrT Try.prog 63 = none ∧ intT Try.prog 63 = none ∧ boolT Try.prog 63 = false ∧ stringT Try.prog 63 = false ∧ sliceT Try.prog 63 = true ∧ zeroT Try.prog 63 = some [.nils] ∧ zeroImT Try.prog 63 = some [(.sl [])] ∧ u8T Try.prog 63 = false ∧ zeroOne Try.prog 63 = some (.sl []) ∧ placesT Try.prog 63 = none := ⟨by kernel_rfl, by kernel_rfl, by kernel_rfl, by kernel_rfl, by kernel_rfl, by kernel_rfl, by kernel_rfl, by kernel_rfl, by kernel_rfl, by kernel_rfl, by kernel_rfl, by kernel_rfl, by kernel_rfl, by kernel_rfl⟩
theorem ty_69 : sizeT Try.prog 69 = some 2 ∧ bytesT Try.prog 69 = some 16 ∧ aggT Try.prog 69 = some true ∧ elemT Try.prog 69 = none ∧ arrT Try.prog 69 = none ∧ intT Try.prog 69 = none ∧ boolT Try.prog 69 = false ∧ stringT Try.prog 69 = false ∧ sliceT Try.prog 69 = false ∧ zeroT Try.prog 69 = some [.im (.int .i64 0), .im (.int .i64 0)] ∧ zeroImT Try.prog 69 = some [(.int .i64 0), (.int .i64 0)] ∧ u8T Try.prog 69 = false ∧ eqsT Try.prog 69 = some [34, 34] ∧ placesT Try.prog 69 = some [(0, 1), (1, 1)] ∧ fieldT Try.prog 69 0 = some (0, 1) ∧ fieldT Try.prog 69 1 = some (1, 1) := ⟨by kernel_rfl, by kernel_rfl, by kernel_rfl, by kernel_rfl, by kernel_rfl, by kernel_rfl, by kernel_rfl, by kernel_rfl, by kernel_rfl, by kernel_rfl, by kernel_rfl, by kernel_rfl, by kernel_rfl, by kernel_rfl, by kernel_rfl, by kernel_rfl⟩
theorem ty_71 : sizeT Try.prog 71 = some 1 ∧ bytesT Try.prog 71 = some 24 ∧ aggT Try.prog 71 = some false ∧ elemT Try.prog 71 = some 4 ∧ arrT Try.prog 71 = none ∧ intT Try.prog 71 = none ∧ boolT Try.prog 71 = false ∧ stringT Try.prog 71 = false ∧ sliceT Try.prog 71 = true ∧ zeroT Try.prog 71 = some [.nils] ∧ zeroImT Try.prog 71 = some [(.sl [])] ∧ u8T Try.prog 71 = false ∧ zeroOne Try.prog 71 = some (.sl []) ∧ placesT Try.prog 71 = none := ⟨by kernel_rfl, by kernel_rfl, by kernel_rfl, by kernel_rfl, by kernel_rfl, by kernel_rfl, by kernel_rfl, by kernel_rfl, by kernel_rfl, by kernel_rfl, by kernel_rfl, by kernel_rfl, by kernel_rfl, by kernel_rfl⟩
theorem ty_98 : sizeT Try.prog 98 = some 1 ∧ bytesT Try.prog 98 = some 24 ∧ aggT Try.prog 98 = some false ∧ elemT Try.prog 98 = some 171 ∧ arrT Try.prog 98 = none ∧ intT Try.prog 98 = none ∧ boolT Try.prog 98 = false ∧ stringT Try.prog 98 = false ∧ sliceT Try.prog 98 = true ∧ zeroT Try.prog 98 = some [.nils] ∧ zeroImT Try.prog 98 = some [(.sl [])] ∧ u8T Try.prog 98 = false ∧ zeroOne Try.prog 98 = some (.sl []) ∧ placesT Try.prog 98 = none := ⟨by kernel_rfl, by kernel_rfl, by kernel_rfl, by kernel_rfl, by kernel_rfl, by kernel_rfl, by kernel_rfl, by kernel_rfl, by kernel_rfl, by kernel_rfl, by kernel_rfl, by kernel_rfl, by kernel_rfl, by kernel_rfl⟩
theorem ty_114 : sizeT Try.prog 114 = some 1 ∧ bytesT Try.prog 114 = some 24 ∧ aggT Try.prog 114 = some false ∧ elemT Try.prog 114 = some 5 ∧ arrT Try.prog 114 = none ∧ intT Try.prog 114 = none ∧ boolT Try.prog 114 = false ∧ stringT Try.prog 114 = false ∧ sliceT Try.prog 114 = true ∧ zeroT Try.prog 114 = some [.nils] ∧ zeroImT Try.prog 114 = some [(.sl [])] ∧ u8T Try.prog 114 = true ∧ zeroOne Try.prog 114 = some (.sl []) ∧ placesT Try.prog 114 = none := ⟨by kernel_rfl, by kernel_rfl, by kernel_rfl, by kernel_rfl, by kernel_rfl, by kernel_rfl, by kernel_rfl, by kernel_rfl, by kernel_rfl, by kernel_rfl, by kernel_rfl, by kernel_rfl, by kernel_rfl, by kernel_rfl⟩
theorem ty_119 : sizeT Try.prog 119 = some 1 ∧ bytesT Try.prog 119 = some 8 ∧ aggT Try.prog 119 = some false ∧ elemT Try.prog 119 = none ∧ arrT Try.prog 119 = none ∧ intT Try.prog 119 = none ∧ boolT Try.prog 119 = false ∧ stringT Try.prog 119 = false ∧ sliceT Try.prog 119 = false ∧ zeroT Try.prog 119 = some [.any] ∧ u8T Try.prog 119 = false ∧ mapT Try.prog 119 = some (37, 34) ∧ placesT Try.prog 119 = none := ⟨by kernel_rfl, by kernel_rfl, by kernel_rfl, by kernel_rfl, by kernel_rfl, by kernel_rfl, by kernel_rfl, by kernel_rfl, by kernel_rfl, by kernel_rfl, by kernel_rfl, by kernel_rfl, by kernel_rfl⟩
theorem ty_121 : sizeT Try.prog 121 = some 4 ∧ bytesT Try.prog 121 = some 64 ∧ aggT Try.prog 121 = some true ∧ elemT Try.prog 121 = none ∧ arrT Try.prog 121 = none ∧ intT Try.prog 121 = none ∧ boolT Try.prog 121 = false ∧ stringT Try.prog 121 = false ∧ sliceT Try.prog 121 = false ∧ zeroT Try.prog 121 = some [.im (.int .i64 0), .nils, .nils, .any] ∧ u8T Try.prog 121 = false ∧ placesT Try.prog 121 = some [(0, 1), (1, 1), (2, 1), (3, 1)] ∧ fieldT Try.prog 121 0 = some (0, 1) ∧ fieldT Try.prog 121 1 = some (1, 1) ∧ fieldT Try.prog 121 2 = some (2, 1) ∧ fieldT Try.prog 121 3 = some (3, 1) := ⟨by kernel_rfl, by kernel_rfl, by kernel_rfl, by kernel_rfl, by kernel_rfl, by kernel_rfl, by kernel_rfl, by kernel_rfl, by kernel_rfl, by kernel_rfl, by kernel_rfl, by kernel_rfl, by kernel_rfl, by kernel_rfl, by kernel_rfl, by kernel_rfl⟩
theorem ty_140 : sizeT Try.prog 140 = some 5 ∧ bytesT Try.prog 140 = some 88 ∧ aggT Try.prog 140 = some true ∧ elemT Try.prog 140 = none ∧ arrT Try.prog 140 = none ∧ intT Try.prog 140 = none ∧ boolT Try.prog 140 = false ∧ stringT Try.prog 140 = false ∧ sliceT Try.prog 140 = false ∧ zeroT Try.prog 140 = some [.nils, .nils, .nils, .any, .im (.int .i64 0)] ∧ u8T Try.prog 140 = false ∧ placesT Try.prog 140 = some [(0, 1), (1, 1), (2, 1), (3, 1), (4, 1)] ∧ fieldT Try.prog 140 0 = some (0, 1) ∧ fieldT Try.prog 140 1 = some (1, 1) ∧ fieldT Try.prog 140 2 = some (2, 1) ∧ fieldT Try.prog 140 3 = some (3, 1) ∧ fieldT Try.prog 140 4 = some (4, 1) := ⟨by kernel_rfl, by kernel_rfl, by kernel_rfl, by kernel_rfl, by kernel_rfl, by kernel_rfl, by kernel_rfl, by kernel_rfl, by kernel_rfl, by kernel_rfl, by kernel_rfl, by kernel_rfl, by kernel_rfl, by kernel_rfl, by kernel_rfl, by kernel_rfl, by kernel_rfl⟩
theorem ty_171 : sizeT Try.prog 171 = some 1 ∧ bytesT Try.prog 171 = some 8 ∧ aggT Try.prog 171 = some false ∧ elemT Try.prog 171 = none ∧ arrT Try.prog 171 = none ∧ intT Try.prog 171 = some .u64 ∧ boolT Try.prog 171 = false ∧ stringT Try.prog 171 = false ∧ sliceT Try.prog 171 = false ∧ Program.underlying Try.prog 171 = some (.int .u64) ∧ zeroT Try.prog 171 = some [.im (.int .u64 0)] ∧ zeroImT Try.prog 171 = some [(.int .u64 0)] ∧ u8T Try.prog 171 = false ∧ zeroOne Try.prog 171 = some (.int .u64 0) ∧ placesT Try.prog 171 = none := ⟨by kernel_rfl, by kernel_rfl, by kernel_rfl, by kernel_rfl, by kernel_rfl, by kernel_rfl, by kernel_rfl, by kernel_rfl, by kernel_rfl, by kernel_rfl, by kernel_rfl, by kernel_rfl, by kernel_rfl, by kernel_rfl, by kernel_rfl⟩
theorem ty_197 : sizeT Try.prog 197 = some 5 ∧ bytesT Try.prog 197 = some 48 ∧ aggT Try.prog 197 = some true ∧ elemT Try.prog 197 = none ∧ arrT Try.prog 197 = none ∧ intT Try.prog 197 = none ∧ boolT Try.prog 197 = false ∧ stringT Try.prog 197 = false ∧ sliceT Try.prog 197 = false ∧ zeroT Try.prog 197 = some [.im (.str ByteArray.empty), .im (.int .i64 0), .im (.int .i64 0), .im (.int .i64 0), .im (.bool false)] ∧ zeroImT Try.prog 197 = some [(.str ByteArray.empty), (.int .i64 0), (.int .i64 0), (.int .i64 0), (.bool false)] ∧ u8T Try.prog 197 = false ∧ eqsT Try.prog 197 = some [9, 3, 3, 3, 4] ∧ placesT Try.prog 197 = some [(0, 1), (1, 1), (2, 1), (3, 1), (4, 1)] ∧ fieldT Try.prog 197 0 = some (0, 1) ∧ fieldT Try.prog 197 1 = some (1, 1) ∧ fieldT Try.prog 197 2 = some (2, 1) ∧ fieldT Try.prog 197 3 = some (3, 1) ∧ fieldT Try.prog 197 4 = some (4, 1) := ⟨by kernel_rfl, by kernel_rfl, by kernel_rfl, by kernel_rfl, by kernel_rfl, by kernel_rfl, by kernel_rfl, by kernel_rfl, by kernel_rfl, by kernel_rfl, by kernel_rfl, by kernel_rfl, by kernel_rfl, by kernel_rfl, by kernel_rfl, by kernel_rfl, by kernel_rfl, by kernel_rfl, by kernel_rfl⟩
theorem ty_198 : sizeT Try.prog 198 = some 1 ∧ bytesT Try.prog 198 = some 8 ∧ aggT Try.prog 198 = some false ∧ elemT Try.prog 198 = none ∧ arrT Try.prog 198 = none ∧ intT Try.prog 198 = some .u64 ∧ boolT Try.prog 198 = false ∧ stringT Try.prog 198 = false ∧ sliceT Try.prog 198 = false ∧ Program.underlying Try.prog 198 = some (.int .u64) ∧ zeroT Try.prog 198 = some [.im (.int .u64 0)] ∧ zeroImT Try.prog 198 = some [(.int .u64 0)] ∧ u8T Try.prog 198 = false ∧ zeroOne Try.prog 198 = some (.int .u64 0) ∧ placesT Try.prog 198 = none := ⟨by kernel_rfl, by kernel_rfl, by kernel_rfl, by kernel_rfl, by kernel_rfl, by kernel_rfl, by kernel_rfl, by kernel_rfl, by kernel_rfl, by kernel_rfl, by kernel_rfl, by kernel_rfl, by kernel_rfl, by kernel_rfl, by kernel_rfl⟩
theorem ty_200 : sizeT Try.prog 200 = some 3 ∧ bytesT Try.prog 200 = some 40 ∧ aggT Try.prog 200 = some true ∧ elemT Try.prog 200 = none ∧ arrT Try.prog 200 = none ∧ intT Try.prog 200 = none ∧ boolT Try.prog 200 = false ∧ stringT Try.prog 200 = false ∧ sliceT Try.prog 200 = false ∧ zeroT Try.prog 200 = some [.im (.int .i64 0), .im (.int .u64 0), .nils] ∧ zeroImT Try.prog 200 = some [(.int .i64 0), (.int .u64 0), (.sl [])] ∧ u8T Try.prog 200 = false ∧ placesT Try.prog 200 = some [(0, 1), (1, 1), (2, 1)] ∧ fieldT Try.prog 200 0 = some (0, 1) ∧ fieldT Try.prog 200 1 = some (1, 1) ∧ fieldT Try.prog 200 2 = some (2, 1) := ⟨by kernel_rfl, by kernel_rfl, by kernel_rfl, by kernel_rfl, by kernel_rfl, by kernel_rfl, by kernel_rfl, by kernel_rfl, by kernel_rfl, by kernel_rfl, by kernel_rfl, by kernel_rfl, by kernel_rfl, by kernel_rfl, by kernel_rfl, by kernel_rfl⟩
theorem ty_201 : sizeT Try.prog 201 = some 1 ∧ bytesT Try.prog 201 = some 8 ∧ aggT Try.prog 201 = some false ∧ elemT Try.prog 201 = none ∧ arrT Try.prog 201 = none ∧ intT Try.prog 201 = none ∧ boolT Try.prog 201 = false ∧ stringT Try.prog 201 = false ∧ sliceT Try.prog 201 = false ∧ zeroT Try.prog 201 = some [.any] ∧ u8T Try.prog 201 = false ∧ mapT Try.prog 201 = some (34, 3) ∧ placesT Try.prog 201 = none := ⟨by kernel_rfl, by kernel_rfl, by kernel_rfl, by kernel_rfl, by kernel_rfl, by kernel_rfl, by kernel_rfl, by kernel_rfl, by kernel_rfl, by kernel_rfl, by kernel_rfl, by kernel_rfl, by kernel_rfl⟩
theorem ty_240 : sizeT Try.prog 240 = some 1 ∧ bytesT Try.prog 240 = some 8 ∧ aggT Try.prog 240 = some false ∧ elemT Try.prog 240 = none ∧ arrT Try.prog 240 = none ∧ intT Try.prog 240 = none ∧ boolT Try.prog 240 = false ∧ stringT Try.prog 240 = false ∧ sliceT Try.prog 240 = false ∧ zeroT Try.prog 240 = some [.any] ∧ u8T Try.prog 240 = false ∧ mapT Try.prog 240 = some (9, 3) ∧ placesT Try.prog 240 = none := ⟨by kernel_rfl, by kernel_rfl, by kernel_rfl, by kernel_rfl, by kernel_rfl, by kernel_rfl, by kernel_rfl, by kernel_rfl, by kernel_rfl, by kernel_rfl, by kernel_rfl, by kernel_rfl, by kernel_rfl⟩
theorem ty_244 : sizeT Try.prog 244 = some 4 ∧ bytesT Try.prog 244 = some 32 ∧ aggT Try.prog 244 = some true ∧ elemT Try.prog 244 = none ∧ arrT Try.prog 244 = some (2, 37) ∧ intT Try.prog 244 = none ∧ boolT Try.prog 244 = false ∧ stringT Try.prog 244 = false ∧ sliceT Try.prog 244 = false ∧ zeroT Try.prog 244 = some [.im (.int .i64 0), .im (.int .i64 0), .im (.int .i64 0), .im (.int .i64 0)] ∧ zeroImT Try.prog 244 = some [(.int .i64 0), (.int .i64 0), (.int .i64 0), (.int .i64 0)] ∧ u8T Try.prog 244 = false ∧ placesT Try.prog 244 = none := ⟨by kernel_rfl, by kernel_rfl, by kernel_rfl, by kernel_rfl, by kernel_rfl, by kernel_rfl, by kernel_rfl, by kernel_rfl, by kernel_rfl, by kernel_rfl, by kernel_rfl, by kernel_rfl, by kernel_rfl⟩
theorem ty_245 : sizeT Try.prog 245 = some 1 ∧ bytesT Try.prog 245 = some 24 ∧ aggT Try.prog 245 = some false ∧ elemT Try.prog 245 = some 244 ∧ arrT Try.prog 245 = none ∧ intT Try.prog 245 = none ∧ boolT Try.prog 245 = false ∧ stringT Try.prog 245 = false ∧ sliceT Try.prog 245 = true ∧ zeroT Try.prog 245 = some [.nils] ∧ zeroImT Try.prog 245 = some [(.sl [])] ∧ u8T Try.prog 245 = false ∧ zeroOne Try.prog 245 = some (.sl []) ∧ placesT Try.prog 245 = none := ⟨by kernel_rfl, by kernel_rfl, by kernel_rfl, by kernel_rfl, by kernel_rfl, by kernel_rfl, by kernel_rfl, by kernel_rfl, by kernel_rfl, by kernel_rfl, by kernel_rfl, by kernel_rfl, by kernel_rfl, by kernel_rfl⟩
theorem ty_246 : sizeT Try.prog 246 = some 1 ∧ bytesT Try.prog 246 = some 24 ∧ aggT Try.prog 246 = some false ∧ elemT Try.prog 246 = some 31 ∧ arrT Try.prog 246 = none ∧ intT Try.prog 246 = none ∧ boolT Try.prog 246 = false ∧ stringT Try.prog 246 = false ∧ sliceT Try.prog 246 = true ∧ zeroT Try.prog 246 = some [.nils] ∧ zeroImT Try.prog 246 = some [(.sl [])] ∧ u8T Try.prog 246 = false ∧ zeroOne Try.prog 246 = some (.sl []) ∧ placesT Try.prog 246 = none := ⟨by kernel_rfl, by kernel_rfl, by kernel_rfl, by kernel_rfl, by kernel_rfl, by kernel_rfl, by kernel_rfl, by kernel_rfl, by kernel_rfl, by kernel_rfl, by kernel_rfl, by kernel_rfl, by kernel_rfl, by kernel_rfl⟩
end Go.Proofs.YtdgpmopcmacicaaPi

/- The walks of the drawing functions (Below, Next). -/
set_option linter.unusedVariables false
set_option linter.unusedSimpArgs false
set_option maxRecDepth 100000
namespace Go.Proofs.YtdgpmopcmacicaaPi

abbrev I64 (x : Int) : Prop := -9223372036854775808 ≤ x ∧ x ≤ 9223372036854775807
theorem wrap64 {x : Int} (h : I64 x) : IntKind.i64.wrap x = x := by
  unfold IntKind.wrap
  simp only [IntKind.bits, IntKind.signed]
  simp
  omega
abbrev PV.i (x : Int) : PV := .im (.int .i64 x)
def below (x n : Int) : Int := if n < 1 then 0 else x % n
theorem Below_ok (x n : Int) (hx : I64 x) (hn : I64 n) (up : Frs) : ACalls Try.prog 11 [.i x, .i n] up fun v u => v = .i (below x n) ∧ u = up := by
  refine ACalls.code Try.func11 rfl 16 rfl (by simp) [.tmp 4] rfl fun Q hQ => ?_
  simp only [ups, PV.up, argEnv]
  refine Run.seq ?_
  refine Run.region rfl fun K hK => GOps.run ?_
  simp only [lookupV, updateV, lookupK, updateK, slicePV, pe0, pe1, pe2, pe3, pe4, pe5, pe6, pe7, pr0, pr1, Nat.reduceAdd, Nat.reduceMul, Nat.reduceLeDiff, Nat.reduceLT, Nat.reduceEqDiff, Nat.reduceBEq, Nat.reduceSub, reduceCtorEq, reduceIte, Int.reduceToNat, Int.reduceLE, Int.reduceEq, Int.reduceNe, Int.reduceBEq, Int.reduceBNe, Int.reduceLT, Int.reduceGT, Int.reduceGE, Int.reduceNeg, ty_3, ty_4]
  refine GOps.done (hK _ ?_); clear hK K
  refine End.keep [0, 1] ?_
  simp only [pk0, Nat.reduceBEq, reduceIte]
  refine Run.seq ?_
  refine Run.seq ?_
  refine Run.region rfl fun K hK => GOps.run ?_
  simp only [lookupV, updateV, lookupK, updateK, slicePV, pe0, pe1, pe2, pe3, pe4, pe5, pe6, pe7, pr0, pr1, Nat.reduceAdd, Nat.reduceMul, Nat.reduceLeDiff, Nat.reduceLT, Nat.reduceEqDiff, Nat.reduceBEq, Nat.reduceSub, reduceCtorEq, reduceIte, Int.reduceToNat, Int.reduceLE, Int.reduceEq, Int.reduceNe, Int.reduceBEq, Int.reduceBNe, Int.reduceLT, Int.reduceGT, Int.reduceGE, Int.reduceNeg, ty_3, ty_4]
  refine GOps.done (hK _ ?_); clear hK K
  refine End.keep [0, 1, 6] ?_
  simp only [pk0, Nat.reduceBEq, reduceIte]
  refine Run.cond _ rfl (fun hb => ?_) (fun hb => ?_)
  · have hb := of_decide_eq_true hb
    refine Run.seq ?_
    refine Run.region rfl fun K hK => GOps.run ?_
    simp only [lookupV, updateV, lookupK, updateK, slicePV, pe0, pe1, pe2, pe3, pe4, pe5, pe6, pe7, pr0, pr1, Nat.reduceAdd, Nat.reduceMul, Nat.reduceLeDiff, Nat.reduceLT, Nat.reduceEqDiff, Nat.reduceBEq, Nat.reduceSub, reduceCtorEq, reduceIte, Int.reduceToNat, Int.reduceLE, Int.reduceEq, Int.reduceNe, Int.reduceBEq, Int.reduceBNe, Int.reduceLT, Int.reduceGT, Int.reduceGE, Int.reduceNeg, ty_3, ty_4]
    refine GOps.done (hK _ ?_); clear hK K
    refine End.keep [4] ?_
    simp only [pk0, Nat.reduceBEq, reduceIte]
    refine Run.ret (hQ _ _ ⟨.inr rfl, _, rfl, _, rfl, ?_⟩)
    simp [below, hb]
  · have hb := of_decide_eq_false hb
    have hn0 : ¬ n = 0 := by omega
    have ht : x.tmod n = if x < 0 then (if x % n = 0 then 0 else x % n - n) else x % n := by
      rw [Int.tmod_eq_emod]
      have h1 : n.natAbs = n := by omega
      by_cases h0 : x < 0
      · by_cases h2 : n ∣ x
        · have := Int.emod_eq_zero_of_dvd h2
          simp [h2, h0, this]
        · have : ¬ x % n = 0 := fun e => h2 (Int.dvd_of_emod_eq_zero e)
          rw [if_neg (by omega), if_pos h0, if_neg this]
          omega
      · rw [if_pos (by omega), if_neg h0]
        omega
    have hm0 := Int.emod_nonneg x hn0
    have hm1 := Int.emod_lt_of_pos x (show 0 < n by omega)
    refine Run.skip ?_
    refine End.keep [0, 1] ?_
    simp only [pk0, Nat.reduceBEq, reduceIte]
    refine Run.seq ?_
    refine Run.region rfl fun K hK => GOps.run ?_
    simp only [lookupV, updateV, lookupK, updateK, slicePV, pe0, pe1, pe2, pe3, pe4, pe5, pe6, pe7, pr0, pr1, Nat.reduceAdd, Nat.reduceMul, Nat.reduceLeDiff, Nat.reduceLT, Nat.reduceEqDiff, Nat.reduceBEq, Nat.reduceSub, reduceCtorEq, reduceIte, Int.reduceToNat, Int.reduceLE, Int.reduceEq, Int.reduceNe, Int.reduceBEq, Int.reduceBNe, Int.reduceLT, Int.reduceGT, Int.reduceGE, Int.reduceNeg, ty_3, ty_4, hn0]
    refine GOps.done (hK _ ?_); clear hK K
    refine End.keep [0, 1] ?_
    simp only [pk0, Nat.reduceBEq, reduceIte]
    refine Run.seq ?_
    refine Run.seq ?_
    refine Run.region rfl fun K hK => GOps.run ?_
    simp only [lookupV, updateV, lookupK, updateK, slicePV, pe0, pe1, pe2, pe3, pe4, pe5, pe6, pe7, pr0, pr1, Nat.reduceAdd, Nat.reduceMul, Nat.reduceLeDiff, Nat.reduceLT, Nat.reduceEqDiff, Nat.reduceBEq, Nat.reduceSub, reduceCtorEq, reduceIte, Int.reduceToNat, Int.reduceLE, Int.reduceEq, Int.reduceNe, Int.reduceBEq, Int.reduceBNe, Int.reduceLT, Int.reduceGT, Int.reduceGE, Int.reduceNeg, ty_3, ty_4]
    refine GOps.done (hK _ ?_); clear hK K
    refine End.keep [0, 1, 11] ?_
    simp only [pk0, Nat.reduceBEq, reduceIte]
    refine Run.cond _ rfl (fun hb => ?_) (fun hb => ?_)
    · have hc := of_decide_eq_true hb
      refine Run.region rfl fun K hK => GOps.run ?_
      simp only [lookupV, updateV, lookupK, updateK, slicePV, pe0, pe1, pe2, pe3, pe4, pe5, pe6, pe7, pr0, pr1, Nat.reduceAdd, Nat.reduceMul, Nat.reduceLeDiff, Nat.reduceLT, Nat.reduceEqDiff, Nat.reduceBEq, Nat.reduceSub, reduceCtorEq, reduceIte, Int.reduceToNat, Int.reduceLE, Int.reduceEq, Int.reduceNe, Int.reduceBEq, Int.reduceBNe, Int.reduceLT, Int.reduceGT, Int.reduceGE, Int.reduceNeg, ty_3, ty_4]
      refine GOps.done (hK _ ?_); clear hK K
      refine End.keep [0] ?_
      simp only [pk0, Nat.reduceBEq, reduceIte]
      refine Run.seq ?_
      refine Run.region rfl fun K hK => GOps.run ?_
      simp only [lookupV, updateV, lookupK, updateK, slicePV, pe0, pe1, pe2, pe3, pe4, pe5, pe6, pe7, pr0, pr1, Nat.reduceAdd, Nat.reduceMul, Nat.reduceLeDiff, Nat.reduceLT, Nat.reduceEqDiff, Nat.reduceBEq, Nat.reduceSub, reduceCtorEq, reduceIte, Int.reduceToNat, Int.reduceLE, Int.reduceEq, Int.reduceNe, Int.reduceBEq, Int.reduceBNe, Int.reduceLT, Int.reduceGT, Int.reduceGE, Int.reduceNeg, ty_3, ty_4]
      refine GOps.done (hK _ ?_); clear hK K
      refine End.keep [4] ?_
      simp only [pk0, Nat.reduceBEq, reduceIte]
      refine Run.ret (hQ _ _ ⟨.inr rfl, _, rfl, _, rfl, ?_⟩)
      refine ⟨?_, rfl⟩
      have e : x.tmod n + n = x % n := by
        rw [ht] at hc ⊢
        split at hc
        · split at hc
          · omega
          · rename_i h1 h2; rw [if_pos h1, if_neg h2]; omega
        · omega
      rw [e, wrap64 (by omega)]
      simp [below, hb, show ¬ n < 1 by omega]
    · have hc := of_decide_eq_false hb
      refine Run.skip ?_
      refine End.keep [0] ?_
      simp only [pk0, Nat.reduceBEq, reduceIte]
      refine Run.seq ?_
      refine Run.region rfl fun K hK => GOps.run ?_
      simp only [lookupV, updateV, lookupK, updateK, slicePV, pe0, pe1, pe2, pe3, pe4, pe5, pe6, pe7, pr0, pr1, Nat.reduceAdd, Nat.reduceMul, Nat.reduceLeDiff, Nat.reduceLT, Nat.reduceEqDiff, Nat.reduceBEq, Nat.reduceSub, reduceCtorEq, reduceIte, Int.reduceToNat, Int.reduceLE, Int.reduceEq, Int.reduceNe, Int.reduceBEq, Int.reduceBNe, Int.reduceLT, Int.reduceGT, Int.reduceGE, Int.reduceNeg, ty_3, ty_4]
      refine GOps.done (hK _ ?_); clear hK K
      refine End.keep [4] ?_
      simp only [pk0, Nat.reduceBEq, reduceIte]
      refine Run.ret (hQ _ _ ⟨.inr rfl, _, rfl, _, rfl, ?_⟩)
      refine ⟨?_, rfl⟩
      have e : x.tmod n = x % n := by
        rw [ht] at hc ⊢
        split at hc
        · split at hc
          · rename_i h1 h2; rw [if_pos h1, if_pos h2, h2]
          · omega
        · rename_i h1; rw [if_neg h1]
      rw [e]
      simp [below, show ¬ n < 1 by omega]
abbrev ints (l : List Int) : List (List Im) := l.map fun x => [.int .i64 x]
/-- A stream of numbers: the list, and how many were drawn. -/
abbrev stm (l : List Int) (a : Int) : AObj := .box [.im (.sl (ints l)), .i a]
def nextV (l : List Int) (a n : Int) : Int :=
  if l = [] then below ((a + 1) * 7919) n else below (below (l.getD (a % l.length).toNat 0) 1073741824 + a / l.length * (7919 + a % l.length)) n
theorem ints_len (l : List Int) : (ints l).length = l.length := by simp
theorem ints_get (l : List Int) (i : Nat) (h : i < l.length) : (ints l)[i]? = some [.int .i64 (l.getD i 0)] := by simp [h]
structure StmOk (l : List Int) (a : Int) : Prop where
  vals : ∀ x ∈ l, I64 x
  len : l.length ≤ 9223372036854775807
  pos : 0 ≤ a
  few : a < 1099511627776
theorem Next_ok (l : List Int) (a n : Int) (hs : StmOk l a) (hn : I64 n) (up : Frs) (d j : Nat) (hl : fget up d j = some (stm l a)) : ACalls Try.prog 13 [.ptr d j 0, .i n] up fun v u => v = .i (nextV l a n) ∧ u = fset up d j (stm l (a + 1)) := by
  have hset : ∀ o, fget (fset up d j o) d j = some o := fun o => fget_fset_same _ _ _ _ _ hl
  have hw1 : IntKind.i64.wrap (a + 1) = a + 1 := wrap64 (by have := hs.pos; have := hs.few; omega)
  have hw2 : IntKind.i64.wrap ((a + 1) * 7919) = (a + 1) * 7919 := wrap64 (by have := hs.pos; have := hs.few; omega)
  refine ACalls.code Try.func13 rfl 64 rfl (by simp) [.tmp 4] rfl fun Q hQ => ?_
  simp only [ups, PV.up, argEnv]
  refine Run.seq ?_
  refine Run.region rfl fun K hK => GOps.run ?_
  simp only [lookupV, updateV, lookupK, updateK, slicePV, pe0, pe1, pe2, pe3, pe4, pe5, pe6, pe7, pr0, pr1, Nat.reduceAdd, Nat.reduceMul, Nat.reduceLeDiff, Nat.reduceLT, Nat.reduceEqDiff, Nat.reduceBEq, Nat.reduceSub, reduceCtorEq, reduceIte, Int.reduceToNat, Int.reduceLE, Int.reduceEq, Int.reduceNe, Int.reduceBEq, Int.reduceBNe, Int.reduceLT, Int.reduceGT, Int.reduceGE, Int.reduceNeg, ty_3, ty_4, ty_22, ty_23, ty_25, hl, hset, hw1, hw2, ints_len]
  refine GOps.done (hK _ ?_); clear hK K
  refine End.keep [0, 1] ?_
  simp only [pk0, Nat.reduceBEq, reduceIte]
  refine Run.seq ?_
  refine Run.region rfl fun K hK => GOps.run ?_
  simp only [lookupV, updateV, lookupK, updateK, slicePV, pe0, pe1, pe2, pe3, pe4, pe5, pe6, pe7, pr0, pr1, Nat.reduceAdd, Nat.reduceMul, Nat.reduceLeDiff, Nat.reduceLT, Nat.reduceEqDiff, Nat.reduceBEq, Nat.reduceSub, reduceCtorEq, reduceIte, Int.reduceToNat, Int.reduceLE, Int.reduceEq, Int.reduceNe, Int.reduceBEq, Int.reduceBNe, Int.reduceLT, Int.reduceGT, Int.reduceGE, Int.reduceNeg, ty_3, ty_4, ty_22, ty_23, ty_25, hl, hset, hw1, hw2, ints_len]
  refine GOps.done (hK _ ?_); clear hK K
  refine End.keep [0, 1] ?_
  simp only [pk0, Nat.reduceBEq, reduceIte]
  refine Run.seq ?_
  refine Run.seq ?_
  refine Run.region rfl fun K hK => GOps.run ?_
  simp only [lookupV, updateV, lookupK, updateK, slicePV, pe0, pe1, pe2, pe3, pe4, pe5, pe6, pe7, pr0, pr1, Nat.reduceAdd, Nat.reduceMul, Nat.reduceLeDiff, Nat.reduceLT, Nat.reduceEqDiff, Nat.reduceBEq, Nat.reduceSub, reduceCtorEq, reduceIte, Int.reduceToNat, Int.reduceLE, Int.reduceEq, Int.reduceNe, Int.reduceBEq, Int.reduceBNe, Int.reduceLT, Int.reduceGT, Int.reduceGE, Int.reduceNeg, ty_3, ty_4, ty_22, ty_23, ty_25, hl, hset, hw1, hw2, ints_len]
  refine GOps.done (hK _ ?_); clear hK K
  refine End.keep [0, 1, 19] ?_
  simp only [pk0, Nat.reduceBEq, reduceIte]
  refine Run.cond _ rfl (fun hb => ?_) (fun hb => ?_)
  · have hb := hb
    refine Run.seq ?_
    -- region 3: call F35(t24, t25) : 3,3
    refine Run.region rfl fun K hK => GOps.run ?_
    simp only [lookupV, updateV, lookupK, updateK, slicePV, pe0, pe1, pe2, pe3, pe4, pe5, pe6, pe7, pr0, pr1, Nat.reduceAdd, Nat.reduceMul, Nat.reduceLeDiff, Nat.reduceLT, Nat.reduceEqDiff, Nat.reduceBEq, Nat.reduceSub, reduceCtorEq, reduceIte, Int.reduceToNat, Int.reduceLE, Int.reduceEq, Int.reduceNe, Int.reduceBEq, Int.reduceBNe, Int.reduceLT, Int.reduceGT, Int.reduceGE, Int.reduceNeg, ty_3, ty_4, ty_22, ty_23, ty_25, hl, hset, hw1, hw2, ints_len]
    refine GOps.call rfl rfl rfl rfl (by kernel_rfl) ?_  -- call F35(t24, t25) : 3,3
    simp only [lookupV, updateV, lookupK, updateK, slicePV, pe0, pe1, pe2, pe3, pe4, pe5, pe6, pe7, pr0, pr1, Nat.reduceAdd, Nat.reduceMul, Nat.reduceLeDiff, Nat.reduceLT, Nat.reduceEqDiff, Nat.reduceBEq, Nat.reduceSub, reduceCtorEq, reduceIte, Int.reduceToNat, Int.reduceLE, Int.reduceEq, Int.reduceNe, Int.reduceBEq, Int.reduceBNe, Int.reduceLT, Int.reduceGT, Int.reduceGE, Int.reduceNeg, hw2]
    refine (Below_ok ((a + 1) * 7919) n (by have := hs.pos; have := hs.few; constructor <;> omega) hn _).mono fun v u hv => ?_
    obtain ⟨rfl, rfl⟩ := hv
    refine ⟨_, _, rfl, GOps.run ?_⟩
    simp only [lookupV, updateV, lookupK, updateK, slicePV, pe0, pe1, pe2, pe3, pe4, pe5, pe6, pe7, pr0, pr1, Nat.reduceAdd, Nat.reduceMul, Nat.reduceLeDiff, Nat.reduceLT, Nat.reduceEqDiff, Nat.reduceBEq, Nat.reduceSub, reduceCtorEq, reduceIte, Int.reduceToNat, Int.reduceLE, Int.reduceEq, Int.reduceNe, Int.reduceBEq, Int.reduceBNe, Int.reduceLT, Int.reduceGT, Int.reduceGE, Int.reduceNeg, ty_3, ty_4, ty_22, ty_23, ty_25, hl, hset, hw1, hw2, ints_len]
    refine GOps.done (hK _ ?_); clear hK K
    refine End.keep [4] ?_
    simp only [pk0, Nat.reduceBEq, reduceIte]
    refine Run.ret (hQ _ _ ⟨.inr rfl, _, rfl, _, rfl, ?_⟩)
    have h0 : l = [] := by simpa using hb
    exact ⟨by simp [nextV, h0], rfl⟩
  · have hne : l ≠ [] := fun e => by subst e; simp at hb
    have hpos : 0 < l.length := List.length_pos_iff.2 hne
    have hlz : ¬ ((l.length : Int) = 0) := by omega
    have hp := hs.pos
    have hf := hs.few
    have hll := hs.len
    have hw3 : IntKind.i64.wrap (a + 1 - 1) = a := by rw [show a + 1 - 1 = a by omega]; exact wrap64 (by omega)
    have hm : a.tmod l.length = a % l.length := Int.tmod_eq_emod_of_nonneg hp
    have hd : a.tdiv l.length = a / l.length := Int.tdiv_eq_ediv_of_nonneg hp
    have hm0 := Int.emod_nonneg a hlz
    have hm1 := Int.emod_lt_of_pos a (show (0 : Int) < l.length by omega)
    have hd0 : 0 ≤ a / l.length := Int.ediv_nonneg hp (by omega)
    have hia : a % l.length ≤ a := by
      have h2 := Int.mul_ediv_add_emod a l.length
      have h3 : 0 ≤ (l.length : Int) * (a / l.length) := Int.mul_nonneg (by omega) hd0
      omega
    have hd1 : a / l.length ≤ a := Int.ediv_le_self _ hp
    have hw4 : IntKind.i64.wrap (a / l.length) = a / l.length := wrap64 (by omega)
    have hlt : (a % l.length).toNat < l.length := by omega
    have hx := ints_get l (a % l.length).toNat hlt
    generalize hi : a % (l.length : Int) = i at *
    generalize hr : a / (l.length : Int) = r at *
    have hmul : r * (7919 + i) ≤ 10000000000000000 := by
      have h1 : r * i ≤ a := by
        have h2 := Int.mul_ediv_add_emod a l.length
        rw [hi, hr] at h2
        have h3 : r * i ≤ r * l.length := Int.mul_le_mul_of_nonneg_left (by omega) hd0
        rw [Int.mul_comm] at h2
        omega
      rw [Int.mul_add]
      omega
    have hmul0 : 0 ≤ r * (7919 + i) := Int.mul_nonneg hd0 (by omega)
    have hb1 : 0 ≤ below (l.getD i.toNat 0) 1073741824 ∧ below (l.getD i.toNat 0) 1073741824 < 1073741824 := by
      simp only [below]
      rw [if_neg (by decide)]
      exact ⟨Int.emod_nonneg _ (by decide), Int.emod_lt_of_pos _ (by decide)⟩
    have hw7 : IntKind.i64.wrap (below (l.getD i.toNat 0) 1073741824 + r * (7919 + i)) = below (l.getD i.toNat 0) 1073741824 + r * (7919 + i) := wrap64 (by omega)
    have hw5 : IntKind.i64.wrap (7919 + i) = 7919 + i := wrap64 (by omega)
    have hw6 : IntKind.i64.wrap (r * (7919 + i)) = r * (7919 + i) := wrap64 (by omega)
    refine Run.skip ?_
    refine End.keep [0, 1] ?_
    simp only [pk0, Nat.reduceBEq, reduceIte]
    refine Run.seq ?_
    refine Run.draw [[], [0], [0, 1], [0, 1, 2], [0, 1, 2, 3], [], [5], [5, 6], [5, 6, 7], [5, 6, 7, 8], [0, 1, 2, 3, 4, 5, 6, 7, 8, 9], [0, 1, 2, 3, 4, 5, 6, 7, 8, 9, 10]] (by kernel_rfl) rfl (by kernel_rfl) (by kernel_rfl) fun K hK => DOps.run ?_
    simp only [lookupV, updateV, lookupK, updateK, slicePV, pe0, pe1, pe2, pe3, pe4, pe5, pe6, pe7, pr0, pr1, Nat.reduceAdd, Nat.reduceMul, Nat.reduceLeDiff, Nat.reduceLT, Nat.reduceEqDiff, Nat.reduceBEq, Nat.reduceSub, reduceCtorEq, reduceIte, Int.reduceToNat, Int.reduceLE, Int.reduceEq, Int.reduceNe, Int.reduceBEq, Int.reduceBNe, Int.reduceLT, Int.reduceGT, Int.reduceGE, Int.reduceNeg, ty_3, ty_4, ty_22, ty_23, ty_25, hl, hset, hw1, hw3, ints_len, hlz, hm, hd, hw4, hw5, hw6, hx, hm0, hw7]
    refine DOps.nil (metAll_quiet rfl) (hK _ ?_); clear hK K
    refine End.keep [0, 1, 5] ?_
    simp only [pk0, Nat.reduceBEq, reduceIte]
    refine Run.seq ?_
    refine Run.draw [[], [0], [0, 1], [0, 1, 2], [0, 1, 2, 3], [], [5], [5, 6], [5, 6, 7], [5, 6, 7, 8], [0, 1, 2, 3, 4, 5, 6, 7, 8, 9], [0, 1, 2, 3, 4, 5, 6, 7, 8, 9, 10]] (by kernel_rfl) rfl (by kernel_rfl) (by kernel_rfl) fun K hK => DOps.run ?_
    simp only [lookupV, updateV, lookupK, updateK, slicePV, pe0, pe1, pe2, pe3, pe4, pe5, pe6, pe7, pr0, pr1, Nat.reduceAdd, Nat.reduceMul, Nat.reduceLeDiff, Nat.reduceLT, Nat.reduceEqDiff, Nat.reduceBEq, Nat.reduceSub, reduceCtorEq, reduceIte, Int.reduceToNat, Int.reduceLE, Int.reduceEq, Int.reduceNe, Int.reduceBEq, Int.reduceBNe, Int.reduceLT, Int.reduceGT, Int.reduceGE, Int.reduceNeg, ty_3, ty_4, ty_22, ty_23, ty_25, hl, hset, hw1, hw3, ints_len, hlz, hm, hd, hw4, hw5, hw6, hx, hm0, hw7]
    refine DOps.nil (metAll_quiet rfl) (hK _ ?_); clear hK K
    refine End.keep [0, 1, 5, 6] ?_
    simp only [pk0, Nat.reduceBEq, reduceIte]
    refine Run.seq ?_
    -- region 6: call F35(t55, 1073741824) : 3,3; call F35(t61, t62) : 3,3
    refine Run.region rfl fun K hK => GOps.run ?_
    simp only [lookupV, updateV, lookupK, updateK, slicePV, pe0, pe1, pe2, pe3, pe4, pe5, pe6, pe7, pr0, pr1, Nat.reduceAdd, Nat.reduceMul, Nat.reduceLeDiff, Nat.reduceLT, Nat.reduceEqDiff, Nat.reduceBEq, Nat.reduceSub, reduceCtorEq, reduceIte, Int.reduceToNat, Int.reduceLE, Int.reduceEq, Int.reduceNe, Int.reduceBEq, Int.reduceBNe, Int.reduceLT, Int.reduceGT, Int.reduceGE, Int.reduceNeg, ty_3, ty_4, ty_22, ty_23, ty_25, hl, hset, hw1, hw3, ints_len, hlz, hm, hd, hw4, hw5, hw6, hx, hm0, hw7]
    refine GOps.call rfl rfl rfl rfl (by kernel_rfl) ?_  -- call F35(t55, 1073741824) : 3,3
    refine (Below_ok (l.getD i.toNat 0) 1073741824 (by
      have hm : l.getD i.toNat 0 ∈ l := by rw [List.getD_eq_getElem?_getD, List.getElem?_eq_getElem hlt]; simp
      exact hs.vals _ hm) (by omega) _).mono fun v u hv => ?_
    obtain ⟨rfl, rfl⟩ := hv
    refine ⟨_, _, rfl, GOps.run ?_⟩
    simp only [lookupV, updateV, lookupK, updateK, slicePV, pe0, pe1, pe2, pe3, pe4, pe5, pe6, pe7, pr0, pr1, Nat.reduceAdd, Nat.reduceMul, Nat.reduceLeDiff, Nat.reduceLT, Nat.reduceEqDiff, Nat.reduceBEq, Nat.reduceSub, reduceCtorEq, reduceIte, Int.reduceToNat, Int.reduceLE, Int.reduceEq, Int.reduceNe, Int.reduceBEq, Int.reduceBNe, Int.reduceLT, Int.reduceGT, Int.reduceGE, Int.reduceNeg, ty_3, ty_4, ty_22, ty_23, ty_25, hl, hset, hw1, hw3, ints_len, hlz, hm, hd, hw4, hw5, hw6, hx, hm0, hw7]
    refine GOps.call rfl rfl rfl rfl (by kernel_rfl) ?_  -- call F35(t61, t62) : 3,3
    simp only [lookupV, updateV, lookupK, updateK, slicePV, pe0, pe1, pe2, pe3, pe4, pe5, pe6, pe7, pr0, pr1, Nat.reduceAdd, Nat.reduceMul, Nat.reduceLeDiff, Nat.reduceLT, Nat.reduceEqDiff, Nat.reduceBEq, Nat.reduceSub, reduceCtorEq, reduceIte, Int.reduceToNat, Int.reduceLE, Int.reduceEq, Int.reduceNe, Int.reduceBEq, Int.reduceBNe, Int.reduceLT, Int.reduceGT, Int.reduceGE, Int.reduceNeg, hw7]
    refine (Below_ok (below (l.getD i.toNat 0) 1073741824 + r * (7919 + i)) n (by omega) hn _).mono fun v u hv => ?_
    obtain ⟨rfl, rfl⟩ := hv
    refine ⟨_, _, rfl, GOps.run ?_⟩
    simp only [lookupV, updateV, lookupK, updateK, slicePV, pe0, pe1, pe2, pe3, pe4, pe5, pe6, pe7, pr0, pr1, Nat.reduceAdd, Nat.reduceMul, Nat.reduceLeDiff, Nat.reduceLT, Nat.reduceEqDiff, Nat.reduceBEq, Nat.reduceSub, reduceCtorEq, reduceIte, Int.reduceToNat, Int.reduceLE, Int.reduceEq, Int.reduceNe, Int.reduceBEq, Int.reduceBNe, Int.reduceLT, Int.reduceGT, Int.reduceGE, Int.reduceNeg, ty_3, ty_4, ty_22, ty_23, ty_25, hl, hset, hw1, hw3, ints_len, hlz, hm, hd, hw4, hw5, hw6, hx, hm0, hw7]
    refine GOps.done (hK _ ?_); clear hK K
    refine End.keep [4] ?_
    simp only [pk0, Nat.reduceBEq, reduceIte]
    refine Run.ret (hQ _ _ ⟨.inr rfl, _, rfl, _, rfl, ?_⟩)
    refine ⟨?_, rfl⟩
    simp only [nextV, if_neg hne, hi, hr]
end Go.Proofs.YtdgpmopcmacicaaPi

/- The walks of the functions that draw words, masks, picks and nets. -/
set_option linter.unusedVariables false
set_option linter.unusedSimpArgs false
namespace Go.Proofs.YtdgpmopcmacicaaPi
theorem below_range (x n : Int) (h : 1 ≤ n) : 0 ≤ below x n ∧ below x n < n := by
  unfold below
  rw [if_neg (by omega)]
  exact ⟨Int.emod_nonneg _ (by omega), Int.emod_lt_of_pos _ (by omega)⟩
theorem nextV_range (l : List Int) (a n : Int) (h : 1 ≤ n) : 0 ≤ nextV l a n ∧ nextV l a n < n := by
  unfold nextV
  split <;> exact below_range _ _ h
theorem StmOk.next {l : List Int} {a : Int} (h : StmOk l a) (hf : a + 1 < 1099511627776) : StmOk l (a + 1) := ⟨h.vals, h.len, by have := h.pos; omega, hf⟩
abbrev PV.u (x : Int) : PV := .im (.int .u64 x)
theorem wrapU {x : Int} (h : 0 ≤ x ∧ x ≤ 18446744073709551615) : IntKind.u64.wrap x = x := by
  unfold IntKind.wrap
  simp only [IntKind.bits, IntKind.signed]
  simp
  omega
-- GONE word_ok
-- GONE mask_ok
-- GONE Pick_ok
-- GONE net_ok
end Go.Proofs.YtdgpmopcmacicaaPi

/- The walks of the function that draws names. -/
set_option linter.unusedVariables false
set_option linter.unusedSimpArgs false
set_option maxRecDepth 100000
namespace Go.Proofs.YtdgpmopcmacicaaPi

abbrev strs (l : List ByteArray) : List (List Im) := l.map fun s => [.str s]
theorem strs_len (l : List ByteArray) : (strs l).length = l.length := by simp
end Go.Proofs.YtdgpmopcmacicaaPi

/- The walk of the function that draws a netlist. -/
set_option linter.unusedVariables false
set_option linter.unusedSimpArgs false
namespace Go.Proofs.YtdgpmopcmacicaaPi

set_option maxHeartbeats 2000000
structure LGate where
  table : Int
  ins : List Int
abbrev LGate.im (g : LGate) : List Im := [.int .i64 (-1), .int .u64 g.table, .sl (ints g.ins)]
structure LFlop where
  name : ByteArray
  d : Int
  en : Int
  init : Bool
abbrev LFlop.im (f : LFlop) : List Im := [.str f.name, .int .i64 (-1), .int .i64 f.d, .int .i64 f.en, .bool f.init]
structure LNet where
  inn : List ByteArray
  out : List ByteArray
  flops : List LFlop
  gates : List LGate
  outs : List Int
abbrev LNet.pv (n : LNet) : PV := .agg [.im (.sl (strs n.inn)), .im (.sl (strs n.out)), .im (.sl (n.flops.map LFlop.im)), .im (.sl (n.gates.map LGate.im)), .im (.sl (ints n.outs))]
theorem gim_len (l : List LGate) : (l.map LGate.im).length = l.length := by simp
theorem fim_len (l : List LFlop) : (l.map LFlop.im).length = l.length := by simp
-- GONE Netlist_ok
end Go.Proofs.YtdgpmopcmacicaaPi

/- The walks of small functions: ranges, bits, lanes, numbers of nets, masks, clones. -/
set_option linter.unusedVariables false
set_option linter.unusedSimpArgs false
set_option maxRecDepth 100000
namespace Go.Proofs.YtdgpmopcmacicaaPi

abbrev bools (l : List Bool) : List (List Im) := l.map fun b => [.bool b]
abbrev us (l : List Int) : List (List Im) := l.map fun x => [.int .u64 x]
theorem bools_len (l : List Bool) : (bools l).length = l.length := by simp
theorem us_len (l : List Int) : (us l).length = l.length := by simp
theorem bools_get (l : List Bool) (i : Nat) (h : i < l.length) : (bools l)[i]? = some [.bool (l.getD i false)] := by simp [h]
theorem us_get (l : List Int) (i : Nat) (h : i < l.length) : (us l)[i]? = some [.int .u64 (l.getD i 0)] := by simp [h]
theorem drop_getD {α : Type} (l : List α) (i : Nat) (z : α) (h : i < l.length) : l.drop i = l.getD i z :: l.drop (i + 1) := by
  have e : l.getD i z = l[i] := by simp [h]
  rw [e]
  exact List.drop_eq_getElem_cons h
theorem wsucc {i n : Nat} (h : i < n) (hn : n ≤ 140737488355328) : IntKind.i64.wrap ((i : Int) + 1) = ((i + 1 : Nat) : Int) := by rw [wrap64 (by omega)]; omega
/-- The next place of a row that is being filled. -/
theorem fill_next (done : List (List Im)) (k : Nat) (z y : List Im) : (done ++ List.replicate (k + 1) z).set done.length y = (done ++ [y]) ++ List.replicate k z := by
  rw [List.set_append_right _ _ (Nat.le_refl _)]
  simp [List.replicate_succ]
theorem take_snoc {α : Type} (l : List α) (i : Nat) (z : α) (h : i < l.length) : l.take (i + 1) = l.take i ++ [l.getD i z] := by
  rw [List.take_add_one]
  simp [h]
/-- A row whose first places are filled, one more of them. -/
theorem fill_map {α : Type} (f : α → List Im) (q : List α) (z : List Im) (d : α) (i : Nat) (h : i < q.length) :
    ((q.take i).map f ++ List.replicate (q.length - i) z).set i (f (q.getD i d)) = (q.take (i + 1)).map f ++ List.replicate (q.length - (i + 1)) z := by
  have hA : ((q.take i).map f).length = i := by simp; omega
  have := fill_next ((q.take i).map f) (q.length - (i + 1)) z (f (q.getD i d))
  rw [hA] at this
  rw [show q.length - i = q.length - (i + 1) + 1 by omega, this, take_snoc q i d h]
  simp
theorem fill_len {α : Type} (f : α → List Im) (q : List α) (z : List Im) (i : Nat) (h : i ≤ q.length) : ((q.take i).map f ++ List.replicate (q.length - i) z).length = q.length := by simp; omega
theorem fill_get {α : Type} (f : α → List Im) (q : List α) (z : List Im) (i : Nat) (h : i < q.length) : ((q.take i).map f ++ List.replicate (q.length - i) z)[i]? = some z := by
  have hA : ((q.take i).map f).length = i := by simp; omega
  rw [List.getElem?_append_right (by omega), hA, Nat.sub_self, List.getElem?_replicate, if_pos (by omega)]
theorem fill_all {α : Type} (f : α → List Im) (q : List α) (z : List Im) : (q.take q.length).map f ++ List.replicate (q.length - q.length) z = q.map f := by simp
abbrev b2u (b : Bool) : List Im := [.int .u64 (if b then 1 else 0)]
theorem b2u_map (q : List Bool) : q.map b2u = us (q.map fun b => if b then 1 else 0) := by simp
def valsV (l : List Int) : Nat → Int → List Bool
  | 0, _ => []
  | k + 1, a => (nextV l a 2 == 0) :: valsV l k (a + 1)
theorem valsV_len (l : List Int) : ∀ (k : Nat) (a : Int), (valsV l k a).length = k
  | 0, a => rfl
  | k + 1, a => by simp [valsV, valsV_len l k]
theorem Values_ok (N : Nat) (hN : N ≤ 500) (l : List Int) (a : Int) (hs : StmOk l a) (hf : a + 1000 < 1099511627776) (up : Frs) (d j : Nat) (hl : fget up d j = some (stm l a)) : ACalls Try.prog 46 [.ptr d j 0, .i N] up fun v u => v = .im (.sl (bools (valsV l N a))) ∧ u = fset up d j (stm l (a + N)) := by
  have hset : ∀ o, fget (fset up d j o) d j = some o := fun o => fget_fset_same _ _ _ _ _ hl
  have hp := hs.pos
  refine ACalls.code Try.func46 rfl 17 rfl (by simp) [.tmp 4] rfl fun Q hQ => ?_
  simp only [ups, PV.up, argEnv]
  have ft := And.intro ty_3 (And.intro ty_4 (And.intro ty_23 (And.intro ty_71 trivial)))
  refine Run.seq ?_
  have fx := And.intro hset (And.intro hl ft)
  refine Run.go ?_
  refine End.kp [0, 1] ?_
  refine Run.seq ?_
  refine Run.go ?_
  refine End.kp [0, 1, 5] ?_
  refine Run.seq ?_
  refine Run.seq ?_
  refine Run.go ?_
  refine End.kp [0, 5, 6, 7] ?_
  refine Run.block ?_
  refine Run.ghost (Ghost.thaw (u := 5) 4 1 (by decide) rfl) ?_
  refine Run.ghost (Ghost.form [(0, .ptr (d + 1) j 0), (5, .ms 0 0 (0)), (6, .i N), (7, .i (0 : Nat))] 1 ⟨rfl, rfl, rfl, rfl, trivial⟩ rfl rfl) ?_
  refine Run.loop (fun m s => ∃ (i : Nat) (done : List Bool), m = N - i ∧ i ≤ N ∧ done.length = i ∧ done ++ valsV l (N - i) (a + i) = valsV l N a ∧
    s = ⟨[(0, .ptr (d + 1) j 0), (5, .ms 0 0 (i)), (6, .i N), (7, .i (i : Nat))], [.row 4 1 (bools done) 0], fset up d j (stm l (a + i))⟩) N ⟨0, [], rfl, by omega, rfl, by simp, by rw [show a + ((0 : Nat) : Int) = a by omega, fset_self up d j _ hl]; rfl⟩ fun m s hI => ?_
  obtain ⟨i, done, rfl, hi, hdl, hw1, rfl⟩ := hI
  have hsl : (bools done).length = i := by rw [bools_len, hdl]
  have hs0 : StmOk l (a + i) := ⟨hs.vals, hs.len, by omega, by omega⟩
  have hap : (i + 1) * 1 ≤ 140737488355328 := by omega
  refine Run.seq ?_
  have fx := And.intro hap (And.intro hsl (And.intro hset (And.intro hl ft)))
  refine Run.go ?_
  refine End.kp [0, 5, 6, 7, 8] ?_
  refine Run.seq ?_
  refine Run.cond _ rfl (fun hb => ?_) (fun hb => ?_)
  · have hb := of_decide_eq_true hb
    have hin : i < N := by omega
    have wi := wsucc hin (by omega)
    refine Run.skip ?_
    refine End.kp [0, 5, 6, 7] ?_
    refine Run.seq ?_
    refine Run.block ?_
    have fx := And.intro wi (And.intro hap (And.intro hsl (And.intro hset (And.intro hl ft))))
    refine Run.region rfl fun K hK => GOps.sim ?_
    refine GOps.call rfl rfl rfl rfl (by kernel_rfl) (ACalls.sim ?_)
    refine (Next_ok l (a + i) 2 hs0 (by omega) _ (d + 1) j (hset _)).mono fun v u hv => ?_
    obtain ⟨rfl, rfl⟩ := hv
    refine ⟨_, _, rfl, GOps.sim ?_⟩
    refine GOps.done (hK _ ?_); clear hK K
    refine End.blk ?_
    refine End.kp [0, 5, 6, 7] ?_
    refine Run.go ?_
    refine End.lp ?_
    have hvi : valsV l (N - i) (a + i) = (nextV l (a + i) 2 == 0) :: valsV l (N - (i + 1)) (a + ((i + 1 : Nat) : Int)) := by
      rw [show N - i = (N - (i + 1)) + 1 by omega, show a + ((i + 1 : Nat) : Int) = a + i + 1 by omega]
      rfl
    rw [hvi] at hw1
    refine ⟨N - (i + 1), _, by omega, Ghost.form [(0, .ptr (d + 1) j 0), (5, .ms 0 0 (i + 1)), (6, .i N), (7, .i (i + 1 : Nat))] 1 ⟨rfl, rfl, rfl, rfl, trivial⟩ rfl rfl, i + 1, done ++ [nextV l (a + i) 2 == 0], rfl, by omega, by simp [hdl], by simpa using hw1, ?_⟩
    rw [show a + ((i + 1 : Nat) : Int) = a + i + 1 by omega]
    simp
  · have hb := of_decide_eq_false hb
    have hiN : i = N := by omega
    subst hiN
    simp only [Nat.sub_self, valsV, List.append_nil] at hw1
    refine Run.exit rfl ?_
    refine End.kp [5] ?_
    refine Run.seq ?_
    refine Run.ghost (Ghost.shut (t := 5) (j := 0) rfl rfl hsl) ?_
    simp only [eput, edel]
    have fx := And.intro hap (And.intro hsl (And.intro hset (And.intro hl ft)))
    refine Run.go ?_
    refine End.kp [4] ?_
    refine Run.ret (hQ _ _ ⟨.inr rfl, _, rfl, _, rfl, ?_⟩)
    exact ⟨by rw [hw1], rfl⟩
theorem Lanes_ok (q : List Bool) (hq : q.length ≤ 1000) (up : Frs) : ACalls Try.prog 49 [.im (.sl (bools q))] up fun v u => v = .im (.sl (us (q.map fun b => if b then 1 else 0))) ∧ u = up := by
  have hc : (0 : Int) ≤ q.length := by omega
  have hm1 : ((8 : Nat) : Int) * (q.length : Int) ≤ 281474976710656 := by omega
  have hm2 : (q.length : Int) ≤ 9223372036854775807 := by omega
  refine ACalls.code Try.func49 rfl 22 rfl (by simp) [.tmp 2] rfl fun Q hQ => ?_
  simp only [ups, PV.up, argEnv]
  have ft := And.intro ty_3 (And.intro ty_4 (And.intro ty_71 (And.intro ty_98 (And.intro ty_171 trivial))))
  refine Run.seq ?_
  have fx := And.intro hm2 (And.intro hm1 (And.intro hc (And.intro bools_len ft)))
  refine Run.go ?_
  refine End.kp [0] ?_
  refine Run.seq ?_
  refine Run.go ?_
  refine End.kp [0, 3] ?_
  refine Run.seq ?_
  refine Run.seq ?_
  refine Run.go ?_
  refine End.kp [3, 9, 10, 11] ?_
  refine Run.block ?_
  refine Run.ghost (Ghost.form [(3, .ms 0 0 q.length), (9, .im (.sl (bools q))), (10, .i q.length), (11, .i (0 : Nat))] 1 ⟨rfl, rfl, rfl, rfl, trivial⟩ rfl rfl) ?_
  refine Run.loop (fun m s => ∃ (i : Nat), m = q.length - i ∧ i ≤ q.length ∧
    s = ⟨[(3, .ms 0 0 q.length), (9, .im (.sl (bools q))), (10, .i q.length), (11, .i (i : Nat))], [.row 171 1 ((q.take i).map b2u ++ List.replicate (q.length - i) [.int .u64 0]) 0], up⟩) q.length ⟨0, rfl, by omega, by simp⟩ fun m s hI => ?_
  obtain ⟨i, rfl, hi, rfl⟩ := hI
  have hrl := fill_len b2u q [.int .u64 0] i hi
  refine Run.seq ?_
  have fx := And.intro hrl (And.intro hm2 (And.intro hm1 (And.intro hc (And.intro bools_len ft))))
  refine Run.go ?_
  refine End.kp [3, 9, 10, 11, 12] ?_
  refine Run.seq ?_
  refine Run.cond _ rfl (fun hb => ?_) (fun hb => ?_)
  · have hb := of_decide_eq_true hb
    have hin : i < q.length := by omega
    have wi := wsucc hin (by omega)
    have hg := bools_get q i hin
    have hri := fill_get b2u q [.int .u64 0] i hin
    have hfm := fill_map b2u q [.int .u64 0] false i hin
    refine Run.skip ?_
    refine End.kp [3, 9, 10, 11] ?_
    refine Run.seq ?_
    refine Run.block ?_
    refine Run.seq ?_
    have fx := And.intro hri (And.intro hin (And.intro (@Int.ofNat_lt) (And.intro (@Int.natCast_nonneg) (And.intro hg (And.intro wi (And.intro hrl (And.intro hm2 (And.intro hm1 (And.intro hc (And.intro bools_len ft))))))))))
    refine Run.go ?_
    refine End.kp [3, 4, 5, 9, 10, 11] ?_
    refine Run.seq ?_
    refine Run.go ?_
    refine End.kp [3, 4, 9, 10, 11, 16] ?_
    refine Run.cond _ rfl (fun hb => ?_) (fun hb => ?_)
    · have hb := hb
      have fx := And.intro hri (And.intro hin (And.intro (@Int.ofNat_lt) (And.intro (@Int.natCast_nonneg) (And.intro hg (And.intro wi (And.intro hrl (And.intro hm2 (And.intro hm1 (And.intro hc (And.intro bools_len ft))))))))))
      refine Run.go ?_
      refine End.blk ?_
      refine End.kp [3, 9, 10, 11] ?_
      refine Run.go ?_
      refine End.lp ?_
      refine ⟨q.length - (i + 1), _, by omega, Ghost.form [(3, .ms 0 0 q.length), (9, .im (.sl (bools q))), (10, .i q.length), (11, .i (i + 1 : Nat))] 1 ⟨rfl, rfl, rfl, rfl, trivial⟩ rfl rfl, i + 1, rfl, by omega, ?_⟩
      rw [← hfm, hb]
      rfl
    · have hb := hb
      refine Run.skip ?_
      refine End.blk ?_
      refine End.kp [3, 9, 10, 11] ?_
      have fx := And.intro hri (And.intro hin (And.intro (@Int.ofNat_lt) (And.intro (@Int.natCast_nonneg) (And.intro hg (And.intro wi (And.intro hrl (And.intro hm2 (And.intro hm1 (And.intro hc (And.intro bools_len ft))))))))))
      refine Run.go ?_
      refine End.lp ?_
      refine ⟨q.length - (i + 1), _, by omega, Ghost.form [(3, .ms 0 0 q.length), (9, .im (.sl (bools q))), (10, .i q.length), (11, .i (i + 1 : Nat))] 1 ⟨rfl, rfl, rfl, rfl, trivial⟩ rfl rfl, i + 1, rfl, by omega, ?_⟩
      rw [← hfm, hb]
      have : ((q.take i).map b2u ++ List.replicate (q.length - i) [Im.int .u64 0]).set i (b2u false) = (q.take i).map b2u ++ List.replicate (q.length - i) [Im.int .u64 0] := by
        apply List.ext_getElem?
        intro k
        rw [List.getElem?_set]
        split
        · rename_i e
          subst e
          rw [hri, if_pos (by rw [hrl]; omega)]
          rfl
        · rfl
      rw [this]
      rfl
  · have hb := of_decide_eq_false hb
    have hiN : i = q.length := by omega
    subst hiN
    rw [fill_all, b2u_map] at hrl ⊢
    refine Run.exit rfl ?_
    refine End.kp [3] ?_
    refine Run.seq ?_
    refine Run.ghost (Ghost.shut (t := 3) (j := 0) rfl rfl hrl) ?_
    simp only [eput, edel]
    have fx := And.intro hrl (And.intro hm2 (And.intro hm1 (And.intro hc (And.intro bools_len ft))))
    refine Run.go ?_
    refine End.kp [2] ?_
    refine Run.ret (hQ _ _ ⟨.inr rfl, _, rfl, _, rfl, ?_⟩)
    exact ⟨rfl, rfl⟩
abbrev u2b (w : Int) : List Im := [.bool (bits .and .u64 w 1 == 1)]
theorem u2b_map (q : List Int) : q.map u2b = bools (q.map fun w => bits .and .u64 w 1 == 1) := by simp
theorem Lane_ok (q : List Int) (hq : q.length ≤ 1000) (up : Frs) : ACalls Try.prog 52 [.im (.sl (us q))] up fun v u => v = .im (.sl (bools (q.map fun w => bits .and .u64 w 1 == 1))) ∧ u = up := by
  have hc : (0 : Int) ≤ q.length := by omega
  have hm1 : ((1 : Nat) : Int) * (q.length : Int) ≤ 281474976710656 := by omega
  have hm2 : (q.length : Int) ≤ 9223372036854775807 := by omega
  refine ACalls.code Try.func52 rfl 24 rfl (by simp) [.tmp 2] rfl fun Q hQ => ?_
  simp only [ups, PV.up, argEnv]
  have ft := And.intro ty_3 (And.intro ty_4 (And.intro ty_71 (And.intro ty_98 (And.intro ty_171 trivial))))
  refine Run.seq ?_
  have fx := And.intro hm2 (And.intro hm1 (And.intro hc (And.intro us_len ft)))
  refine Run.go ?_
  refine End.kp [0] ?_
  refine Run.seq ?_
  refine Run.go ?_
  refine End.kp [0, 3] ?_
  refine Run.seq ?_
  refine Run.seq ?_
  refine Run.go ?_
  refine End.kp [3, 9, 10, 11] ?_
  refine Run.block ?_
  refine Run.ghost (Ghost.form [(3, .ms 0 0 q.length), (9, .im (.sl (us q))), (10, .i q.length), (11, .i (0 : Nat))] 1 ⟨rfl, rfl, rfl, rfl, trivial⟩ rfl rfl) ?_
  refine Run.loop (fun m s => ∃ (i : Nat), m = q.length - i ∧ i ≤ q.length ∧
    s = ⟨[(3, .ms 0 0 q.length), (9, .im (.sl (us q))), (10, .i q.length), (11, .i (i : Nat))], [.row 4 1 ((q.take i).map u2b ++ List.replicate (q.length - i) [.bool false]) 0], up⟩) q.length ⟨0, rfl, by omega, by simp⟩ fun m s hI => ?_
  obtain ⟨i, rfl, hi, rfl⟩ := hI
  have hrl := fill_len u2b q [.bool false] i hi
  refine Run.seq ?_
  have fx := And.intro hrl (And.intro hm2 (And.intro hm1 (And.intro hc (And.intro us_len ft))))
  refine Run.go ?_
  refine End.kp [3, 9, 10, 11, 12] ?_
  refine Run.seq ?_
  refine Run.cond _ rfl (fun hb => ?_) (fun hb => ?_)
  · have hb := of_decide_eq_true hb
    have hin : i < q.length := by omega
    have wi := wsucc hin (by omega)
    have hg := us_get q i hin
    have hri := fill_get u2b q [.bool false] i hin
    have hfm := fill_map u2b q [.bool false] 0 i hin
    refine Run.skip ?_
    refine End.kp [3, 9, 10, 11] ?_
    refine Run.seq ?_
    refine Run.block ?_
    refine Run.seq ?_
    have fx := And.intro hri (And.intro hin (And.intro (@Int.ofNat_lt) (And.intro (@Int.natCast_nonneg) (And.intro hg (And.intro wi (And.intro hrl (And.intro hm2 (And.intro hm1 (And.intro hc (And.intro us_len ft))))))))))
    refine Run.go ?_
    refine End.kp [3, 4, 5, 9, 10, 11] ?_
    refine Run.go ?_
    refine End.blk ?_
    refine End.kp [3, 9, 10, 11] ?_
    refine Run.go ?_
    refine End.lp ?_
    refine ⟨q.length - (i + 1), _, by omega, Ghost.form [(3, .ms 0 0 q.length), (9, .im (.sl (us q))), (10, .i q.length), (11, .i (i + 1 : Nat))] 1 ⟨rfl, rfl, rfl, rfl, trivial⟩ rfl rfl, i + 1, rfl, by omega, ?_⟩
    rw [← hfm]
    rfl
  · have hb := of_decide_eq_false hb
    have hiN : i = q.length := by omega
    subst hiN
    rw [fill_all, u2b_map] at hrl ⊢
    refine Run.exit rfl ?_
    refine End.kp [3] ?_
    refine Run.seq ?_
    refine Run.ghost (Ghost.shut (t := 3) (j := 0) rfl rfl hrl) ?_
    simp only [eput, edel]
    have fx := And.intro hrl (And.intro hm2 (And.intro hm1 (And.intro hc (And.intro us_len ft))))
    refine Run.go ?_
    refine End.kp [2] ?_
    refine Run.ret (hQ _ _ ⟨.inr rfl, _, rfl, _, rfl, ?_⟩)
    exact ⟨rfl, rfl⟩
structure NetSmall (n : LNet) : Prop where
  inn : n.inn.length ≤ 100
  out : n.out.length ≤ 100
  flops : n.flops.length ≤ 100
  gates : n.gates.length ≤ 100
  outs : n.outs.length ≤ 100
theorem First_ok (n : LNet) (hn : NetSmall n) (up : Frs) : ACalls Try.prog 124 [n.pv] up fun v u => v = .i (2 + n.inn.length + n.flops.length) ∧ u = up := by
  obtain ⟨z1, z2, z3, z4, z5⟩ := hn
  have w1 : IntKind.i64.wrap (2 + (n.inn.length : Int)) = 2 + (n.inn.length : Int) := wrap64 (by omega)
  have w2 : IntKind.i64.wrap (2 + (n.inn.length : Int) + n.flops.length) = 2 + (n.inn.length : Int) + n.flops.length := wrap64 (by omega)
  refine ACalls.code Try.func124 rfl 11 rfl (by simp) [.tmp 2] rfl fun Q hQ => ?_
  simp only [ups, PV.up, argEnv]
  have ft := And.intro ty_2 (And.intro ty_3 (And.intro ty_9 (And.intro ty_27 (And.intro ty_57 (And.intro ty_60 (And.intro ty_197 trivial))))))
  refine Run.seq ?_
  have fx := And.intro w2 (And.intro w1 (And.intro fim_len (And.intro strs_len ft)))
  refine Run.go ?_
  refine End.kp [1] ?_
  refine Run.seq ?_
  refine Run.go ?_
  refine End.kp [2] ?_
  refine Run.ret (hQ _ _ ⟨.inr rfl, _, rfl, _, rfl, ?_⟩)
  exact ⟨rfl, rfl⟩
theorem Nets_ok (n : LNet) (hn : NetSmall n) (up : Frs) : ACalls Try.prog 122 [n.pv] up fun v u => v = .i (2 + n.inn.length + n.flops.length + n.gates.length) ∧ u = up := by
  have hn2 := hn
  obtain ⟨z1, z2, z3, z4, z5⟩ := hn
  have w1 : IntKind.i64.wrap (2 + (n.inn.length : Int)) = 2 + (n.inn.length : Int) := wrap64 (by omega)
  have w2 : IntKind.i64.wrap (2 + (n.inn.length : Int) + n.flops.length) = 2 + (n.inn.length : Int) + n.flops.length := wrap64 (by omega)
  have w3 : IntKind.i64.wrap (2 + (n.inn.length : Int) + n.flops.length + n.gates.length) = 2 + (n.inn.length : Int) + n.flops.length + n.gates.length := wrap64 (by omega)
  refine ACalls.code Try.func122 rfl 9 rfl (by simp) [.tmp 2] rfl fun Q hQ => ?_
  simp only [ups, PV.up, argEnv]
  have ft := And.intro ty_3 (And.intro ty_58 (And.intro ty_60 (And.intro ty_200 trivial)))
  refine Run.seq ?_
  have fx := And.intro w3 (And.intro gim_len ft)
  refine Run.go ?_
  refine End.kp [1] ?_
  refine Run.seq ?_
  refine Run.drawA fun K hK => ?_
  refine DOps.sim ?_
  refine DOps.call (.i (2 + n.inn.length + n.flops.length)) [] [] rfl rfl rfl rfl (by kernel_rfl) (by simp [Agree]) (fun u hu => First_ok n hn2 u) ?_
  refine DOps.sim ?_
  refine DOps.nil (metAll_quiet rfl) (hK _ ?_); clear hK K
  refine End.kp [2] ?_
  refine Run.ret (hQ _ _ ⟨.inr rfl, _, rfl, _, rfl, ?_⟩)
  exact ⟨rfl, rfl⟩
end Go.Proofs.YtdgpmopcmacicaaPi

/- The walks of the functions that draw graphs. -/
set_option linter.unusedVariables false
set_option linter.unusedSimpArgs false
set_option maxRecDepth 100000
namespace Go.Proofs.YtdgpmopcmacicaaPi
set_option maxHeartbeats 2000000

structure LReg where
  name : ByteArray
  next : Int
  init : Bool
abbrev LReg.im (r : LReg) : List Im := [.str r.name, .int .i64 r.next, .bool r.init]
abbrev nd (p : Int × Int) : List Im := [.int .i64 p.1, .int .i64 p.2]
structure LGraph where
  inn : List ByteArray
  out : List ByteArray
  regs : List LReg
  ands : List (Int × Int)
  outs : List Int
abbrev LGraph.cells (g : LGraph) : List PV := [.im (.sl (strs g.inn)), .im (.sl (strs g.out)), .im (.sl (g.regs.map LReg.im)), .im (.sl (g.ands.map nd)), .im (.sl (ints g.outs))]
abbrev LGraph.pv (g : LGraph) : PV := .agg g.cells
theorem rim_len (l : List LReg) : (l.map LReg.im).length = l.length := by simp
theorem nd_len (l : List (Int × Int)) : (l.map nd).length = l.length := by simp

/-- Things drawn one after the other. -/
def drawN {α : Type} (f : Nat → Int → α × Int) (a : Int) : Nat → List α × Int
  | 0 => ([], a)
  | i + 1 => ((drawN f a i).1 ++ [(f i (drawN f a i).2).1], (f i (drawN f a i).2).2)
theorem drawN_len {α : Type} (f : Nat → Int → α × Int) (a : Int) : ∀ i, (drawN f a i).1.length = i
  | 0 => rfl
  | i + 1 => by simp [drawN, drawN_len f a i]
theorem drawN_mem {α : Type} (f : Nat → Int → α × Int) (a : Int) (Q : Nat → α → Prop) (h : ∀ i b, Q i (f i b).1) : ∀ n i x, (drawN f a n).1[i]? = some x → Q i x
  | 0, i, x, hx => by simp [drawN] at hx
  | n + 1, i, x, hx => by
    simp only [drawN, List.getElem?_append, drawN_len] at hx
    split at hx
    · exact drawN_mem f a Q h n i x hx
    · rename_i hi
      have : i - n = 0 := by
        have := (List.getElem?_eq_some_iff.1 hx).1
        simp at this
        omega
      rw [this] at hx
      simp at hx
      subst hx
      have : i = n := by omega
      subst this
      exact h i _

end Go.Proofs.YtdgpmopcmacicaaPi

/- The walks of Small, Moving, Played, spread; a drawn graph. -/
set_option linter.unusedVariables false
set_option linter.unusedSimpArgs false
set_option maxRecDepth 100000
namespace Go.Proofs.YtdgpmopcmacicaaPi
set_option maxHeartbeats 2000000
abbrev boolss (l : List (List Bool)) : List (List Im) := l.map fun r => [.sl (bools r)]
theorem boolss_len (l : List (List Bool)) : (boolss l).length = l.length := by simp
def playedV (l : List Int) (k : Nat) (a : Int) (n : Nat) : List (List Bool) × Int := drawN (fun _ b => (valsV l k b, b + k)) a n
theorem playedV_pos (l : List Int) (k : Nat) (a : Int) : ∀ n : Nat, (playedV l k a n).2 = a + k * n
  | 0 => by simp [playedV, drawN]
  | n + 1 => by
    have := playedV_pos l k a n
    have e : (playedV l k a (n + 1)).2 = (playedV l k a n).2 + k := rfl
    rw [e, this, Int.natCast_add, Int.mul_add]
    simp
    omega
theorem playedV_len (l : List Int) (k : Nat) (a : Int) (n : Nat) : (playedV l k a n).1.length = n := drawN_len _ _ _
theorem playedV_row (l : List Int) (k : Nat) (a : Int) (n : Nat) : ∀ r ∈ (playedV l k a n).1, r.length = k := by
  intro r hr
  obtain ⟨i, hi⟩ := List.mem_iff_getElem?.1 hr
  exact drawN_mem _ a (fun _ x => x.length = k) (fun i b => valsV_len l k b) n i r hi
-- GONE r_ok
theorem Played_ok (n k : Nat) (hn : n ≤ 200) (hk : k ≤ 100) (l : List Int) (a : Int) (hs : StmOk l a) (hf : a + 40000 < 1099511627776) (up : Frs) (d j : Nat) (hl : fget up d j = some (stm l a)) :
    ACalls Try.prog 27 [.ptr d j 0, .i n, .i k] up fun v u => v = .im (.sl (boolss (playedV l k a n).1)) ∧ u = fset up d j (stm l (playedV l k a n).2) := by
  have hset : ∀ o, fget (fset up d j o) d j = some o := fun o => fget_fset_same _ _ _ _ _ hl
  have hp := hs.pos
  refine ACalls.code Try.func27 rfl 19 rfl (by simp) [.tmp 6] rfl fun Q hQ => ?_
  simp only [ups, PV.up, argEnv]
  have ft := And.intro ty_3 (And.intro ty_4 (And.intro ty_23 (And.intro ty_63 (And.intro ty_71 trivial))))
  refine Run.seq ?_
  have fx := And.intro hset (And.intro hl ft)
  refine Run.go ?_
  refine End.kp [0, 1, 2] ?_
  refine Run.seq ?_
  refine Run.go ?_
  refine End.kp [0, 1, 2, 7] ?_
  refine Run.seq ?_
  refine Run.seq ?_
  refine Run.go ?_
  refine End.kp [0, 2, 7, 8, 9] ?_
  refine Run.block ?_
  refine Run.ghost (Ghost.thaw (u := 7) 71 1 (by decide) rfl) ?_
  refine Run.ghost (Ghost.form [(0, .ptr (d + 1) j 0), (2, .i k), (7, .ms 0 0 (0)), (8, .i n), (9, .i (0 : Nat))] 1 ⟨rfl, rfl, rfl, rfl, rfl, trivial⟩ rfl rfl) ?_
  refine Run.loop (fun m s => ∃ i : Nat, m = n - i ∧ i ≤ n ∧ s = ⟨[(0, .ptr (d + 1) j 0), (2, .i k), (7, .ms 0 0 (i)), (8, .i n), (9, .i (i : Nat))], [.row 71 1 (boolss (playedV l k a i).1) 0], fset up d j (stm l (playedV l k a i).2)⟩) n ⟨0, rfl, by omega, by rw [show (playedV l k a 0) = ([], a) from rfl]; simp only; rw [fset_self up d j _ hl]; rfl⟩ fun m s hI => ?_
  obtain ⟨i, rfl, hi, rfl⟩ := hI
  have hsl : (boolss (playedV l k a i).1).length = i := by rw [boolss_len, playedV_len]
  have hpp := playedV_pos l k a i
  have hki : ((k : Int) * i) ≤ 100 * 200 := by
    have h1 : (k : Int) * i ≤ 100 * (i : Int) := Int.mul_le_mul_of_nonneg_right (by omega) (by omega)
    omega
  have hki0 : 0 ≤ (k : Int) * i := Int.mul_nonneg (by omega) (by omega)
  generalize hc : (playedV l k a i).2 = c at hpp
  have hs0 : StmOk l c := ⟨hs.vals, hs.len, by omega, by omega⟩
  have hap : (i + 1) * 24 ≤ 140737488355328 := by omega
  refine Run.seq ?_
  have fx := And.intro hap (And.intro hsl (And.intro hset (And.intro hl ft)))
  refine Run.go ?_
  refine End.kp [0, 2, 7, 8, 9, 10] ?_
  refine Run.seq ?_
  refine Run.cond _ rfl (fun hb => ?_) (fun hb => ?_)
  · have hb := of_decide_eq_true hb
    have hin : i < n := by omega
    have wi := wsucc hin (by omega)
    refine Run.skip ?_
    refine End.kp [0, 2, 7, 8, 9] ?_
    refine Run.seq ?_
    refine Run.block ?_
    have fx := And.intro wi (And.intro hap (And.intro hsl (And.intro hset (And.intro hl ft))))
    refine Run.region rfl fun K hK => GOps.sim ?_
    refine GOps.call rfl rfl rfl rfl (by kernel_rfl) (ACalls.sim ?_)
    refine (Values_ok k (by omega) l c hs0 (by omega) _ (d + 1) j (hset _)).mono fun v u hv => ?_
    obtain ⟨rfl, rfl⟩ := hv
    refine ⟨_, _, rfl, GOps.sim ?_⟩
    refine GOps.done (hK _ ?_); clear hK K
    refine End.blk ?_
    refine End.kp [0, 2, 7, 8, 9] ?_
    refine Run.go ?_
    refine End.lp ?_
    refine ⟨n - (i + 1), _, by omega, Ghost.form [(0, .ptr (d + 1) j 0), (2, .i k), (7, .ms 0 0 ((i + 1))), (8, .i n), (9, .i (i + 1 : Nat))] 1 ⟨rfl, rfl, rfl, rfl, rfl, trivial⟩ rfl rfl, i + 1, rfl, by omega, ?_⟩
    have e1 : playedV l k a (i + 1) = ((playedV l k a i).1 ++ [valsV l k c], c + k) := by rw [← hc]; rfl
    rw [e1]
    simp
  · have hb := of_decide_eq_false hb
    have hiN : i = n := by omega
    subst hiN
    refine Run.exit rfl ?_
    refine End.kp [7] ?_
    refine Run.seq ?_
    refine Run.ghost (Ghost.shut (t := 7) (j := 0) rfl rfl hsl) ?_
    simp only [eput, edel]
    have fx := And.intro hap (And.intro hsl (And.intro hset (And.intro hl ft)))
    refine Run.go ?_
    refine End.kp [6] ?_
    refine Run.ret (hQ _ _ ⟨.inr rfl, _, rfl, _, rfl, ?_⟩)
    exact ⟨rfl, by rw [hc]⟩
theorem boolss_at (q : List (List Bool)) (i : Nat) (h : i < q.length) : ∃ r, q[i]? = some r ∧ r ∈ q ∧ q.getD i [] = r ∧ (boolss q)[i]? = some [.sl (bools r)] :=
  ⟨q[i], List.getElem?_eq_getElem h, List.getElem_mem h, by simp [h], by simp [h]⟩
-- GONE spread_ok
end Go.Proofs.YtdgpmopcmacicaaPi

/- The walks of the tables of netlists: Mask, look, Look, nets. -/
set_option linter.unusedVariables false
set_option linter.unusedSimpArgs false
set_option maxRecDepth 100000
namespace Go.Proofs.YtdgpmopcmacicaaPi

theorem small_pow : ∀ k : Nat, k ≤ 6 → (2 : Int) ^ k ≤ 64 ∧ (1 : Int) ≤ 2 ^ k := by
  intro k hk
  have : k = 0 ∨ k = 1 ∨ k = 2 ∨ k = 3 ∨ k = 4 ∨ k = 5 ∨ k = 6 := by omega
  rcases this with rfl | rfl | rfl | rfl | rfl | rfl | rfl <;> decide
theorem small_pow2 : ∀ k : Nat, k < 6 → IntKind.u64.wrap (1 * 2 ^ ((2 : Int) ^ k).toNat) = 2 ^ ((2 : Int) ^ k).toNat ∧ IntKind.u64.wrap (2 ^ ((2 : Int) ^ k).toNat - 1) = 2 ^ ((2 : Int) ^ k).toNat - 1 := by
  intro k hk
  have : k = 0 ∨ k = 1 ∨ k = 2 ∨ k = 3 ∨ k = 4 ∨ k = 5 := by omega
  rcases this with rfl | rfl | rfl | rfl | rfl | rfl <;> decide
def lookIns (k : Nat) : List Int → Nat → Int → Int
  | [], _, all => all
  | v :: vs, i, all => lookIns k vs (i + 1) (if bits .and .i64 ((k : Int).fdiv (2 ^ min i IntKind.i64.bits)) 1 == 1 then bits .and .u64 all v else bits .andNot .u64 all v)
def lookOut (table : Int) (ins : List Int) : Nat → Nat → Int → Int
  | 0, _, out => out
  | n + 1, k, out => lookOut table ins n (k + 1) (if bits .and .u64 (table.fdiv (2 ^ min k IntKind.u64.bits)) 1 == 0 then out else bits .or .u64 out (lookIns k ins 0 18446744073709551615))
def lookV (table : Int) (ins : List Int) : Int := lookOut table ins (2 ^ ins.length) 0 0
theorem Mask_ok (k : Nat) (hk : k ≤ 6) (up : Frs) : ACalls Try.prog 127 [.i k] up fun v u => v = .u (2 ^ ((2 : Int) ^ k).toNat - 1) ∧ u = up := by
  have d1 : decide ((k : Int) < 0) = false := decide_eq_false (by omega)
  have d2 : decide ((k : Int) > 6) = false := decide_eq_false (by omega)
  have d3 : ¬ ((k : Int) < 0) := by omega
  refine ACalls.code Try.func127 rfl 17 rfl (by simp) [.tmp 2] rfl fun Q hQ => ?_
  simp only [ups, PV.up, argEnv]
  have ft := And.intro ty_3 (And.intro ty_4 (And.intro ty_171 (And.intro ty_198 trivial)))
  refine Run.seq ?_
  have fx := And.intro d2 (And.intro d1 ft)
  refine Run.go ?_
  refine End.kp [0] ?_
  refine Run.seq ?_
  refine Run.block ?_
  refine Run.seq ?_
  refine Run.go ?_
  refine End.kp [0, 3] ?_
  refine Run.cond _ rfl (fun hb => ?_) (fun hb => ?_)
  · have hb := hb
    simp at hb
  · have hb := hb
    refine Run.seq ?_
    have fx := And.intro d2 (And.intro d1 ft)
    refine Run.go ?_
    refine End.kp [0, 10] ?_
    refine Run.cond _ rfl (fun hb => ?_) (fun hb => ?_)
    · have hb : (k : Int) = 6 := eq_of_beq hb
      refine Run.seq ?_
      have fx := And.intro d2 (And.intro d1 ft)
      refine Run.go ?_
      refine End.kp [2] ?_
      refine Run.ret (hQ _ _ ⟨.inr rfl, _, rfl, _, rfl, ?_⟩)
      have : k = 6 := by omega
      subst this
      exact ⟨rfl, rfl⟩
    · have hb : ¬ (k : Int) = 6 := fun e => by simp [e] at hb
      have hk5 : k < 6 := by omega
      obtain ⟨p1, p2⟩ := small_pow k hk
      obtain ⟨w2, w3⟩ := small_pow2 k hk5
      have hm : min k IntKind.u64.bits = k := by simp only [IntKind.bits]; omega
      have hle : ((2 : Int) ^ k).toNat ≤ 64 := by
        generalize (2 : Int) ^ k = z at p1
        omega
      have hm2 : min ((2 : Int) ^ k).toNat IntKind.u64.bits = ((2 : Int) ^ k).toNat := Nat.min_eq_left (by simp only [IntKind.bits]; exact hle)
      have w1 : IntKind.u64.wrap (1 * 2 ^ k) = 2 ^ k := by rw [Int.one_mul]; exact wrapU (by omega)
      have hp0 : ¬ ((2 : Int) ^ k < 0) := by omega
      refine Run.skip ?_
      refine End.blk ?_
      refine End.kp [0] ?_
      refine Run.seq ?_
      have fx := And.intro hp0 (And.intro w3 (And.intro w2 (And.intro w1 (And.intro hm2 (And.intro hm (And.intro d3 (And.intro d2 (And.intro d1 ft))))))))
      refine Run.go ?_
      refine End.kp [2] ?_
      refine Run.ret (hQ _ _ ⟨.inr rfl, _, rfl, _, rfl, ?_⟩)
      exact ⟨rfl, rfl⟩
theorem look_ok (table : Int) (ins : List Int) (hn : ins.length ≤ 6) (up : Frs) : ACalls Try.prog 129 [.u table, .im (.sl (us ins))] up fun v u => v = .u (lookV table ins) ∧ u = up := by
  obtain ⟨p1, p2⟩ := small_pow ins.length hn
  have hcast : ((2 ^ ins.length : Nat) : Int) = (2 : Int) ^ ins.length := Int.natCast_pow 2 ins.length
  have hm : min ins.length IntKind.i64.bits = ins.length := by simp only [IntKind.bits]; omega
  have wsh : IntKind.i64.wrap (1 * 2 ^ ins.length) = ((2 ^ ins.length : Nat) : Int) := by rw [Int.one_mul, hcast]; exact wrap64 (by omega)
  have hn0 : ¬ ((ins.length : Int) < 0) := by omega
  have hN64 : 2 ^ ins.length ≤ 64 := by omega
  refine ACalls.code Try.func129 rfl 45 rfl (by simp) [.tmp 4] rfl fun Q hQ => ?_
  simp only [ups, PV.up, argEnv]
  have ft := And.intro ty_3 (And.intro ty_4 (And.intro ty_98 (And.intro ty_171 trivial)))
  refine Run.seq ?_
  have fx := And.intro (@Int.toNat_natCast) (And.intro hn0 (And.intro wsh (And.intro hm (And.intro us_len ft))))
  refine Run.go ?_
  refine End.kp [0, 1] ?_
  refine Run.seq ?_
  refine Run.go ?_
  refine End.kp [0, 1, 5] ?_
  refine Run.seq ?_
  refine Run.seq ?_
  refine Run.go ?_
  refine End.kp [0, 1, 5, 12, 13] ?_
  refine Run.block ?_
  refine Run.ghost (Ghost.form [(0, .u table), (1, .im (.sl (us ins))), (5, .u 0), (12, .i ((2 ^ ins.length : Nat) : Int)), (13, .i (0 : Nat))] 0 ⟨rfl, rfl, rfl, rfl, rfl, trivial⟩ rfl rfl) ?_
  refine Run.loop (fun m s => ∃ (k : Nat) (out : Int), m = 2 ^ ins.length - k ∧ k ≤ 2 ^ ins.length ∧ lookOut table ins (2 ^ ins.length - k) k out = lookV table ins ∧ s = ⟨[(0, .u table), (1, .im (.sl (us ins))), (5, .u out), (12, .i ((2 ^ ins.length : Nat) : Int)), (13, .i (k : Nat))], [], up⟩) (2 ^ ins.length) ⟨0, 0, by omega, by omega, rfl, rfl⟩ fun m s hI => ?_
  obtain ⟨k, out, rfl, hk, hL, rfl⟩ := hI
  have hk0 : ¬ ((k : Int) < 0) := by omega
  refine Run.seq ?_
  have fx := And.intro hk0 (And.intro (@Int.toNat_natCast) (And.intro hn0 (And.intro wsh (And.intro hm (And.intro us_len ft)))))
  refine Run.go ?_
  refine End.kp [0, 1, 5, 12, 13, 14] ?_
  refine Run.seq ?_
  refine Run.cond _ rfl (fun hb => ?_) (fun hb => ?_)
  · have hb := of_decide_eq_true hb
    have hkN : k < 2 ^ ins.length := by omega
    have wk := wsucc hkN (by omega)
    have hLs : lookOut table ins (2 ^ ins.length - k) k out = lookOut table ins (2 ^ ins.length - (k + 1)) (k + 1) (if bits .and .u64 (table.fdiv (2 ^ min k IntKind.u64.bits)) 1 == 0 then out else bits .or .u64 out (lookIns k ins 0 18446744073709551615)) := by
      rw [show 2 ^ ins.length - k = 2 ^ ins.length - (k + 1) + 1 by omega]
      rfl
    rw [hLs] at hL
    refine Run.skip ?_
    refine End.kp [0, 1, 5, 12, 13] ?_
    refine Run.seq ?_
    refine Run.block ?_
    refine Run.seq ?_
    have fx := And.intro wk (And.intro hk0 (And.intro (@Int.toNat_natCast) (And.intro hn0 (And.intro wsh (And.intro hm (And.intro us_len ft))))))
    refine Run.go ?_
    refine End.kp [0, 1, 5, 6, 12, 13] ?_
    refine Run.seq ?_
    refine Run.seq ?_
    refine Run.go ?_
    refine End.kp [0, 1, 5, 6, 12, 13, 20] ?_
    refine Run.cond _ rfl (fun hb => ?_) (fun hb => ?_)
    · have hb := hb
      rw [if_pos hb] at hL
      refine Run.exit rfl ?_
      refine End.kp [0, 1, 5, 12, 13] ?_
      have fx := And.intro wk (And.intro hk0 (And.intro (@Int.toNat_natCast) (And.intro hn0 (And.intro wsh (And.intro hm (And.intro us_len ft))))))
      refine Run.go ?_
      refine End.lp ?_
      refine ⟨2 ^ ins.length - (k + 1), _, by omega, Ghost.form [(0, .u table), (1, .im (.sl (us ins))), (5, .u out), (12, .i ((2 ^ ins.length : Nat) : Int)), (13, .i (k + 1 : Nat))] 0 ⟨rfl, rfl, rfl, rfl, rfl, trivial⟩ rfl rfl, k + 1, out, rfl, by omega, hL, rfl⟩
    · have hb := hb
      rw [if_neg (by rw [hb]; simp)] at hL
      refine Run.skip ?_
      refine End.kp [0, 1, 5, 6, 12, 13] ?_
      refine Run.seq ?_
      have fx := And.intro wk (And.intro hk0 (And.intro (@Int.toNat_natCast) (And.intro hn0 (And.intro wsh (And.intro hm (And.intro us_len ft))))))
      refine Run.go ?_
      refine End.kp [0, 1, 5, 6, 7, 12, 13] ?_
      refine Run.seq ?_
      refine Run.seq ?_
      refine Run.go ?_
      refine End.kp [0, 1, 5, 6, 7, 12, 13, 21, 22, 23] ?_
      refine Run.block ?_
      refine Run.ghost (Ghost.form [(0, .u table), (1, .im (.sl (us ins))), (5, .u out), (6, .i (k : Nat)), (7, .u 18446744073709551615), (12, .i ((2 ^ ins.length : Nat) : Int)), (13, .i (k : Nat)), (21, .im (.sl (us ins))), (22, .i ins.length), (23, .i (0 : Nat))] 0 ⟨rfl, rfl, rfl, rfl, rfl, rfl, rfl, rfl, rfl, rfl, trivial⟩ rfl rfl) ?_
      refine Run.loop (fun m s => ∃ (i : Nat) (all : Int), m = ins.length - i ∧ i ≤ ins.length ∧ lookIns k (ins.drop i) i all = lookIns k ins 0 18446744073709551615 ∧ s = ⟨[(0, .u table), (1, .im (.sl (us ins))), (5, .u out), (6, .i (k : Nat)), (7, .u all), (12, .i ((2 ^ ins.length : Nat) : Int)), (13, .i (k : Nat)), (21, .im (.sl (us ins))), (22, .i ins.length), (23, .i (i : Nat))], [], up⟩) ins.length ⟨0, _, by omega, by omega, rfl, rfl⟩ fun m s hI => ?_
      obtain ⟨i, all, rfl, hi, hA, rfl⟩ := hI
      have hi0 : ¬ ((i : Int) < 0) := by omega
      refine Run.seq ?_
      have fx := And.intro hi0 (And.intro wk (And.intro hk0 (And.intro (@Int.toNat_natCast) (And.intro hn0 (And.intro wsh (And.intro hm (And.intro us_len ft)))))))
      refine Run.go ?_
      refine End.kp [0, 1, 5, 6, 7, 12, 13, 21, 22, 23, 24] ?_
      refine Run.seq ?_
      refine Run.cond _ rfl (fun hb => ?_) (fun hb => ?_)
      · have hb := of_decide_eq_true hb
        have hin : i < ins.length := by omega
        have wi := wsucc hin (by omega)
        have hg := us_get ins i hin
        rw [drop_getD ins i 0 hin, lookIns] at hA
        generalize ins.getD i 0 = v at hg hA
        refine Run.skip ?_
        refine End.kp [0, 1, 5, 6, 7, 12, 13, 21, 22, 23] ?_
        refine Run.seq ?_
        refine Run.block ?_
        refine Run.seq ?_
        have fx := And.intro (@Int.natCast_nonneg) (And.intro hg (And.intro wi (And.intro hi0 (And.intro wk (And.intro hk0 (And.intro (@Int.toNat_natCast) (And.intro hn0 (And.intro wsh (And.intro hm (And.intro us_len ft))))))))))
        refine Run.go ?_
        refine End.kp [0, 1, 5, 6, 7, 8, 9, 12, 13, 21, 22, 23] ?_
        refine Run.seq ?_
        refine Run.go ?_
        refine End.kp [0, 1, 5, 6, 7, 9, 12, 13, 21, 22, 23, 32] ?_
        refine Run.cond _ rfl (fun hb => ?_) (fun hb => ?_)
        · have hb := hb
          rw [if_pos hb] at hA
          have fx := And.intro (@Int.natCast_nonneg) (And.intro hg (And.intro wi (And.intro hi0 (And.intro wk (And.intro hk0 (And.intro (@Int.toNat_natCast) (And.intro hn0 (And.intro wsh (And.intro hm (And.intro us_len ft))))))))))
          refine Run.go ?_
          refine End.blk ?_
          refine End.kp [0, 1, 5, 6, 7, 12, 13, 21, 22, 23] ?_
          refine Run.go ?_
          refine End.lp ?_
          refine ⟨ins.length - (i + 1), _, by omega, Ghost.form [(0, .u table), (1, .im (.sl (us ins))), (5, .u out), (6, .i (k : Nat)), (7, .u (bits .and .u64 all v)), (12, .i ((2 ^ ins.length : Nat) : Int)), (13, .i (k : Nat)), (21, .im (.sl (us ins))), (22, .i ins.length), (23, .i (i + 1 : Nat))] 0 ⟨rfl, rfl, rfl, rfl, rfl, rfl, rfl, rfl, rfl, rfl, trivial⟩ rfl rfl, i + 1, _, rfl, by omega, hA, rfl⟩
        · have hb := hb
          rw [if_neg (by rw [hb]; simp)] at hA
          have fx := And.intro (@Int.natCast_nonneg) (And.intro hg (And.intro wi (And.intro hi0 (And.intro wk (And.intro hk0 (And.intro (@Int.toNat_natCast) (And.intro hn0 (And.intro wsh (And.intro hm (And.intro us_len ft))))))))))
          refine Run.go ?_
          refine End.blk ?_
          refine End.kp [0, 1, 5, 6, 7, 12, 13, 21, 22, 23] ?_
          refine Run.go ?_
          refine End.lp ?_
          refine ⟨ins.length - (i + 1), _, by omega, Ghost.form [(0, .u table), (1, .im (.sl (us ins))), (5, .u out), (6, .i (k : Nat)), (7, .u (bits .andNot .u64 all v)), (12, .i ((2 ^ ins.length : Nat) : Int)), (13, .i (k : Nat)), (21, .im (.sl (us ins))), (22, .i ins.length), (23, .i (i + 1 : Nat))] 0 ⟨rfl, rfl, rfl, rfl, rfl, rfl, rfl, rfl, rfl, rfl, trivial⟩ rfl rfl, i + 1, _, rfl, by omega, hA, rfl⟩
      · have hb := of_decide_eq_false hb
        have hiN : i = ins.length := by omega
        subst hiN
        rw [List.drop_length, lookIns] at hA
        rw [← hA] at hL
        refine Run.exit rfl ?_
        refine End.kp [0, 1, 5, 7, 12, 13] ?_
        have fx := And.intro hi0 (And.intro wk (And.intro hk0 (And.intro (@Int.toNat_natCast) (And.intro hn0 (And.intro wsh (And.intro hm (And.intro us_len ft)))))))
        refine Run.go ?_
        refine End.blk ?_
        refine End.kp [0, 1, 5, 12, 13] ?_
        refine Run.go ?_
        refine End.lp ?_
        refine ⟨2 ^ ins.length - (k + 1), _, by omega, Ghost.form [(0, .u table), (1, .im (.sl (us ins))), (5, .u (bits .or .u64 out all)), (12, .i ((2 ^ ins.length : Nat) : Int)), (13, .i (k + 1 : Nat))] 0 ⟨rfl, rfl, rfl, rfl, rfl, trivial⟩ rfl rfl, k + 1, _, rfl, by omega, hL, rfl⟩
  · have hb := of_decide_eq_false hb
    have hkN : k = 2 ^ ins.length := by omega
    subst hkN
    rw [Nat.sub_self, lookOut] at hL
    refine Run.exit rfl ?_
    refine End.kp [5] ?_
    refine Run.seq ?_
    have fx := And.intro hk0 (And.intro (@Int.toNat_natCast) (And.intro hn0 (And.intro wsh (And.intro hm (And.intro us_len ft)))))
    refine Run.go ?_
    refine End.kp [4] ?_
    refine Run.ret (hQ _ _ ⟨.inr rfl, _, rfl, _, rfl, ?_⟩)
    exact ⟨by rw [hL], rfl⟩
-- GONE Look_ok
-- GONE nets_ok
end Go.Proofs.YtdgpmopcmacicaaPi

/- The walks of clones of names, of Name, Names and ends. -/
set_option linter.unusedVariables false
set_option linter.unusedSimpArgs false
set_option maxRecDepth 100000
namespace Go.Proofs.YtdgpmopcmacicaaPi
theorem CloneS_nil (up : Frs) : ACalls Try.prog 70 [.im (.sl (strs []))] up fun v u => v = .im (.sl (strs [])) ∧ u = up := by
  refine ACalls.code Try.func70 rfl 8 rfl (by simp) [.tmp 2] rfl fun Q hQ => ?_
  simp only [ups, PV.up, argEnv]
  have ft := And.intro ty_4 (And.intro ty_9 (And.intro ty_27 trivial))
  refine Run.seq ?_
  have fx := And.intro (@List.map_nil.{0, 0}) ft
  refine Run.go ?_
  refine End.kp [0] ?_
  refine Run.seq ?_
  refine Run.seq ?_
  refine Run.go ?_
  refine End.kp [0, 4] ?_
  refine Run.cond_any rfl ?_ ?_
  · skip
    refine Run.seq ?_
    have fx := And.intro (@List.map_nil.{0, 0}) ft
    refine Run.go ?_
    refine End.kp [2] ?_
    refine Run.resC hQ ?_
    exact ⟨rfl, rfl⟩
  · skip
    refine Run.skip ?_
    refine End.kp [0] ?_
    refine Run.seq ?_
    have fx := And.intro (@List.map_nil.{0, 0}) ft
    refine Run.go ?_
    refine End.kp [2] ?_
    refine Run.resC hQ ?_
    exact ⟨rfl, rfl⟩
theorem CloneS_cons (x : ByteArray) (xs : List ByteArray) (h : xs.length ≤ 1000000) (up : Frs) : ACalls Try.prog 70 [.im (.sl (strs (x :: xs)))] up fun v u => v = .im (.sl (strs (x :: xs))) ∧ u = up := by
  have hall : (strs xs).all (fun r => r.length == 1) = true := by simp
  have hlen : ((xs.map fun s => [Im.str s]).length + 1) * 16 ≤ 140737488355328 := by rw [List.length_map]; omega
  refine ACalls.code Try.func70 rfl 8 rfl (by simp) [.tmp 2] rfl fun Q hQ => ?_
  simp only [ups, PV.up, argEnv]
  have ft := And.intro ty_4 (And.intro ty_9 (And.intro ty_27 trivial))
  refine Run.seq ?_
  have fx := And.intro hlen (And.intro hall (And.intro (@List.map_cons.{0, 0}) ft))
  refine Run.go ?_
  refine End.kp [0] ?_
  refine Run.seq ?_
  refine Run.seq ?_
  refine Run.go ?_
  refine End.kp [0, 4] ?_
  refine Run.cond _ rfl (fun hb => ?_) (fun hb => ?_)
  · have hb := hb
    simp at hb
  · have hb := hb
    refine Run.skip ?_
    refine End.kp [0] ?_
    refine Run.seq ?_
    have fx := And.intro hlen (And.intro hall (And.intro (@List.map_cons.{0, 0}) ft))
    refine Run.go ?_
    refine End.move (Ghost.shut (t := 2) (j := 0) rfl rfl rfl) ?_
    simp only [eput, edel]
    refine End.kp [2] ?_
    refine Run.ret (hQ _ _ ⟨.inr rfl, _, rfl, _, rfl, ?_⟩)
    exact ⟨rfl, rfl⟩
theorem CloneS_ok (q : List ByteArray) (h : q.length ≤ 1000000) (up : Frs) : ACalls Try.prog 70 [.im (.sl (strs q))] up fun v u => v = .im (.sl (strs q)) ∧ u = up := by
  cases q with
  | nil => exact CloneS_nil up
  | cons x xs => exact CloneS_cons x xs (by simp at h; omega) up
/-- A name that may be: 1 to 128 letters from 33 to 126. -/
structure NameOk (s : ByteArray) : Prop where
  low : 1 ≤ s.size
  high : s.size ≤ 128
  chars : ∀ b ∈ s.data.toList, 33 ≤ b.toNat ∧ b.toNat ≤ 126
theorem byteRows_len (s : ByteArray) : (byteRows s).length = s.size := by simp [byteRows]
theorem byteRows_get (s : ByteArray) (h : NameOk s) (i : Nat) (hi : i < s.size) : ∃ b : Int, 33 ≤ b ∧ b ≤ 126 ∧ (byteRows s)[i]? = some [.int .u8 b] := by
  have hi2 : i < s.data.toList.length := by simpa using hi
  refine ⟨(s.data.toList[i]).toNat, ?_, ?_, ?_⟩
  · have := (h.chars _ (List.getElem_mem hi2)).1; omega
  · have := (h.chars _ (List.getElem_mem hi2)).2; omega
  · simp only [byteRows, List.getElem?_map, List.getElem?_eq_getElem hi2, Option.map_some]
theorem Name_ok (s : ByteArray) (hs : NameOk s) (up : Frs) : ACalls Try.prog 155 [.im (.str s)] up fun v u => v = .im (.bool true) ∧ u = up := by
  have hlow := hs.low
  have hhigh := hs.high
  have d1 : decide ((s.size : Int) < 1) = false := decide_eq_false (by omega)
  have d2 : decide ((s.size : Int) > 128) = false := decide_eq_false (by omega)
  refine ACalls.code Try.func155 rfl 27 rfl (by simp) [.tmp 2] rfl fun Q hQ => ?_
  simp only [ups, PV.up, argEnv]
  have ft := And.intro ty_3 (And.intro ty_4 (And.intro ty_5 (And.intro ty_9 (And.intro ty_114 trivial))))
  refine Run.seq ?_
  have fx := And.intro byteRows_len (And.intro d2 (And.intro d1 ft))
  refine Run.go ?_
  refine End.kp [0] ?_
  refine Run.seq ?_
  refine Run.seq ?_
  refine Run.go ?_
  refine End.kp [0, 12] ?_
  refine Run.cond _ rfl (fun hb => ?_) (fun hb => ?_)
  · have hb := hb
    simp at hb
  · have hb := hb
    refine Run.skip ?_
    refine End.kp [0] ?_
    refine Run.seq ?_
    refine Run.seq ?_
    have fx := And.intro byteRows_len (And.intro d2 (And.intro d1 ft))
    refine Run.go ?_
    refine End.kp [14, 15, 16] ?_
    refine Run.block ?_
    refine Run.ghost (Ghost.form [(14, .im (.sl (byteRows s))), (15, .i s.size), (16, .i (0 : Nat))] 0 ⟨rfl, rfl, rfl, trivial⟩ rfl rfl) ?_
    refine Run.loop (fun m st => ∃ (i : Nat), m = s.size - i ∧ i ≤ s.size ∧ st = ⟨[(14, .im (.sl (byteRows s))), (15, .i s.size), (16, .i (i : Nat))], [], up⟩) s.size ⟨0, rfl, by omega, rfl⟩ fun m st hI => ?_
    obtain ⟨i, rfl, hi, rfl⟩ := hI
    refine Run.seq ?_
    have fx := And.intro byteRows_len (And.intro d2 (And.intro d1 ft))
    refine Run.go ?_
    refine End.kp [14, 15, 16, 17] ?_
    refine Run.seq ?_
    refine Run.cond _ rfl (fun hb => ?_) (fun hb => ?_)
    · have hb := of_decide_eq_true hb
      have hin : i < s.size := by omega
      have wi := wsucc hin (by omega)
      obtain ⟨b, b1, b2, hg⟩ := byteRows_get s hs i hin
      have d3 : decide (b < 33) = false := decide_eq_false (by omega)
      have d4 : decide (b > 126) = false := decide_eq_false (by omega)
      refine Run.skip ?_
      refine End.kp [14, 15, 16] ?_
      refine Run.seq ?_
      refine Run.block ?_
      refine Run.seq ?_
      have fx := And.intro (@Int.toNat_natCast) (And.intro (@Int.natCast_nonneg) (And.intro d4 (And.intro d3 (And.intro hg (And.intro wi (And.intro byteRows_len (And.intro d2 (And.intro d1 ft))))))))
      refine Run.go ?_
      refine End.kp [4, 14, 15, 16] ?_
      refine Run.seq ?_
      refine Run.go ?_
      refine End.kp [14, 15, 16, 25] ?_
      refine Run.cond _ rfl (fun hb => ?_) (fun hb => ?_)
      · have hb := hb
        simp at hb
      · have hb := hb
        refine Run.skip ?_
        refine End.blk ?_
        refine End.kp [14, 15, 16] ?_
        have fx := And.intro (@Int.toNat_natCast) (And.intro (@Int.natCast_nonneg) (And.intro d4 (And.intro d3 (And.intro hg (And.intro wi (And.intro byteRows_len (And.intro d2 (And.intro d1 ft))))))))
        refine Run.go ?_
        refine End.lp ?_
        refine ⟨s.size - (i + 1), _, by omega, Ghost.form [(14, .im (.sl (byteRows s))), (15, .i s.size), (16, .i (i + 1 : Nat))] 0 ⟨rfl, rfl, rfl, trivial⟩ rfl rfl, i + 1, rfl, by omega, rfl⟩
    · have hb := of_decide_eq_false hb
      refine Run.exit rfl ?_
      refine End.kp [] ?_
      refine Run.seq ?_
      have fx := And.intro byteRows_len (And.intro d2 (And.intro d1 ft))
      refine Run.go ?_
      refine End.kp [2] ?_
      refine Run.ret (hQ _ _ ⟨.inr rfl, _, rfl, _, rfl, ?_⟩)
      exact ⟨rfl, rfl⟩
def ents (l : List ByteArray) : List (List Im × Im) := l.map fun s => ([.str s], .int .i64 1)
theorem same_ne (s x : ByteArray) (h : x ≠ s) : sameIm Try.prog 9 (.str s) (.str x) = some false := by
  simp only [sameIm, ty_9, if_true, Option.some.injEq]
  have := mt (MapKept.bytes_beq s x).1 (fun e => h e.symm)
  simpa using this
theorem find_none (s : ByteArray) : ∀ (l : List ByteArray) (i : Nat), s ∉ l → findIm Try.prog 9 (.str s) (ents l) i = some none
  | [], i, _ => rfl
  | x :: xs, i, h => by
    simp only [List.mem_cons, not_or] at h
    simp only [ents, List.map_cons, findIm, same_ne s x (fun e => h.1 e.symm)]
    exact find_none s xs (i + 1) h.2
theorem find_last (s : ByteArray) (v : Im) : ∀ (l : List ByteArray) (i : Nat), s ∉ l → findIm Try.prog 9 (.str s) (ents l ++ [([.str s], v)]) i = some (some (i + l.length, v))
  | [], i, _ => by
    have : sameIm Try.prog 9 (.str s) (.str s) = some true := by
      simp only [sameIm, ty_9, if_true, Option.some.injEq]
      exact (MapKept.bytes_beq s s).2 rfl
    simp only [ents, List.map_nil, List.nil_append, findIm, this, List.length_nil, Nat.add_zero]
  | x :: xs, i, h => by
    simp only [List.mem_cons, not_or] at h
    simp only [ents, List.map_cons, List.cons_append, findIm, same_ne s x (fun e => h.1 e.symm)]
    have := find_last s v xs (i + 1) h.2
    simp only [ents] at this
    rw [this, List.length_cons]
    congr 3
    omega
theorem nodup_take {l : List ByteArray} (h : l.Nodup) (i : Nat) (hi : i < l.length) : l.getD i ByteArray.empty ∉ l.take i := by
  intro hm
  obtain ⟨k, hk, e⟩ := List.getElem_of_mem hm
  have hk2 : k < i := by simp at hk; omega
  rw [List.getElem_take] at e
  have e2 : l.getD i ByteArray.empty = l[i] := by simp [hi]
  rw [e2] at e
  have := (List.getElem_inj h).1 e
  omega
theorem strs_get (l : List ByteArray) (i : Nat) (h : i < l.length) : (strs l)[i]? = some [.str (l.getD i ByteArray.empty)] := by simp [h]
theorem getD_mem {l : List ByteArray} {i : Nat} (h : i < l.length) : l.getD i ByteArray.empty ∈ l := by
  have e2 : l.getD i ByteArray.empty = l[i] := by simp [h]
  rw [e2]
  exact List.getElem_mem h
theorem Names_ok (q : List ByteArray) (hq : q.length ≤ 1000000) (hv : ∀ s ∈ q, NameOk s) (hd : q.Nodup) (up : Frs) : ACalls Try.prog 103 [.im (.sl (strs q))] up fun v u => v = .i 0 ∧ u = up := by
  refine ACalls.code Try.func103 rfl 25 rfl (by simp) [.tmp 2] rfl fun Q hQ => ?_
  simp only [ups, PV.up, argEnv]
  have ft := And.intro ty_3 (And.intro ty_4 (And.intro ty_9 (And.intro ty_27 (And.intro ty_39 (And.intro ty_240 trivial)))))
  refine Run.seq ?_
  have fx := And.intro strs_len ft
  refine Run.go ?_
  refine End.kp [0] ?_
  refine Run.seq ?_
  refine Run.go ?_
  refine End.kp [0, 3] ?_
  refine Run.seq ?_
  refine Run.seq ?_
  refine Run.go ?_
  refine End.kp [3, 7, 8, 9] ?_
  refine Run.block ?_
  refine Run.ghost (Ghost.form [(3, .map 0 0), (7, .im (.sl (strs q))), (8, .i q.length), (9, .i (0 : Nat))] 1 ⟨rfl, rfl, rfl, rfl, trivial⟩ rfl rfl) ?_
  refine Run.loop (fun m st => ∃ (i : Nat), m = q.length - i ∧ i ≤ q.length ∧ st = ⟨[(3, .map 0 0), (7, .im (.sl (strs q))), (8, .i q.length), (9, .i (i : Nat))], [.map (ents (q.take i))], up⟩) q.length ⟨0, rfl, by omega, rfl⟩ fun m st hI => ?_
  obtain ⟨i, rfl, hi, rfl⟩ := hI
  refine Run.seq ?_
  have fx := And.intro strs_len ft
  refine Run.go ?_
  refine End.kp [3, 7, 8, 9, 10] ?_
  refine Run.seq ?_
  refine Run.cond _ rfl (fun hb => ?_) (fun hb => ?_)
  · have hb := of_decide_eq_true hb
    have hin : i < q.length := by omega
    have wi := wsucc hin (by omega)
    have hg := strs_get q i hin
    have hno := nodup_take hd i hin
    have hnm := hv _ (getD_mem hin)
    have htk := take_snoc q i ByteArray.empty hin
    generalize q.getD i ByteArray.empty = s at hg hno hnm htk
    have hf1 := find_none s (q.take i) 0 hno
    have hf2 := find_last s (.int .i64 1) (q.take i) 0 hno
    have w1 : IntKind.i64.wrap (0 + 1) = 1 := by decide
    refine Run.skip ?_
    refine End.kp [3, 7, 8, 9] ?_
    refine Run.seq ?_
    refine Run.block ?_
    refine Run.seq ?_
    have fx := And.intro (@Int.toNat_natCast) (And.intro (@Int.natCast_nonneg) (And.intro w1 (And.intro hf2 (And.intro hf1 (And.intro hg (And.intro wi (And.intro strs_len ft)))))))
    refine Run.go ?_
    refine End.kp [3, 5, 7, 8, 9] ?_
    refine Run.seq ?_
    refine Run.seq ?_
    refine Run.region rfl fun K hK => GOps.sim ?_
    refine GOps.call rfl rfl rfl rfl (by kernel_rfl) (ACalls.sim ?_)
    refine (Name_ok s hnm _).mono fun v u hv => ?_
    obtain ⟨rfl, rfl⟩ := hv
    refine ⟨_, _, rfl, GOps.sim ?_⟩
    refine GOps.done (hK _ ?_); clear hK K
    refine End.kp [3, 5, 7, 8, 9, 15] ?_
    refine Run.cond _ rfl (fun hb => ?_) (fun hb => ?_)
    · have hb := hb
      simp at hb
    · have hb := hb
      refine Run.skip ?_
      refine End.kp [3, 5, 7, 8, 9] ?_
      refine Run.seq ?_
      have fx := And.intro (@Int.toNat_natCast) (And.intro (@Int.natCast_nonneg) (And.intro w1 (And.intro hf2 (And.intro hf1 (And.intro hg (And.intro wi (And.intro strs_len ft)))))))
      refine Run.go ?_
      refine End.kp [3, 5, 7, 8, 9] ?_
      refine Run.seq ?_
      refine Run.go ?_
      refine End.kp [3, 7, 8, 9, 23] ?_
      refine Run.cond _ rfl (fun hb => ?_) (fun hb => ?_)
      · have hb := hb
        simp at hb
      · have hb := hb
        refine Run.skip ?_
        refine End.blk ?_
        refine End.kp [3, 7, 8, 9] ?_
        have fx := And.intro (@Int.toNat_natCast) (And.intro (@Int.natCast_nonneg) (And.intro w1 (And.intro hf2 (And.intro hf1 (And.intro hg (And.intro wi (And.intro strs_len ft)))))))
        refine Run.go ?_
        refine End.lp ?_
        refine ⟨q.length - (i + 1), _, by omega, Ghost.form [(3, .map 0 0), (7, .im (.sl (strs q))), (8, .i q.length), (9, .i (i + 1 : Nat))] 1 ⟨rfl, rfl, rfl, rfl, trivial⟩ rfl rfl, i + 1, rfl, by omega, ?_⟩
        rw [htk]
        simp [ents]
  · have hb := of_decide_eq_false hb
    refine Run.exit rfl ?_
    refine End.kp [] ?_
    refine Run.seq ?_
    have fx := And.intro strs_len ft
    refine Run.go ?_
    refine End.kp [2] ?_
    refine Run.ret (hQ _ _ ⟨.inr rfl, _, rfl, _, rfl, ?_⟩)
    exact ⟨rfl, rfl⟩
end Go.Proofs.YtdgpmopcmacicaaPi

/- The walks of ends and of clones that go over to the caller. -/
set_option linter.unusedVariables false
set_option linter.unusedSimpArgs false
set_option maxRecDepth 100000
namespace Go.Proofs.YtdgpmopcmacicaaPi
theorem CloneX_nil (f : List AObj) (rest : Frs) : ACalls Try.prog 70 [.im (.sl (strs []))] (f :: rest) fun v u => v = .ms 0 (f.length + 0) 0 ∧ u = (f ++ [.row 9 1 (strs []) 0]) :: rest := by
  refine ACalls.codeX Try.func70 rfl 8 rfl (by simp) [.tmp 2] rfl fun Q hQ => ?_
  simp only [ups, PV.up, argEnv]
  have ft := And.intro ty_4 (And.intro ty_9 (And.intro ty_27 trivial))
  refine Run.seq ?_
  have fx := And.intro (@List.map_nil.{0, 0}) ft
  refine Run.go ?_
  refine End.kp [0] ?_
  refine Run.seq ?_
  refine Run.seq ?_
  refine Run.go ?_
  refine End.kp [0, 4] ?_
  refine Run.cond_any rfl ?_ ?_
  · skip
    refine Run.seq ?_
    have fx := And.intro (@List.map_nil.{0, 0}) ft
    refine Run.go ?_
    refine End.move (Ghost.thaw (u := 2) 9 1 (by decide) rfl) ?_
    refine End.kp [2] ?_
    refine Run.ret (hQ _ _ ⟨.inr rfl, _, rfl, _, _, rfl, ?_⟩)
    exact ⟨rfl, rfl⟩
  · skip
    refine Run.skip ?_
    refine End.kp [0] ?_
    refine Run.seq ?_
    have fx := And.intro (@List.map_nil.{0, 0}) ft
    refine Run.go ?_
    refine End.kp [2] ?_
    refine Run.ret (hQ _ _ ⟨.inr rfl, _, rfl, _, _, rfl, ?_⟩)
    exact ⟨rfl, rfl⟩
theorem CloneX_cons (x : ByteArray) (xs : List ByteArray) (h : xs.length ≤ 1000000) (f : List AObj) (rest : Frs) : ACalls Try.prog 70 [.im (.sl (strs (x :: xs)))] (f :: rest) fun v u => v = .ms 0 (f.length + 0) (x :: xs).length ∧ u = (f ++ [.row 9 1 (strs (x :: xs)) 0]) :: rest := by
  have hall : (strs xs).all (fun r => r.length == 1) = true := by simp
  have hlen : (xs.length + 1) * 16 ≤ 140737488355328 := by omega
  refine ACalls.codeX Try.func70 rfl 8 rfl (by simp) [.tmp 2] rfl fun Q hQ => ?_
  simp only [ups, PV.up, argEnv]
  have ft := And.intro ty_4 (And.intro ty_9 (And.intro ty_27 trivial))
  refine Run.seq ?_
  have fx := And.intro (@List.length_map.{0, 0}) (And.intro hlen (And.intro hall (And.intro (@List.map_cons.{0, 0}) ft)))
  refine Run.go ?_
  refine End.kp [0] ?_
  refine Run.seq ?_
  refine Run.seq ?_
  refine Run.go ?_
  refine End.kp [0, 4] ?_
  refine Run.cond _ rfl (fun hb => ?_) (fun hb => ?_)
  · have hb := hb
    simp at hb
  · have hb := hb
    refine Run.skip ?_
    refine End.kp [0] ?_
    refine Run.seq ?_
    have fx := And.intro (@List.length_map.{0, 0}) (And.intro hlen (And.intro hall (And.intro (@List.map_cons.{0, 0}) ft)))
    refine Run.go ?_
    refine End.kp [2] ?_
    refine Run.ret (hQ _ _ ⟨.inr rfl, _, rfl, _, _, rfl, ?_⟩)
    exact ⟨rfl, rfl⟩
theorem CloneX_ok (q : List ByteArray) (h : q.length ≤ 1000000) (f : List AObj) (rest : Frs) : ACalls Try.prog 70 [.im (.sl (strs q))] (f :: rest) fun v u => v = .ms 0 (f.length + 0) q.length ∧ u = (f ++ [.row 9 1 (strs q) 0]) :: rest := by
  cases q with
  | nil => exact CloneX_nil f rest
  | cons x xs => exact CloneX_cons x xs (by simp at h; omega) f rest
structure EndsOk (n : LNet) : Prop where
  flops : ∀ f ∈ n.flops, (0 ≤ f.d ∧ f.d < 2 + n.inn.length + n.flops.length + n.gates.length) ∧ 0 ≤ f.en ∧ f.en < 2 + n.inn.length + n.flops.length + n.gates.length
  outs : ∀ k ∈ n.outs, 0 ≤ k ∧ k < 2 + n.inn.length + n.flops.length + n.gates.length
abbrev lanes0 (l : List Bool) : List Int := l.map fun b => if b = true then 1 else 0
theorem flop_at (l : List LFlop) (i : Nat) (h : i < l.length) : ∃ f, l[i]? = some f ∧ f ∈ l ∧ (l.map LFlop.im)[i]? = some [.str f.name, .int .i64 (-1), .int .i64 f.d, .int .i64 f.en, .bool f.init] :=
  ⟨l[i], by simp [h], List.getElem_mem h, by simp [h]⟩
theorem gate_at (l : List LGate) (i : Nat) (h : i < l.length) : ∃ g, l[i]? = some g ∧ g ∈ l ∧ (l.map LGate.im)[i]? = some [.int .i64 (-1), .int .u64 g.table, .sl (ints g.ins)] :=
  ⟨l[i], by simp [h], List.getElem_mem h, by simp [h]⟩
theorem int_at (l : List Int) (i : Nat) (h : i < l.length) : ∃ x, l[i]? = some x ∧ x ∈ l ∧ (ints l)[i]? = some [.int .i64 x] :=
  ⟨l[i], by simp [h], List.getElem_mem h, by simp [h]⟩
theorem ends_ok (n : LNet) (hn : NetSmall n) (he : EndsOk n) (up : Frs) : ACalls Try.prog 128 [n.pv] up fun v u => v = .i 0 ∧ u = up := by
  have hn2 := hn
  obtain ⟨z1, z2, z3, z4, z5⟩ := hn
  refine ACalls.code Try.func128 rfl 53 rfl (by simp) [.tmp 2] rfl fun Q hQ => ?_
  simp only [ups, PV.up, argEnv]
  have ft := And.intro ty_2 (And.intro ty_3 (And.intro ty_4 (And.intro ty_22 (And.intro ty_39 (And.intro ty_57 (And.intro ty_60 (And.intro ty_197 trivial)))))))
  refine Run.seq ?_
  have fx := And.intro ints_len (And.intro fim_len ft)
  refine Run.go ?_
  refine End.kp [1] ?_
  refine Run.seq ?_
  refine Run.region rfl fun K hK => GOps.sim ?_
  refine GOps.call rfl rfl rfl rfl (by kernel_rfl) (ACalls.sim ?_)
  refine (Nets_ok n hn2 _).mono fun v u hv => ?_
  obtain ⟨rfl, rfl⟩ := hv
  refine ⟨_, _, rfl, GOps.sim ?_⟩
  refine GOps.done (hK _ ?_); clear hK K
  refine End.kp [1, 3] ?_
  refine Run.seq ?_
  refine Run.seq ?_
  refine Run.go ?_
  refine End.kp [1, 3, 11, 12, 13] ?_
  refine Run.block ?_
  refine Run.ghost (Ghost.form [(1, .ptr 0 0 0), (3, .i (2 + n.inn.length + n.flops.length + n.gates.length)), (11, .im (.sl (n.flops.map LFlop.im))), (12, .i n.flops.length), (13, .i (0 : Nat))] 1 ⟨rfl, rfl, rfl, rfl, rfl, trivial⟩ rfl rfl) ?_
  refine Run.loop (fun m st => ∃ (i : Nat), m = n.flops.length - i ∧ i ≤ n.flops.length ∧ st = ⟨[(1, .ptr 0 0 0), (3, .i (2 + n.inn.length + n.flops.length + n.gates.length)), (11, .im (.sl (n.flops.map LFlop.im))), (12, .i n.flops.length), (13, .i (i : Nat))], [.box [.im (.sl (strs n.inn)), .im (.sl (strs n.out)), .im (.sl (n.flops.map LFlop.im)), .im (.sl (n.gates.map LGate.im)), .im (.sl (ints n.outs))]], up⟩) n.flops.length ⟨0, rfl, by omega, rfl⟩ fun m st hI => ?_
  obtain ⟨i, rfl, hi, rfl⟩ := hI
  refine Run.seq ?_
  have fx := And.intro ints_len (And.intro fim_len ft)
  refine Run.go ?_
  refine End.kp [1, 3, 11, 12, 13, 14] ?_
  refine Run.seq ?_
  refine Run.cond _ rfl (fun hb => ?_) (fun hb => ?_)
  · have hb := of_decide_eq_true hb
    have hin : i < n.flops.length := by omega
    have wi := wsucc hin (by omega)
    obtain ⟨f, _, hfm, hg⟩ := flop_at n.flops i hin
    obtain ⟨⟨e1, e2⟩, e3, e4⟩ := he.flops f hfm
    have d1 : decide (f.d < 0) = false := decide_eq_false (by omega)
    have d2 : decide (f.d ≥ 2 + (n.inn.length : Int) + n.flops.length + n.gates.length) = false := decide_eq_false (by omega)
    have d3 : decide (f.en < 0) = false := decide_eq_false (by omega)
    have d4 : decide (f.en ≥ 2 + (n.inn.length : Int) + n.flops.length + n.gates.length) = false := decide_eq_false (by omega)
    refine Run.skip ?_
    refine End.kp [1, 3, 11, 12, 13] ?_
    refine Run.seq ?_
    refine Run.block ?_
    refine Run.seq ?_
    have fx := And.intro (@Int.toNat_natCast) (And.intro (@Int.natCast_nonneg) (And.intro d4 (And.intro d3 (And.intro d2 (And.intro d1 (And.intro hg (And.intro wi (And.intro ints_len (And.intro fim_len ft)))))))))
    refine Run.go ?_
    refine End.kp [1, 3, 5, 11, 12, 13] ?_
    refine Run.seq ?_
    refine Run.go ?_
    refine End.kp [1, 3, 11, 12, 13, 36] ?_
    refine Run.cond _ rfl (fun hb => ?_) (fun hb => ?_)
    · have hb := hb
      simp at hb
    · have hb := hb
      refine Run.skip ?_
      refine End.blk ?_
      refine End.kp [1, 3, 11, 12, 13] ?_
      have fx := And.intro (@Int.toNat_natCast) (And.intro (@Int.natCast_nonneg) (And.intro d4 (And.intro d3 (And.intro d2 (And.intro d1 (And.intro hg (And.intro wi (And.intro ints_len (And.intro fim_len ft)))))))))
      refine Run.go ?_
      refine End.lp ?_
      refine ⟨n.flops.length - (i + 1), _, by omega, Ghost.form [(1, .ptr 0 0 0), (3, .i (2 + n.inn.length + n.flops.length + n.gates.length)), (11, .im (.sl (n.flops.map LFlop.im))), (12, .i n.flops.length), (13, .i (i + 1 : Nat))] 1 ⟨rfl, rfl, rfl, rfl, rfl, trivial⟩ rfl rfl, i + 1, rfl, by omega, rfl⟩
  · have hb := of_decide_eq_false hb
    refine Run.exit rfl ?_
    refine End.kp [1, 3] ?_
    refine Run.seq ?_
    refine Run.seq ?_
    have fx := And.intro ints_len (And.intro fim_len ft)
    refine Run.go ?_
    refine End.kp [3, 39, 40, 41] ?_
    refine Run.block ?_
    refine Run.ghost (Ghost.form [(3, .i (2 + n.inn.length + n.flops.length + n.gates.length)), (39, .im (.sl (ints n.outs))), (40, .i n.outs.length), (41, .i (0 : Nat))] 0 ⟨rfl, rfl, rfl, rfl, trivial⟩ rfl rfl) ?_
    refine Run.loop (fun m st => ∃ (i : Nat), m = n.outs.length - i ∧ i ≤ n.outs.length ∧ st = ⟨[(3, .i (2 + n.inn.length + n.flops.length + n.gates.length)), (39, .im (.sl (ints n.outs))), (40, .i n.outs.length), (41, .i (i : Nat))], [], up⟩) n.outs.length ⟨0, rfl, by omega, rfl⟩ fun m st hI => ?_
    obtain ⟨i, rfl, hi, rfl⟩ := hI
    refine Run.seq ?_
    have fx := And.intro ints_len (And.intro fim_len ft)
    refine Run.go ?_
    refine End.kp [3, 39, 40, 41, 42] ?_
    refine Run.seq ?_
    refine Run.cond _ rfl (fun hb => ?_) (fun hb => ?_)
    · have hb := of_decide_eq_true hb
      have hin : i < n.outs.length := by omega
      have wi := wsucc hin (by omega)
      obtain ⟨f, _, hfm, hg⟩ := int_at n.outs i hin
      obtain ⟨e1, e2⟩ := he.outs f hfm
      have d1 : decide (f < 0) = false := decide_eq_false (by omega)
      have d2 : decide (f ≥ 2 + (n.inn.length : Int) + n.flops.length + n.gates.length) = false := decide_eq_false (by omega)
      refine Run.skip ?_
      refine End.kp [3, 39, 40, 41] ?_
      refine Run.seq ?_
      refine Run.block ?_
      refine Run.seq ?_
      have fx := And.intro (@Int.toNat_natCast) (And.intro (@Int.natCast_nonneg) (And.intro d2 (And.intro d1 (And.intro hg (And.intro wi (And.intro ints_len (And.intro fim_len ft)))))))
      refine Run.go ?_
      refine End.kp [3, 7, 39, 40, 41] ?_
      refine Run.seq ?_
      refine Run.go ?_
      refine End.kp [3, 39, 40, 41, 51] ?_
      refine Run.cond _ rfl (fun hb => ?_) (fun hb => ?_)
      · have hb := hb
        simp at hb
      · have hb := hb
        refine Run.skip ?_
        refine End.blk ?_
        refine End.kp [3, 39, 40, 41] ?_
        have fx := And.intro (@Int.toNat_natCast) (And.intro (@Int.natCast_nonneg) (And.intro d2 (And.intro d1 (And.intro hg (And.intro wi (And.intro ints_len (And.intro fim_len ft)))))))
        refine Run.go ?_
        refine End.lp ?_
        refine ⟨n.outs.length - (i + 1), _, by omega, Ghost.form [(3, .i (2 + n.inn.length + n.flops.length + n.gates.length)), (39, .im (.sl (ints n.outs))), (40, .i n.outs.length), (41, .i (i + 1 : Nat))] 0 ⟨rfl, rfl, rfl, rfl, trivial⟩ rfl rfl, i + 1, rfl, by omega, rfl⟩
    · have hb := of_decide_eq_false hb
      refine Run.exit rfl ?_
      refine End.kp [] ?_
      refine Run.seq ?_
      have fx := And.intro ints_len (And.intro fim_len ft)
      refine Run.go ?_
      refine End.kp [2] ?_
      refine Run.ret (hQ _ _ ⟨.inr rfl, _, rfl, _, rfl, ?_⟩)
      exact ⟨rfl, rfl⟩
end Go.Proofs.YtdgpmopcmacicaaPi

