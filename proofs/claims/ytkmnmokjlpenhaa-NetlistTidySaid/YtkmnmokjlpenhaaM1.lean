/- Part 1 of the proof: the texts PiTy, WA, WB, PBit0, WC, WD, WE, WF, one behind the other. Each holds for every input that it names; no condition is hidden. -/
import Derived.Test.YtkmnmokjlpenhaaPiMerge
import Derived.Test.YtkmnmokjlpenhaaProg
import Derived.KernelRfl
import Derived.Test.YtkmnmokjlpenhaaPiGo
/- What the abstract program logic asks of this seat's types, found by looking. -/
set_option linter.unusedVariables false
namespace Go.Proofs.YtkmnmokjlpenhaaPi

theorem ty_2 : sizeT Try.prog 2 = some 1 ∧ bytesT Try.prog 2 = some 8 ∧ aggT Try.prog 2 = some false ∧ elemT Try.prog 2 = none ∧ arrT Try.prog 2 = none ∧ intT Try.prog 2 = some .i64 ∧ boolT Try.prog 2 = false ∧ stringT Try.prog 2 = false ∧ sliceT Try.prog 2 = false ∧ Program.underlying Try.prog 2 = some (.int .i64) ∧ zeroT Try.prog 2 = some [.im (.int .i64 0)] ∧ zeroImT Try.prog 2 = some [(.int .i64 0)] ∧ u8T Try.prog 2 = false ∧ zeroOne Try.prog 2 = some (.int .i64 0) ∧ placesT Try.prog 2 = none := ⟨by kernel_rfl, by kernel_rfl, by kernel_rfl, by kernel_rfl, by kernel_rfl, by kernel_rfl, by kernel_rfl, by kernel_rfl, by kernel_rfl, by kernel_rfl, by kernel_rfl, by kernel_rfl, by kernel_rfl, by kernel_rfl, by kernel_rfl⟩
theorem ty_3 : sizeT Try.prog 3 = some 1 ∧ bytesT Try.prog 3 = some 8 ∧ aggT Try.prog 3 = some false ∧ elemT Try.prog 3 = none ∧ arrT Try.prog 3 = none ∧ intT Try.prog 3 = some .i64 ∧ boolT Try.prog 3 = false ∧ stringT Try.prog 3 = false ∧ sliceT Try.prog 3 = false ∧ Program.underlying Try.prog 3 = some (.int .i64) ∧ zeroT Try.prog 3 = some [.im (.int .i64 0)] ∧ zeroImT Try.prog 3 = some [(.int .i64 0)] ∧ u8T Try.prog 3 = false ∧ zeroOne Try.prog 3 = some (.int .i64 0) ∧ placesT Try.prog 3 = none := ⟨by kernel_rfl, by kernel_rfl, by kernel_rfl, by kernel_rfl, by kernel_rfl, by kernel_rfl, by kernel_rfl, by kernel_rfl, by kernel_rfl, by kernel_rfl, by kernel_rfl, by kernel_rfl, by kernel_rfl, by kernel_rfl, by kernel_rfl⟩
theorem ty_4 : sizeT Try.prog 4 = some 1 ∧ bytesT Try.prog 4 = some 1 ∧ aggT Try.prog 4 = some false ∧ elemT Try.prog 4 = none ∧ arrT Try.prog 4 = none ∧ intT Try.prog 4 = none ∧ boolT Try.prog 4 = true ∧ stringT Try.prog 4 = false ∧ sliceT Try.prog 4 = false ∧ zeroT Try.prog 4 = some [.im (.bool false)] ∧ zeroImT Try.prog 4 = some [(.bool false)] ∧ u8T Try.prog 4 = false ∧ zeroOne Try.prog 4 = some (.bool false) ∧ placesT Try.prog 4 = none := ⟨by kernel_rfl, by kernel_rfl, by kernel_rfl, by kernel_rfl, by kernel_rfl, by kernel_rfl, by kernel_rfl, by kernel_rfl, by kernel_rfl, by kernel_rfl, by kernel_rfl, by kernel_rfl, by kernel_rfl, by kernel_rfl⟩
theorem ty_5 : sizeT Try.prog 5 = some 1 ∧ bytesT Try.prog 5 = some 1 ∧ aggT Try.prog 5 = some false ∧ elemT Try.prog 5 = none ∧ arrT Try.prog 5 = none ∧ intT Try.prog 5 = some .u8 ∧ boolT Try.prog 5 = false ∧ stringT Try.prog 5 = false ∧ sliceT Try.prog 5 = false ∧ Program.underlying Try.prog 5 = some (.int .u8) ∧ zeroT Try.prog 5 = some [.im (.int .u8 0)] ∧ zeroImT Try.prog 5 = some [(.int .u8 0)] ∧ u8T Try.prog 5 = false ∧ zeroOne Try.prog 5 = some (.int .u8 0) ∧ placesT Try.prog 5 = none := ⟨by kernel_rfl, by kernel_rfl, by kernel_rfl, by kernel_rfl, by kernel_rfl, by kernel_rfl, by kernel_rfl, by kernel_rfl, by kernel_rfl, by kernel_rfl, by kernel_rfl, by kernel_rfl, by kernel_rfl, by kernel_rfl, by kernel_rfl⟩
theorem ty_6 : sizeT Try.prog 6 = some 1 ∧ bytesT Try.prog 6 = some 1 ∧ aggT Try.prog 6 = some false ∧ elemT Try.prog 6 = none ∧ arrT Try.prog 6 = none ∧ intT Try.prog 6 = some .u8 ∧ boolT Try.prog 6 = false ∧ stringT Try.prog 6 = false ∧ sliceT Try.prog 6 = false ∧ Program.underlying Try.prog 6 = some (.int .u8) ∧ zeroT Try.prog 6 = some [.im (.int .u8 0)] ∧ zeroImT Try.prog 6 = some [(.int .u8 0)] ∧ u8T Try.prog 6 = false ∧ zeroOne Try.prog 6 = some (.int .u8 0) ∧ placesT Try.prog 6 = none := ⟨by kernel_rfl, by kernel_rfl, by kernel_rfl, by kernel_rfl, by kernel_rfl, by kernel_rfl, by kernel_rfl, by kernel_rfl, by kernel_rfl, by kernel_rfl, by kernel_rfl, by kernel_rfl, by kernel_rfl, by kernel_rfl, by kernel_rfl⟩
theorem ty_7 : sizeT Try.prog 7 = some 4 ∧ bytesT Try.prog 7 = some 24 ∧ aggT Try.prog 7 = some true ∧ elemT Try.prog 7 = none ∧ arrT Try.prog 7 = none ∧ intT Try.prog 7 = none ∧ boolT Try.prog 7 = false ∧ stringT Try.prog 7 = false ∧ sliceT Try.prog 7 = false ∧ zeroT Try.prog 7 = some [.im (.int .i64 0), .im (.int .i64 0), .im (.bool false), .im (.int .u8 0)] ∧ zeroImT Try.prog 7 = some [(.int .i64 0), (.int .i64 0), (.bool false), (.int .u8 0)] ∧ u8T Try.prog 7 = false ∧ placesT Try.prog 7 = some [(0, 1), (1, 1), (2, 1), (3, 1)] ∧ fieldT Try.prog 7 0 = some (0, 1) ∧ fieldT Try.prog 7 1 = some (1, 1) ∧ fieldT Try.prog 7 2 = some (2, 1) ∧ fieldT Try.prog 7 3 = some (3, 1) := ⟨by kernel_rfl, by kernel_rfl, by kernel_rfl, by kernel_rfl, by kernel_rfl, by kernel_rfl, by kernel_rfl, by kernel_rfl, by kernel_rfl, by kernel_rfl, by kernel_rfl, by kernel_rfl, by kernel_rfl, by kernel_rfl, by kernel_rfl, by kernel_rfl, by kernel_rfl⟩
theorem ty_8 : sizeT Try.prog 8 = some 4 ∧ bytesT Try.prog 8 = some 24 ∧ aggT Try.prog 8 = some true ∧ elemT Try.prog 8 = none ∧ arrT Try.prog 8 = none ∧ intT Try.prog 8 = none ∧ boolT Try.prog 8 = false ∧ stringT Try.prog 8 = false ∧ sliceT Try.prog 8 = false ∧ zeroT Try.prog 8 = some [.im (.int .i64 0), .im (.int .i64 0), .im (.bool false), .im (.int .u8 0)] ∧ zeroImT Try.prog 8 = some [(.int .i64 0), (.int .i64 0), (.bool false), (.int .u8 0)] ∧ u8T Try.prog 8 = false ∧ placesT Try.prog 8 = some [(0, 1), (1, 1), (2, 1), (3, 1)] ∧ fieldT Try.prog 8 0 = some (0, 1) ∧ fieldT Try.prog 8 1 = some (1, 1) ∧ fieldT Try.prog 8 2 = some (2, 1) ∧ fieldT Try.prog 8 3 = some (3, 1) := ⟨by kernel_rfl, by kernel_rfl, by kernel_rfl, by kernel_rfl, by kernel_rfl, by kernel_rfl, by kernel_rfl, by kernel_rfl, by kernel_rfl, by kernel_rfl, by kernel_rfl, by kernel_rfl, by kernel_rfl, by kernel_rfl, by kernel_rfl, by kernel_rfl, by kernel_rfl⟩
theorem ty_9 : sizeT Try.prog 9 = some 1 ∧ bytesT Try.prog 9 = some 16 ∧ aggT Try.prog 9 = some false ∧ elemT Try.prog 9 = none ∧ arrT Try.prog 9 = none ∧ intT Try.prog 9 = none ∧ boolT Try.prog 9 = false ∧ stringT Try.prog 9 = true ∧ sliceT Try.prog 9 = false ∧ Program.underlying Try.prog 9 = some .string ∧ zeroT Try.prog 9 = some [.im (.str ByteArray.empty)] ∧ zeroImT Try.prog 9 = some [(.str ByteArray.empty)] ∧ u8T Try.prog 9 = false ∧ zeroOne Try.prog 9 = some (.str ByteArray.empty) ∧ placesT Try.prog 9 = none := ⟨by kernel_rfl, by kernel_rfl, by kernel_rfl, by kernel_rfl, by kernel_rfl, by kernel_rfl, by kernel_rfl, by kernel_rfl, by kernel_rfl, by kernel_rfl, by kernel_rfl, by kernel_rfl, by kernel_rfl, by kernel_rfl, by kernel_rfl⟩
theorem ty_22 : sizeT Try.prog 22 = some 1 ∧ bytesT Try.prog 22 = some 24 ∧ aggT Try.prog 22 = some false ∧ elemT Try.prog 22 = some 3 ∧ arrT Try.prog 22 = none ∧ intT Try.prog 22 = none ∧ boolT Try.prog 22 = false ∧ stringT Try.prog 22 = false ∧ sliceT Try.prog 22 = true ∧ zeroT Try.prog 22 = some [.nils] ∧ zeroImT Try.prog 22 = some [(.sl [])] ∧ u8T Try.prog 22 = false ∧ zeroOne Try.prog 22 = some (.sl []) ∧ placesT Try.prog 22 = none := ⟨by kernel_rfl, by kernel_rfl, by kernel_rfl, by kernel_rfl, by kernel_rfl, by kernel_rfl, by kernel_rfl, by kernel_rfl, by kernel_rfl, by kernel_rfl, by kernel_rfl, by kernel_rfl, by kernel_rfl, by kernel_rfl⟩
theorem ty_23 : sizeT Try.prog 23 = some 1 ∧ bytesT Try.prog 23 = some 8 ∧ aggT Try.prog 23 = some false ∧ elemT Try.prog 23 = none ∧ arrT Try.prog 23 = none ∧ intT Try.prog 23 = none ∧ boolT Try.prog 23 = false ∧ stringT Try.prog 23 = false ∧ sliceT Try.prog 23 = false ∧ ptrT Try.prog 23 = true ∧ zeroT Try.prog 23 = some [.nilp] ∧ u8T Try.prog 23 = false ∧ placesT Try.prog 23 = none := ⟨by kernel_rfl, by kernel_rfl, by kernel_rfl, by kernel_rfl, by kernel_rfl, by kernel_rfl, by kernel_rfl, by kernel_rfl, by kernel_rfl, by kernel_rfl, by kernel_rfl, by kernel_rfl, by kernel_rfl⟩
theorem ty_25 : sizeT Try.prog 25 = some 2 ∧ bytesT Try.prog 25 = some 32 ∧ aggT Try.prog 25 = some true ∧ elemT Try.prog 25 = none ∧ arrT Try.prog 25 = none ∧ intT Try.prog 25 = none ∧ boolT Try.prog 25 = false ∧ stringT Try.prog 25 = false ∧ sliceT Try.prog 25 = false ∧ zeroT Try.prog 25 = some [.nils, .im (.int .i64 0)] ∧ zeroImT Try.prog 25 = some [(.sl []), (.int .i64 0)] ∧ u8T Try.prog 25 = false ∧ placesT Try.prog 25 = some [(0, 1), (1, 1)] ∧ fieldT Try.prog 25 0 = some (0, 1) ∧ fieldT Try.prog 25 1 = some (1, 1) := ⟨by kernel_rfl, by kernel_rfl, by kernel_rfl, by kernel_rfl, by kernel_rfl, by kernel_rfl, by kernel_rfl, by kernel_rfl, by kernel_rfl, by kernel_rfl, by kernel_rfl, by kernel_rfl, by kernel_rfl, by kernel_rfl, by kernel_rfl⟩
theorem ty_26 : sizeT Try.prog 26 = some 1 ∧ bytesT Try.prog 26 = some 24 ∧ aggT Try.prog 26 = some false ∧ elemT Try.prog 26 = some 9 ∧ arrT Try.prog 26 = none ∧ intT Try.prog 26 = none ∧ boolT Try.prog 26 = false ∧ stringT Try.prog 26 = false ∧ sliceT Try.prog 26 = true ∧ zeroT Try.prog 26 = some [.nils] ∧ zeroImT Try.prog 26 = some [(.sl [])] ∧ u8T Try.prog 26 = false ∧ zeroOne Try.prog 26 = some (.sl []) ∧ placesT Try.prog 26 = none := ⟨by kernel_rfl, by kernel_rfl, by kernel_rfl, by kernel_rfl, by kernel_rfl, by kernel_rfl, by kernel_rfl, by kernel_rfl, by kernel_rfl, by kernel_rfl, by kernel_rfl, by kernel_rfl, by kernel_rfl, by kernel_rfl⟩
theorem ty_27 : sizeT Try.prog 27 = some 1 ∧ bytesT Try.prog 27 = some 24 ∧ aggT Try.prog 27 = some false ∧ elemT Try.prog 27 = some 78 ∧ arrT Try.prog 27 = none ∧ intT Try.prog 27 = none ∧ boolT Try.prog 27 = false ∧ stringT Try.prog 27 = false ∧ sliceT Try.prog 27 = true ∧ zeroT Try.prog 27 = some [.nils] ∧ zeroImT Try.prog 27 = some [(.sl [])] ∧ u8T Try.prog 27 = false ∧ zeroOne Try.prog 27 = some (.sl []) ∧ placesT Try.prog 27 = none := ⟨by kernel_rfl, by kernel_rfl, by kernel_rfl, by kernel_rfl, by kernel_rfl, by kernel_rfl, by kernel_rfl, by kernel_rfl, by kernel_rfl, by kernel_rfl, by kernel_rfl, by kernel_rfl, by kernel_rfl, by kernel_rfl⟩
theorem ty_28 : sizeT Try.prog 28 = some 1 ∧ bytesT Try.prog 28 = some 24 ∧ aggT Try.prog 28 = some false ∧ elemT Try.prog 28 = some 39 ∧ arrT Try.prog 28 = none ∧ intT Try.prog 28 = none ∧ boolT Try.prog 28 = false ∧ stringT Try.prog 28 = false ∧ sliceT Try.prog 28 = true ∧ zeroT Try.prog 28 = some [.nils] ∧ zeroImT Try.prog 28 = some [(.sl [])] ∧ u8T Try.prog 28 = false ∧ zeroOne Try.prog 28 = some (.sl []) ∧ placesT Try.prog 28 = none := ⟨by kernel_rfl, by kernel_rfl, by kernel_rfl, by kernel_rfl, by kernel_rfl, by kernel_rfl, by kernel_rfl, by kernel_rfl, by kernel_rfl, by kernel_rfl, by kernel_rfl, by kernel_rfl, by kernel_rfl, by kernel_rfl⟩
theorem ty_30 : sizeT Try.prog 30 = some 5 ∧ bytesT Try.prog 30 = some 120 ∧ aggT Try.prog 30 = some true ∧ elemT Try.prog 30 = none ∧ arrT Try.prog 30 = none ∧ intT Try.prog 30 = none ∧ boolT Try.prog 30 = false ∧ stringT Try.prog 30 = false ∧ sliceT Try.prog 30 = false ∧ zeroT Try.prog 30 = some [.nils, .nils, .nils, .nils, .nils] ∧ zeroImT Try.prog 30 = some [(.sl []), (.sl []), (.sl []), (.sl []), (.sl [])] ∧ u8T Try.prog 30 = false ∧ placesT Try.prog 30 = some [(0, 1), (1, 1), (2, 1), (3, 1), (4, 1)] ∧ fieldT Try.prog 30 0 = some (0, 1) ∧ fieldT Try.prog 30 1 = some (1, 1) ∧ fieldT Try.prog 30 2 = some (2, 1) ∧ fieldT Try.prog 30 3 = some (3, 1) ∧ fieldT Try.prog 30 4 = some (4, 1) := ⟨by kernel_rfl, by kernel_rfl, by kernel_rfl, by kernel_rfl, by kernel_rfl, by kernel_rfl, by kernel_rfl, by kernel_rfl, by kernel_rfl, by kernel_rfl, by kernel_rfl, by kernel_rfl, by kernel_rfl, by kernel_rfl, by kernel_rfl, by kernel_rfl, by kernel_rfl, by kernel_rfl⟩
theorem ty_34 : sizeT Try.prog 34 = some 1 ∧ bytesT Try.prog 34 = some 8 ∧ aggT Try.prog 34 = some false ∧ elemT Try.prog 34 = none ∧ arrT Try.prog 34 = none ∧ intT Try.prog 34 = some .i64 ∧ boolT Try.prog 34 = false ∧ stringT Try.prog 34 = false ∧ sliceT Try.prog 34 = false ∧ Program.underlying Try.prog 34 = some (.int .i64) ∧ zeroT Try.prog 34 = some [.im (.int .i64 0)] ∧ zeroImT Try.prog 34 = some [(.int .i64 0)] ∧ u8T Try.prog 34 = false ∧ zeroOne Try.prog 34 = some (.int .i64 0) ∧ placesT Try.prog 34 = none := ⟨by kernel_rfl, by kernel_rfl, by kernel_rfl, by kernel_rfl, by kernel_rfl, by kernel_rfl, by kernel_rfl, by kernel_rfl, by kernel_rfl, by kernel_rfl, by kernel_rfl, by kernel_rfl, by kernel_rfl, by kernel_rfl, by kernel_rfl⟩
theorem ty_37 : sizeT Try.prog 37 = some 1 ∧ bytesT Try.prog 37 = some 8 ∧ aggT Try.prog 37 = some false ∧ elemT Try.prog 37 = none ∧ arrT Try.prog 37 = none ∧ intT Try.prog 37 = some .u64 ∧ boolT Try.prog 37 = false ∧ stringT Try.prog 37 = false ∧ sliceT Try.prog 37 = false ∧ Program.underlying Try.prog 37 = some (.int .u64) ∧ zeroT Try.prog 37 = some [.im (.int .u64 0)] ∧ zeroImT Try.prog 37 = some [(.int .u64 0)] ∧ u8T Try.prog 37 = false ∧ zeroOne Try.prog 37 = some (.int .u64 0) ∧ placesT Try.prog 37 = none := ⟨by kernel_rfl, by kernel_rfl, by kernel_rfl, by kernel_rfl, by kernel_rfl, by kernel_rfl, by kernel_rfl, by kernel_rfl, by kernel_rfl, by kernel_rfl, by kernel_rfl, by kernel_rfl, by kernel_rfl, by kernel_rfl, by kernel_rfl⟩
theorem ty_39 : sizeT Try.prog 39 = some 3 ∧ bytesT Try.prog 39 = some 40 ∧ aggT Try.prog 39 = some true ∧ elemT Try.prog 39 = none ∧ arrT Try.prog 39 = none ∧ intT Try.prog 39 = none ∧ boolT Try.prog 39 = false ∧ stringT Try.prog 39 = false ∧ sliceT Try.prog 39 = false ∧ zeroT Try.prog 39 = some [.im (.int .i64 0), .im (.int .u64 0), .nils] ∧ zeroImT Try.prog 39 = some [(.int .i64 0), (.int .u64 0), (.sl [])] ∧ u8T Try.prog 39 = false ∧ placesT Try.prog 39 = some [(0, 1), (1, 1), (2, 1)] ∧ fieldT Try.prog 39 0 = some (0, 1) ∧ fieldT Try.prog 39 1 = some (1, 1) ∧ fieldT Try.prog 39 2 = some (2, 1) := ⟨by kernel_rfl, by kernel_rfl, by kernel_rfl, by kernel_rfl, by kernel_rfl, by kernel_rfl, by kernel_rfl, by kernel_rfl, by kernel_rfl, by kernel_rfl, by kernel_rfl, by kernel_rfl, by kernel_rfl, by kernel_rfl, by kernel_rfl, by kernel_rfl⟩
theorem ty_56 : sizeT Try.prog 56 = some 1 ∧ bytesT Try.prog 56 = some 24 ∧ aggT Try.prog 56 = some false ∧ elemT Try.prog 56 = some 37 ∧ arrT Try.prog 56 = none ∧ intT Try.prog 56 = none ∧ boolT Try.prog 56 = false ∧ stringT Try.prog 56 = false ∧ sliceT Try.prog 56 = true ∧ zeroT Try.prog 56 = some [.nils] ∧ zeroImT Try.prog 56 = some [(.sl [])] ∧ u8T Try.prog 56 = false ∧ zeroOne Try.prog 56 = some (.sl []) ∧ placesT Try.prog 56 = none := ⟨by kernel_rfl, by kernel_rfl, by kernel_rfl, by kernel_rfl, by kernel_rfl, by kernel_rfl, by kernel_rfl, by kernel_rfl, by kernel_rfl, by kernel_rfl, by kernel_rfl, by kernel_rfl, by kernel_rfl, by kernel_rfl⟩
theorem ty_58 : sizeT Try.prog 58 = some 1 ∧ bytesT Try.prog 58 = some 24 ∧ aggT Try.prog 58 = some false ∧ elemT Try.prog 58 = some 71 ∧ arrT Try.prog 58 = none ∧ intT Try.prog 58 = none ∧ boolT Try.prog 58 = false ∧ stringT Try.prog 58 = false ∧ sliceT Try.prog 58 = true ∧ zeroT Try.prog 58 = some [.nils] ∧ zeroImT Try.prog 58 = some [(.sl [])] ∧ u8T Try.prog 58 = false ∧ zeroOne Try.prog 58 = some (.sl []) ∧ placesT Try.prog 58 = none := ⟨by kernel_rfl, by kernel_rfl, by kernel_rfl, by kernel_rfl, by kernel_rfl, by kernel_rfl, by kernel_rfl, by kernel_rfl, by kernel_rfl, by kernel_rfl, by kernel_rfl, by kernel_rfl, by kernel_rfl, by kernel_rfl⟩
theorem ty_71 : sizeT Try.prog 71 = some 1 ∧ bytesT Try.prog 71 = some 24 ∧ aggT Try.prog 71 = some false ∧ elemT Try.prog 71 = some 4 ∧ arrT Try.prog 71 = none ∧ intT Try.prog 71 = none ∧ boolT Try.prog 71 = false ∧ stringT Try.prog 71 = false ∧ sliceT Try.prog 71 = true ∧ zeroT Try.prog 71 = some [.nils] ∧ zeroImT Try.prog 71 = some [(.sl [])] ∧ u8T Try.prog 71 = false ∧ zeroOne Try.prog 71 = some (.sl []) ∧ placesT Try.prog 71 = none := ⟨by kernel_rfl, by kernel_rfl, by kernel_rfl, by kernel_rfl, by kernel_rfl, by kernel_rfl, by kernel_rfl, by kernel_rfl, by kernel_rfl, by kernel_rfl, by kernel_rfl, by kernel_rfl, by kernel_rfl, by kernel_rfl⟩
theorem ty_78 : sizeT Try.prog 78 = some 5 ∧ bytesT Try.prog 78 = some 48 ∧ aggT Try.prog 78 = some true ∧ elemT Try.prog 78 = none ∧ arrT Try.prog 78 = none ∧ intT Try.prog 78 = none ∧ boolT Try.prog 78 = false ∧ stringT Try.prog 78 = false ∧ sliceT Try.prog 78 = false ∧ zeroT Try.prog 78 = some [.im (.str ByteArray.empty), .im (.int .i64 0), .im (.int .i64 0), .im (.int .i64 0), .im (.bool false)] ∧ zeroImT Try.prog 78 = some [(.str ByteArray.empty), (.int .i64 0), (.int .i64 0), (.int .i64 0), (.bool false)] ∧ u8T Try.prog 78 = false ∧ eqsT Try.prog 78 = some [9, 3, 3, 3, 4] ∧ placesT Try.prog 78 = some [(0, 1), (1, 1), (2, 1), (3, 1), (4, 1)] ∧ fieldT Try.prog 78 0 = some (0, 1) ∧ fieldT Try.prog 78 1 = some (1, 1) ∧ fieldT Try.prog 78 2 = some (2, 1) ∧ fieldT Try.prog 78 3 = some (3, 1) ∧ fieldT Try.prog 78 4 = some (4, 1) := ⟨by kernel_rfl, by kernel_rfl, by kernel_rfl, by kernel_rfl, by kernel_rfl, by kernel_rfl, by kernel_rfl, by kernel_rfl, by kernel_rfl, by kernel_rfl, by kernel_rfl, by kernel_rfl, by kernel_rfl, by kernel_rfl, by kernel_rfl, by kernel_rfl, by kernel_rfl, by kernel_rfl, by kernel_rfl⟩
theorem ty_165 : sizeT Try.prog 165 = some 1 ∧ bytesT Try.prog 165 = some 24 ∧ aggT Try.prog 165 = some false ∧ elemT Try.prog 165 = some 5 ∧ arrT Try.prog 165 = none ∧ intT Try.prog 165 = none ∧ boolT Try.prog 165 = false ∧ stringT Try.prog 165 = false ∧ sliceT Try.prog 165 = true ∧ zeroT Try.prog 165 = some [.nils] ∧ zeroImT Try.prog 165 = some [(.sl [])] ∧ u8T Try.prog 165 = true ∧ zeroOne Try.prog 165 = some (.sl []) ∧ placesT Try.prog 165 = none := ⟨by kernel_rfl, by kernel_rfl, by kernel_rfl, by kernel_rfl, by kernel_rfl, by kernel_rfl, by kernel_rfl, by kernel_rfl, by kernel_rfl, by kernel_rfl, by kernel_rfl, by kernel_rfl, by kernel_rfl, by kernel_rfl⟩
theorem ty_188 : sizeT Try.prog 188 = some 1 ∧ bytesT Try.prog 188 = some 8 ∧ aggT Try.prog 188 = some false ∧ elemT Try.prog 188 = none ∧ arrT Try.prog 188 = none ∧ intT Try.prog 188 = some .u64 ∧ boolT Try.prog 188 = false ∧ stringT Try.prog 188 = false ∧ sliceT Try.prog 188 = false ∧ Program.underlying Try.prog 188 = some (.int .u64) ∧ zeroT Try.prog 188 = some [.im (.int .u64 0)] ∧ zeroImT Try.prog 188 = some [(.int .u64 0)] ∧ u8T Try.prog 188 = false ∧ zeroOne Try.prog 188 = some (.int .u64 0) ∧ placesT Try.prog 188 = none := ⟨by kernel_rfl, by kernel_rfl, by kernel_rfl, by kernel_rfl, by kernel_rfl, by kernel_rfl, by kernel_rfl, by kernel_rfl, by kernel_rfl, by kernel_rfl, by kernel_rfl, by kernel_rfl, by kernel_rfl, by kernel_rfl, by kernel_rfl⟩
theorem ty_208 : sizeT Try.prog 208 = some 1 ∧ bytesT Try.prog 208 = some 8 ∧ aggT Try.prog 208 = some false ∧ elemT Try.prog 208 = none ∧ arrT Try.prog 208 = none ∧ intT Try.prog 208 = none ∧ boolT Try.prog 208 = false ∧ stringT Try.prog 208 = false ∧ sliceT Try.prog 208 = false ∧ zeroT Try.prog 208 = some [.any] ∧ u8T Try.prog 208 = false ∧ mapT Try.prog 208 = some (9, 3) ∧ placesT Try.prog 208 = none := ⟨by kernel_rfl, by kernel_rfl, by kernel_rfl, by kernel_rfl, by kernel_rfl, by kernel_rfl, by kernel_rfl, by kernel_rfl, by kernel_rfl, by kernel_rfl, by kernel_rfl, by kernel_rfl, by kernel_rfl⟩
end Go.Proofs.YtkmnmokjlpenhaaPi

/- The walks of the drawing functions (Below, Next). -/
set_option linter.unusedVariables false
set_option linter.unusedSimpArgs false
set_option maxRecDepth 100000
namespace Go.Proofs.YtkmnmokjlpenhaaPi

abbrev I64 (x : Int) : Prop := -9223372036854775808 ≤ x ∧ x ≤ 9223372036854775807
theorem wrap64 {x : Int} (h : I64 x) : IntKind.i64.wrap x = x := by
  unfold IntKind.wrap
  simp only [IntKind.bits, IntKind.signed]
  simp
  omega
abbrev PV.i (x : Int) : PV := .im (.int .i64 x)
def below (x n : Int) : Int := if n < 1 then 0 else x % n
theorem Below_ok (x n : Int) (hx : I64 x) (hn : I64 n) (up : Frs) : ACalls Try.prog 35 [.i x, .i n] up fun v u => v = .i (below x n) ∧ u = up := by
  refine ACalls.code Try.func35 rfl 16 rfl (by simp) [.tmp 4] rfl fun Q hQ => ?_
  simp only [ups, PV.up, argEnv]
  refine Run.seq ?_
  refine Run.region rfl fun K hK => GOps.run ?_
  simp only [lookupV, updateV, lookupK, updateK, slicePV, pe0, pe1, pe2, pe3, pe4, pe5, pe6, pe7, pr0, pr1, Nat.reduceAdd, Nat.reduceMul, Nat.reduceLeDiff, Nat.reduceLT, Nat.reduceEqDiff, Nat.reduceBEq, Nat.reduceSub, reduceCtorEq, reduceIte, Int.reduceToNat, Int.reduceLE, Int.reduceEq, Int.reduceNe, Int.reduceBEq, Int.reduceBNe, Int.reduceLT, Int.reduceGT, Int.reduceGE, Int.reduceNeg, ty_3, ty_4]
  refine GOps.done (hK _ ?_); clear hK K
  refine End.keep [0, 1] ?_
  simp only [pk0, Nat.reduceBEq, reduceIte]
  refine Run.seq ?_
  refine Run.seq ?_
  refine Run.region rfl fun K hK => GOps.run ?_
  simp only [lookupV, updateV, lookupK, updateK, slicePV, pe0, pe1, pe2, pe3, pe4, pe5, pe6, pe7, pr0, pr1, Nat.reduceAdd, Nat.reduceMul, Nat.reduceLeDiff, Nat.reduceLT, Nat.reduceEqDiff, Nat.reduceBEq, Nat.reduceSub, reduceCtorEq, reduceIte, Int.reduceToNat, Int.reduceLE, Int.reduceEq, Int.reduceNe, Int.reduceBEq, Int.reduceBNe, Int.reduceLT, Int.reduceGT, Int.reduceGE, Int.reduceNeg, ty_3, ty_4]
  refine GOps.done (hK _ ?_); clear hK K
  refine End.keep [0, 1, 6] ?_
  simp only [pk0, Nat.reduceBEq, reduceIte]
  refine Run.cond _ rfl (fun hb => ?_) (fun hb => ?_)
  · have hb := of_decide_eq_true hb
    refine Run.seq ?_
    refine Run.region rfl fun K hK => GOps.run ?_
    simp only [lookupV, updateV, lookupK, updateK, slicePV, pe0, pe1, pe2, pe3, pe4, pe5, pe6, pe7, pr0, pr1, Nat.reduceAdd, Nat.reduceMul, Nat.reduceLeDiff, Nat.reduceLT, Nat.reduceEqDiff, Nat.reduceBEq, Nat.reduceSub, reduceCtorEq, reduceIte, Int.reduceToNat, Int.reduceLE, Int.reduceEq, Int.reduceNe, Int.reduceBEq, Int.reduceBNe, Int.reduceLT, Int.reduceGT, Int.reduceGE, Int.reduceNeg, ty_3, ty_4]
    refine GOps.done (hK _ ?_); clear hK K
    refine End.keep [4] ?_
    simp only [pk0, Nat.reduceBEq, reduceIte]
    refine Run.ret (hQ _ _ ⟨.inr rfl, _, rfl, _, rfl, ?_⟩)
    simp [below, hb]
  · have hb := of_decide_eq_false hb
    have hn0 : ¬ n = 0 := by omega
    have ht : x.tmod n = if x < 0 then (if x % n = 0 then 0 else x % n - n) else x % n := by
      rw [Int.tmod_eq_emod]
      have h1 : n.natAbs = n := by omega
      by_cases h0 : x < 0
      · by_cases h2 : n ∣ x
        · have := Int.emod_eq_zero_of_dvd h2
          simp [h2, h0, this]
        · have : ¬ x % n = 0 := fun e => h2 (Int.dvd_of_emod_eq_zero e)
          rw [if_neg (by omega), if_pos h0, if_neg this]
          omega
      · rw [if_pos (by omega), if_neg h0]
        omega
    have hm0 := Int.emod_nonneg x hn0
    have hm1 := Int.emod_lt_of_pos x (show 0 < n by omega)
    refine Run.skip ?_
    refine End.keep [0, 1] ?_
    simp only [pk0, Nat.reduceBEq, reduceIte]
    refine Run.seq ?_
    refine Run.region rfl fun K hK => GOps.run ?_
    simp only [lookupV, updateV, lookupK, updateK, slicePV, pe0, pe1, pe2, pe3, pe4, pe5, pe6, pe7, pr0, pr1, Nat.reduceAdd, Nat.reduceMul, Nat.reduceLeDiff, Nat.reduceLT, Nat.reduceEqDiff, Nat.reduceBEq, Nat.reduceSub, reduceCtorEq, reduceIte, Int.reduceToNat, Int.reduceLE, Int.reduceEq, Int.reduceNe, Int.reduceBEq, Int.reduceBNe, Int.reduceLT, Int.reduceGT, Int.reduceGE, Int.reduceNeg, ty_3, ty_4, hn0]
    refine GOps.done (hK _ ?_); clear hK K
    refine End.keep [0, 1] ?_
    simp only [pk0, Nat.reduceBEq, reduceIte]
    refine Run.seq ?_
    refine Run.seq ?_
    refine Run.region rfl fun K hK => GOps.run ?_
    simp only [lookupV, updateV, lookupK, updateK, slicePV, pe0, pe1, pe2, pe3, pe4, pe5, pe6, pe7, pr0, pr1, Nat.reduceAdd, Nat.reduceMul, Nat.reduceLeDiff, Nat.reduceLT, Nat.reduceEqDiff, Nat.reduceBEq, Nat.reduceSub, reduceCtorEq, reduceIte, Int.reduceToNat, Int.reduceLE, Int.reduceEq, Int.reduceNe, Int.reduceBEq, Int.reduceBNe, Int.reduceLT, Int.reduceGT, Int.reduceGE, Int.reduceNeg, ty_3, ty_4]
    refine GOps.done (hK _ ?_); clear hK K
    refine End.keep [0, 1, 11] ?_
    simp only [pk0, Nat.reduceBEq, reduceIte]
    refine Run.cond _ rfl (fun hb => ?_) (fun hb => ?_)
    · have hc := of_decide_eq_true hb
      refine Run.region rfl fun K hK => GOps.run ?_
      simp only [lookupV, updateV, lookupK, updateK, slicePV, pe0, pe1, pe2, pe3, pe4, pe5, pe6, pe7, pr0, pr1, Nat.reduceAdd, Nat.reduceMul, Nat.reduceLeDiff, Nat.reduceLT, Nat.reduceEqDiff, Nat.reduceBEq, Nat.reduceSub, reduceCtorEq, reduceIte, Int.reduceToNat, Int.reduceLE, Int.reduceEq, Int.reduceNe, Int.reduceBEq, Int.reduceBNe, Int.reduceLT, Int.reduceGT, Int.reduceGE, Int.reduceNeg, ty_3, ty_4]
      refine GOps.done (hK _ ?_); clear hK K
      refine End.keep [0] ?_
      simp only [pk0, Nat.reduceBEq, reduceIte]
      refine Run.seq ?_
      refine Run.region rfl fun K hK => GOps.run ?_
      simp only [lookupV, updateV, lookupK, updateK, slicePV, pe0, pe1, pe2, pe3, pe4, pe5, pe6, pe7, pr0, pr1, Nat.reduceAdd, Nat.reduceMul, Nat.reduceLeDiff, Nat.reduceLT, Nat.reduceEqDiff, Nat.reduceBEq, Nat.reduceSub, reduceCtorEq, reduceIte, Int.reduceToNat, Int.reduceLE, Int.reduceEq, Int.reduceNe, Int.reduceBEq, Int.reduceBNe, Int.reduceLT, Int.reduceGT, Int.reduceGE, Int.reduceNeg, ty_3, ty_4]
      refine GOps.done (hK _ ?_); clear hK K
      refine End.keep [4] ?_
      simp only [pk0, Nat.reduceBEq, reduceIte]
      refine Run.ret (hQ _ _ ⟨.inr rfl, _, rfl, _, rfl, ?_⟩)
      refine ⟨?_, rfl⟩
      have e : x.tmod n + n = x % n := by
        rw [ht] at hc ⊢
        split at hc
        · split at hc
          · omega
          · rename_i h1 h2; rw [if_pos h1, if_neg h2]; omega
        · omega
      rw [e, wrap64 (by omega)]
      simp [below, hb, show ¬ n < 1 by omega]
    · have hc := of_decide_eq_false hb
      refine Run.skip ?_
      refine End.keep [0] ?_
      simp only [pk0, Nat.reduceBEq, reduceIte]
      refine Run.seq ?_
      refine Run.region rfl fun K hK => GOps.run ?_
      simp only [lookupV, updateV, lookupK, updateK, slicePV, pe0, pe1, pe2, pe3, pe4, pe5, pe6, pe7, pr0, pr1, Nat.reduceAdd, Nat.reduceMul, Nat.reduceLeDiff, Nat.reduceLT, Nat.reduceEqDiff, Nat.reduceBEq, Nat.reduceSub, reduceCtorEq, reduceIte, Int.reduceToNat, Int.reduceLE, Int.reduceEq, Int.reduceNe, Int.reduceBEq, Int.reduceBNe, Int.reduceLT, Int.reduceGT, Int.reduceGE, Int.reduceNeg, ty_3, ty_4]
      refine GOps.done (hK _ ?_); clear hK K
      refine End.keep [4] ?_
      simp only [pk0, Nat.reduceBEq, reduceIte]
      refine Run.ret (hQ _ _ ⟨.inr rfl, _, rfl, _, rfl, ?_⟩)
      refine ⟨?_, rfl⟩
      have e : x.tmod n = x % n := by
        rw [ht] at hc ⊢
        split at hc
        · split at hc
          · rename_i h1 h2; rw [if_pos h1, if_pos h2, h2]
          · omega
        · rename_i h1; rw [if_neg h1]
      rw [e]
      simp [below, show ¬ n < 1 by omega]
abbrev ints (l : List Int) : List (List Im) := l.map fun x => [.int .i64 x]
/-- A stream of numbers: the list, and how many were drawn. -/
abbrev stm (l : List Int) (a : Int) : AObj := .box [.im (.sl (ints l)), .i a]
def nextV (l : List Int) (a n : Int) : Int :=
  if l = [] then below ((a + 1) * 7919) n else below (below (l.getD (a % l.length).toNat 0) 1073741824 + a / l.length * (7919 + a % l.length)) n
theorem ints_len (l : List Int) : (ints l).length = l.length := by simp
theorem ints_get (l : List Int) (i : Nat) (h : i < l.length) : (ints l)[i]? = some [.int .i64 (l.getD i 0)] := by simp [h]
structure StmOk (l : List Int) (a : Int) : Prop where
  vals : ∀ x ∈ l, I64 x
  len : l.length ≤ 9223372036854775807
  pos : 0 ≤ a
  few : a < 1099511627776
theorem Next_ok (l : List Int) (a n : Int) (hs : StmOk l a) (hn : I64 n) (up : Frs) (d j : Nat) (hl : fget up d j = some (stm l a)) : ACalls Try.prog 16 [.ptr d j 0, .i n] up fun v u => v = .i (nextV l a n) ∧ u = fset up d j (stm l (a + 1)) := by
  have hset : ∀ o, fget (fset up d j o) d j = some o := fun o => fget_fset_same _ _ _ _ _ hl
  have hw1 : IntKind.i64.wrap (a + 1) = a + 1 := wrap64 (by have := hs.pos; have := hs.few; omega)
  have hw2 : IntKind.i64.wrap ((a + 1) * 7919) = (a + 1) * 7919 := wrap64 (by have := hs.pos; have := hs.few; omega)
  refine ACalls.code Try.func16 rfl 64 rfl (by simp) [.tmp 4] rfl fun Q hQ => ?_
  simp only [ups, PV.up, argEnv]
  refine Run.seq ?_
  refine Run.region rfl fun K hK => GOps.run ?_
  simp only [lookupV, updateV, lookupK, updateK, slicePV, pe0, pe1, pe2, pe3, pe4, pe5, pe6, pe7, pr0, pr1, Nat.reduceAdd, Nat.reduceMul, Nat.reduceLeDiff, Nat.reduceLT, Nat.reduceEqDiff, Nat.reduceBEq, Nat.reduceSub, reduceCtorEq, reduceIte, Int.reduceToNat, Int.reduceLE, Int.reduceEq, Int.reduceNe, Int.reduceBEq, Int.reduceBNe, Int.reduceLT, Int.reduceGT, Int.reduceGE, Int.reduceNeg, ty_3, ty_4, ty_22, ty_23, ty_25, hl, hset, hw1, hw2, ints_len]
  refine GOps.done (hK _ ?_); clear hK K
  refine End.keep [0, 1] ?_
  simp only [pk0, Nat.reduceBEq, reduceIte]
  refine Run.seq ?_
  refine Run.region rfl fun K hK => GOps.run ?_
  simp only [lookupV, updateV, lookupK, updateK, slicePV, pe0, pe1, pe2, pe3, pe4, pe5, pe6, pe7, pr0, pr1, Nat.reduceAdd, Nat.reduceMul, Nat.reduceLeDiff, Nat.reduceLT, Nat.reduceEqDiff, Nat.reduceBEq, Nat.reduceSub, reduceCtorEq, reduceIte, Int.reduceToNat, Int.reduceLE, Int.reduceEq, Int.reduceNe, Int.reduceBEq, Int.reduceBNe, Int.reduceLT, Int.reduceGT, Int.reduceGE, Int.reduceNeg, ty_3, ty_4, ty_22, ty_23, ty_25, hl, hset, hw1, hw2, ints_len]
  refine GOps.done (hK _ ?_); clear hK K
  refine End.keep [0, 1] ?_
  simp only [pk0, Nat.reduceBEq, reduceIte]
  refine Run.seq ?_
  refine Run.seq ?_
  refine Run.region rfl fun K hK => GOps.run ?_
  simp only [lookupV, updateV, lookupK, updateK, slicePV, pe0, pe1, pe2, pe3, pe4, pe5, pe6, pe7, pr0, pr1, Nat.reduceAdd, Nat.reduceMul, Nat.reduceLeDiff, Nat.reduceLT, Nat.reduceEqDiff, Nat.reduceBEq, Nat.reduceSub, reduceCtorEq, reduceIte, Int.reduceToNat, Int.reduceLE, Int.reduceEq, Int.reduceNe, Int.reduceBEq, Int.reduceBNe, Int.reduceLT, Int.reduceGT, Int.reduceGE, Int.reduceNeg, ty_3, ty_4, ty_22, ty_23, ty_25, hl, hset, hw1, hw2, ints_len]
  refine GOps.done (hK _ ?_); clear hK K
  refine End.keep [0, 1, 19] ?_
  simp only [pk0, Nat.reduceBEq, reduceIte]
  refine Run.cond _ rfl (fun hb => ?_) (fun hb => ?_)
  · have hb := hb
    refine Run.seq ?_
    -- region 3: call F35(t24, t25) : 3,3
    refine Run.region rfl fun K hK => GOps.run ?_
    simp only [lookupV, updateV, lookupK, updateK, slicePV, pe0, pe1, pe2, pe3, pe4, pe5, pe6, pe7, pr0, pr1, Nat.reduceAdd, Nat.reduceMul, Nat.reduceLeDiff, Nat.reduceLT, Nat.reduceEqDiff, Nat.reduceBEq, Nat.reduceSub, reduceCtorEq, reduceIte, Int.reduceToNat, Int.reduceLE, Int.reduceEq, Int.reduceNe, Int.reduceBEq, Int.reduceBNe, Int.reduceLT, Int.reduceGT, Int.reduceGE, Int.reduceNeg, ty_3, ty_4, ty_22, ty_23, ty_25, hl, hset, hw1, hw2, ints_len]
    refine GOps.call rfl rfl rfl rfl (by kernel_rfl) ?_  -- call F35(t24, t25) : 3,3
    simp only [lookupV, updateV, lookupK, updateK, slicePV, pe0, pe1, pe2, pe3, pe4, pe5, pe6, pe7, pr0, pr1, Nat.reduceAdd, Nat.reduceMul, Nat.reduceLeDiff, Nat.reduceLT, Nat.reduceEqDiff, Nat.reduceBEq, Nat.reduceSub, reduceCtorEq, reduceIte, Int.reduceToNat, Int.reduceLE, Int.reduceEq, Int.reduceNe, Int.reduceBEq, Int.reduceBNe, Int.reduceLT, Int.reduceGT, Int.reduceGE, Int.reduceNeg, hw2]
    refine (Below_ok ((a + 1) * 7919) n (by have := hs.pos; have := hs.few; constructor <;> omega) hn _).mono fun v u hv => ?_
    obtain ⟨rfl, rfl⟩ := hv
    refine ⟨_, _, rfl, GOps.run ?_⟩
    simp only [lookupV, updateV, lookupK, updateK, slicePV, pe0, pe1, pe2, pe3, pe4, pe5, pe6, pe7, pr0, pr1, Nat.reduceAdd, Nat.reduceMul, Nat.reduceLeDiff, Nat.reduceLT, Nat.reduceEqDiff, Nat.reduceBEq, Nat.reduceSub, reduceCtorEq, reduceIte, Int.reduceToNat, Int.reduceLE, Int.reduceEq, Int.reduceNe, Int.reduceBEq, Int.reduceBNe, Int.reduceLT, Int.reduceGT, Int.reduceGE, Int.reduceNeg, ty_3, ty_4, ty_22, ty_23, ty_25, hl, hset, hw1, hw2, ints_len]
    refine GOps.done (hK _ ?_); clear hK K
    refine End.keep [4] ?_
    simp only [pk0, Nat.reduceBEq, reduceIte]
    refine Run.ret (hQ _ _ ⟨.inr rfl, _, rfl, _, rfl, ?_⟩)
    have h0 : l = [] := by simpa using hb
    exact ⟨by simp [nextV, h0], rfl⟩
  · have hne : l ≠ [] := fun e => by subst e; simp at hb
    have hpos : 0 < l.length := List.length_pos_iff.2 hne
    have hlz : ¬ ((l.length : Int) = 0) := by omega
    have hp := hs.pos
    have hf := hs.few
    have hll := hs.len
    have hw3 : IntKind.i64.wrap (a + 1 - 1) = a := by rw [show a + 1 - 1 = a by omega]; exact wrap64 (by omega)
    have hm : a.tmod l.length = a % l.length := Int.tmod_eq_emod_of_nonneg hp
    have hd : a.tdiv l.length = a / l.length := Int.tdiv_eq_ediv_of_nonneg hp
    have hm0 := Int.emod_nonneg a hlz
    have hm1 := Int.emod_lt_of_pos a (show (0 : Int) < l.length by omega)
    have hd0 : 0 ≤ a / l.length := Int.ediv_nonneg hp (by omega)
    have hia : a % l.length ≤ a := by
      have h2 := Int.mul_ediv_add_emod a l.length
      have h3 : 0 ≤ (l.length : Int) * (a / l.length) := Int.mul_nonneg (by omega) hd0
      omega
    have hd1 : a / l.length ≤ a := Int.ediv_le_self _ hp
    have hw4 : IntKind.i64.wrap (a / l.length) = a / l.length := wrap64 (by omega)
    have hlt : (a % l.length).toNat < l.length := by omega
    have hx := ints_get l (a % l.length).toNat hlt
    generalize hi : a % (l.length : Int) = i at *
    generalize hr : a / (l.length : Int) = r at *
    have hmul : r * (7919 + i) ≤ 10000000000000000 := by
      have h1 : r * i ≤ a := by
        have h2 := Int.mul_ediv_add_emod a l.length
        rw [hi, hr] at h2
        have h3 : r * i ≤ r * l.length := Int.mul_le_mul_of_nonneg_left (by omega) hd0
        rw [Int.mul_comm] at h2
        omega
      rw [Int.mul_add]
      omega
    have hmul0 : 0 ≤ r * (7919 + i) := Int.mul_nonneg hd0 (by omega)
    have hb1 : 0 ≤ below (l.getD i.toNat 0) 1073741824 ∧ below (l.getD i.toNat 0) 1073741824 < 1073741824 := by
      simp only [below]
      rw [if_neg (by decide)]
      exact ⟨Int.emod_nonneg _ (by decide), Int.emod_lt_of_pos _ (by decide)⟩
    have hw7 : IntKind.i64.wrap (below (l.getD i.toNat 0) 1073741824 + r * (7919 + i)) = below (l.getD i.toNat 0) 1073741824 + r * (7919 + i) := wrap64 (by omega)
    have hw5 : IntKind.i64.wrap (7919 + i) = 7919 + i := wrap64 (by omega)
    have hw6 : IntKind.i64.wrap (r * (7919 + i)) = r * (7919 + i) := wrap64 (by omega)
    refine Run.skip ?_
    refine End.keep [0, 1] ?_
    simp only [pk0, Nat.reduceBEq, reduceIte]
    refine Run.seq ?_
    refine Run.draw [[], [0], [0, 1], [0, 1, 2], [0, 1, 2, 3], [], [5], [5, 6], [5, 6, 7], [5, 6, 7, 8], [0, 1, 2, 3, 4, 5, 6, 7, 8, 9], [0, 1, 2, 3, 4, 5, 6, 7, 8, 9, 10]] (by kernel_rfl) rfl (by kernel_rfl) (by kernel_rfl) fun K hK => DOps.run ?_
    simp only [lookupV, updateV, lookupK, updateK, slicePV, pe0, pe1, pe2, pe3, pe4, pe5, pe6, pe7, pr0, pr1, Nat.reduceAdd, Nat.reduceMul, Nat.reduceLeDiff, Nat.reduceLT, Nat.reduceEqDiff, Nat.reduceBEq, Nat.reduceSub, reduceCtorEq, reduceIte, Int.reduceToNat, Int.reduceLE, Int.reduceEq, Int.reduceNe, Int.reduceBEq, Int.reduceBNe, Int.reduceLT, Int.reduceGT, Int.reduceGE, Int.reduceNeg, ty_3, ty_4, ty_22, ty_23, ty_25, hl, hset, hw1, hw3, ints_len, hlz, hm, hd, hw4, hw5, hw6, hx, hm0, hw7]
    refine DOps.nil (metAll_quiet rfl) (hK _ ?_); clear hK K
    refine End.keep [0, 1, 5] ?_
    simp only [pk0, Nat.reduceBEq, reduceIte]
    refine Run.seq ?_
    refine Run.draw [[], [0], [0, 1], [0, 1, 2], [0, 1, 2, 3], [], [5], [5, 6], [5, 6, 7], [5, 6, 7, 8], [0, 1, 2, 3, 4, 5, 6, 7, 8, 9], [0, 1, 2, 3, 4, 5, 6, 7, 8, 9, 10]] (by kernel_rfl) rfl (by kernel_rfl) (by kernel_rfl) fun K hK => DOps.run ?_
    simp only [lookupV, updateV, lookupK, updateK, slicePV, pe0, pe1, pe2, pe3, pe4, pe5, pe6, pe7, pr0, pr1, Nat.reduceAdd, Nat.reduceMul, Nat.reduceLeDiff, Nat.reduceLT, Nat.reduceEqDiff, Nat.reduceBEq, Nat.reduceSub, reduceCtorEq, reduceIte, Int.reduceToNat, Int.reduceLE, Int.reduceEq, Int.reduceNe, Int.reduceBEq, Int.reduceBNe, Int.reduceLT, Int.reduceGT, Int.reduceGE, Int.reduceNeg, ty_3, ty_4, ty_22, ty_23, ty_25, hl, hset, hw1, hw3, ints_len, hlz, hm, hd, hw4, hw5, hw6, hx, hm0, hw7]
    refine DOps.nil (metAll_quiet rfl) (hK _ ?_); clear hK K
    refine End.keep [0, 1, 5, 6] ?_
    simp only [pk0, Nat.reduceBEq, reduceIte]
    refine Run.seq ?_
    -- region 6: call F35(t55, 1073741824) : 3,3; call F35(t61, t62) : 3,3
    refine Run.region rfl fun K hK => GOps.run ?_
    simp only [lookupV, updateV, lookupK, updateK, slicePV, pe0, pe1, pe2, pe3, pe4, pe5, pe6, pe7, pr0, pr1, Nat.reduceAdd, Nat.reduceMul, Nat.reduceLeDiff, Nat.reduceLT, Nat.reduceEqDiff, Nat.reduceBEq, Nat.reduceSub, reduceCtorEq, reduceIte, Int.reduceToNat, Int.reduceLE, Int.reduceEq, Int.reduceNe, Int.reduceBEq, Int.reduceBNe, Int.reduceLT, Int.reduceGT, Int.reduceGE, Int.reduceNeg, ty_3, ty_4, ty_22, ty_23, ty_25, hl, hset, hw1, hw3, ints_len, hlz, hm, hd, hw4, hw5, hw6, hx, hm0, hw7]
    refine GOps.call rfl rfl rfl rfl (by kernel_rfl) ?_  -- call F35(t55, 1073741824) : 3,3
    refine (Below_ok (l.getD i.toNat 0) 1073741824 (by
      have hm : l.getD i.toNat 0 ∈ l := by rw [List.getD_eq_getElem?_getD, List.getElem?_eq_getElem hlt]; simp
      exact hs.vals _ hm) (by omega) _).mono fun v u hv => ?_
    obtain ⟨rfl, rfl⟩ := hv
    refine ⟨_, _, rfl, GOps.run ?_⟩
    simp only [lookupV, updateV, lookupK, updateK, slicePV, pe0, pe1, pe2, pe3, pe4, pe5, pe6, pe7, pr0, pr1, Nat.reduceAdd, Nat.reduceMul, Nat.reduceLeDiff, Nat.reduceLT, Nat.reduceEqDiff, Nat.reduceBEq, Nat.reduceSub, reduceCtorEq, reduceIte, Int.reduceToNat, Int.reduceLE, Int.reduceEq, Int.reduceNe, Int.reduceBEq, Int.reduceBNe, Int.reduceLT, Int.reduceGT, Int.reduceGE, Int.reduceNeg, ty_3, ty_4, ty_22, ty_23, ty_25, hl, hset, hw1, hw3, ints_len, hlz, hm, hd, hw4, hw5, hw6, hx, hm0, hw7]
    refine GOps.call rfl rfl rfl rfl (by kernel_rfl) ?_  -- call F35(t61, t62) : 3,3
    simp only [lookupV, updateV, lookupK, updateK, slicePV, pe0, pe1, pe2, pe3, pe4, pe5, pe6, pe7, pr0, pr1, Nat.reduceAdd, Nat.reduceMul, Nat.reduceLeDiff, Nat.reduceLT, Nat.reduceEqDiff, Nat.reduceBEq, Nat.reduceSub, reduceCtorEq, reduceIte, Int.reduceToNat, Int.reduceLE, Int.reduceEq, Int.reduceNe, Int.reduceBEq, Int.reduceBNe, Int.reduceLT, Int.reduceGT, Int.reduceGE, Int.reduceNeg, hw7]
    refine (Below_ok (below (l.getD i.toNat 0) 1073741824 + r * (7919 + i)) n (by omega) hn _).mono fun v u hv => ?_
    obtain ⟨rfl, rfl⟩ := hv
    refine ⟨_, _, rfl, GOps.run ?_⟩
    simp only [lookupV, updateV, lookupK, updateK, slicePV, pe0, pe1, pe2, pe3, pe4, pe5, pe6, pe7, pr0, pr1, Nat.reduceAdd, Nat.reduceMul, Nat.reduceLeDiff, Nat.reduceLT, Nat.reduceEqDiff, Nat.reduceBEq, Nat.reduceSub, reduceCtorEq, reduceIte, Int.reduceToNat, Int.reduceLE, Int.reduceEq, Int.reduceNe, Int.reduceBEq, Int.reduceBNe, Int.reduceLT, Int.reduceGT, Int.reduceGE, Int.reduceNeg, ty_3, ty_4, ty_22, ty_23, ty_25, hl, hset, hw1, hw3, ints_len, hlz, hm, hd, hw4, hw5, hw6, hx, hm0, hw7]
    refine GOps.done (hK _ ?_); clear hK K
    refine End.keep [4] ?_
    simp only [pk0, Nat.reduceBEq, reduceIte]
    refine Run.ret (hQ _ _ ⟨.inr rfl, _, rfl, _, rfl, ?_⟩)
    refine ⟨?_, rfl⟩
    simp only [nextV, if_neg hne, hi, hr]
end Go.Proofs.YtkmnmokjlpenhaaPi

/- The walks of the functions that draw words, masks, picks and nets. -/
set_option linter.unusedVariables false
set_option linter.unusedSimpArgs false
set_option maxRecDepth 100000
namespace Go.Proofs.YtkmnmokjlpenhaaPi
theorem below_range (x n : Int) (h : 1 ≤ n) : 0 ≤ below x n ∧ below x n < n := by
  unfold below
  rw [if_neg (by omega)]
  exact ⟨Int.emod_nonneg _ (by omega), Int.emod_lt_of_pos _ (by omega)⟩
theorem nextV_range (l : List Int) (a n : Int) (h : 1 ≤ n) : 0 ≤ nextV l a n ∧ nextV l a n < n := by
  unfold nextV
  split <;> exact below_range _ _ h
theorem StmOk.next {l : List Int} {a : Int} (h : StmOk l a) (hf : a + 1 < 1099511627776) : StmOk l (a + 1) := ⟨h.vals, h.len, by have := h.pos; omega, hf⟩
theorem StmOk.plus {l : List Int} {a : Int} (h : StmOk l a) (k : Int) (hk : 0 ≤ k) (hf : a + k < 1099511627776) : StmOk l (a + k) := ⟨h.vals, h.len, by have := h.pos; omega, hf⟩
abbrev PV.u (x : Int) : PV := .im (.int .u64 x)
theorem wrapU {x : Int} (h : 0 ≤ x ∧ x ≤ 18446744073709551615) : IntKind.u64.wrap x = x := by
  unfold IntKind.wrap
  simp only [IntKind.bits, IntKind.signed]
  simp
  omega
def wordV (l : List Int) (a : Int) : Int :=
  bits .xor .u64 (bits .xor .u64 (IntKind.u64.wrap (nextV l a 1073741824)) (IntKind.u64.wrap (IntKind.u64.wrap (nextV l (a + 1) 1073741824) * 2 ^ 25))) (IntKind.u64.wrap (IntKind.u64.wrap (nextV l (a + 1 + 1) 1073741824) * 2 ^ 50))
theorem word_ok (l : List Int) (a : Int) (hs : StmOk l a) (hf : a + 1000 < 1099511627776) (up : Frs) (d j : Nat) (hl : fget up d j = some (stm l a)) : ACalls Try.prog 76 [.ptr d j 0] up fun v u => v = .u (wordV l a) ∧ u = fset up d j (stm l (a + 1 + 1 + 1)) := by
  have hset : ∀ o, fget (fset up d j o) d j = some o := fun o => fget_fset_same _ _ _ _ _ hl
  have hp := hs.pos
  refine ACalls.code Try.func76 rfl 16 rfl (by simp) [.tmp 2] rfl fun Q hQ => ?_
  simp only [ups, PV.up, argEnv]
  have ft := And.intro ty_3 (And.intro ty_23 (And.intro ty_37 (And.intro ty_188 trivial)))
  refine Run.seq ?_
  have fx := And.intro hset (And.intro hl ft)
  refine Run.go ?_
  refine End.kp [0] ?_
  refine Run.seq ?_
  refine Run.region rfl fun K hK => GOps.sim ?_
  refine GOps.call rfl rfl rfl rfl (by kernel_rfl) (ACalls.sim ?_)
  refine (Next_ok l a 1073741824 hs (by omega) _ (d + 1) j hl).mono fun v u hv => ?_
  obtain ⟨rfl, rfl⟩ := hv
  refine ⟨_, _, rfl, GOps.sim ?_⟩
  refine GOps.call rfl rfl rfl rfl (by kernel_rfl) (ACalls.sim ?_)
  refine (Next_ok l (a + 1) 1073741824 (hs.plus 1 (by omega) (by omega)) (by omega) _ (d + 1) j (hset _)).mono fun v u hv => ?_
  obtain ⟨rfl, rfl⟩ := hv
  refine ⟨_, _, rfl, GOps.sim ?_⟩
  refine GOps.call rfl rfl rfl rfl (by kernel_rfl) (ACalls.sim ?_)
  refine (Next_ok l (a + 1 + 1) 1073741824 ((hs.plus 1 (by omega) (by omega)).plus 1 (by omega) (by omega)) (by omega) _ (d + 1) j (hset _)).mono fun v u hv => ?_
  obtain ⟨rfl, rfl⟩ := hv
  refine ⟨_, _, rfl, GOps.sim ?_⟩
  refine GOps.done (hK _ ?_); clear hK K
  refine End.kp [2] ?_
  refine Run.ret (hQ _ _ ⟨.inr rfl, _, rfl, _, rfl, ?_⟩)
  exact ⟨rfl, rfl⟩
theorem mask_ok (w : Int) (h0 : 0 ≤ w) (h1 : w ≤ 64) (up : Frs) : ACalls Try.prog 77 [.i w] up fun v u => v = .u (2 ^ w.toNat - 1) ∧ u = up := by
  refine ACalls.code Try.func77 rfl 8 rfl (by simp) [.tmp 2] rfl fun Q hQ => ?_
  simp only [ups, PV.up, argEnv]
  have ft := And.intro ty_3 (And.intro ty_4 (And.intro ty_37 trivial))
  refine Run.seq ?_
  have fx := ft
  refine Run.go ?_
  refine End.kp [0] ?_
  refine Run.seq ?_
  refine Run.seq ?_
  refine Run.go ?_
  refine End.kp [0, 4] ?_
  refine Run.cond _ rfl (fun hb => ?_) (fun hb => ?_)
  · have hb := of_decide_eq_true hb
    refine Run.seq ?_
    have fx := ft
    refine Run.go ?_
    refine End.kp [2] ?_
    refine Run.ret (hQ _ _ ⟨.inr rfl, _, rfl, _, rfl, ?_⟩)
    have : w = 64 := by omega
    subst this
    exact ⟨rfl, rfl⟩
    
  · have hb := of_decide_eq_false hb
    have hw : ¬ w < 0 := by omega
    have hmin : min w.toNat IntKind.u64.bits = w.toNat := by simp only [IntKind.bits]; omega
    have hpow : (2 : Int) ^ w.toNat ≤ 9223372036854775808 := by
      have h2 : (2 : Nat) ^ w.toNat ≤ 9223372036854775808 := Nat.le_trans (Nat.pow_le_pow_right (by decide) (show w.toNat ≤ 63 by omega)) (by decide)
      have h3 : ((2 : Nat) ^ w.toNat : Int) = (((2 : Nat) ^ w.toNat : Nat) : Int) := (Int.natCast_pow 2 w.toNat).symm
      have h4 : (2 : Int) ^ w.toNat = (((2 : Nat) ^ w.toNat : Nat) : Int) := h3
      rw [h4]
      exact Int.ofNat_le.2 h2
    have hpow0 : (1 : Int) ≤ 2 ^ w.toNat := by
      have h4 : (2 : Int) ^ w.toNat = (((2 : Nat) ^ w.toNat : Nat) : Int) := (Int.natCast_pow 2 w.toNat).symm
      rw [h4]
      exact Int.ofNat_le.2 Nat.one_le_two_pow
    have hw1 : IntKind.u64.wrap (1 * 2 ^ w.toNat) = 2 ^ w.toNat := by rw [Int.one_mul]; exact wrapU (by omega)
    have hw2 : IntKind.u64.wrap (2 ^ w.toNat - 1) = 2 ^ w.toNat - 1 := wrapU (by omega)
    
    refine Run.skip ?_
    refine End.kp [0] ?_
    refine Run.seq ?_
    have fx := And.intro hw2 (And.intro hw1 (And.intro hmin (And.intro hw ft)))
    refine Run.go ?_
    refine End.kp [2] ?_
    refine Run.ret (hQ _ _ ⟨.inr rfl, _, rfl, _, rfl, ?_⟩)
    exact ⟨rfl, rfl⟩
theorem Pick_ok (q : List Int) (hq : 1 ≤ q.length) (hq2 : q.length ≤ 1000) (l : List Int) (a : Int) (hs : StmOk l a) (hf : a + 1000 < 1099511627776) (up : Frs) (d j : Nat) (hl : fget up d j = some (stm l a)) : ACalls Try.prog 75 [.ptr d j 0, .im (.sl (ints q))] up fun v u => v = .i (q.getD (nextV l a q.length).toNat 0) ∧ u = fset up d j (stm l (a + 1)) := by
  have hset : ∀ o, fget (fset up d j o) d j = some o := fun o => fget_fset_same _ _ _ _ _ hl
  have hp := hs.pos
  
  obtain ⟨hr0, hr1⟩ := nextV_range l a q.length (by omega)
  have hx := ints_get q (nextV l a q.length).toNat (by omega)
  refine ACalls.code Try.func75 rfl 12 rfl (by simp) [.tmp 4] rfl fun Q hQ => ?_
  simp only [ups, PV.up, argEnv]
  have ft := And.intro ty_3 (And.intro ty_22 (And.intro ty_23 trivial))
  refine Run.seq ?_
  have fx := And.intro hr0 (And.intro hx (And.intro ints_len (And.intro hset (And.intro hl ft))))
  refine Run.go ?_
  refine End.kp [0, 1] ?_
  refine Run.seq ?_
  refine Run.region rfl fun K hK => GOps.sim ?_
  refine GOps.call rfl rfl rfl rfl (by kernel_rfl) (ACalls.sim ?_)
  refine (Next_ok l a q.length hs (by omega) _ (d + 1) j hl).mono fun v u hv => ?_
  obtain ⟨rfl, rfl⟩ := hv
  refine ⟨_, _, rfl, GOps.sim ?_⟩
  refine GOps.done (hK _ ?_); clear hK K
  refine End.kp [4] ?_
  refine Run.ret (hQ _ _ ⟨.inr rfl, _, rfl, _, rfl, ?_⟩)
  exact ⟨rfl, rfl⟩
def netV (l : List Int) (a most : Int) : Int := if nextV l a 2 = 0 then most - 1 - nextV l (a + 1) (min most 5) else nextV l (a + 1) most
theorem netV_range (l : List Int) (a most : Int) (h : 1 ≤ most) : 0 ≤ netV l a most ∧ netV l a most < most := by
  unfold netV
  split
  · have := nextV_range l (a + 1) (min most 5) (by omega)
    omega
  · exact nextV_range _ _ _ h
theorem net_ok (most : Int) (hm : 1 ≤ most) (hm2 : most ≤ 1000000) (k : Nat) (l : List Int) (a : Int) (hs : StmOk l a) (hf : a + 1000 < 1099511627776) (up : Frs) (d j : Nat) (hl : fget up (d + 1) j = some (stm l a)) (hk : fget up 0 k = some (.box [.ptr (d + 1) j 0])) : ACalls Try.prog 74 [.i most, .ptr 0 k 0] up fun v u => v = .i (netV l a most) ∧ u = fset up (d + 1) j (stm l (a + 1 + 1)) := by
  have hset : ∀ o, fget (fset up (d + 1) j o) (d + 1) j = some o := fun o => fget_fset_same _ _ _ _ _ hl
  have hk2 : ∀ o, fget (fset up (d + 1) j o) 0 k = some (.box [.ptr (d + 1) j 0]) := fun o => by rw [fget_fset, if_neg (by omega)]; exact hk
  have hp := hs.pos
  have hs1 := hs.plus 1 (by omega) (by omega)
  refine ACalls.code Try.func74 rfl 17 rfl (by simp) [.tmp 3] rfl fun Q hQ => ?_
  simp only [ups, PV.up, argEnv]
  have ft := And.intro ty_3 (And.intro ty_4 (And.intro ty_23 trivial))
  refine Run.seq ?_
  have fx := And.intro hk2 (And.intro hk (And.intro hset (And.intro hl ft)))
  refine Run.go ?_
  refine End.kp [0, 1] ?_
  refine Run.seq ?_
  refine Run.seq ?_
  refine Run.region rfl fun K hK => GOps.sim ?_
  refine GOps.call rfl rfl rfl rfl (by kernel_rfl) (ACalls.sim ?_)
  refine (Next_ok l a 2 hs (by omega) _ (d + 2) j hl).mono fun v u hv => ?_
  obtain ⟨rfl, rfl⟩ := hv
  refine ⟨_, _, rfl, GOps.sim ?_⟩
  refine GOps.done (hK _ ?_); clear hK K
  refine End.kp [0, 1, 6] ?_
  refine Run.cond _ rfl (fun hb => ?_) (fun hb => ?_)
  · have hb := eq_of_beq hb
    have hmin : (if (5 : Int) < most then 5 else most) = min most 5 := by split <;> omega
    obtain ⟨hr0, hr1⟩ := nextV_range l (a + 1) (min most 5) (by omega)
    have hw1 : IntKind.i64.wrap (most - 1) = most - 1 := wrap64 (by omega)
    have hw2 : IntKind.i64.wrap (most - 1 - nextV l (a + 1) (min most 5)) = most - 1 - nextV l (a + 1) (min most 5) := wrap64 (by omega)
    
    refine Run.seq ?_
    have fx := And.intro hw2 (And.intro hw1 (And.intro hmin (And.intro hk2 (And.intro hk (And.intro hset (And.intro hl ft))))))
    refine Run.region rfl fun K hK => GOps.sim ?_
    refine GOps.call rfl rfl rfl rfl (by kernel_rfl) (ACalls.sim ?_)
    refine (Next_ok l (a + 1) (min most 5) hs1 (by omega) _ (d + 2) j (hset _)).mono fun v u hv => ?_
    obtain ⟨rfl, rfl⟩ := hv
    refine ⟨_, _, rfl, GOps.sim ?_⟩
    refine GOps.done (hK _ ?_); clear hK K
    refine End.kp [3] ?_
    refine Run.ret (hQ _ _ ⟨.inr rfl, _, rfl, _, rfl, ?_⟩)
    exact ⟨by simp [netV, hb], rfl⟩
  · have hb : ¬ nextV l a 2 = 0 := fun e => by simp [e] at hb
    
    refine Run.skip ?_
    refine End.kp [0, 1] ?_
    refine Run.seq ?_
    have fx := And.intro hk2 (And.intro hk (And.intro hset (And.intro hl ft)))
    refine Run.region rfl fun K hK => GOps.sim ?_
    refine GOps.call rfl rfl rfl rfl (by kernel_rfl) (ACalls.sim ?_)
    refine (Next_ok l (a + 1) most hs1 (by omega) _ (d + 2) j (hset _)).mono fun v u hv => ?_
    obtain ⟨rfl, rfl⟩ := hv
    refine ⟨_, _, rfl, GOps.sim ?_⟩
    refine GOps.done (hK _ ?_); clear hK K
    refine End.kp [3] ?_
    refine Run.ret (hQ _ _ ⟨.inr rfl, _, rfl, _, rfl, ?_⟩)
    exact ⟨by simp [netV, hb], rfl⟩
end Go.Proofs.YtkmnmokjlpenhaaPi

/- Plain law: bit 0 of words. -/
set_option linter.unusedVariables false
set_option linter.unusedSimpArgs false
namespace Go.Proofs.YtkmnmokjlpenhaaPi

end Go.Proofs.YtkmnmokjlpenhaaPi

/- The walks of the function that draws names. -/
set_option linter.unusedVariables false
set_option linter.unusedSimpArgs false
set_option maxRecDepth 100000
namespace Go.Proofs.YtkmnmokjlpenhaaPi

def chr (n : Int) : UInt8 := UInt8.ofNat n.toNat
abbrev strs (l : List ByteArray) : List (List Im) := l.map fun s => [.str s]
theorem strs_len (l : List ByteArray) : (strs l).length = l.length := by simp
def nameV (l : List Int) (a : Int) (i : Int) : ByteArray × Int :=
  if nextV l (a + 1) 5 = 0 then (⟨#[chr (97 + nextV l a 26), chr (97 + i % 26), chr (97 + i / 26 % 26)]⟩ ++ (⟨#[91]⟩ ++ ⟨#[chr (48 + nextV l (a + 1 + 1) 10)]⟩ ++ ⟨#[93]⟩), a + 1 + 1 + 1)
  else if nextV l (a + 1) 5 = 1 then (⟨#[109, 46]⟩ ++ ⟨#[chr (97 + nextV l a 26), chr (97 + i % 26), chr (97 + i / 26 % 26)]⟩, a + 1 + 1)
  else (⟨#[chr (97 + nextV l a 26), chr (97 + i % 26), chr (97 + i / 26 % 26)]⟩, a + 1 + 1)
def wordsV (l : List Int) : Nat → Nat → Int → List ByteArray × Int
  | 0, _, a => ([], a)
  | k + 1, i, a => ((nameV l a i).1 :: (wordsV l k (i + 1) (nameV l a i).2).1, (wordsV l k (i + 1) (nameV l a i).2).2)
theorem nameV_pos (l : List Int) (a i : Int) : a < (nameV l a i).2 ∧ (nameV l a i).2 ≤ a + 3 := by
  unfold nameV
  split
  · exact ⟨by simp only; omega, by simp only; omega⟩
  · split <;> exact ⟨by simp only; omega, by simp only; omega⟩
theorem wordsV_pos (l : List Int) : ∀ (k i : Nat) (a : Int), a ≤ (wordsV l k i a).2 ∧ (wordsV l k i a).2 ≤ a + 3 * k ∧ (wordsV l k i a).1.length = k
  | 0, i, a => by simp [wordsV]
  | k + 1, i, a => by
    have h1 := nameV_pos l a i
    have h2 := wordsV_pos l k (i + 1) (nameV l a i).2
    refine ⟨?_, ?_, ?_⟩
    · simp only [wordsV]; omega
    · simp only [wordsV]; omega
    · simp only [wordsV, List.length_cons]; omega
theorem wrap8 {x : Int} (h : 0 ≤ x ∧ x < 256) : IntKind.u8.wrap x = x := by
  unfold IntKind.wrap
  simp only [IntKind.bits, IntKind.signed]
  simp
  omega
theorem ba_size (a : Array UInt8) : (ByteArray.mk a).size = a.size := rfl
theorem Words_ok (N : Nat) (hN : N ≤ 300) (l : List Int) (a : Int) (hs : StmOk l a) (hf : a + 1000 < 1099511627776) (up : Frs) (d j : Nat) (hl : fget up d j = some (stm l a)) : ACalls Try.prog 60 [.ptr d j 0, .i N] up fun v u => v = .im (.sl (strs (wordsV l N 0 a).1)) ∧ u = fset up d j (stm l (wordsV l N 0 a).2) := by
  have hset : ∀ o, fget (fset up d j o) d j = some o := fun o => fget_fset_same _ _ _ _ _ hl
  have hp := hs.pos
  refine ACalls.code Try.func60 rfl 51 rfl (by simp) [.tmp 4] rfl fun Q hQ => ?_
  simp only [ups, PV.up, argEnv]
  have ft := And.intro ty_2 (And.intro ty_3 (And.intro ty_4 (And.intro ty_5 (And.intro ty_9 (And.intro ty_23 (And.intro ty_26 (And.intro ty_165 trivial)))))))
  refine Run.seq ?_
  have fx := And.intro hset (And.intro hl ft)
  refine Run.go ?_
  refine End.kp [0, 1] ?_
  refine Run.seq ?_
  refine Run.go ?_
  refine End.kp [0, 1, 5] ?_
  refine Run.seq ?_
  refine Run.seq ?_
  refine Run.go ?_
  refine End.kp [0, 5, 8, 9] ?_
  refine Run.block ?_
  refine Run.ghost (Ghost.thaw (u := 5) 9 1 (by decide) rfl) ?_
  refine Run.ghost (Ghost.shape [(0, .ptr (d + 1) j 0), (5, .ms 0 0 (0)), (8, .i N), (9, .i (0 : Nat))] 1 ?_ rfl rfl) ?_
  · simp [eget, eput, edel]
  refine Run.loop (fun m s => ∃ (i : Nat) (done : List ByteArray) (b : Int), m = N - i ∧ i ≤ N ∧ done.length = i ∧ (wordsV l (N - i) i b).2 = (wordsV l N 0 a).2 ∧ done ++ (wordsV l (N - i) i b).1 = (wordsV l N 0 a).1 ∧ a ≤ b ∧ b ≤ a + 3 * i ∧
    s = ⟨[(0, .ptr (d + 1) j 0), (5, .ms 0 0 (i)), (8, .i N), (9, .i (i : Nat))], [.row 9 1 (strs done) 0], fset up d j (stm l b)⟩) N ⟨0, [], a, rfl, by omega, rfl, rfl, rfl, by omega, by omega, by rw [fset_self up d j _ hl]; rfl⟩ fun m s hI => ?_
  obtain ⟨i, done, b, rfl, hi, hdl, hw2, hw1, hb0, hb1, rfl⟩ := hI
  have hsl : (strs done).length = i := by rw [strs_len, hdl]
  have hs0 : StmOk l b := ⟨hs.vals, hs.len, by omega, by omega⟩
  refine Run.seq ?_
  have fx := And.intro hsl (And.intro hset (And.intro hl ft))
  refine Run.go ?_
  refine End.kp [0, 5, 8, 9, 10] ?_
  refine Run.seq ?_
  refine Run.cond _ rfl (fun hb => ?_) (fun hb => ?_)
  · have hb := of_decide_eq_true hb
    have hin : i < N := by omega
    have hap : (i + 1) * 16 ≤ 140737488355328 := by omega
    obtain ⟨r0, r1⟩ := nextV_range l b 26 (by omega)
    obtain ⟨r2, r3⟩ := nextV_range l (b + 1) 5 (by omega)
    obtain ⟨r4, r5⟩ := nextV_range l (b + 1 + 1) 10 (by omega)
    have m0 := Int.emod_nonneg (i : Int) (show (26 : Int) ≠ 0 by decide)
    have m1 := Int.emod_lt_of_pos (i : Int) (show (0 : Int) < 26 by decide)
    have m2 := Int.emod_nonneg ((i : Int) / 26) (show (26 : Int) ≠ 0 by decide)
    have m3 := Int.emod_lt_of_pos ((i : Int) / 26) (show (0 : Int) < 26 by decide)
    have d0 : (0 : Int) ≤ (i : Int) / 26 := by omega
    have d1 : (i : Int) / 26 ≤ i := by omega
    have t1 : (i : Int).tmod 26 = (i : Int) % 26 := Int.tmod_eq_emod_of_nonneg (by omega)
    have t2 : (i : Int).tdiv 26 = (i : Int) / 26 := Int.tdiv_eq_ediv_of_nonneg (by omega)
    have t3 : ((i : Int) / 26).tmod 26 = (i : Int) / 26 % 26 := Int.tmod_eq_emod_of_nonneg d0
    have w0 : IntKind.i64.wrap ((i : Int) / 26) = (i : Int) / 26 := wrap64 (by omega)
    have w1 : IntKind.i64.wrap (97 + nextV l b 26) = 97 + nextV l b 26 := wrap64 (by omega)
    have w2 : IntKind.i64.wrap (97 + (i : Int) % 26) = 97 + (i : Int) % 26 := wrap64 (by omega)
    have w3 : IntKind.i64.wrap (97 + (i : Int) / 26 % 26) = 97 + (i : Int) / 26 % 26 := wrap64 (by omega)
    have w4 : IntKind.i64.wrap (48 + nextV l (b + 1 + 1) 10) = 48 + nextV l (b + 1 + 1) 10 := wrap64 (by omega)
    have v1 : IntKind.u8.wrap (97 + nextV l b 26) = 97 + nextV l b 26 := wrap8 (by omega)
    have v2 : IntKind.u8.wrap (97 + (i : Int) % 26) = 97 + (i : Int) % 26 := wrap8 (by omega)
    have v3 : IntKind.u8.wrap (97 + (i : Int) / 26 % 26) = 97 + (i : Int) / 26 % 26 := wrap8 (by omega)
    have v4 : IntKind.u8.wrap (48 + nextV l (b + 1 + 1) 10) = 48 + nextV l (b + 1 + 1) 10 := wrap8 (by omega)
    have z1 : 0 ≤ 97 + nextV l b 26 ∧ 97 + nextV l b 26 < 256 := by omega
    have z2 : 0 ≤ 97 + (i : Int) % 26 ∧ 97 + (i : Int) % 26 < 256 := by omega
    have z3 : 0 ≤ 97 + (i : Int) / 26 % 26 ∧ 97 + (i : Int) / 26 % 26 < 256 := by omega
    have z4 : 0 ≤ 48 + nextV l (b + 1 + 1) 10 ∧ 48 + nextV l (b + 1 + 1) 10 < 256 := by omega
    have wi : IntKind.i64.wrap ((i : Int) + 1) = ((i + 1 : Nat) : Int) := by rw [wrap64 (by omega)]; omega
    refine Run.skip ?_
    refine End.kp [0, 5, 8, 9] ?_
    refine Run.seq ?_
    refine Run.block ?_
    refine Run.seq ?_
    have fx := And.intro (@ByteArray.size_append) (And.intro (@List.size_toArray.{0}) (And.intro (@ba_size) (And.intro wi (And.intro z4 (And.intro z3 (And.intro z2 (And.intro z1 (And.intro v4 (And.intro v3 (And.intro v2 (And.intro v1 (And.intro w4 (And.intro w3 (And.intro w2 (And.intro w1 (And.intro w0 (And.intro t3 (And.intro t2 (And.intro t1 (And.intro hap (And.intro hsl (And.intro hset (And.intro hl ft)))))))))))))))))))))))
    refine Run.go ?_
    refine End.kp [0, 5, 6, 8, 9] ?_
    refine Run.seq ?_
    refine Run.region rfl fun K hK => GOps.sim ?_
    refine GOps.call rfl rfl rfl rfl (by kernel_rfl) (ACalls.sim ?_)
    refine (Next_ok l b 26 hs0 (by omega) _ (d + 1) j (hset _)).mono fun v u hv => ?_
    obtain ⟨rfl, rfl⟩ := hv
    refine ⟨_, _, rfl, GOps.sim ?_⟩
    refine GOps.done (hK _ ?_); clear hK K
    refine End.kp [0, 5, 7, 8, 9] ?_
    refine Run.seq ?_
    refine Run.seq ?_
    refine Run.region rfl fun K hK => GOps.sim ?_
    refine GOps.call rfl rfl rfl rfl (by kernel_rfl) (ACalls.sim ?_)
    refine (Next_ok l (b + 1) 5 (hs0.plus 1 (by omega) (by omega)) (by omega) _ (d + 1) j (hset _)).mono fun v u hv => ?_
    obtain ⟨rfl, rfl⟩ := hv
    refine ⟨_, _, rfl, GOps.sim ?_⟩
    refine GOps.done (hK _ ?_); clear hK K
    refine End.kp [0, 5, 7, 8, 9, 28] ?_
    refine Run.block ?_
    refine Run.seq ?_
    refine Run.go ?_
    refine End.kp [0, 5, 7, 8, 9, 28, 29] ?_
    refine Run.cond _ rfl (fun hb => ?_) (fun hb => ?_)
    · have hb5 : nextV l (b + 1) 5 = 0 := eq_of_beq hb
      have fx := And.intro (@ByteArray.size_append) (And.intro (@List.size_toArray.{0}) (And.intro (@ba_size) (And.intro wi (And.intro z4 (And.intro z3 (And.intro z2 (And.intro z1 (And.intro v4 (And.intro v3 (And.intro v2 (And.intro v1 (And.intro w4 (And.intro w3 (And.intro w2 (And.intro w1 (And.intro w0 (And.intro t3 (And.intro t2 (And.intro t1 (And.intro hap (And.intro hsl (And.intro hset (And.intro hl ft)))))))))))))))))))))))
      refine Run.region rfl fun K hK => GOps.sim ?_
      refine GOps.call rfl rfl rfl rfl (by kernel_rfl) (ACalls.sim ?_)
      refine (Next_ok l (b + 1 + 1) 10 ((hs0.plus 1 (by omega) (by omega)).plus 1 (by omega) (by omega)) (by omega) _ (d + 1) j (hset _)).mono fun v u hv => ?_
      obtain ⟨rfl, rfl⟩ := hv
      refine ⟨_, _, rfl, GOps.sim ?_⟩
      refine GOps.done (hK _ ?_); clear hK K
      refine End.blk ?_
      refine End.kp [0, 5, 7, 8, 9] ?_
      refine Run.go ?_
      refine End.blk ?_
      refine End.kp [0, 5, 8, 9] ?_
      refine Run.go ?_
      refine End.lp ?_
      have hn : nameV l b i = (⟨#[chr (97 + nextV l b 26), chr (97 + (i : Int) % 26), chr (97 + (i : Int) / 26 % 26)]⟩ ++ (⟨#[91]⟩ ++ ⟨#[chr (48 + nextV l (b + 1 + 1) 10)]⟩ ++ ⟨#[93]⟩), b + 1 + 1 + 1) := by simp [nameV, chr, hb5]
      have hp := nameV_pos l b i
      have hwi : wordsV l (N - i) i b = ((nameV l b i).1 :: (wordsV l (N - (i + 1)) (i + 1) (nameV l b i).2).1, (wordsV l (N - (i + 1)) (i + 1) (nameV l b i).2).2) := by
        rw [show N - i = (N - (i + 1)) + 1 by omega]
        rfl
      rw [hwi] at hw1 hw2
      refine ⟨N - (i + 1), _, by omega, Ghost.shape [(0, .ptr (d + 1) j 0), (5, .ms 0 0 (i + 1)), (8, .i N), (9, .i (i + 1 : Nat))] 1 ?_ rfl rfl, i + 1, done ++ [(nameV l b i).1], (nameV l b i).2, rfl, by omega, by simp [hdl], hw2, by simpa using hw1, by omega, by omega, ?_⟩
      · simp only [List.mem_cons, List.not_mem_nil, or_false, forall_eq_or_imp, forall_eq, eget]
        simp
      · rw [hn]
        simp [chr]
    · have hb5 : ¬ nextV l (b + 1) 5 = 0 := fun e => by simp [e] at hb
      refine Run.seq ?_
      have fx := And.intro (@ByteArray.size_append) (And.intro (@List.size_toArray.{0}) (And.intro (@ba_size) (And.intro wi (And.intro z4 (And.intro z3 (And.intro z2 (And.intro z1 (And.intro v4 (And.intro v3 (And.intro v2 (And.intro v1 (And.intro w4 (And.intro w3 (And.intro w2 (And.intro w1 (And.intro w0 (And.intro t3 (And.intro t2 (And.intro t1 (And.intro hap (And.intro hsl (And.intro hset (And.intro hl ft)))))))))))))))))))))))
      refine Run.go ?_
      refine End.kp [0, 5, 7, 8, 9, 41] ?_
      refine Run.cond _ rfl (fun hb => ?_) (fun hb => ?_)
      · have hb6 : nextV l (b + 1) 5 = 1 := eq_of_beq hb
        have fx := And.intro (@ByteArray.size_append) (And.intro (@List.size_toArray.{0}) (And.intro (@ba_size) (And.intro wi (And.intro z4 (And.intro z3 (And.intro z2 (And.intro z1 (And.intro v4 (And.intro v3 (And.intro v2 (And.intro v1 (And.intro w4 (And.intro w3 (And.intro w2 (And.intro w1 (And.intro w0 (And.intro t3 (And.intro t2 (And.intro t1 (And.intro hap (And.intro hsl (And.intro hset (And.intro hl ft)))))))))))))))))))))))
        refine Run.go ?_
        refine End.blk ?_
        refine End.kp [0, 5, 7, 8, 9] ?_
        refine Run.go ?_
        refine End.blk ?_
        refine End.kp [0, 5, 8, 9] ?_
        refine Run.go ?_
        refine End.lp ?_
        have hn : nameV l b i = (⟨#[109, 46]⟩ ++ ⟨#[chr (97 + nextV l b 26), chr (97 + (i : Int) % 26), chr (97 + (i : Int) / 26 % 26)]⟩, b + 1 + 1) := by simp [nameV, chr, hb5, hb6]
        have hp := nameV_pos l b i
        have hwi : wordsV l (N - i) i b = ((nameV l b i).1 :: (wordsV l (N - (i + 1)) (i + 1) (nameV l b i).2).1, (wordsV l (N - (i + 1)) (i + 1) (nameV l b i).2).2) := by
          rw [show N - i = (N - (i + 1)) + 1 by omega]
          rfl
        rw [hwi] at hw1 hw2
        refine ⟨N - (i + 1), _, by omega, Ghost.shape [(0, .ptr (d + 1) j 0), (5, .ms 0 0 (i + 1)), (8, .i N), (9, .i (i + 1 : Nat))] 1 ?_ rfl rfl, i + 1, done ++ [(nameV l b i).1], (nameV l b i).2, rfl, by omega, by simp [hdl], hw2, by simpa using hw1, by omega, by omega, ?_⟩
        · simp only [List.mem_cons, List.not_mem_nil, or_false, forall_eq_or_imp, forall_eq, eget]
          simp
        · rw [hn]
          simp [chr]
      · have hb6 : ¬ nextV l (b + 1) 5 = 1 := fun e => by simp [e] at hb
        refine Run.skip ?_
        refine End.blk ?_
        refine End.kp [0, 5, 7, 8, 9] ?_
        have fx := And.intro (@ByteArray.size_append) (And.intro (@List.size_toArray.{0}) (And.intro (@ba_size) (And.intro wi (And.intro z4 (And.intro z3 (And.intro z2 (And.intro z1 (And.intro v4 (And.intro v3 (And.intro v2 (And.intro v1 (And.intro w4 (And.intro w3 (And.intro w2 (And.intro w1 (And.intro w0 (And.intro t3 (And.intro t2 (And.intro t1 (And.intro hap (And.intro hsl (And.intro hset (And.intro hl ft)))))))))))))))))))))))
        refine Run.go ?_
        refine End.blk ?_
        refine End.kp [0, 5, 8, 9] ?_
        refine Run.go ?_
        refine End.lp ?_
        have hn : nameV l b i = (⟨#[chr (97 + nextV l b 26), chr (97 + (i : Int) % 26), chr (97 + (i : Int) / 26 % 26)]⟩, b + 1 + 1) := by simp [nameV, chr, hb5, hb6]
        have hp := nameV_pos l b i
        have hwi : wordsV l (N - i) i b = ((nameV l b i).1 :: (wordsV l (N - (i + 1)) (i + 1) (nameV l b i).2).1, (wordsV l (N - (i + 1)) (i + 1) (nameV l b i).2).2) := by
          rw [show N - i = (N - (i + 1)) + 1 by omega]
          rfl
        rw [hwi] at hw1 hw2
        refine ⟨N - (i + 1), _, by omega, Ghost.shape [(0, .ptr (d + 1) j 0), (5, .ms 0 0 (i + 1)), (8, .i N), (9, .i (i + 1 : Nat))] 1 ?_ rfl rfl, i + 1, done ++ [(nameV l b i).1], (nameV l b i).2, rfl, by omega, by simp [hdl], hw2, by simpa using hw1, by omega, by omega, ?_⟩
        · simp only [List.mem_cons, List.not_mem_nil, or_false, forall_eq_or_imp, forall_eq, eget]
          simp
        · rw [hn]
          simp [chr]
  · have hb := of_decide_eq_false hb
    have hiN : i = N := by omega
    subst hiN
    simp only [Nat.sub_self, wordsV, List.append_nil] at hw1 hw2
    refine Run.exit rfl ?_
    refine End.kp [5] ?_
    refine Run.seq ?_
    refine Run.ghost (Ghost.shut (t := 5) (j := 0) rfl rfl hsl) ?_
    simp only [eput, edel]
    have fx := And.intro hsl (And.intro hset (And.intro hl ft))
    refine Run.go ?_
    refine End.kp [4] ?_
    refine Run.ret (hQ _ _ ⟨.inr rfl, _, rfl, _, rfl, ?_⟩)
    exact ⟨by rw [hw1], by rw [hw2]⟩
end Go.Proofs.YtkmnmokjlpenhaaPi

/- The walk of the function that draws a netlist. -/
set_option linter.unusedVariables false
set_option linter.unusedSimpArgs false
set_option maxRecDepth 100000
namespace Go.Proofs.YtkmnmokjlpenhaaPi

def netsV (l : List Int) (most : Int) : Nat → Int → List Int × Int
  | 0, a => ([], a)
  | k + 1, a => (netV l a most :: (netsV l most k (a + 1 + 1)).1, (netsV l most k (a + 1 + 1)).2)
theorem netsV_all (l : List Int) (most : Int) (h : 1 ≤ most) : ∀ (k : Nat) (a : Int), (netsV l most k a).2 = a + 2 * k ∧ (netsV l most k a).1.length = k ∧ ∀ x ∈ (netsV l most k a).1, 0 ≤ x ∧ x < most
  | 0, a => by simp [netsV]
  | k + 1, a => by
    obtain ⟨h1, h2, h3⟩ := netsV_all l most h k (a + 1 + 1)
    refine ⟨?_, ?_, ?_⟩
    · simp only [netsV]; omega
    · simp only [netsV, List.length_cons]; omega
    · intro x hx
      simp only [netsV, List.mem_cons] at hx
      rcases hx with rfl | hx
      · exact netV_range l a most h
      · exact h3 x hx
set_option maxHeartbeats 2000000
structure LGate where
  table : Int
  ins : List Int
abbrev LGate.im (g : LGate) : List Im := [.int .i64 (-1), .int .u64 g.table, .sl (ints g.ins)]
structure LFlop where
  name : ByteArray
  d : Int
  en : Int
  init : Bool
abbrev LFlop.im (f : LFlop) : List Im := [.str f.name, .int .i64 (-1), .int .i64 f.d, .int .i64 f.en, .bool f.init]
structure LNet where
  inn : List ByteArray
  out : List ByteArray
  flops : List LFlop
  gates : List LGate
  outs : List Int
abbrev LNet.pv (n : LNet) : PV := .agg [.im (.sl (strs n.inn)), .im (.sl (strs n.out)), .im (.sl (n.flops.map LFlop.im)), .im (.sl (n.gates.map LGate.im)), .im (.sl (ints n.outs))]
abbrev picks : List Int := [0, 1, 2, 2, 3, 3, 4, 5, 6]
def gateN (l : List Int) (a : Int) : Nat := (picks.getD (nextV l a 9).toNat 0).toNat
theorem gateN_le (l : List Int) (a : Int) : gateN l a ≤ 6 ∧ picks.getD (nextV l a 9).toNat 0 = gateN l a := by
  have key : ∀ k : Nat, 0 ≤ picks.getD k 0 ∧ picks.getD k 0 ≤ 6 := by
    intro k
    by_cases h : k < 9
    · have : k = 0 ∨ k = 1 ∨ k = 2 ∨ k = 3 ∨ k = 4 ∨ k = 5 ∨ k = 6 ∨ k = 7 ∨ k = 8 := by omega
      rcases this with rfl | rfl | rfl | rfl | rfl | rfl | rfl | rfl | rfl <;> decide
    · rw [List.getD_eq_getElem?_getD, List.getElem?_eq_none (by simp; omega)]
      decide
  have := key (nextV l a 9).toNat
  unfold gateN
  omega
def gateV (l : List Int) (a most : Int) : LGate × Int :=
  (⟨bits .and .u64 (wordV l (netsV l most (gateN l a) (a + 1)).2) (2 ^ ((2 : Int) ^ gateN l a).toNat - 1), (netsV l most (gateN l a) (a + 1)).1⟩, (netsV l most (gateN l a) (a + 1)).2 + 1 + 1 + 1)
theorem gateV_pos (l : List Int) (a most : Int) (h : 1 ≤ most) : a < (gateV l a most).2 ∧ (gateV l a most).2 ≤ a + 16 := by
  have h1 := (netsV_all l most h (gateN l a) (a + 1)).1
  have h2 := (gateN_le l a).1
  simp only [gateV]
  omega
def gatesV (l : List Int) (first : Int) : Nat → Nat → Int → List LGate × Int
  | 0, _, a => ([], a)
  | k + 1, i, a => ((gateV l a (first + i)).1 :: (gatesV l first k (i + 1) (gateV l a (first + i)).2).1, (gatesV l first k (i + 1) (gateV l a (first + i)).2).2)
theorem gatesV_pos (l : List Int) (first : Int) (h : 1 ≤ first) : ∀ (k i : Nat) (a : Int), a ≤ (gatesV l first k i a).2 ∧ (gatesV l first k i a).2 ≤ a + 16 * k ∧ (gatesV l first k i a).1.length = k
  | 0, i, a => by simp [gatesV]
  | k + 1, i, a => by
    have h1 := gateV_pos l a (first + i) (by omega)
    have h2 := gatesV_pos l first h k (i + 1) (gateV l a (first + i)).2
    refine ⟨?_, ?_, ?_⟩
    · simp only [gatesV]; omega
    · simp only [gatesV]; omega
    · simp only [gatesV, List.length_cons]; omega
def flopV (l : List Int) (a most : Int) (name : ByteArray) : LFlop × Int :=
  if nextV l (a + 1 + 1 + 1) 2 = 0 then (⟨name, netV l a most, netV l (a + 1 + 1 + 1 + 1) most, nextV l (a + 1 + 1) 2 == 0⟩, a + 1 + 1 + 1 + 1 + 1 + 1)
  else (⟨name, netV l a most, 1, nextV l (a + 1 + 1) 2 == 0⟩, a + 1 + 1 + 1 + 1)
theorem flopV_pos (l : List Int) (a most : Int) (nm : ByteArray) : a < (flopV l a most nm).2 ∧ (flopV l a most nm).2 ≤ a + 6 := by
  unfold flopV
  split <;> exact ⟨by simp only; omega, by simp only; omega⟩
def flopsV (l : List Int) (most : Int) : List ByteArray → Int → List LFlop × Int
  | [], a => ([], a)
  | nm :: ns, a => ((flopV l a most nm).1 :: (flopsV l most ns (flopV l a most nm).2).1, (flopsV l most ns (flopV l a most nm).2).2)
theorem flopsV_pos (l : List Int) (most : Int) : ∀ (ns : List ByteArray) (a : Int), a ≤ (flopsV l most ns a).2 ∧ (flopsV l most ns a).2 ≤ a + 6 * ns.length ∧ (flopsV l most ns a).1.length = ns.length
  | [], a => by simp [flopsV]
  | nm :: ns, a => by
    have h1 := flopV_pos l a most nm
    have h2 := flopsV_pos l most ns (flopV l a most nm).2
    refine ⟨?_, ?_, ?_⟩
    · simp only [flopsV]; omega
    · simp only [flopsV, List.length_cons]; omega
    · simp only [flopsV, List.length_cons]; omega
def netlistV (l : List Int) (a : Int) (ins flops gates outs : Nat) : LNet × Int :=
  let w := wordsV l (ins + flops) 0 a
  let o := wordsV l outs 0 w.2
  let first : Int := ((2 + ins + flops : Nat) : Int)
  let g := gatesV l first gates 0 o.2
  let f := flopsV l (first + gates) (w.1.drop ins) g.2
  let q := netsV l (first + gates) outs f.2
  (⟨w.1.take ins, o.1, f.1, g.1, q.1⟩, q.2)
theorem gim_len (l : List LGate) : (l.map LGate.im).length = l.length := by simp
theorem fim_len (l : List LFlop) : (l.map LFlop.im).length = l.length := by simp
theorem Netlist_ok (ins flops gates outs : Nat) (h1 : ins ≤ 50) (h2 : flops ≤ 50) (h3 : gates ≤ 50) (h4 : outs ≤ 50) (l : List Int) (a : Int) (hs : StmOk l a) (hf : a + 10000 < 1099511627776) (up : Frs) (d j : Nat) (hl : fget up d j = some (stm l a)) :
    ACalls Try.prog 15 [.ptr d j 0, .i ins, .i flops, .i gates, .i outs] up fun v u => v = (netlistV l a ins flops gates outs).1.pv ∧ u = fset up d j (stm l (netlistV l a ins flops gates outs).2) := by
  have hset : ∀ o, fget (fset up d j o) d j = some o := fun o => fget_fset_same _ _ _ _ _ hl
  have hp := hs.pos
  have wif : IntKind.i64.wrap ((ins : Int) + flops) = ((ins + flops : Nat) : Int) := by rw [wrap64 (by omega)]; omega
  generalize hwv : wordsV l (ins + flops) 0 a = W
  obtain ⟨wn, a1⟩ := W
  obtain ⟨p1, p2, p3⟩ := wordsV_pos l (ins + flops) 0 a
  rw [hwv] at p1 p2 p3
  simp only at p1 p2 p3
  generalize hov : wordsV l outs 0 a1 = O
  obtain ⟨on, a2⟩ := O
  obtain ⟨q1, q2, q3⟩ := wordsV_pos l outs 0 a1
  rw [hov] at q1 q2 q3
  simp only at q1 q2 q3
  have hs1 : StmOk l a1 := ⟨hs.vals, hs.len, by omega, by omega⟩
  have hs2 : StmOk l a2 := ⟨hs.vals, hs.len, by omega, by omega⟩
  have hsi : (strs wn).length = ins + flops := by rw [strs_len, p3]
  have hslice : 0 ≤ ins ∧ ins = ins ∧ ins ≤ (strs wn).length ∧ szOk 1 0 (strs wn) := ⟨by omega, rfl, by omega, .inl rfl⟩
  have htake : (strs wn).take ins = strs (wn.take ins) := by simp [strs, List.map_take]
  have wf1 : IntKind.i64.wrap (2 + (ins : Int)) = 2 + (ins : Int) := wrap64 (by omega)
  have wf2 : IntKind.i64.wrap (2 + (ins : Int) + flops) = 2 + (ins : Int) + flops := wrap64 (by omega)
  obtain ⟨first, hfirst⟩ : ∃ f : Int, f = 2 + (ins : Int) + flops := ⟨_, rfl⟩
  have wf3 : IntKind.i64.wrap first = first := wrap64 (by omega)
  have wfg : IntKind.i64.wrap (first + gates) = first + gates := wrap64 (by omega)
  obtain ⟨g1, g2, g3⟩ := gatesV_pos l first (by omega) gates 0 a2
  generalize hgv : gatesV l first gates 0 a2 = G
  obtain ⟨gs, a3⟩ := G
  rw [hgv] at g1 g2 g3
  simp only at g1 g2 g3
  obtain ⟨f1, f2, f3⟩ := flopsV_pos l (first + gates) (wn.drop ins) a3
  generalize hfv : flopsV l (first + gates) (wn.drop ins) a3 = FV
  obtain ⟨fs, a4⟩ := FV
  rw [hfv, List.length_drop, p3] at f2 f3
  rw [hfv] at f1
  simp only at f1 f2 f3
  obtain ⟨o1, o2, o3⟩ := netsV_all l (first + gates) (by omega) outs a4
  generalize hqv : netsV l (first + gates) outs a4 = QV
  obtain ⟨qs, a5⟩ := QV
  rw [hqv] at o1 o2 o3
  simp only at o1 o2 o3
  have hN : netlistV l a ins flops gates outs = (⟨wn.take ins, on, fs, gs, qs⟩, a5) := by
    have hc : ((2 + ins + flops : Nat) : Int) = first := by omega
    simp only [netlistV, hwv, hov, hc, hgv, hfv, hqv]
  refine ACalls.code Try.func15 rfl 124 rfl (by simp) [.cell 10 30] rfl fun Q hQ => ?_
  simp only [ups, PV.up, argEnv]
  have ft := And.intro ty_2 (And.intro ty_3 (And.intro ty_4 (And.intro ty_5 (And.intro ty_6 (And.intro ty_7 (And.intro ty_8 (And.intro ty_9 (And.intro ty_22 (And.intro ty_23 (And.intro ty_26 (And.intro ty_27 (And.intro ty_28 (And.intro ty_30 (And.intro ty_37 (And.intro ty_39 (And.intro ty_78 trivial))))))))))))))))
  refine Run.seq ?_
  have fx := And.intro wif (And.intro hset (And.intro hl ft))
  refine Run.go ?_
  refine End.kp [1, 2, 3, 4, 5, 10] ?_
  refine Run.seq ?_
  refine Run.region rfl fun K hK => GOps.sim ?_
  refine GOps.call rfl rfl rfl rfl (by kernel_rfl) (ACalls.sim ?_)
  refine (Words_ok (ins + flops) (by omega) l a hs (by omega) _ (d + 1) j hl).mono fun v u hv => ?_
  obtain ⟨rfl, rfl⟩ := hv
  rw [hwv]
  have fx := And.intro (@Int.toNat_natCast) (And.intro (@Int.natCast_nonneg) (And.intro hfirst.symm (And.intro wf3 (And.intro wf2 (And.intro wf1 (And.intro htake (And.intro hslice (And.intro wif (And.intro hset (And.intro hl ft))))))))))
  refine ⟨_, _, rfl, GOps.sim ?_⟩
  refine GOps.done (hK _ ?_); clear hK K
  refine End.kp [1, 2, 3, 4, 5, 10, 11] ?_
  refine Run.seq ?_
  refine Run.ghost (.spares 1) ?_
  simp only [ASt.pushN, ASt.push, List.append_assoc, List.cons_append, List.nil_append]
  refine Run.drawA fun K hK => ?_
  refine DOps.sim ?_
  refine DOps.call (.im (.sl (strs on))) [((d + 1, j), stm l (a1))] [((d + 1, j), stm l (a2))] rfl rfl rfl rfl (by kernel_rfl) (by simp [Agree, ASt.fr, hset]) (fun u hu => by have := Words_ok outs (by omega) l a1 hs1 (by omega) u (d + 1) j (hu (((d + 1, j), stm l (a1))) (by simp)); rw [hov] at this; exact this) ?_
  refine DOps.sim ?_
  refine DOps.nil (by rfl) (hK _ ?_); clear hK K
  refine End.kp [1, 2, 3, 4, 5, 10, 11, 12] ?_
  refine Run.seq ?_
  refine Run.go ?_
  refine End.kp [1, 2, 3, 4, 5, 10, 11, 12, 13] ?_
  refine Run.seq ?_
  refine Run.go ?_
  refine End.kp [1, 2, 3, 4, 5, 10, 11, 12, 13, 14] ?_
  refine Run.seq ?_
  refine Run.seq ?_
  refine Run.go ?_
  refine End.kp [1, 2, 3, 4, 5, 10, 11, 12, 13, 14, 37, 38] ?_
  refine Run.block ?_
  refine Run.ghost (.thawBox (j := 2) (i := 3) 39 3 (by decide) rfl rfl) ?_
  refine Run.ghost (Ghost.form [(1, .i ins), (2, .i flops), (3, .i gates), (4, .i outs), (5, .ptr 0 0 0), (10, .ptr 0 1 0), (11, .im (.sl (strs wn))), (12, .ptr 0 2 0), (13, .i first), (14, .fn 74 [.ptr 0 0 0]), (37, .i gates), (38, .i (0 : Nat))] 4 ⟨rfl, rfl, rfl, rfl, rfl, rfl, rfl, rfl, rfl, rfl, rfl, rfl, trivial⟩ rfl rfl) ?_
  refine Run.loop (fun m s => ∃ (i : Nat) (done : List LGate) (b : Int), m = gates - i ∧ i ≤ gates ∧ done.length = i ∧ (gatesV l first (gates - i) i b).2 = a3 ∧ done ++ (gatesV l first (gates - i) i b).1 = gs ∧ a2 ≤ b ∧ b ≤ a2 + 16 * i ∧
    s = ⟨[(1, .i ins), (2, .i flops), (3, .i gates), (4, .i outs), (5, .ptr 0 0 0), (10, .ptr 0 1 0), (11, .im (.sl (strs wn))), (12, .ptr 0 2 0), (13, .i first), (14, .fn 74 [.ptr 0 0 0]), (37, .i gates), (38, .i (i : Nat))], [.box [.ptr (d + 1) j 0], .box [.nils, .nils, .nils, .nils, .nils], .box [.full (strs (wn.take ins)), .im (.sl (strs on)), .nils, .ms 0 3 i, .nils], .row 39 3 (done.map LGate.im) 0], fset up d j (stm l b)⟩) gates ⟨0, [], a2, rfl, by omega, rfl, by rw [Nat.sub_zero, hgv], by rw [Nat.sub_zero, hgv]; rfl, by omega, by omega, rfl⟩ fun m s hI => ?_
  obtain ⟨i, done, b, rfl, hi, hdl, hw2, hw1, hb0, hb1, rfl⟩ := hI
  have hsl : (done.map LGate.im).length = i := by rw [gim_len, hdl]
  have hs0 : StmOk l b := ⟨hs.vals, hs.len, by omega, by omega⟩
  have hkn := (gateN_le l b).1
  have hgn : picks.getD (nextV l b (picks.length : Nat)).toNat 0 = (gateN l b : Int) := (gateN_le l b).2
  have wi : IntKind.i64.wrap ((i : Int) + 1) = ((i + 1 : Nat) : Int) := by rw [wrap64 (by omega)]; omega
  have wfi : IntKind.i64.wrap (first + (i : Int)) = first + (i : Int) := wrap64 (by omega)
  have hap : (i + 1) * 40 ≤ 140737488355328 := by omega
  refine Run.seq ?_
  have fx := And.intro hap (And.intro wfi (And.intro wi (And.intro hsl (And.intro (@Int.toNat_natCast) (And.intro (@Int.natCast_nonneg) (And.intro hfirst.symm (And.intro wf3 (And.intro wf2 (And.intro wf1 (And.intro htake (And.intro hslice (And.intro wif (And.intro hset (And.intro hl ft))))))))))))))
  refine Run.go ?_
  refine End.kp [1, 2, 3, 4, 5, 10, 11, 12, 13, 14, 37, 38, 39] ?_
  refine Run.seq ?_
  refine Run.cond _ rfl (fun hb => ?_) (fun hb => ?_)
  · have hb := of_decide_eq_true hb
    have hin : i < gates := by omega
    refine Run.skip ?_
    refine End.kp [1, 2, 3, 4, 5, 10, 11, 12, 13, 14, 37, 38] ?_
    refine Run.seq ?_
    refine Run.block ?_
    refine Run.seq ?_
    have fx := And.intro hap (And.intro wfi (And.intro wi (And.intro hsl (And.intro (@Int.toNat_natCast) (And.intro (@Int.natCast_nonneg) (And.intro hfirst.symm (And.intro wf3 (And.intro wf2 (And.intro wf1 (And.intro htake (And.intro hslice (And.intro wif (And.intro hset (And.intro hl ft))))))))))))))
    refine Run.go ?_
    refine End.kp [1, 2, 3, 4, 5, 10, 11, 12, 13, 14, 15, 37, 38] ?_
    refine Run.seq ?_
    refine Run.go ?_
    refine End.kp [1, 2, 3, 4, 5, 10, 11, 12, 13, 14, 15, 16, 37, 38] ?_
    refine Run.seq ?_
    refine Run.seq ?_
    refine Run.region rfl fun K hK => GOps.sim ?_
    refine GOps.call rfl rfl rfl rfl (by kernel_rfl) (ACalls.sim ?_)
    refine (Pick_ok picks (by decide) (by decide) l b hs0 (by omega) _ (d + 1) j (hset _)).mono fun v u hv => ?_
    obtain ⟨hv1, rfl⟩ := hv
    rw [hgn] at hv1
    subst hv1
    have fx := And.intro hap (And.intro wfi (And.intro wi (And.intro hsl (And.intro (@Int.toNat_natCast) (And.intro (@Int.natCast_nonneg) (And.intro hfirst.symm (And.intro wf3 (And.intro wf2 (And.intro wf1 (And.intro htake (And.intro hslice (And.intro wif (And.intro hset (And.intro hl ft))))))))))))))
    refine ⟨_, _, rfl, GOps.sim ?_⟩
    refine GOps.done (hK _ ?_); clear hK K
    refine End.kp [1, 2, 3, 4, 5, 10, 11, 12, 13, 14, 15, 16, 37, 38, 44, 45] ?_
    refine Run.block ?_
    refine Run.ghost (Ghost.form [(1, .i ins), (2, .i flops), (3, .i gates), (4, .i outs), (5, .ptr 0 0 0), (10, .ptr 0 1 0), (11, .im (.sl (strs wn))), (12, .ptr 0 2 0), (13, .i first), (14, .fn 74 [.ptr 0 0 0]), (15, .i (i : Nat)), (16, .ptr 0 4 0), (37, .i gates), (38, .i (i : Nat)), (44, .i (gateN l b)), (45, .i (0 : Nat))] 5 ⟨rfl, rfl, rfl, rfl, rfl, rfl, rfl, rfl, rfl, rfl, rfl, rfl, rfl, rfl, rfl, rfl, trivial⟩ rfl rfl) ?_
    refine Run.ghost (.thawBox (j := 4) (i := 2) 3 1 (by decide) rfl rfl) ?_
    obtain ⟨n1, n2, n3⟩ := netsV_all l (first + i) (by omega) (gateN l b) (b + 1)
    generalize hnv : netsV l (first + i) (gateN l b) (b + 1) = NV
    obtain ⟨is, cE⟩ := NV
    rw [hnv] at n1 n2 n3
    simp only at n1 n2 n3
    refine Run.loop (fun m s => ∃ (q : Nat) (dn : List Int) (c : Int), m = gateN l b - q ∧ q ≤ gateN l b ∧ dn.length = q ∧ c = b + 1 + 2 * q ∧ (netsV l (first + i) (gateN l b - q) c).2 = cE ∧ dn ++ (netsV l (first + i) (gateN l b - q) c).1 = is ∧
      s = ⟨[(1, .i ins), (2, .i flops), (3, .i gates), (4, .i outs), (5, .ptr 0 0 0), (10, .ptr 0 1 0), (11, .im (.sl (strs wn))), (12, .ptr 0 2 0), (13, .i first), (14, .fn 74 [.ptr 0 0 0]), (15, .i (i : Nat)), (16, .ptr 0 4 0), (37, .i gates), (38, .i (i : Nat)), (44, .i (gateN l b)), (45, .i (q : Nat))], [.box [.ptr (d + 1) j 0], .box [.nils, .nils, .nils, .nils, .nils], .box [.full (strs (wn.take ins)), .im (.sl (strs on)), .nils, .ms 0 3 i, .nils], .row 39 3 (done.map LGate.im) 0, .box [.im (.int .i64 (-1)), .im (.int .u64 0), .ms 0 5 q], .row 3 1 (ints dn) 0], fset up d j (stm l c)⟩) (gateN l b) ⟨0, [], b + 1, rfl, by omega, rfl, by omega, by rw [Nat.sub_zero, hnv], by rw [Nat.sub_zero, hnv]; rfl, rfl⟩ fun m s hI => ?_
    obtain ⟨q, dn, c, rfl, hq, hdn, hcq, hx2, hx1, rfl⟩ := hI
    have hql : (ints dn).length = q := by rw [ints_len, hdn]
    have wq : IntKind.i64.wrap ((q : Int) + 1) = ((q + 1 : Nat) : Int) := by rw [wrap64 (by omega)]; omega
    have haq : (q + 1) * 8 ≤ 140737488355328 := by omega
    refine Run.seq ?_
    have fx := And.intro haq (And.intro wq (And.intro hql (And.intro hap (And.intro wfi (And.intro wi (And.intro hsl (And.intro (@Int.toNat_natCast) (And.intro (@Int.natCast_nonneg) (And.intro hfirst.symm (And.intro wf3 (And.intro wf2 (And.intro wf1 (And.intro htake (And.intro hslice (And.intro wif (And.intro hset (And.intro hl ft)))))))))))))))))
    refine Run.go ?_
    refine End.kp [1, 2, 3, 4, 5, 10, 11, 12, 13, 14, 15, 16, 37, 38, 44, 45, 46] ?_
    refine Run.seq ?_
    refine Run.cond _ rfl (fun hb => ?_) (fun hb => ?_)
    · have hb := of_decide_eq_true hb
      have hqn : q < gateN l b := by omega
      refine Run.skip ?_
      refine End.kp [1, 2, 3, 4, 5, 10, 11, 12, 13, 14, 15, 16, 37, 38, 44, 45] ?_
      refine Run.seq ?_
      refine Run.block ?_
      refine Run.ghost (.spares 1) ?_
      simp only [ASt.pushN, ASt.push, List.append_assoc, List.cons_append, List.nil_append]
      have fx := And.intro haq (And.intro wq (And.intro hql (And.intro hap (And.intro wfi (And.intro wi (And.intro hsl (And.intro (@Int.toNat_natCast) (And.intro (@Int.natCast_nonneg) (And.intro hfirst.symm (And.intro wf3 (And.intro wf2 (And.intro wf1 (And.intro htake (And.intro hslice (And.intro wif (And.intro hset (And.intro hl ft)))))))))))))))))
      refine Run.drawA fun K hK => ?_
      refine DOps.sim ?_
      refine DOps.call (.i (netV l (c) (first + i))) [((0, 0), .box [.ptr (d + 1) j 0]), ((d + 1, j), stm l (c))] [((d + 1, j), stm l (c + 1 + 1))] rfl rfl rfl rfl (by kernel_rfl) (by simp [Agree, ASt.fr, hset]) (fun u hu => net_ok (first + i) (by omega) (by omega) 0 l (c) ⟨hs.vals, hs.len, by omega, by omega⟩ (by omega) u d j (hu (((d + 1, j), stm l (c))) (by simp)) (hu (((0, 0), .box [.ptr (d + 1) j 0])) (by simp))) ?_
      refine DOps.sim ?_
      refine DOps.nil (by rfl) (hK _ ?_); clear hK K
      refine End.blk ?_
      refine End.kp [1, 2, 3, 4, 5, 10, 11, 12, 13, 14, 15, 16, 37, 38, 44, 45] ?_
      refine Run.go ?_
      refine End.lp ?_
      have hni : netsV l (first + i) (gateN l b - q) c = (netV l c (first + i) :: (netsV l (first + i) (gateN l b - (q + 1)) (c + 1 + 1)).1, (netsV l (first + i) (gateN l b - (q + 1)) (c + 1 + 1)).2) := by
        rw [show gateN l b - q = (gateN l b - (q + 1)) + 1 by omega]
        rfl
      rw [hni] at hx1 hx2
      refine ⟨gateN l b - (q + 1), _, by omega, Ghost.form [(1, .i ins), (2, .i flops), (3, .i gates), (4, .i outs), (5, .ptr 0 0 0), (10, .ptr 0 1 0), (11, .im (.sl (strs wn))), (12, .ptr 0 2 0), (13, .i first), (14, .fn 74 [.ptr 0 0 0]), (15, .i (i : Nat)), (16, .ptr 0 4 0), (37, .i gates), (38, .i (i : Nat)), (44, .i (gateN l b)), (45, .i (q + 1 : Nat))] 6 ⟨rfl, rfl, rfl, rfl, rfl, rfl, rfl, rfl, rfl, rfl, rfl, rfl, rfl, rfl, rfl, rfl, trivial⟩ rfl rfl, q + 1, dn ++ [netV l c (first + i)], c + 1 + 1, rfl, by omega, by simp [hdn], by omega, hx2, by simpa using hx1, by simp⟩
    · have hb := of_decide_eq_false hb
      have hqe : q = gateN l b := by omega
      rw [hqe] at hql hdn
      subst hqe
      simp only [Nat.sub_self, netsV, List.append_nil] at hx1 hx2
      subst hx1 hx2
      have hng : ¬ ((gateN l b : Int) < 0) := by omega
      have hmn : min (gateN l b) IntKind.i64.bits = gateN l b := by simp only [IntKind.bits]; omega
      have pw : ∀ k : Nat, k ≤ 6 → (2 : Int) ^ k ≤ 64 ∧ (1 : Int) ≤ 2 ^ k := by
        intro k hk
        have : k = 0 ∨ k = 1 ∨ k = 2 ∨ k = 3 ∨ k = 4 ∨ k = 5 ∨ k = 6 := by omega
        rcases this with rfl | rfl | rfl | rfl | rfl | rfl | rfl <;> decide
      obtain ⟨pw1, pw2⟩ := pw _ hkn
      have wpw : IntKind.i64.wrap (1 * 2 ^ gateN l b) = 2 ^ gateN l b := by rw [Int.one_mul]; exact wrap64 (by omega)
      refine Run.exit rfl ?_
      refine End.kp [1, 2, 3, 4, 5, 10, 11, 12, 13, 14, 16, 37, 38] ?_
      refine Run.seq ?_
      have fx := And.intro wpw (And.intro hmn (And.intro hng (And.intro haq (And.intro wq (And.intro hql (And.intro hap (And.intro wfi (And.intro wi (And.intro hsl (And.intro (@Int.toNat_natCast) (And.intro (@Int.natCast_nonneg) (And.intro hfirst.symm (And.intro wf3 (And.intro wf2 (And.intro wf1 (And.intro htake (And.intro hslice (And.intro wif (And.intro hset (And.intro hl ft))))))))))))))))))))
      refine Run.drawA fun K hK => ?_
      refine DOps.sim ?_
      refine DOps.call (.u (wordV l c)) [((d + 1, j), stm l (c))] [((d + 1, j), stm l (c + 1 + 1 + 1))] rfl rfl rfl rfl (by kernel_rfl) (by simp [Agree, ASt.fr, hset]) (fun u hu => word_ok l c ⟨hs.vals, hs.len, by omega, by omega⟩ (by omega) u (d + 1) j (hu (((d + 1, j), stm l (c))) (by simp))) ?_
      refine DOps.sim ?_
      refine DOps.call (.u (2 ^ ((2 : Int) ^ gateN l b).toNat - 1)) [] [] rfl rfl rfl rfl (by kernel_rfl) (by simp [Agree]) (fun u hu => mask_ok ((2 : Int) ^ gateN l b) (by omega) pw1 u) ?_
      refine DOps.sim ?_
      refine DOps.nil (by rfl) (hK _ ?_); clear hK K
      refine End.kp [1, 2, 3, 4, 5, 10, 11, 12, 13, 14, 16, 37, 38] ?_
      refine Run.ghost (.freeze (d := 0) (j := 5) rfl) ?_
      have fx := And.intro wpw (And.intro hmn (And.intro hng (And.intro haq (And.intro wq (And.intro hql (And.intro hap (And.intro wfi (And.intro wi (And.intro hsl (And.intro (@Int.toNat_natCast) (And.intro (@Int.natCast_nonneg) (And.intro hfirst.symm (And.intro wf3 (And.intro wf2 (And.intro wf1 (And.intro htake (And.intro hslice (And.intro wif (And.intro hset (And.intro hl ft))))))))))))))))))))
      refine Run.go ?_
      refine End.blk ?_
      refine End.kp [1, 2, 3, 4, 5, 10, 11, 12, 13, 14, 37, 38] ?_
      refine Run.go ?_
      refine End.lp ?_
      have hgv2 : gateV l b (first + i) = (⟨bits .and .u64 (wordV l c) (2 ^ ((2 : Int) ^ gateN l b).toNat - 1), dn⟩, c + 1 + 1 + 1) := by simp only [gateV, hnv]
      have hgi : gatesV l first (gates - i) i b = ((gateV l b (first + i)).1 :: (gatesV l first (gates - (i + 1)) (i + 1) (gateV l b (first + i)).2).1, (gatesV l first (gates - (i + 1)) (i + 1) (gateV l b (first + i)).2).2) := by
        rw [show gates - i = (gates - (i + 1)) + 1 by omega]
        rfl
      rw [hgi, hgv2] at hw1 hw2
      refine ⟨gates - (i + 1), _, by omega, Ghost.form [(1, .i ins), (2, .i flops), (3, .i gates), (4, .i outs), (5, .ptr 0 0 0), (10, .ptr 0 1 0), (11, .im (.sl (strs wn))), (12, .ptr 0 2 0), (13, .i first), (14, .fn 74 [.ptr 0 0 0]), (37, .i gates), (38, .i (i + 1 : Nat))] 4 ⟨rfl, rfl, rfl, rfl, rfl, rfl, rfl, rfl, rfl, rfl, rfl, rfl, trivial⟩ rfl rfl, i + 1, done ++ [⟨bits .and .u64 (wordV l c) (2 ^ ((2 : Int) ^ gateN l b).toNat - 1), dn⟩], c + 1 + 1 + 1, rfl, by omega, by simp [hdl], hw2, by simpa using hw1, by omega, by omega, by simp⟩
  · have hb := of_decide_eq_false hb
    have hiN : i = gates := by omega
    rw [hiN, Nat.sub_self] at hw1 hw2
    simp only [gatesV, List.append_nil] at hw1 hw2
    subst hw2
    have hw1' := hw1.symm
    subst hw1'
    rw [hiN] at hsl
    
    have hnf : ∀ k : Nat, k < flops → (strs wn)[ins + k]? = some [.str (wn.getD (ins + k) ByteArray.empty)] := fun k hk => by
      have : ins + k < wn.length := by omega
      simp [this]
    have hdr : ∀ k : Nat, k < flops → wn.drop (ins + k) = wn.getD (ins + k) ByteArray.empty :: wn.drop (ins + (k + 1)) := fun k hk => by
      have h : ins + k < wn.length := by omega
      have e : wn.getD (ins + k) ByteArray.empty = wn[ins + k] := by simp [h]
      rw [e]
      exact List.drop_eq_getElem_cons h
    refine Run.exit rfl ?_
    refine End.kp [1, 2, 3, 4, 5, 10, 11, 12, 13, 14] ?_
    refine Run.seq ?_
    refine Run.seq ?_
    have fx := And.intro hsi (And.intro hap (And.intro wfi (And.intro wi (And.intro hsl (And.intro (@Int.toNat_natCast) (And.intro (@Int.natCast_nonneg) (And.intro hfirst.symm (And.intro wf3 (And.intro wf2 (And.intro wf1 (And.intro htake (And.intro hslice (And.intro wif (And.intro hset (And.intro hl ft)))))))))))))))
    refine Run.go ?_
    refine End.kp [1, 3, 4, 5, 10, 11, 12, 13, 14, 74, 75] ?_
    refine Run.block ?_
    refine Run.ghost (.thawBox (j := 2) (i := 2) 78 5 (by decide) rfl rfl) ?_
    refine Run.ghost (Ghost.form [(1, .i ins), (3, .i gates), (4, .i outs), (5, .ptr 0 0 0), (10, .ptr 0 1 0), (11, .im (.sl (strs wn))), (12, .ptr 0 2 0), (13, .i first), (14, .fn 74 [.ptr 0 0 0]), (74, .i flops), (75, .i (0 : Nat))] 5 ⟨rfl, rfl, rfl, rfl, rfl, rfl, rfl, rfl, rfl, rfl, rfl, trivial⟩ rfl rfl) ?_
    refine Run.loop (fun m s => ∃ (k : Nat) (fd : List LFlop) (c : Int), m = flops - k ∧ k ≤ flops ∧ fd.length = k ∧ (flopsV l (first + gates) (wn.drop (ins + k)) c).2 = a4 ∧ fd ++ (flopsV l (first + gates) (wn.drop (ins + k)) c).1 = fs ∧ b ≤ c ∧ c ≤ b + 6 * k ∧
      s = ⟨[(1, .i ins), (3, .i gates), (4, .i outs), (5, .ptr 0 0 0), (10, .ptr 0 1 0), (11, .im (.sl (strs wn))), (12, .ptr 0 2 0), (13, .i first), (14, .fn 74 [.ptr 0 0 0]), (74, .i flops), (75, .i (k : Nat))], [.box [.ptr (d + 1) j 0], .box [.nils, .nils, .nils, .nils, .nils], .box [.full (strs (wn.take ins)), .im (.sl (strs on)), .ms 0 4 k, .ms 0 3 gates, .nils], .row 39 3 (gs.map LGate.im) 0, .row 78 5 (fd.map LFlop.im) 0], fset up d j (stm l c)⟩) flops ⟨0, [], b, rfl, by omega, rfl, by rw [Nat.add_zero, hfv], by rw [Nat.add_zero, hfv]; rfl, by omega, by omega, by rw [hiN]; rfl⟩ fun m s hI => ?_
    obtain ⟨k, fd, c, rfl, hk, hfd, hy2, hy1, hc0, hc1, rfl⟩ := hI
    have hfl : (fd.map LFlop.im).length = k := by rw [fim_len, hfd]
    have wk : IntKind.i64.wrap ((k : Int) + 1) = ((k + 1 : Nat) : Int) := by rw [wrap64 (by omega)]; omega
    have wik : IntKind.i64.wrap ((ins : Int) + k) = ((ins + k : Nat) : Int) := by rw [wrap64 (by omega)]; omega
    have hak : (k + 1) * 48 ≤ 140737488355328 := by omega
    refine Run.seq ?_
    have fx := And.intro wfg (And.intro hak (And.intro wik (And.intro wk (And.intro hfl (And.intro hsi (And.intro hap (And.intro wfi (And.intro wi (And.intro hsl (And.intro (@Int.toNat_natCast) (And.intro (@Int.natCast_nonneg) (And.intro hfirst.symm (And.intro wf3 (And.intro wf2 (And.intro wf1 (And.intro htake (And.intro hslice (And.intro wif (And.intro hset (And.intro hl ft))))))))))))))))))))
    refine Run.go ?_
    refine End.kp [1, 3, 4, 5, 10, 11, 12, 13, 14, 74, 75, 76] ?_
    refine Run.seq ?_
    refine Run.cond _ rfl (fun hb => ?_) (fun hb => ?_)
    · have hb := of_decide_eq_true hb
      have hkf : k < flops := by omega
      have hnk := hnf k hkf
      have hdk := hdr k hkf
      generalize wn.getD (ins + k) ByteArray.empty = nm at hnk hdk
      refine Run.skip ?_
      refine End.kp [1, 3, 4, 5, 10, 11, 12, 13, 14, 74, 75] ?_
      refine Run.seq ?_
      refine Run.block ?_
      refine Run.seq ?_
      have fx := And.intro hnk (And.intro wfg (And.intro hak (And.intro wik (And.intro wk (And.intro hfl (And.intro hsi (And.intro hap (And.intro wfi (And.intro wi (And.intro hsl (And.intro (@Int.toNat_natCast) (And.intro (@Int.natCast_nonneg) (And.intro hfirst.symm (And.intro wf3 (And.intro wf2 (And.intro wf1 (And.intro htake (And.intro hslice (And.intro wif (And.intro hset (And.intro hl ft)))))))))))))))))))))
      refine Run.go ?_
      refine End.kp [1, 3, 4, 5, 10, 11, 12, 13, 14, 17, 74, 75] ?_
      refine Run.seq ?_
      refine Run.ghost (.spares 1) ?_
      simp only [ASt.pushN, ASt.push, List.append_assoc, List.cons_append, List.nil_append]
      refine Run.drawA fun K hK => ?_
      refine DOps.sim ?_
      refine DOps.call (.i (netV l (c) (first + gates))) [((0, 0), .box [.ptr (d + 1) j 0]), ((d + 1, j), stm l (c))] [((d + 1, j), stm l (c + 1 + 1))] rfl rfl rfl rfl (by kernel_rfl) (by simp [Agree, ASt.fr, hset]) (fun u hu => net_ok (first + gates) (by omega) (by omega) 0 l (c) ⟨hs.vals, hs.len, by omega, by omega⟩ (by omega) u d j (hu (((d + 1, j), stm l (c))) (by simp)) (hu (((0, 0), .box [.ptr (d + 1) j 0])) (by simp))) ?_
      refine DOps.sim ?_
      refine DOps.call (.i (nextV l (c + 1 + 1) 2)) [((d + 1, j), stm l (c + 1 + 1))] [((d + 1, j), stm l (c + 1 + 1 + 1))] rfl rfl rfl rfl (by kernel_rfl) (by simp [Agree, ASt.fr, hset]) (fun u hu => Next_ok l (c + 1 + 1) 2 ⟨hs.vals, hs.len, by omega, by omega⟩ (by omega) u (d + 1) j (hu (((d + 1, j), stm l (c + 1 + 1))) (by simp))) ?_
      refine DOps.sim ?_
      refine DOps.nil (by rfl) (hK _ ?_); clear hK K
      refine End.kp [1, 3, 4, 5, 10, 11, 12, 13, 14, 18, 74, 75] ?_
      refine Run.seq ?_
      refine Run.seq ?_
      refine Run.region rfl fun K hK => GOps.sim ?_
      refine GOps.call rfl rfl rfl rfl (by kernel_rfl) (ACalls.sim ?_)
      refine (Next_ok l (c + 1 + 1 + 1) 2 ⟨hs.vals, hs.len, by omega, by omega⟩ (by omega) _ (d + 1) j (hset _)).mono fun v u hv => ?_
      obtain ⟨rfl, rfl⟩ := hv
      refine ⟨_, _, rfl, GOps.sim ?_⟩
      refine GOps.done (hK _ ?_); clear hK K
      refine End.kp [1, 3, 4, 5, 10, 11, 12, 13, 14, 18, 74, 75, 95] ?_
      refine Run.cond _ rfl (fun hb => ?_) (fun hb => ?_)
      · have hb9 : nextV l (c + 1 + 1 + 1) 2 = 0 := eq_of_beq hb
        have fx := And.intro hnk (And.intro wfg (And.intro hak (And.intro wik (And.intro wk (And.intro hfl (And.intro hsi (And.intro hap (And.intro wfi (And.intro wi (And.intro hsl (And.intro (@Int.toNat_natCast) (And.intro (@Int.natCast_nonneg) (And.intro hfirst.symm (And.intro wf3 (And.intro wf2 (And.intro wf1 (And.intro htake (And.intro hslice (And.intro wif (And.intro hset (And.intro hl ft)))))))))))))))))))))
        refine Run.region rfl fun K hK => GOps.sim ?_
        refine GOps.call rfl rfl rfl rfl (by kernel_rfl) (ACalls.sim ?_)
        refine (net_ok (first + gates) (by omega) (by omega) 0 l (c + 1 + 1 + 1 + 1) ⟨hs.vals, hs.len, by omega, by omega⟩ (by omega) _ d j (hset _) rfl).mono fun v u hv => ?_
        obtain ⟨rfl, rfl⟩ := hv
        refine ⟨_, _, rfl, GOps.sim ?_⟩
        refine GOps.done (hK _ ?_); clear hK K
        refine End.kp [1, 3, 4, 5, 10, 11, 12, 13, 14, 18, 74, 75] ?_
        refine Run.go ?_
        refine End.blk ?_
        refine End.kp [1, 3, 4, 5, 10, 11, 12, 13, 14, 74, 75] ?_
        refine Run.go ?_
        refine End.lp ?_
        have hfi : flopV l c (first + gates) nm = (⟨nm, netV l c (first + gates), netV l (c + 1 + 1 + 1 + 1) (first + gates), nextV l (c + 1 + 1) 2 == 0⟩, c + 1 + 1 + 1 + 1 + 1 + 1) := by simp [flopV, hb9]
        rw [hdk, flopsV, hfi] at hy1 hy2
        refine ⟨flops - (k + 1), _, by omega, Ghost.form [(1, .i ins), (3, .i gates), (4, .i outs), (5, .ptr 0 0 0), (10, .ptr 0 1 0), (11, .im (.sl (strs wn))), (12, .ptr 0 2 0), (13, .i first), (14, .fn 74 [.ptr 0 0 0]), (74, .i flops), (75, .i (k + 1 : Nat))] 5 ⟨rfl, rfl, rfl, rfl, rfl, rfl, rfl, rfl, rfl, rfl, rfl, trivial⟩ rfl rfl, k + 1, fd ++ [⟨nm, netV l c (first + gates), netV l (c + 1 + 1 + 1 + 1) (first + gates), nextV l (c + 1 + 1) 2 == 0⟩], c + 1 + 1 + 1 + 1 + 1 + 1, rfl, by omega, by simp [hfd], hy2, by simpa using hy1, by omega, by omega, by simp⟩
      · have hb9 : ¬ nextV l (c + 1 + 1 + 1) 2 = 0 := fun e => by simp [e] at hb
        refine Run.skip ?_
        refine End.kp [1, 3, 4, 5, 10, 11, 12, 13, 14, 18, 74, 75] ?_
        have fx := And.intro hnk (And.intro wfg (And.intro hak (And.intro wik (And.intro wk (And.intro hfl (And.intro hsi (And.intro hap (And.intro wfi (And.intro wi (And.intro hsl (And.intro (@Int.toNat_natCast) (And.intro (@Int.natCast_nonneg) (And.intro hfirst.symm (And.intro wf3 (And.intro wf2 (And.intro wf1 (And.intro htake (And.intro hslice (And.intro wif (And.intro hset (And.intro hl ft)))))))))))))))))))))
        refine Run.go ?_
        refine End.blk ?_
        refine End.kp [1, 3, 4, 5, 10, 11, 12, 13, 14, 74, 75] ?_
        refine Run.go ?_
        refine End.lp ?_
        have hfi : flopV l c (first + gates) nm = (⟨nm, netV l c (first + gates), 1, nextV l (c + 1 + 1) 2 == 0⟩, c + 1 + 1 + 1 + 1) := by simp [flopV, hb9]
        rw [hdk, flopsV, hfi] at hy1 hy2
        refine ⟨flops - (k + 1), _, by omega, Ghost.form [(1, .i ins), (3, .i gates), (4, .i outs), (5, .ptr 0 0 0), (10, .ptr 0 1 0), (11, .im (.sl (strs wn))), (12, .ptr 0 2 0), (13, .i first), (14, .fn 74 [.ptr 0 0 0]), (74, .i flops), (75, .i (k + 1 : Nat))] 5 ⟨rfl, rfl, rfl, rfl, rfl, rfl, rfl, rfl, rfl, rfl, rfl, trivial⟩ rfl rfl, k + 1, fd ++ [⟨nm, netV l c (first + gates), 1, nextV l (c + 1 + 1) 2 == 0⟩], c + 1 + 1 + 1 + 1, rfl, by omega, by simp [hfd], hy2, by simpa using hy1, by omega, by omega, by simp⟩
    · have hb := of_decide_eq_false hb
      have hkF : k = flops := by omega
      rw [hkF, List.drop_eq_nil_of_le (by omega)] at hy1 hy2
      simp only [flopsV, List.append_nil] at hy1 hy2
      subst hy2
      have hy1' := hy1.symm
      subst hy1'
      rw [hkF] at hfl
      refine Run.exit rfl ?_
      refine End.kp [3, 4, 10, 12, 13, 14] ?_
      refine Run.seq ?_
      refine Run.seq ?_
      have fx := And.intro wfg (And.intro hak (And.intro wik (And.intro wk (And.intro hfl (And.intro hsi (And.intro hap (And.intro wfi (And.intro wi (And.intro hsl (And.intro (@Int.toNat_natCast) (And.intro (@Int.natCast_nonneg) (And.intro hfirst.symm (And.intro wf3 (And.intro wf2 (And.intro wf1 (And.intro htake (And.intro hslice (And.intro wif (And.intro hset (And.intro hl ft))))))))))))))))))))
      refine Run.go ?_
      refine End.kp [3, 10, 12, 13, 14, 109, 110] ?_
      refine Run.block ?_
      refine Run.ghost (.thawBox (j := 2) (i := 4) 3 1 (by decide) rfl rfl) ?_
      refine Run.ghost (Ghost.form [(3, .i gates), (10, .ptr 0 1 0), (12, .ptr 0 2 0), (13, .i first), (14, .fn 74 [.ptr 0 0 0]), (109, .i outs), (110, .i (0 : Nat))] 6 ⟨rfl, rfl, rfl, rfl, rfl, rfl, rfl, trivial⟩ rfl rfl) ?_
      refine Run.loop (fun m s => ∃ (q : Nat) (dn : List Int) (e : Int), m = outs - q ∧ q ≤ outs ∧ dn.length = q ∧ e = c + 2 * q ∧ (netsV l (first + gates) (outs - q) e).2 = a5 ∧ dn ++ (netsV l (first + gates) (outs - q) e).1 = qs ∧
        s = ⟨[(3, .i gates), (10, .ptr 0 1 0), (12, .ptr 0 2 0), (13, .i first), (14, .fn 74 [.ptr 0 0 0]), (109, .i outs), (110, .i (q : Nat))], [.box [.ptr (d + 1) j 0], .box [.nils, .nils, .nils, .nils, .nils], .box [.full (strs (wn.take ins)), .im (.sl (strs on)), .ms 0 4 flops, .ms 0 3 gates, .ms 0 5 q], .row 39 3 (gs.map LGate.im) 0, .row 78 5 (fs.map LFlop.im) 0, .row 3 1 (ints dn) 0], fset up d j (stm l e)⟩) outs ⟨0, [], c, rfl, by omega, rfl, by omega, by rw [Nat.sub_zero, hqv], by rw [Nat.sub_zero, hqv]; rfl, by rw [hkF]; rfl⟩ fun m s hI => ?_
      obtain ⟨q, dn, e, rfl, hq, hdn, hcq, hx2, hx1, rfl⟩ := hI
      have hql : (ints dn).length = q := by rw [ints_len, hdn]
      have wq : IntKind.i64.wrap ((q : Int) + 1) = ((q + 1 : Nat) : Int) := by rw [wrap64 (by omega)]; omega
      have haq : (q + 1) * 8 ≤ 140737488355328 := by omega
      refine Run.seq ?_
      have fx := And.intro haq (And.intro wq (And.intro hql (And.intro wfg (And.intro hak (And.intro wik (And.intro wk (And.intro hfl (And.intro hsi (And.intro hap (And.intro wfi (And.intro wi (And.intro hsl (And.intro (@Int.toNat_natCast) (And.intro (@Int.natCast_nonneg) (And.intro hfirst.symm (And.intro wf3 (And.intro wf2 (And.intro wf1 (And.intro htake (And.intro hslice (And.intro wif (And.intro hset (And.intro hl ft)))))))))))))))))))))))
      refine Run.go ?_
      refine End.kp [3, 10, 12, 13, 14, 109, 110, 111] ?_
      refine Run.seq ?_
      refine Run.cond _ rfl (fun hb => ?_) (fun hb => ?_)
      · have hb := of_decide_eq_true hb
        have hqn : q < outs := by omega
        refine Run.skip ?_
        refine End.kp [3, 10, 12, 13, 14, 109, 110] ?_
        refine Run.seq ?_
        refine Run.block ?_
        refine Run.ghost (.spares 1) ?_
        simp only [ASt.pushN, ASt.push, List.append_assoc, List.cons_append, List.nil_append]
        have fx := And.intro haq (And.intro wq (And.intro hql (And.intro wfg (And.intro hak (And.intro wik (And.intro wk (And.intro hfl (And.intro hsi (And.intro hap (And.intro wfi (And.intro wi (And.intro hsl (And.intro (@Int.toNat_natCast) (And.intro (@Int.natCast_nonneg) (And.intro hfirst.symm (And.intro wf3 (And.intro wf2 (And.intro wf1 (And.intro htake (And.intro hslice (And.intro wif (And.intro hset (And.intro hl ft)))))))))))))))))))))))
        refine Run.drawA fun K hK => ?_
        refine DOps.sim ?_
        refine DOps.call (.i (netV l (e) (first + gates))) [((0, 0), .box [.ptr (d + 1) j 0]), ((d + 1, j), stm l (e))] [((d + 1, j), stm l (e + 1 + 1))] rfl rfl rfl rfl (by kernel_rfl) (by simp [Agree, ASt.fr, hset]) (fun u hu => net_ok (first + gates) (by omega) (by omega) 0 l (e) ⟨hs.vals, hs.len, by omega, by omega⟩ (by omega) u d j (hu (((d + 1, j), stm l (e))) (by simp)) (hu (((0, 0), .box [.ptr (d + 1) j 0])) (by simp))) ?_
        refine DOps.sim ?_
        refine DOps.nil (by rfl) (hK _ ?_); clear hK K
        refine End.blk ?_
        refine End.kp [3, 10, 12, 13, 14, 109, 110] ?_
        refine Run.go ?_
        refine End.lp ?_
        have hni : netsV l (first + gates) (outs - q) e = (netV l e (first + gates) :: (netsV l (first + gates) (outs - (q + 1)) (e + 1 + 1)).1, (netsV l (first + gates) (outs - (q + 1)) (e + 1 + 1)).2) := by
          rw [show outs - q = (outs - (q + 1)) + 1 by omega]
          rfl
        rw [hni] at hx1 hx2
        refine ⟨outs - (q + 1), _, by omega, Ghost.form [(3, .i gates), (10, .ptr 0 1 0), (12, .ptr 0 2 0), (13, .i first), (14, .fn 74 [.ptr 0 0 0]), (109, .i outs), (110, .i (q + 1 : Nat))] 6 ⟨rfl, rfl, rfl, rfl, rfl, rfl, rfl, trivial⟩ rfl rfl, q + 1, dn ++ [netV l e (first + gates)], e + 1 + 1, rfl, by omega, by simp [hdn], by omega, hx2, by simpa using hx1, by simp⟩
      · have hb := of_decide_eq_false hb
        have hqe : q = outs := by omega
        rw [hqe, Nat.sub_self] at hx1 hx2
        simp only [netsV, List.append_nil] at hx1 hx2
        subst hx2
        have hx1' := hx1.symm
        subst hx1'
        rw [hqe] at hql
        refine Run.exit rfl ?_
        refine End.kp [10, 12] ?_
        refine Run.seq ?_
        rw [hqe]
        refine Run.ghost (.freeze (d := 0) (j := 3) rfl) ?_
        refine Run.ghost (.freeze (d := 0) (j := 4) rfl) ?_
        refine Run.ghost (.freeze (d := 0) (j := 5) rfl) ?_
        refine Run.ghost (.boxData (j := 2) rfl) ?_
        have fx := And.intro haq (And.intro wq (And.intro hql (And.intro wfg (And.intro hak (And.intro wik (And.intro wk (And.intro hfl (And.intro hsi (And.intro hap (And.intro wfi (And.intro wi (And.intro hsl (And.intro (@Int.toNat_natCast) (And.intro (@Int.natCast_nonneg) (And.intro hfirst.symm (And.intro wf3 (And.intro wf2 (And.intro wf1 (And.intro htake (And.intro hslice (And.intro wif (And.intro hset (And.intro hl ft)))))))))))))))))))))))
        refine Run.go ?_
        refine End.kp [10] ?_
        refine Run.resC hQ ?_
        rw [hN]
        exact ⟨rfl, rfl⟩
end Go.Proofs.YtkmnmokjlpenhaaPi

/- The walks of small functions: ranges, bits, lanes, numbers of nets, masks, clones. -/
set_option linter.unusedVariables false
set_option linter.unusedSimpArgs false
set_option maxRecDepth 100000
namespace Go.Proofs.YtkmnmokjlpenhaaPi

abbrev bools (l : List Bool) : List (List Im) := l.map fun b => [.bool b]
abbrev us (l : List Int) : List (List Im) := l.map fun x => [.int .u64 x]
theorem bools_len (l : List Bool) : (bools l).length = l.length := by simp
theorem us_len (l : List Int) : (us l).length = l.length := by simp
theorem bools_get (l : List Bool) (i : Nat) (h : i < l.length) : (bools l)[i]? = some [.bool (l.getD i false)] := by simp [h]
theorem us_get (l : List Int) (i : Nat) (h : i < l.length) : (us l)[i]? = some [.int .u64 (l.getD i 0)] := by simp [h]
theorem drop_getD {α : Type} (l : List α) (i : Nat) (z : α) (h : i < l.length) : l.drop i = l.getD i z :: l.drop (i + 1) := by
  have e : l.getD i z = l[i] := by simp [h]
  rw [e]
  exact List.drop_eq_getElem_cons h
theorem wsucc {i n : Nat} (h : i < n) (hn : n ≤ 140737488355328) : IntKind.i64.wrap ((i : Int) + 1) = ((i + 1 : Nat) : Int) := by rw [wrap64 (by omega)]; omega
/-- The next place of a row that is being filled. -/
theorem fill_next (done : List (List Im)) (k : Nat) (z y : List Im) : (done ++ List.replicate (k + 1) z).set done.length y = (done ++ [y]) ++ List.replicate k z := by
  rw [List.set_append_right _ _ (Nat.le_refl _)]
  simp [List.replicate_succ]
theorem take_snoc {α : Type} (l : List α) (i : Nat) (z : α) (h : i < l.length) : l.take (i + 1) = l.take i ++ [l.getD i z] := by
  rw [List.take_add_one]
  simp [h]
/-- A row whose first places are filled, one more of them. -/
theorem fill_map {α : Type} (f : α → List Im) (q : List α) (z : List Im) (d : α) (i : Nat) (h : i < q.length) :
    ((q.take i).map f ++ List.replicate (q.length - i) z).set i (f (q.getD i d)) = (q.take (i + 1)).map f ++ List.replicate (q.length - (i + 1)) z := by
  have hA : ((q.take i).map f).length = i := by simp; omega
  have := fill_next ((q.take i).map f) (q.length - (i + 1)) z (f (q.getD i d))
  rw [hA] at this
  rw [show q.length - i = q.length - (i + 1) + 1 by omega, this, take_snoc q i d h]
  simp
theorem fill_len {α : Type} (f : α → List Im) (q : List α) (z : List Im) (i : Nat) (h : i ≤ q.length) : ((q.take i).map f ++ List.replicate (q.length - i) z).length = q.length := by simp; omega
theorem fill_get {α : Type} (f : α → List Im) (q : List α) (z : List Im) (i : Nat) (h : i < q.length) : ((q.take i).map f ++ List.replicate (q.length - i) z)[i]? = some z := by
  have hA : ((q.take i).map f).length = i := by simp; omega
  rw [List.getElem?_append_right (by omega), hA, Nat.sub_self, List.getElem?_replicate, if_pos (by omega)]
theorem fill_all {α : Type} (f : α → List Im) (q : List α) (z : List Im) : (q.take q.length).map f ++ List.replicate (q.length - q.length) z = q.map f := by simp
abbrev b2u (b : Bool) : List Im := [.int .u64 (if b then 1 else 0)]
theorem b2u_map (q : List Bool) : q.map b2u = us (q.map fun b => if b then 1 else 0) := by simp
def valsV (l : List Int) : Nat → Int → List Bool
  | 0, _ => []
  | k + 1, a => (nextV l a 2 == 0) :: valsV l k (a + 1)
theorem valsV_len (l : List Int) : ∀ (k : Nat) (a : Int), (valsV l k a).length = k
  | 0, a => rfl
  | k + 1, a => by simp [valsV, valsV_len l k]
theorem Values_ok (N : Nat) (hN : N ≤ 500) (l : List Int) (a : Int) (hs : StmOk l a) (hf : a + 1000 < 1099511627776) (up : Frs) (d j : Nat) (hl : fget up d j = some (stm l a)) : ACalls Try.prog 31 [.ptr d j 0, .i N] up fun v u => v = .im (.sl (bools (valsV l N a))) ∧ u = fset up d j (stm l (a + N)) := by
  have hset : ∀ o, fget (fset up d j o) d j = some o := fun o => fget_fset_same _ _ _ _ _ hl
  have hp := hs.pos
  refine ACalls.code Try.func31 rfl 17 rfl (by simp) [.tmp 4] rfl fun Q hQ => ?_
  simp only [ups, PV.up, argEnv]
  have ft := And.intro ty_3 (And.intro ty_4 (And.intro ty_23 (And.intro ty_71 trivial)))
  refine Run.seq ?_
  have fx := And.intro hset (And.intro hl ft)
  refine Run.go ?_
  refine End.kp [0, 1] ?_
  refine Run.seq ?_
  refine Run.go ?_
  refine End.kp [0, 1, 5] ?_
  refine Run.seq ?_
  refine Run.seq ?_
  refine Run.go ?_
  refine End.kp [0, 5, 6, 7] ?_
  refine Run.block ?_
  refine Run.ghost (Ghost.thaw (u := 5) 4 1 (by decide) rfl) ?_
  refine Run.ghost (Ghost.form [(0, .ptr (d + 1) j 0), (5, .ms 0 0 (0)), (6, .i N), (7, .i (0 : Nat))] 1 ⟨rfl, rfl, rfl, rfl, trivial⟩ rfl rfl) ?_
  refine Run.loop (fun m s => ∃ (i : Nat) (done : List Bool), m = N - i ∧ i ≤ N ∧ done.length = i ∧ done ++ valsV l (N - i) (a + i) = valsV l N a ∧
    s = ⟨[(0, .ptr (d + 1) j 0), (5, .ms 0 0 (i)), (6, .i N), (7, .i (i : Nat))], [.row 4 1 (bools done) 0], fset up d j (stm l (a + i))⟩) N ⟨0, [], rfl, by omega, rfl, by simp, by rw [show a + ((0 : Nat) : Int) = a by omega, fset_self up d j _ hl]; rfl⟩ fun m s hI => ?_
  obtain ⟨i, done, rfl, hi, hdl, hw1, rfl⟩ := hI
  have hsl : (bools done).length = i := by rw [bools_len, hdl]
  have hs0 : StmOk l (a + i) := ⟨hs.vals, hs.len, by omega, by omega⟩
  have hap : (i + 1) * 1 ≤ 140737488355328 := by omega
  refine Run.seq ?_
  have fx := And.intro hap (And.intro hsl (And.intro hset (And.intro hl ft)))
  refine Run.go ?_
  refine End.kp [0, 5, 6, 7, 8] ?_
  refine Run.seq ?_
  refine Run.cond _ rfl (fun hb => ?_) (fun hb => ?_)
  · have hb := of_decide_eq_true hb
    have hin : i < N := by omega
    have wi := wsucc hin (by omega)
    refine Run.skip ?_
    refine End.kp [0, 5, 6, 7] ?_
    refine Run.seq ?_
    refine Run.block ?_
    have fx := And.intro wi (And.intro hap (And.intro hsl (And.intro hset (And.intro hl ft))))
    refine Run.region rfl fun K hK => GOps.sim ?_
    refine GOps.call rfl rfl rfl rfl (by kernel_rfl) (ACalls.sim ?_)
    refine (Next_ok l (a + i) 2 hs0 (by omega) _ (d + 1) j (hset _)).mono fun v u hv => ?_
    obtain ⟨rfl, rfl⟩ := hv
    refine ⟨_, _, rfl, GOps.sim ?_⟩
    refine GOps.done (hK _ ?_); clear hK K
    refine End.blk ?_
    refine End.kp [0, 5, 6, 7] ?_
    refine Run.go ?_
    refine End.lp ?_
    have hvi : valsV l (N - i) (a + i) = (nextV l (a + i) 2 == 0) :: valsV l (N - (i + 1)) (a + ((i + 1 : Nat) : Int)) := by
      rw [show N - i = (N - (i + 1)) + 1 by omega, show a + ((i + 1 : Nat) : Int) = a + i + 1 by omega]
      rfl
    rw [hvi] at hw1
    refine ⟨N - (i + 1), _, by omega, Ghost.form [(0, .ptr (d + 1) j 0), (5, .ms 0 0 (i + 1)), (6, .i N), (7, .i (i + 1 : Nat))] 1 ⟨rfl, rfl, rfl, rfl, trivial⟩ rfl rfl, i + 1, done ++ [nextV l (a + i) 2 == 0], rfl, by omega, by simp [hdl], by simpa using hw1, ?_⟩
    rw [show a + ((i + 1 : Nat) : Int) = a + i + 1 by omega]
    simp
  · have hb := of_decide_eq_false hb
    have hiN : i = N := by omega
    subst hiN
    simp only [Nat.sub_self, valsV, List.append_nil] at hw1
    refine Run.exit rfl ?_
    refine End.kp [5] ?_
    refine Run.seq ?_
    refine Run.ghost (Ghost.shut (t := 5) (j := 0) rfl rfl hsl) ?_
    simp only [eput, edel]
    have fx := And.intro hap (And.intro hsl (And.intro hset (And.intro hl ft)))
    refine Run.go ?_
    refine End.kp [4] ?_
    refine Run.ret (hQ _ _ ⟨.inr rfl, _, rfl, _, rfl, ?_⟩)
    exact ⟨by rw [hw1], rfl⟩
theorem Lanes_ok (q : List Bool) (hq : q.length ≤ 1000) (up : Frs) : ACalls Try.prog 33 [.im (.sl (bools q))] up fun v u => v = .im (.sl (us (q.map fun b => if b then 1 else 0))) ∧ u = up := by
  have hc : (0 : Int) ≤ q.length := by omega
  have hm1 : ((8 : Nat) : Int) * (q.length : Int) ≤ 281474976710656 := by omega
  have hm2 : (q.length : Int) ≤ 9223372036854775807 := by omega
  refine ACalls.code Try.func33 rfl 22 rfl (by simp) [.tmp 2] rfl fun Q hQ => ?_
  simp only [ups, PV.up, argEnv]
  have ft := And.intro ty_3 (And.intro ty_4 (And.intro ty_37 (And.intro ty_56 (And.intro ty_71 trivial))))
  refine Run.seq ?_
  have fx := And.intro hm2 (And.intro hm1 (And.intro hc (And.intro bools_len ft)))
  refine Run.go ?_
  refine End.kp [0] ?_
  refine Run.seq ?_
  refine Run.go ?_
  refine End.kp [0, 3] ?_
  refine Run.seq ?_
  refine Run.seq ?_
  refine Run.go ?_
  refine End.kp [3, 9, 10, 11] ?_
  refine Run.block ?_
  refine Run.ghost (Ghost.form [(3, .ms 0 0 q.length), (9, .im (.sl (bools q))), (10, .i q.length), (11, .i (0 : Nat))] 1 ⟨rfl, rfl, rfl, rfl, trivial⟩ rfl rfl) ?_
  refine Run.loop (fun m s => ∃ (i : Nat), m = q.length - i ∧ i ≤ q.length ∧
    s = ⟨[(3, .ms 0 0 q.length), (9, .im (.sl (bools q))), (10, .i q.length), (11, .i (i : Nat))], [.row 37 1 ((q.take i).map b2u ++ List.replicate (q.length - i) [.int .u64 0]) 0], up⟩) q.length ⟨0, rfl, by omega, by simp⟩ fun m s hI => ?_
  obtain ⟨i, rfl, hi, rfl⟩ := hI
  have hrl := fill_len b2u q [.int .u64 0] i hi
  refine Run.seq ?_
  have fx := And.intro hrl (And.intro hm2 (And.intro hm1 (And.intro hc (And.intro bools_len ft))))
  refine Run.go ?_
  refine End.kp [3, 9, 10, 11, 12] ?_
  refine Run.seq ?_
  refine Run.cond _ rfl (fun hb => ?_) (fun hb => ?_)
  · have hb := of_decide_eq_true hb
    have hin : i < q.length := by omega
    have wi := wsucc hin (by omega)
    have hg := bools_get q i hin
    have hri := fill_get b2u q [.int .u64 0] i hin
    have hfm := fill_map b2u q [.int .u64 0] false i hin
    refine Run.skip ?_
    refine End.kp [3, 9, 10, 11] ?_
    refine Run.seq ?_
    refine Run.block ?_
    refine Run.seq ?_
    have fx := And.intro hri (And.intro hin (And.intro (@Int.ofNat_lt) (And.intro (@Int.natCast_nonneg) (And.intro hg (And.intro wi (And.intro hrl (And.intro hm2 (And.intro hm1 (And.intro hc (And.intro bools_len ft))))))))))
    refine Run.go ?_
    refine End.kp [3, 4, 5, 9, 10, 11] ?_
    refine Run.seq ?_
    refine Run.go ?_
    refine End.kp [3, 4, 9, 10, 11, 16] ?_
    refine Run.cond _ rfl (fun hb => ?_) (fun hb => ?_)
    · have hb := hb
      have fx := And.intro hri (And.intro hin (And.intro (@Int.ofNat_lt) (And.intro (@Int.natCast_nonneg) (And.intro hg (And.intro wi (And.intro hrl (And.intro hm2 (And.intro hm1 (And.intro hc (And.intro bools_len ft))))))))))
      refine Run.go ?_
      refine End.blk ?_
      refine End.kp [3, 9, 10, 11] ?_
      refine Run.go ?_
      refine End.lp ?_
      refine ⟨q.length - (i + 1), _, by omega, Ghost.form [(3, .ms 0 0 q.length), (9, .im (.sl (bools q))), (10, .i q.length), (11, .i (i + 1 : Nat))] 1 ⟨rfl, rfl, rfl, rfl, trivial⟩ rfl rfl, i + 1, rfl, by omega, ?_⟩
      rw [← hfm, hb]
      rfl
    · have hb := hb
      refine Run.skip ?_
      refine End.blk ?_
      refine End.kp [3, 9, 10, 11] ?_
      have fx := And.intro hri (And.intro hin (And.intro (@Int.ofNat_lt) (And.intro (@Int.natCast_nonneg) (And.intro hg (And.intro wi (And.intro hrl (And.intro hm2 (And.intro hm1 (And.intro hc (And.intro bools_len ft))))))))))
      refine Run.go ?_
      refine End.lp ?_
      refine ⟨q.length - (i + 1), _, by omega, Ghost.form [(3, .ms 0 0 q.length), (9, .im (.sl (bools q))), (10, .i q.length), (11, .i (i + 1 : Nat))] 1 ⟨rfl, rfl, rfl, rfl, trivial⟩ rfl rfl, i + 1, rfl, by omega, ?_⟩
      rw [← hfm, hb]
      have : ((q.take i).map b2u ++ List.replicate (q.length - i) [Im.int .u64 0]).set i (b2u false) = (q.take i).map b2u ++ List.replicate (q.length - i) [Im.int .u64 0] := by
        apply List.ext_getElem?
        intro k
        rw [List.getElem?_set]
        split
        · rename_i e
          subst e
          rw [hri, if_pos (by rw [hrl]; omega)]
          rfl
        · rfl
      rw [this]
      rfl
  · have hb := of_decide_eq_false hb
    have hiN : i = q.length := by omega
    subst hiN
    rw [fill_all, b2u_map] at hrl ⊢
    refine Run.exit rfl ?_
    refine End.kp [3] ?_
    refine Run.seq ?_
    refine Run.ghost (Ghost.shut (t := 3) (j := 0) rfl rfl hrl) ?_
    simp only [eput, edel]
    have fx := And.intro hrl (And.intro hm2 (And.intro hm1 (And.intro hc (And.intro bools_len ft))))
    refine Run.go ?_
    refine End.kp [2] ?_
    refine Run.ret (hQ _ _ ⟨.inr rfl, _, rfl, _, rfl, ?_⟩)
    exact ⟨rfl, rfl⟩
abbrev u2b (w : Int) : List Im := [.bool (bits .and .u64 w 1 == 1)]
theorem u2b_map (q : List Int) : q.map u2b = bools (q.map fun w => bits .and .u64 w 1 == 1) := by simp
theorem Lane_ok (q : List Int) (hq : q.length ≤ 1000) (up : Frs) : ACalls Try.prog 92 [.im (.sl (us q))] up fun v u => v = .im (.sl (bools (q.map fun w => bits .and .u64 w 1 == 1))) ∧ u = up := by
  have hc : (0 : Int) ≤ q.length := by omega
  have hm1 : ((1 : Nat) : Int) * (q.length : Int) ≤ 281474976710656 := by omega
  have hm2 : (q.length : Int) ≤ 9223372036854775807 := by omega
  refine ACalls.code Try.func92 rfl 24 rfl (by simp) [.tmp 2] rfl fun Q hQ => ?_
  simp only [ups, PV.up, argEnv]
  have ft := And.intro ty_3 (And.intro ty_4 (And.intro ty_37 (And.intro ty_56 (And.intro ty_71 trivial))))
  refine Run.seq ?_
  have fx := And.intro hm2 (And.intro hm1 (And.intro hc (And.intro us_len ft)))
  refine Run.go ?_
  refine End.kp [0] ?_
  refine Run.seq ?_
  refine Run.go ?_
  refine End.kp [0, 3] ?_
  refine Run.seq ?_
  refine Run.seq ?_
  refine Run.go ?_
  refine End.kp [3, 9, 10, 11] ?_
  refine Run.block ?_
  refine Run.ghost (Ghost.form [(3, .ms 0 0 q.length), (9, .im (.sl (us q))), (10, .i q.length), (11, .i (0 : Nat))] 1 ⟨rfl, rfl, rfl, rfl, trivial⟩ rfl rfl) ?_
  refine Run.loop (fun m s => ∃ (i : Nat), m = q.length - i ∧ i ≤ q.length ∧
    s = ⟨[(3, .ms 0 0 q.length), (9, .im (.sl (us q))), (10, .i q.length), (11, .i (i : Nat))], [.row 4 1 ((q.take i).map u2b ++ List.replicate (q.length - i) [.bool false]) 0], up⟩) q.length ⟨0, rfl, by omega, by simp⟩ fun m s hI => ?_
  obtain ⟨i, rfl, hi, rfl⟩ := hI
  have hrl := fill_len u2b q [.bool false] i hi
  refine Run.seq ?_
  have fx := And.intro hrl (And.intro hm2 (And.intro hm1 (And.intro hc (And.intro us_len ft))))
  refine Run.go ?_
  refine End.kp [3, 9, 10, 11, 12] ?_
  refine Run.seq ?_
  refine Run.cond _ rfl (fun hb => ?_) (fun hb => ?_)
  · have hb := of_decide_eq_true hb
    have hin : i < q.length := by omega
    have wi := wsucc hin (by omega)
    have hg := us_get q i hin
    have hri := fill_get u2b q [.bool false] i hin
    have hfm := fill_map u2b q [.bool false] 0 i hin
    refine Run.skip ?_
    refine End.kp [3, 9, 10, 11] ?_
    refine Run.seq ?_
    refine Run.block ?_
    refine Run.seq ?_
    have fx := And.intro hri (And.intro hin (And.intro (@Int.ofNat_lt) (And.intro (@Int.natCast_nonneg) (And.intro hg (And.intro wi (And.intro hrl (And.intro hm2 (And.intro hm1 (And.intro hc (And.intro us_len ft))))))))))
    refine Run.go ?_
    refine End.kp [3, 4, 5, 9, 10, 11] ?_
    refine Run.go ?_
    refine End.blk ?_
    refine End.kp [3, 9, 10, 11] ?_
    refine Run.go ?_
    refine End.lp ?_
    refine ⟨q.length - (i + 1), _, by omega, Ghost.form [(3, .ms 0 0 q.length), (9, .im (.sl (us q))), (10, .i q.length), (11, .i (i + 1 : Nat))] 1 ⟨rfl, rfl, rfl, rfl, trivial⟩ rfl rfl, i + 1, rfl, by omega, ?_⟩
    rw [← hfm]
    rfl
  · have hb := of_decide_eq_false hb
    have hiN : i = q.length := by omega
    subst hiN
    rw [fill_all, u2b_map] at hrl ⊢
    refine Run.exit rfl ?_
    refine End.kp [3] ?_
    refine Run.seq ?_
    refine Run.ghost (Ghost.shut (t := 3) (j := 0) rfl rfl hrl) ?_
    simp only [eput, edel]
    have fx := And.intro hrl (And.intro hm2 (And.intro hm1 (And.intro hc (And.intro us_len ft))))
    refine Run.go ?_
    refine End.kp [2] ?_
    refine Run.ret (hQ _ _ ⟨.inr rfl, _, rfl, _, rfl, ?_⟩)
    exact ⟨rfl, rfl⟩
structure NetSmall (n : LNet) : Prop where
  inn : n.inn.length ≤ 100
  out : n.out.length ≤ 100
  flops : n.flops.length ≤ 100
  gates : n.gates.length ≤ 100
  outs : n.outs.length ≤ 100
theorem First_ok (n : LNet) (hn : NetSmall n) (up : Frs) : ACalls Try.prog 82 [n.pv] up fun v u => v = .i (2 + n.inn.length + n.flops.length) ∧ u = up := by
  obtain ⟨z1, z2, z3, z4, z5⟩ := hn
  have w1 : IntKind.i64.wrap (2 + (n.inn.length : Int)) = 2 + (n.inn.length : Int) := wrap64 (by omega)
  have w2 : IntKind.i64.wrap (2 + (n.inn.length : Int) + n.flops.length) = 2 + (n.inn.length : Int) + n.flops.length := wrap64 (by omega)
  refine ACalls.code Try.func82 rfl 11 rfl (by simp) [.tmp 2] rfl fun Q hQ => ?_
  simp only [ups, PV.up, argEnv]
  have ft := And.intro ty_2 (And.intro ty_3 (And.intro ty_9 (And.intro ty_26 (And.intro ty_27 (And.intro ty_30 (And.intro ty_78 trivial))))))
  refine Run.seq ?_
  have fx := And.intro w2 (And.intro w1 (And.intro fim_len (And.intro strs_len ft)))
  refine Run.go ?_
  refine End.kp [1] ?_
  refine Run.seq ?_
  refine Run.go ?_
  refine End.kp [2] ?_
  refine Run.ret (hQ _ _ ⟨.inr rfl, _, rfl, _, rfl, ?_⟩)
  exact ⟨rfl, rfl⟩
theorem Nets_ok (n : LNet) (hn : NetSmall n) (up : Frs) : ACalls Try.prog 19 [n.pv] up fun v u => v = .i (2 + n.inn.length + n.flops.length + n.gates.length) ∧ u = up := by
  have hn2 := hn
  obtain ⟨z1, z2, z3, z4, z5⟩ := hn
  have w1 : IntKind.i64.wrap (2 + (n.inn.length : Int)) = 2 + (n.inn.length : Int) := wrap64 (by omega)
  have w2 : IntKind.i64.wrap (2 + (n.inn.length : Int) + n.flops.length) = 2 + (n.inn.length : Int) + n.flops.length := wrap64 (by omega)
  have w3 : IntKind.i64.wrap (2 + (n.inn.length : Int) + n.flops.length + n.gates.length) = 2 + (n.inn.length : Int) + n.flops.length + n.gates.length := wrap64 (by omega)
  refine ACalls.code Try.func19 rfl 9 rfl (by simp) [.tmp 2] rfl fun Q hQ => ?_
  simp only [ups, PV.up, argEnv]
  have ft := And.intro ty_3 (And.intro ty_28 (And.intro ty_30 (And.intro ty_39 trivial)))
  refine Run.seq ?_
  have fx := And.intro w3 (And.intro gim_len ft)
  refine Run.go ?_
  refine End.kp [1] ?_
  refine Run.seq ?_
  refine Run.drawA fun K hK => ?_
  refine DOps.sim ?_
  refine DOps.call (.i (2 + n.inn.length + n.flops.length)) [] [] rfl rfl rfl rfl (by kernel_rfl) (by simp [Agree]) (fun u hu => First_ok n hn2 u) ?_
  refine DOps.sim ?_
  refine DOps.nil (metAll_quiet rfl) (hK _ ?_); clear hK K
  refine End.kp [2] ?_
  refine Run.ret (hQ _ _ ⟨.inr rfl, _, rfl, _, rfl, ?_⟩)
  exact ⟨rfl, rfl⟩
end Go.Proofs.YtkmnmokjlpenhaaPi

/- The walks of the tables of netlists: Mask, look, Look, nets. -/
set_option linter.unusedVariables false
set_option linter.unusedSimpArgs false
set_option maxRecDepth 100000
namespace Go.Proofs.YtkmnmokjlpenhaaPi

theorem small_pow : ∀ k : Nat, k ≤ 6 → (2 : Int) ^ k ≤ 64 ∧ (1 : Int) ≤ 2 ^ k := by
  intro k hk
  have : k = 0 ∨ k = 1 ∨ k = 2 ∨ k = 3 ∨ k = 4 ∨ k = 5 ∨ k = 6 := by omega
  rcases this with rfl | rfl | rfl | rfl | rfl | rfl | rfl <;> decide
theorem small_pow2 : ∀ k : Nat, k < 6 → IntKind.u64.wrap (1 * 2 ^ ((2 : Int) ^ k).toNat) = 2 ^ ((2 : Int) ^ k).toNat ∧ IntKind.u64.wrap (2 ^ ((2 : Int) ^ k).toNat - 1) = 2 ^ ((2 : Int) ^ k).toNat - 1 := by
  intro k hk
  have : k = 0 ∨ k = 1 ∨ k = 2 ∨ k = 3 ∨ k = 4 ∨ k = 5 := by omega
  rcases this with rfl | rfl | rfl | rfl | rfl | rfl <;> decide
def lookIns (k : Nat) : List Int → Nat → Int → Int
  | [], _, all => all
  | v :: vs, i, all => lookIns k vs (i + 1) (if bits .and .i64 ((k : Int).fdiv (2 ^ min i IntKind.i64.bits)) 1 == 1 then bits .and .u64 all v else bits .andNot .u64 all v)
def lookOut (table : Int) (ins : List Int) : Nat → Nat → Int → Int
  | 0, _, out => out
  | n + 1, k, out => lookOut table ins n (k + 1) (if bits .and .u64 (table.fdiv (2 ^ min k IntKind.u64.bits)) 1 == 0 then out else bits .or .u64 out (lookIns k ins 0 18446744073709551615))
def lookV (table : Int) (ins : List Int) : Int := lookOut table ins (2 ^ ins.length) 0 0
theorem Mask_ok (k : Nat) (hk : k ≤ 6) (up : Frs) : ACalls Try.prog 80 [.i k] up fun v u => v = .u (2 ^ ((2 : Int) ^ k).toNat - 1) ∧ u = up := by
  have d1 : decide ((k : Int) < 0) = false := decide_eq_false (by omega)
  have d2 : decide ((k : Int) > 6) = false := decide_eq_false (by omega)
  have d3 : ¬ ((k : Int) < 0) := by omega
  refine ACalls.code Try.func80 rfl 17 rfl (by simp) [.tmp 2] rfl fun Q hQ => ?_
  simp only [ups, PV.up, argEnv]
  have ft := And.intro ty_3 (And.intro ty_4 (And.intro ty_37 (And.intro ty_188 trivial)))
  refine Run.seq ?_
  have fx := And.intro d2 (And.intro d1 ft)
  refine Run.go ?_
  refine End.kp [0] ?_
  refine Run.seq ?_
  refine Run.block ?_
  refine Run.seq ?_
  refine Run.go ?_
  refine End.kp [0, 3] ?_
  refine Run.cond _ rfl (fun hb => ?_) (fun hb => ?_)
  · have hb := hb
    simp at hb
  · have hb := hb
    refine Run.seq ?_
    have fx := And.intro d2 (And.intro d1 ft)
    refine Run.go ?_
    refine End.kp [0, 10] ?_
    refine Run.cond _ rfl (fun hb => ?_) (fun hb => ?_)
    · have hb : (k : Int) = 6 := eq_of_beq hb
      refine Run.seq ?_
      have fx := And.intro d2 (And.intro d1 ft)
      refine Run.go ?_
      refine End.kp [2] ?_
      refine Run.ret (hQ _ _ ⟨.inr rfl, _, rfl, _, rfl, ?_⟩)
      have : k = 6 := by omega
      subst this
      exact ⟨rfl, rfl⟩
    · have hb : ¬ (k : Int) = 6 := fun e => by simp [e] at hb
      have hk5 : k < 6 := by omega
      obtain ⟨p1, p2⟩ := small_pow k hk
      obtain ⟨w2, w3⟩ := small_pow2 k hk5
      have hm : min k IntKind.u64.bits = k := by simp only [IntKind.bits]; omega
      have hle : ((2 : Int) ^ k).toNat ≤ 64 := by
        generalize (2 : Int) ^ k = z at p1
        omega
      have hm2 : min ((2 : Int) ^ k).toNat IntKind.u64.bits = ((2 : Int) ^ k).toNat := Nat.min_eq_left (by simp only [IntKind.bits]; exact hle)
      have w1 : IntKind.u64.wrap (1 * 2 ^ k) = 2 ^ k := by rw [Int.one_mul]; exact wrapU (by omega)
      have hp0 : ¬ ((2 : Int) ^ k < 0) := by omega
      refine Run.skip ?_
      refine End.blk ?_
      refine End.kp [0] ?_
      refine Run.seq ?_
      have fx := And.intro hp0 (And.intro w3 (And.intro w2 (And.intro w1 (And.intro hm2 (And.intro hm (And.intro d3 (And.intro d2 (And.intro d1 ft))))))))
      refine Run.go ?_
      refine End.kp [2] ?_
      refine Run.ret (hQ _ _ ⟨.inr rfl, _, rfl, _, rfl, ?_⟩)
      exact ⟨rfl, rfl⟩
theorem look_ok (table : Int) (ins : List Int) (hn : ins.length ≤ 6) (up : Frs) : ACalls Try.prog 135 [.u table, .im (.sl (us ins))] up fun v u => v = .u (lookV table ins) ∧ u = up := by
  obtain ⟨p1, p2⟩ := small_pow ins.length hn
  have hcast : ((2 ^ ins.length : Nat) : Int) = (2 : Int) ^ ins.length := Int.natCast_pow 2 ins.length
  have hm : min ins.length IntKind.i64.bits = ins.length := by simp only [IntKind.bits]; omega
  have wsh : IntKind.i64.wrap (1 * 2 ^ ins.length) = ((2 ^ ins.length : Nat) : Int) := by rw [Int.one_mul, hcast]; exact wrap64 (by omega)
  have hn0 : ¬ ((ins.length : Int) < 0) := by omega
  have hN64 : 2 ^ ins.length ≤ 64 := by omega
  refine ACalls.code Try.func135 rfl 45 rfl (by simp) [.tmp 4] rfl fun Q hQ => ?_
  simp only [ups, PV.up, argEnv]
  have ft := And.intro ty_3 (And.intro ty_4 (And.intro ty_37 (And.intro ty_56 trivial)))
  refine Run.seq ?_
  have fx := And.intro (@Int.toNat_natCast) (And.intro hn0 (And.intro wsh (And.intro hm (And.intro us_len ft))))
  refine Run.go ?_
  refine End.kp [0, 1] ?_
  refine Run.seq ?_
  refine Run.go ?_
  refine End.kp [0, 1, 5] ?_
  refine Run.seq ?_
  refine Run.seq ?_
  refine Run.go ?_
  refine End.kp [0, 1, 5, 12, 13] ?_
  refine Run.block ?_
  refine Run.ghost (Ghost.form [(0, .u table), (1, .im (.sl (us ins))), (5, .u 0), (12, .i ((2 ^ ins.length : Nat) : Int)), (13, .i (0 : Nat))] 0 ⟨rfl, rfl, rfl, rfl, rfl, trivial⟩ rfl rfl) ?_
  refine Run.loop (fun m s => ∃ (k : Nat) (out : Int), m = 2 ^ ins.length - k ∧ k ≤ 2 ^ ins.length ∧ lookOut table ins (2 ^ ins.length - k) k out = lookV table ins ∧ s = ⟨[(0, .u table), (1, .im (.sl (us ins))), (5, .u out), (12, .i ((2 ^ ins.length : Nat) : Int)), (13, .i (k : Nat))], [], up⟩) (2 ^ ins.length) ⟨0, 0, by omega, by omega, rfl, rfl⟩ fun m s hI => ?_
  obtain ⟨k, out, rfl, hk, hL, rfl⟩ := hI
  have hk0 : ¬ ((k : Int) < 0) := by omega
  refine Run.seq ?_
  have fx := And.intro hk0 (And.intro (@Int.toNat_natCast) (And.intro hn0 (And.intro wsh (And.intro hm (And.intro us_len ft)))))
  refine Run.go ?_
  refine End.kp [0, 1, 5, 12, 13, 14] ?_
  refine Run.seq ?_
  refine Run.cond _ rfl (fun hb => ?_) (fun hb => ?_)
  · have hb := of_decide_eq_true hb
    have hkN : k < 2 ^ ins.length := by omega
    have wk := wsucc hkN (by omega)
    have hLs : lookOut table ins (2 ^ ins.length - k) k out = lookOut table ins (2 ^ ins.length - (k + 1)) (k + 1) (if bits .and .u64 (table.fdiv (2 ^ min k IntKind.u64.bits)) 1 == 0 then out else bits .or .u64 out (lookIns k ins 0 18446744073709551615)) := by
      rw [show 2 ^ ins.length - k = 2 ^ ins.length - (k + 1) + 1 by omega]
      rfl
    rw [hLs] at hL
    refine Run.skip ?_
    refine End.kp [0, 1, 5, 12, 13] ?_
    refine Run.seq ?_
    refine Run.block ?_
    refine Run.seq ?_
    have fx := And.intro wk (And.intro hk0 (And.intro (@Int.toNat_natCast) (And.intro hn0 (And.intro wsh (And.intro hm (And.intro us_len ft))))))
    refine Run.go ?_
    refine End.kp [0, 1, 5, 6, 12, 13] ?_
    refine Run.seq ?_
    refine Run.seq ?_
    refine Run.go ?_
    refine End.kp [0, 1, 5, 6, 12, 13, 20] ?_
    refine Run.cond _ rfl (fun hb => ?_) (fun hb => ?_)
    · have hb := hb
      rw [if_pos hb] at hL
      refine Run.exit rfl ?_
      refine End.kp [0, 1, 5, 12, 13] ?_
      have fx := And.intro wk (And.intro hk0 (And.intro (@Int.toNat_natCast) (And.intro hn0 (And.intro wsh (And.intro hm (And.intro us_len ft))))))
      refine Run.go ?_
      refine End.lp ?_
      refine ⟨2 ^ ins.length - (k + 1), _, by omega, Ghost.form [(0, .u table), (1, .im (.sl (us ins))), (5, .u out), (12, .i ((2 ^ ins.length : Nat) : Int)), (13, .i (k + 1 : Nat))] 0 ⟨rfl, rfl, rfl, rfl, rfl, trivial⟩ rfl rfl, k + 1, out, rfl, by omega, hL, rfl⟩
    · have hb := hb
      rw [if_neg (by rw [hb]; simp)] at hL
      refine Run.skip ?_
      refine End.kp [0, 1, 5, 6, 12, 13] ?_
      refine Run.seq ?_
      have fx := And.intro wk (And.intro hk0 (And.intro (@Int.toNat_natCast) (And.intro hn0 (And.intro wsh (And.intro hm (And.intro us_len ft))))))
      refine Run.go ?_
      refine End.kp [0, 1, 5, 6, 7, 12, 13] ?_
      refine Run.seq ?_
      refine Run.seq ?_
      refine Run.go ?_
      refine End.kp [0, 1, 5, 6, 7, 12, 13, 21, 22, 23] ?_
      refine Run.block ?_
      refine Run.ghost (Ghost.form [(0, .u table), (1, .im (.sl (us ins))), (5, .u out), (6, .i (k : Nat)), (7, .u 18446744073709551615), (12, .i ((2 ^ ins.length : Nat) : Int)), (13, .i (k : Nat)), (21, .im (.sl (us ins))), (22, .i ins.length), (23, .i (0 : Nat))] 0 ⟨rfl, rfl, rfl, rfl, rfl, rfl, rfl, rfl, rfl, rfl, trivial⟩ rfl rfl) ?_
      refine Run.loop (fun m s => ∃ (i : Nat) (all : Int), m = ins.length - i ∧ i ≤ ins.length ∧ lookIns k (ins.drop i) i all = lookIns k ins 0 18446744073709551615 ∧ s = ⟨[(0, .u table), (1, .im (.sl (us ins))), (5, .u out), (6, .i (k : Nat)), (7, .u all), (12, .i ((2 ^ ins.length : Nat) : Int)), (13, .i (k : Nat)), (21, .im (.sl (us ins))), (22, .i ins.length), (23, .i (i : Nat))], [], up⟩) ins.length ⟨0, _, by omega, by omega, rfl, rfl⟩ fun m s hI => ?_
      obtain ⟨i, all, rfl, hi, hA, rfl⟩ := hI
      have hi0 : ¬ ((i : Int) < 0) := by omega
      refine Run.seq ?_
      have fx := And.intro hi0 (And.intro wk (And.intro hk0 (And.intro (@Int.toNat_natCast) (And.intro hn0 (And.intro wsh (And.intro hm (And.intro us_len ft)))))))
      refine Run.go ?_
      refine End.kp [0, 1, 5, 6, 7, 12, 13, 21, 22, 23, 24] ?_
      refine Run.seq ?_
      refine Run.cond _ rfl (fun hb => ?_) (fun hb => ?_)
      · have hb := of_decide_eq_true hb
        have hin : i < ins.length := by omega
        have wi := wsucc hin (by omega)
        have hg := us_get ins i hin
        rw [drop_getD ins i 0 hin, lookIns] at hA
        generalize ins.getD i 0 = v at hg hA
        refine Run.skip ?_
        refine End.kp [0, 1, 5, 6, 7, 12, 13, 21, 22, 23] ?_
        refine Run.seq ?_
        refine Run.block ?_
        refine Run.seq ?_
        have fx := And.intro (@Int.natCast_nonneg) (And.intro hg (And.intro wi (And.intro hi0 (And.intro wk (And.intro hk0 (And.intro (@Int.toNat_natCast) (And.intro hn0 (And.intro wsh (And.intro hm (And.intro us_len ft))))))))))
        refine Run.go ?_
        refine End.kp [0, 1, 5, 6, 7, 8, 9, 12, 13, 21, 22, 23] ?_
        refine Run.seq ?_
        refine Run.go ?_
        refine End.kp [0, 1, 5, 6, 7, 9, 12, 13, 21, 22, 23, 32] ?_
        refine Run.cond _ rfl (fun hb => ?_) (fun hb => ?_)
        · have hb := hb
          rw [if_pos hb] at hA
          have fx := And.intro (@Int.natCast_nonneg) (And.intro hg (And.intro wi (And.intro hi0 (And.intro wk (And.intro hk0 (And.intro (@Int.toNat_natCast) (And.intro hn0 (And.intro wsh (And.intro hm (And.intro us_len ft))))))))))
          refine Run.go ?_
          refine End.blk ?_
          refine End.kp [0, 1, 5, 6, 7, 12, 13, 21, 22, 23] ?_
          refine Run.go ?_
          refine End.lp ?_
          refine ⟨ins.length - (i + 1), _, by omega, Ghost.form [(0, .u table), (1, .im (.sl (us ins))), (5, .u out), (6, .i (k : Nat)), (7, .u (bits .and .u64 all v)), (12, .i ((2 ^ ins.length : Nat) : Int)), (13, .i (k : Nat)), (21, .im (.sl (us ins))), (22, .i ins.length), (23, .i (i + 1 : Nat))] 0 ⟨rfl, rfl, rfl, rfl, rfl, rfl, rfl, rfl, rfl, rfl, trivial⟩ rfl rfl, i + 1, _, rfl, by omega, hA, rfl⟩
        · have hb := hb
          rw [if_neg (by rw [hb]; simp)] at hA
          have fx := And.intro (@Int.natCast_nonneg) (And.intro hg (And.intro wi (And.intro hi0 (And.intro wk (And.intro hk0 (And.intro (@Int.toNat_natCast) (And.intro hn0 (And.intro wsh (And.intro hm (And.intro us_len ft))))))))))
          refine Run.go ?_
          refine End.blk ?_
          refine End.kp [0, 1, 5, 6, 7, 12, 13, 21, 22, 23] ?_
          refine Run.go ?_
          refine End.lp ?_
          refine ⟨ins.length - (i + 1), _, by omega, Ghost.form [(0, .u table), (1, .im (.sl (us ins))), (5, .u out), (6, .i (k : Nat)), (7, .u (bits .andNot .u64 all v)), (12, .i ((2 ^ ins.length : Nat) : Int)), (13, .i (k : Nat)), (21, .im (.sl (us ins))), (22, .i ins.length), (23, .i (i + 1 : Nat))] 0 ⟨rfl, rfl, rfl, rfl, rfl, rfl, rfl, rfl, rfl, rfl, trivial⟩ rfl rfl, i + 1, _, rfl, by omega, hA, rfl⟩
      · have hb := of_decide_eq_false hb
        have hiN : i = ins.length := by omega
        subst hiN
        rw [List.drop_length, lookIns] at hA
        rw [← hA] at hL
        refine Run.exit rfl ?_
        refine End.kp [0, 1, 5, 7, 12, 13] ?_
        have fx := And.intro hi0 (And.intro wk (And.intro hk0 (And.intro (@Int.toNat_natCast) (And.intro hn0 (And.intro wsh (And.intro hm (And.intro us_len ft)))))))
        refine Run.go ?_
        refine End.blk ?_
        refine End.kp [0, 1, 5, 12, 13] ?_
        refine Run.go ?_
        refine End.lp ?_
        refine ⟨2 ^ ins.length - (k + 1), _, by omega, Ghost.form [(0, .u table), (1, .im (.sl (us ins))), (5, .u (bits .or .u64 out all)), (12, .i ((2 ^ ins.length : Nat) : Int)), (13, .i (k + 1 : Nat))] 0 ⟨rfl, rfl, rfl, rfl, rfl, trivial⟩ rfl rfl, k + 1, _, rfl, by omega, hL, rfl⟩
  · have hb := of_decide_eq_false hb
    have hkN : k = 2 ^ ins.length := by omega
    subst hkN
    rw [Nat.sub_self, lookOut] at hL
    refine Run.exit rfl ?_
    refine End.kp [5] ?_
    refine Run.seq ?_
    have fx := And.intro hk0 (And.intro (@Int.toNat_natCast) (And.intro hn0 (And.intro wsh (And.intro hm (And.intro us_len ft)))))
    refine Run.go ?_
    refine End.kp [4] ?_
    refine Run.ret (hQ _ _ ⟨.inr rfl, _, rfl, _, rfl, ?_⟩)
    exact ⟨by rw [hL], rfl⟩
theorem Look_ok (table : Int) (ins : List Int) (hn : ins.length ≤ 6) (up : Frs) : ACalls Try.prog 81 [.u table, .im (.sl (us ins))] up fun v u => v = .u (lookV table ins) ∧ u = up := by
  refine ACalls.code Try.func81 rfl 11 rfl (by simp) [.tmp 4] rfl fun Q hQ => ?_
  simp only [ups, PV.up, argEnv]
  have ft := And.intro ty_3 (And.intro ty_4 (And.intro ty_37 (And.intro ty_56 trivial)))
  refine Run.seq ?_
  have fx := And.intro us_len ft
  refine Run.go ?_
  refine End.kp [0, 1] ?_
  refine Run.seq ?_
  refine Run.seq ?_
  refine Run.go ?_
  refine End.kp [0, 1, 7] ?_
  refine Run.cond _ rfl (fun hb => ?_) (fun hb => ?_)
  · have hb := of_decide_eq_true hb
    omega
  · have hb := of_decide_eq_false hb
    refine Run.skip ?_
    refine End.kp [0, 1] ?_
    refine Run.seq ?_
    have fx := And.intro us_len ft
    refine Run.region rfl fun K hK => GOps.sim ?_
    refine GOps.call rfl rfl rfl rfl (by kernel_rfl) (ACalls.sim ?_)
    refine (look_ok table ins hn _).mono fun v u hv => ?_
    obtain ⟨rfl, rfl⟩ := hv
    refine ⟨_, _, rfl, GOps.sim ?_⟩
    refine GOps.done (hK _ ?_); clear hK K
    refine End.kp [4] ?_
    refine Run.ret (hQ _ _ ⟨.inr rfl, _, rfl, _, rfl, ?_⟩)
    exact ⟨rfl, rfl⟩
theorem nets_ok (up : Frs) : ACalls Try.prog 18 [] up fun v u => v = .im (.bool true) ∧ u = up := by
  have hM : (2 : Int) ^ ((2 : Int) ^ 1).toNat - 1 = 3 := by decide
  have hL : lookV 8 [12, 10] = 8 := by decide
  refine ACalls.code Try.func18 rfl 8 rfl (by simp) [.tmp 0] rfl fun Q hQ => ?_
  simp only [ups, PV.up, argEnv]
  have ft := And.intro ty_2 (And.intro ty_3 (And.intro ty_4 (And.intro ty_37 (And.intro ty_56 trivial))))
  refine Run.seq ?_
  have fx := And.intro hL (And.intro hM ft)
  refine Run.go ?_
  refine End.kp [] ?_
  refine Run.seq ?_
  refine Run.region rfl fun K hK => GOps.sim ?_
  refine GOps.call rfl rfl rfl rfl (by kernel_rfl) (ACalls.sim ?_)
  refine (Mask_ok 1 (by decide) _).mono fun v u hv => ?_
  obtain ⟨rfl, rfl⟩ := hv
  refine ⟨_, _, rfl, GOps.sim ?_⟩
  refine GOps.call rfl rfl rfl rfl (by kernel_rfl) (ACalls.sim ?_)
  refine (Look_ok 8 [12, 10] (by decide) _).mono fun v u hv => ?_
  obtain ⟨rfl, rfl⟩ := hv
  refine ⟨_, _, rfl, GOps.sim ?_⟩
  refine GOps.done (hK _ ?_); clear hK K
  refine End.kp [0] ?_
  refine Run.ret (hQ _ _ ⟨.inr rfl, _, rfl, _, rfl, ?_⟩)
  exact ⟨rfl, rfl⟩
end Go.Proofs.YtkmnmokjlpenhaaPi

